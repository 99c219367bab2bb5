import Derived.Test.YtmmomohapflagaaViG1
import Derived.Test.YtmmomohapflagaaProg
import Derived.Test.YtmmomohapflagaaVaE
import Derived.KernelRfl
open Go Go.VS
set_option maxRecDepth 8000
set_option maxHeartbeats 4000000
namespace Go.HC
theorem Xp {a0:List Int} {g1:Int→Option Bool} {f1:FuncId} {c1:List AV} {r:(Int)} (h:MR a0 g1=some r) {F:List It} {H:J} (cD: ∀{x0:Int} {r:Bool},g1 x0=some r→ ∀(L:List It) (n:Nat),L.drop n=F→ ∀(H:J),aq H L→ ∀(P:AV→J→Prop),(∀H',aq H' L→P (.bool r) H')→aw C f1 ([.int .i64 x0] ++ c1) H P) (hS:aq H (F)) {P:AV→J→Prop} (hP: ∀H',aq H' (F)→P (.int .i64 r) H'):aw C 281 [.fz (a0.map (AV.int .i64)),.fn f1 c1] H P:=by
 refine Bn gC (res:=[.tmp 4]) (n:=19) rfl rfl rfl rfl fun K0 DQ=> ?_;simp only [W,Nat.reduceSub,Nat.reduceAdd,List.replicate];unfold MR at h;refine AW fun K1 D5=> ?_;refine Bk gC ?_;try simp only [W,Nat.reduceAdd]
 refine A_ D5 ?_;refine AW fun K2 y7=> ?_;refine AW fun K3 FV=> ?_;refine Bk gC ?_;try simp only [W,EE,Nat.reduceAdd]
 refine A_ FV ?_;obtain ⟨PA,PB,Nf⟩:=Option.bind_eq_some_iff.1 h;refine BG gC (fun s H=>PA=LR.next ()∧s=[u,u,u,u,u,u,u,u,u,u,u,u,u,u,u,u,u,u,u]∧aq H (F)) (fun K7 Fq=> ?_) (fun s H hq=> ?_)
 ·refine AX fun K8 GP=> ?_;refine BC gC PB (fun x s H=>s=[.fz (a0.map (AV.int .i64)),.fn f1 c1,u,u,u,u,u,.int .i64 (a0.length:Int),.int .i64 x,u,u,u,u,u,u,u,u,u,u]∧aq H (F)) ⟨rfl,hS⟩ (fun Ed UG s H h Ng hi K9 Gs=> ?_)
  skip
  try dsimp only at hi
  obtain ⟨rfl,hS⟩:=hi;simp only [Pd] at h;refine AW fun Oa Jb=> ?_;refine Bk gC ?_;try simp only [W,EE,Nat.reduceAdd]
  refine A_ Jb ?_;refine AW fun LL Hb=> ?_;refine A8 ?_;simp only [W];refine Bj h (fun hc h=> ?_) (fun hc h=> ?_)
  ·refine AY ?_;refine A_ Hb ?_;refine AW fun Ob H7=> ?_;refine AX fun HI Fu=> ?_;refine AW fun Ip Fj=> ?_;refine Bk gC ?_;try simp only [W,Nat.reduceAdd]
   refine A_ Fj ?_;refine AW fun IM FM=> ?_;refine Bk gC ?_;try simp only [W,EE,Nat.reduceAdd]
   refine Bv rfl rfl rfl (fun _=>rfl) h fun Fp LM h=> ?_;try simp only [W,EE]
   refine BB h fun Dy PC h=> ?_;refine cD PC _ 0 rfl _ hS _ fun H hS=> ?_;try simp only [W]
   refine A_ FM ?_;refine A8 ?_;simp only [W];refine Bj h (fun hc h=> ?_) (fun hc h=> ?_)
   ·refine AW fun KD GS=> ?_;refine Bk gC ?_;try simp only [W,Nat.reduceAdd]
    refine A_ GS ?_;refine AZ ?_;refine Bf Fu ?_;refine Ba H7 ?_;try obtain rfl:=Option.some.inj h
    obtain rfl:=Ng _ rfl;have h:(some (LR.done Ed):Option (LR Unit (Int)))=some (LR.done Ed):=rfl;refine BF Gs ?_;refine Bf GP ?_;try obtain rfl:=Option.some.inj h
    obtain rfl:=Option.some.inj Nf;have h:(some Ed:Option (Int))=some Ed:=rfl;refine BI Fq ?_;refine Ba y7 ?_;refine Bh DQ rfl ?_;try obtain rfl:=Option.some.inj h
    exact hP _ hS
   ·refine AY ?_;refine Bd Fu ?_;refine A_ H7 ?_;refine Bk gC ?_;try simp only [W,EE,Nat.reduceAdd]
    exact BD Gs h ⟨rfl,hS⟩
  ·refine A7 ?_;refine Bb Hb ?_;try obtain rfl:=Option.some.inj h
   obtain rfl:=Ng _ rfl;have h:(some (LR.next ()):Option (LR Unit (Int)))=some (LR.next ()):=rfl
   refine BE Gs ?_;refine Be GP ?_;exact BH Fq ⟨(Option.some.inj h).symm,rfl,hS⟩
 ·obtain ⟨rfl,rfl,hS⟩:=hq;replace h:=Nf;try dsimp only at h
  refine A_ y7 ?_;refine AW fun M8 HJ=> ?_;refine Bk gC ?_;try simp only [W,Nat.reduceAdd]
  refine A_ HJ ?_;refine AZ ?_;refine Bh DQ rfl ?_;try obtain rfl:=Option.some.inj h
  exact hP _ hS
theorem S4 {a0:List Int} {g1:Int→Option Bool} {f1:FuncId} {c1:List AV} {r:(Bool)} (h:Ly a0 g1=some r) {F:List It} {H:J} (cD: ∀{x0:Int} {r:Bool},g1 x0=some r→ ∀(L:List It) (n:Nat),L.drop n=F→ ∀(H:J),aq H L→ ∀(P:AV→J→Prop),(∀H',aq H' L→P (.bool r) H')→aw C f1 ([.int .i64 x0] ++ c1) H P) (hS:aq H (F)) {P:AV→J→Prop} (hP: ∀H',aq H' (F)→P (.bool r) H'):aw C 158 [.fz (a0.map (AV.int .i64)),.fn f1 c1] H P:=by
 refine Bn gC (res:=[.tmp 4]) (n:=9) rfl rfl rfl rfl fun K0 DQ=> ?_;simp only [W,Nat.reduceSub,Nat.reduceAdd,List.replicate];unfold Ly at h;refine AW fun K1 D5=> ?_;refine Bk gC ?_;try simp only [W,Nat.reduceAdd]
 refine A_ D5 ?_;refine AW fun K2 y7=> ?_;refine Bk gC ?_;try simp only [W,Nat.reduceAdd]
 refine BB h fun b3 ky h=> ?_;refine Xp ky cD hS fun H hS=> ?_;try simp only [W,EE]
 refine A_ y7 ?_;refine AZ ?_;refine Bh DQ rfl ?_;try obtain rfl:=Option.some.inj h
 exact hP _ hS
theorem Xq {a0:Int} {r:(Bool)} (h:NY a0=some r) {F:List It} {H:J} (hS:aq H (F)) {P:AV→J→Prop} (hP: ∀H',aq H' (F)→P (.bool r) H'):aw C 280 [.int .i64 a0] H P:=by
 refine Bn gC (res:=[.tmp 2]) (n:=6) rfl rfl rfl rfl fun K0 DQ=> ?_;simp only [W,Nat.reduceSub,Nat.reduceAdd,List.replicate];unfold NY at h;refine AW fun K1 D5=> ?_;refine Bk gC ?_;try simp only [W,Nat.reduceAdd]
 refine A_ D5 ?_;refine AW fun K2 y7=> ?_;refine Bk gC ?_;try simp only [W,Nat.reduceAdd]
 refine BB h fun b3 ky h=> ?_;refine J3 ky hS fun H hS=> ?_;try simp only [W]
 refine A_ y7 ?_;refine AZ ?_;refine Bh DQ rfl ?_;try obtain rfl:=Option.some.inj h
 exact hP _ hS
theorem S5 {a0:List Int} {r:(Bool)} (h:Lz a0=some r) {F:List It} {H:J} (hS:aq H (F)) {P:AV→J→Prop} (hP: ∀H',aq H' (F)→P (.bool r) H'):aw C 156 [.fz (a0.map (AV.int .i64))] H P:=by
 refine Bn gC (res:=[.tmp 2]) (n:=11) rfl rfl rfl rfl fun K0 DQ=> ?_;simp only [W,Nat.reduceSub,Nat.reduceAdd,List.replicate];unfold Lz at h;refine AW fun K1 D5=> ?_;refine Bk gC ?_;try simp only [W,Nat.reduceAdd]
 refine A_ D5 ?_;refine AW fun K2 y7=> ?_;refine Bk gC ?_;try simp only [W,EE,Nat.reduceAdd]
 refine BB h fun b3 ky h=> ?_;refine J3 ky hS fun H hS=> ?_;try simp only [W]
 refine BW h (fun hc h=> ?_) (fun hc h=> ?_)
 ·try simp only [W,hc]
  refine BB h fun Gd Xr h=> ?_;refine S4 Xr (fun h _ n hL _ hS _ hP=>Xq h hS hP) hS fun H hS=> ?_;try simp only [W,reduceIte]
  refine A_ y7 ?_;refine AZ ?_;refine Bh DQ rfl ?_;try obtain rfl:=Option.some.inj h
  exact hP _ hS
 ·try simp only [W,hc]
  refine A_ y7 ?_;refine AZ ?_;refine Bh DQ rfl ?_;try obtain rfl:=Option.some.inj h
  exact hP _ hS
theorem S6 {a0:Int} {r:(Bool)} (h:LA a0=some r) {F:List It} {H:J} (hS:aq H (F)) {P:AV→J→Prop} (hP: ∀H',aq H' (F)→P (.bool r) H'):aw C 160 [.int .i64 a0] H P:=by
 refine Bn gC (res:=[.tmp 2]) (n:=5) rfl rfl rfl rfl fun K0 DQ=> ?_;simp only [W,Nat.reduceSub,Nat.reduceAdd,List.replicate];unfold LA at h;refine AW fun K1 D5=> ?_;refine Bk gC ?_;try simp only [W,Nat.reduceAdd]
 refine A_ D5 ?_;refine AW fun K2 y7=> ?_;refine Bk gC ?_;try simp only [W,Nat.reduceAdd]
 refine BB h fun b3 ky h=> ?_;refine J3 ky hS fun H hS=> ?_;try simp only [W]
 refine A_ y7 ?_;refine AZ ?_;refine Bh DQ rfl ?_;try obtain rfl:=Option.some.inj h
 exact hP _ hS
theorem Xs {a0:Int} {r:(Bool)} (h:NZ a0=some r) {F:List It} {H:J} (hS:aq H (F)) {P:AV→J→Prop} (hP: ∀H',aq H' (F)→P (.bool r) H'):aw C 159 [.int .i64 a0] H P:=by
 refine Bn gC (res:=[.tmp 2]) (n:=6) rfl rfl rfl rfl fun K0 DQ=> ?_;simp only [W,Nat.reduceSub,Nat.reduceAdd,List.replicate];unfold NZ at h;refine AW fun K1 D5=> ?_;refine Bk gC ?_;try simp only [W,Nat.reduceAdd]
 refine A_ D5 ?_;refine AW fun K2 y7=> ?_;refine Bk gC ?_;try simp only [W,Nat.reduceAdd]
 refine BB h fun b3 ky h=> ?_;refine S6 ky hS fun H hS=> ?_;try simp only [W]
 refine A_ y7 ?_;refine AZ ?_;refine Bh DQ rfl ?_;try obtain rfl:=Option.some.inj h
 exact hP _ hS
theorem KT {a0:DJ} {r:(Bool)} (h:HG a0=some r) {F:List It} {H:J} (hS:aq H (F)) {P:AV→J→Prop} (hP: ∀H',aq H' (F)→P (.bool r) H'):aw C 23 [.agg [.fz (a0.Ds.map (AV.int .i64)),.fz (a0.Dq.map (zE (AV.int .i64))),.fz (a0.Dw.map (AV.int .i64)),.fz (a0.Dx.map (AV.int .i64)),.int .i64 a0.Dr]] H P:=by
 refine Bn gC (res:=[.tmp 2]) (n:=87) rfl rfl rfl rfl fun K0 DQ=> ?_;simp only [W,Nat.reduceSub,Nat.reduceAdd,List.replicate];unfold HG at h;refine AW fun K1 D5=> ?_;refine Bk gC ?_;try simp only [W,Nat.reduceAdd]
 refine Br hS rfl rfl rfl rfl fun Dz DA H hS=> ?_;try simp only [W]
 refine A_ D5 ?_;refine AW fun K4 Ez=> ?_;refine Bk gC ?_;try simp only [W,EE,Nat.reduceAdd,Nat.reduceBEq,hS.var 0 rfl]
 refine A_ Ez ?_;refine AW fun K5 FA=> ?_;refine AW fun K6 Fk=> ?_;obtain ⟨Hn,h,Nh⟩:=Option.bind_eq_some_iff.1 h;refine BG gC (fun s H=> ∃Er:Bool,Hn=(Er)∧s=(u:: .ptr Dz DA 0 0::u::u::u::u::u::u::u::u::u::u::u::u::u::u::u::u::u::u::u::u::u::u::u::u::u::u::u::u::u::u::u::u::u::u::u::u::u::u::u:: .bool Er::u::u::u::u::u::u::u::u::u::u::u::u::u::u::u::u::u::u::u::u::u::u::u::u::u::u::u::u::u::u::u::u::u::u::u::u::u::u::u::u::u::u::u::u::u::[])∧aq H (⟨.ptr Dz DA 0 0,5,[.agg [.fz (a0.Ds.map (AV.int .i64)),.fz (a0.Dq.map (zE (AV.int .i64))),.fz (a0.Dw.map (AV.int .i64)),.fz (a0.Dx.map (AV.int .i64)),.int .i64 a0.Dr]]⟩::F)) (fun Jc Fi=> ?_) (fun s H hq=> ?_)
 ·refine AW fun IL EC=> ?_;refine Bk gC ?_;try simp only [W,EE,Nat.reduceAdd,Nat.reduceBEq,hS.var 0 rfl]
  refine BB h fun FG Ho h=> ?_;refine S5 Ho hS fun H hS=> ?_;try simp only [W]
  refine BW h (fun hc h=> ?_) (fun hc h=> ?_)
  ·try simp only [W,hc]
   refine A_ EC ?_;refine C4 (s' :=(u:: .ptr Dz DA 0 0::u::u::u::u::u::u::u::u::u::u::u::u::u::u::u::u::u::u::u::u::u::u::u::u::u::u::u::u::u::u::u::u::u::u::u::u::u::u::u:: .bool true::u::u::u::u::u::u::u::u::u::u::u::u::u::u::u::u::u::u::u::u::u::u::u::u::u::u::u::u::u::u::u::u::u::u::u::u::u::u::u::u::u::u::u::u::u::[])) rfl ?_
   exact BH Fi ⟨_,(Option.some.inj h).symm,rfl,hS⟩
  ·try simp only [W,EE,reduceIte,Nat.reduceAdd,Nat.reduceBEq,Bool.false_eq_true,hS.var 0 rfl,hc]
   refine BW h (fun hc h=> ?_) (fun hc h=> ?_)
   ·try simp only [W,hc]
    refine A_ EC ?_;refine C4 (s' :=(u:: .ptr Dz DA 0 0::u::u::u::u::u::u::u::u::u::u::u::u::u::u::u::u::u::u::u::u::u::u::u::u::u::u::u::u::u::u::u::u::u::u::u::u::u::u::u:: .bool true::u::u::u::u::u::u::u::u::u::u::u::u::u::u::u::u::u::u::u::u::u::u::u::u::u::u::u::u::u::u::u::u::u::u::u::u::u::u::u::u::u::u::u::u::u::[])) rfl ?_
    exact BH Fi ⟨_,(Option.some.inj h).symm,rfl,hS⟩
   ·try simp only [W,EE,reduceIte,Nat.reduceAdd,Nat.reduceBEq,Bool.false_eq_true,hS.var 0 rfl,hc]
    refine BW h (fun hc h=> ?_) (fun hc h=> ?_)
    ·try simp only [W,hc]
     refine A_ EC ?_;refine C4 (s' :=(u:: .ptr Dz DA 0 0::u::u::u::u::u::u::u::u::u::u::u::u::u::u::u::u::u::u::u::u::u::u::u::u::u::u::u::u::u::u::u::u::u::u::u::u::u::u::u:: .bool true::u::u::u::u::u::u::u::u::u::u::u::u::u::u::u::u::u::u::u::u::u::u::u::u::u::u::u::u::u::u::u::u::u::u::u::u::u::u::u::u::u::u::u::u::u::[])) rfl ?_
     exact BH Fi ⟨_,(Option.some.inj h).symm,rfl,hS⟩
    ·try simp only [W,EE,reduceIte,Nat.reduceAdd,Nat.reduceBEq,Bool.false_eq_true,hS.var 0 rfl,hc]
     refine BW h (fun hc h=> ?_) (fun hc h=> ?_)
     ·try simp only [W,hc]
      refine A_ EC ?_;refine C4 (s' :=(u:: .ptr Dz DA 0 0::u::u::u::u::u::u::u::u::u::u::u::u::u::u::u::u::u::u::u::u::u::u::u::u::u::u::u::u::u::u::u::u::u::u::u::u::u::u::u:: .bool true::u::u::u::u::u::u::u::u::u::u::u::u::u::u::u::u::u::u::u::u::u::u::u::u::u::u::u::u::u::u::u::u::u::u::u::u::u::u::u::u::u::u::u::u::u::[])) rfl ?_
      exact BH Fi ⟨_,(Option.some.inj h).symm,rfl,hS⟩
     ·try simp only [W,EE,Nat.reduceAdd,Nat.reduceBEq,hS.var 0 rfl,hc]
      refine BB h fun GJ IQ h=> ?_;refine J3 IQ hS fun H hS=> ?_;try simp only [W,reduceIte,Bool.false_eq_true]
      refine A_ EC ?_;refine C4 (s' :=(u:: .ptr Dz DA 0 0::u::u::u::u::u::u::u::u::u::u::u::u::u::u::u::u::u::u::u::u::u::u::u::u::u::u::u::u::u::u::u::u::u::u::u::u::u::u::u:: .bool (!GJ)::u::u::u::u::u::u::u::u::u::u::u::u::u::u::u::u::u::u::u::u::u::u::u::u::u::u::u::u::u::u::u::u::u::u::u::u::u::u::u::u::u::u::u::u::u::[])) rfl ?_
      exact BH Fi ⟨_,(Option.some.inj h).symm,rfl,hS⟩
 ·obtain ⟨Er,En,rfl,hS⟩:=hq;obtain rfl:=En.symm;replace h:=Nh;try dsimp only at h
  refine A_ Fk ?_;refine A8 ?_;simp only [W];refine Bj h (fun hc h=> ?_) (fun hc h=> ?_)
  ·refine AW fun LL Hb=> ?_;refine Bk gC ?_;try simp only [W,Nat.reduceAdd]
   refine A_ Hb ?_;refine AZ ?_;refine Ba FA ?_;refine Bh DQ rfl ?_;try obtain rfl:=Option.some.inj h
   exact hP _ (hS.BT 1 [] (by decide))
  ·refine AY ?_;refine A_ FA ?_;refine AW fun Ob H7=> ?_;refine AW fun HI Fu=> ?_;refine Bk gC ?_;try simp only [W,EE,Nat.reduceAdd,Nat.reduceBEq,hS.var 0 rfl]
   refine A_ Fu ?_;obtain ⟨PZ,Xt,QH⟩:=Option.bind_eq_some_iff.1 h;refine BG gC (fun s H=>PZ=LR.next ()∧s=(u::u::u::u::u::u::u::u::u::u::u::u::u::u::u::u::u::u::u::u::u::u::u::u::u::u::u::u::u::u::u::u::u::u::u::u::u::u::u::u::u::u::u::u::u::u::u::u::u::u::u::u::u::u::u::u::u::u::u::u::u::u::u::u::u::u::u::u::u::u::u::u::u::u::u::u::u::u::u::u::u::u::u::u::u::u::u::[])∧aq H (F)) (fun KE GU=> ?_) (fun s H hq=> ?_)
   ·refine AX fun KD GS=> ?_;refine BC gC Xt (fun x s H=>s=(u:: .ptr Dz DA 0 0::u::u::u::u::u::u::u::u::u::u::u::u::u::u::u::u::u::u::u::u::u::u::u::u::u::u::u::u::u::u::u::u::u::u::u::u::u::u::u::u::u:: .fz (a0.Dq.map (zE (AV.int .i64))):: .int .i64 (a0.Dq.length:Int):: .int .i64 x::u::u::u::u::u::u::u::u::u::u::u::u::u::u::u::u::u::u::u::u::u::u::u::u::u::u::u::u::u::u::u::u::u::u::u::u::u::u::u::u::u::[])∧aq H (⟨.ptr Dz DA 0 0,5,[.agg [.fz (a0.Ds.map (AV.int .i64)),.fz (a0.Dq.map (zE (AV.int .i64))),.fz (a0.Dw.map (AV.int .i64)),.fz (a0.Dx.map (AV.int .i64)),.int .i64 a0.Dr]]⟩::F)) ⟨rfl,hS⟩ (fun Fy y24 s H h QI hi JU Gg=> ?_)
    skip
    try dsimp only at hi
    obtain ⟨rfl,hS⟩:=hi;simp only [MS] at h;refine AW fun Xu QJ=> ?_;refine Bk gC ?_;try simp only [W,EE,Nat.reduceAdd]
    refine A_ QJ ?_;refine AW fun QK J4=> ?_;refine A8 ?_;simp only [W];refine Bj h (fun hc h=> ?_) (fun hc h=> ?_)
    ·refine AY ?_;refine A_ J4 ?_;refine AW fun M8 HJ=> ?_;refine AX fun M9 HK=> ?_;refine AW fun M_ H8=> ?_;refine Bk gC ?_;try simp only [W,EE,Nat.reduceAdd]
     refine Bv rfl rfl rfl (fun _=>rfl) h fun G5 aea h=> ?_;try simp only [W,EE,EN]
     refine A_ H8 ?_;refine AW fun R7 KH=> ?_;refine AW fun Om Jv=> ?_;obtain ⟨Xv,h,Xw⟩:=Option.bind_eq_some_iff.1 h;refine BG gC (fun s H=> ∃Eo:Bool,Xv=(Eo)∧s=(u:: .ptr Dz DA 0 0::u::u:: .int .i64 Fy:: .fz (G5.map (AV.int .i64))::u::u::u::u::u::u::u::u::u::u::u::u::u::u::u::u::u::u::u::u::u::u::u::u::u::u::u::u::u::u::u::u::u::u::u::u::u:: .fz (a0.Dq.map (zE (AV.int .i64))):: .int .i64 (a0.Dq.length:Int):: .int .i64 Fy::u::u::u::u::u::u::u::u::u::u:: .bool Eo::u::u::u::u::u::u::u::u::u::u::u::u::u::u::u::u::u::u::u::u::u::u::u::u::u::u::u::u::u::u::[])∧aq H (⟨.ptr Dz DA 0 0,5,[.agg [.fz (a0.Ds.map (AV.int .i64)),.fz (a0.Dq.map (zE (AV.int .i64))),.fz (a0.Dw.map (AV.int .i64)),.fz (a0.Dx.map (AV.int .i64)),.int .i64 a0.Dr]]⟩::F)) (fun Xx OS=> ?_) (fun s H hq=> ?_)
     ·refine AW fun Xy OT=> ?_;refine Bk gC ?_;try simp only [W,EE,Nat.reduceAdd]
      refine BW h (fun hc h=> ?_) (fun hc h=> ?_)
      ·try simp only [W,hc]
       refine A_ OT ?_;refine C4 (s' :=(u:: .ptr Dz DA 0 0::u::u:: .int .i64 Fy:: .fz (G5.map (AV.int .i64))::u::u::u::u::u::u::u::u::u::u::u::u::u::u::u::u::u::u::u::u::u::u::u::u::u::u::u::u::u::u::u::u::u::u::u::u::u:: .fz (a0.Dq.map (zE (AV.int .i64))):: .int .i64 (a0.Dq.length:Int):: .int .i64 Fy::u::u::u::u::u::u::u::u::u::u:: .bool true::u::u::u::u::u::u::u::u::u::u::u::u::u::u::u::u::u::u::u::u::u::u::u::u::u::u::u::u::u::u::[])) rfl ?_
       exact BH OS ⟨_,(Option.some.inj h).symm,rfl,hS⟩
      ·try simp only [W,hc]
       refine BB h fun Pe Xz h=> ?_;refine S4 Xz (fun h _ n hL _ hS _ hP=>Xs h hS hP) hS fun H hS=> ?_;try simp only [W,reduceIte,Bool.false_eq_true]
       refine A_ OT ?_;refine C4 (s' :=(u:: .ptr Dz DA 0 0::u::u:: .int .i64 Fy:: .fz (G5.map (AV.int .i64))::u::u::u::u::u::u::u::u::u::u::u::u::u::u::u::u::u::u::u::u::u::u::u::u::u::u::u::u::u::u::u::u::u::u::u::u::u:: .fz (a0.Dq.map (zE (AV.int .i64))):: .int .i64 (a0.Dq.length:Int):: .int .i64 Fy::u::u::u::u::u::u::u::u::u::u:: .bool Pe::u::u::u::u::u::u::u::u::u::u::u::u::u::u::u::u::u::u::u::u::u::u::u::u::u::u::u::u::u::u::[])) rfl ?_
       exact BH OS ⟨_,(Option.some.inj h).symm,rfl,hS⟩
     ·obtain ⟨Eo,En,rfl,hS⟩:=hq;obtain rfl:=En.symm;replace h:=Xw;try dsimp only at h
      refine A_ Jv ?_;refine A8 ?_;simp only [W];refine Bj h (fun hc h=> ?_) (fun hc h=> ?_)
      ·refine AW fun PJ Is=> ?_;refine Bk gC ?_;try simp only [W,Nat.reduceAdd]
       refine A_ Is ?_;refine AZ ?_;refine Ba KH ?_;refine Bf HK ?_;refine Ba HJ ?_;try obtain rfl:=Option.some.inj h
       obtain rfl:=QI _ rfl;have h:(some (LR.done false):Option (LR Unit (Bool)))=some (LR.done false):=rfl;refine BF Gg ?_;refine Bf GS ?_;try obtain rfl:=Option.some.inj h
       obtain rfl:=Option.some.inj QH;have h:(some false:Option (Bool))=some false:=rfl;refine BI GU ?_;refine Ba H7 ?_;refine Bh DQ rfl ?_;try obtain rfl:=Option.some.inj h
       exact hP _ (hS.BT 1 [] (by decide))
      ·refine AY ?_;refine A_ KH ?_;refine AW fun Sd Nu=> ?_;obtain ⟨XA,h,XB⟩:=Option.bind_eq_some_iff.1 h;refine BG gC (fun s H=> ∃GK:Bool,XA=(GK)∧s=(u:: .ptr Dz DA 0 0::u::u::u::u::u::u::u::u::u::u::u::u::u::u::u::u::u::u::u::u::u::u::u::u::u::u::u::u::u::u::u::u::u::u::u::u::u::u::u::u::u:: .fz (a0.Dq.map (zE (AV.int .i64))):: .int .i64 (a0.Dq.length:Int):: .int .i64 Fy::u::u::u::u::u::u::u::u::u::u::u::u::u::u::u::u::u::u::u::u::u::u::u::u::u::u::u::u::u::u::u::u::u::u::u::u::u::u::u:: .bool GK::u::[])∧aq H (⟨.ptr Dz DA 0 0,5,[.agg [.fz (a0.Ds.map (AV.int .i64)),.fz (a0.Dq.map (zE (AV.int .i64))),.fz (a0.Dw.map (AV.int .i64)),.fz (a0.Dx.map (AV.int .i64)),.int .i64 a0.Dr]]⟩::F)) (fun XC LZ=> ?_) (fun s H hq=> ?_)
       ·refine AW fun On HM=> ?_;refine Bk gC ?_;try simp only [W,EE,Nat.reduceAdd,Nat.reduceBEq,hS.var 0 rfl]
        refine Bv rfl rfl rfl (fun _=>rfl) h fun HF Sx h=> ?_;try simp only [W,EE]
        refine BB h fun E8 XD h=> ?_;refine J3 XD hS fun H hS=> ?_;try simp only [W]
        refine BW h (fun hc h=> ?_) (fun hc h=> ?_)
        ·try simp only [W,hc]
         refine A_ HM ?_;refine C4 (s' :=(u:: .ptr Dz DA 0 0::u::u::u::u::u::u::u::u::u::u::u::u::u::u::u::u::u::u::u::u::u::u::u::u::u::u::u::u::u::u::u::u::u::u::u::u::u::u::u::u::u:: .fz (a0.Dq.map (zE (AV.int .i64))):: .int .i64 (a0.Dq.length:Int):: .int .i64 Fy::u::u::u::u::u::u::u::u::u::u::u::u::u::u::u::u::u::u::u::u::u::u::u::u::u::u::u::u::u::u::u::u::u::u::u::u::u::u::u:: .bool true::u::[])) rfl ?_
         exact BH LZ ⟨_,(Option.some.inj h).symm,rfl,hS⟩
        ·try simp only [W,EE,hc]
         refine BW h (fun hc h=> ?_) (fun hc h=> ?_)
         ·try simp only [W,EE,Nat.reduceAdd,Nat.reduceBEq,hS.var 0 rfl,hc]
          refine Bv rfl rfl rfl (fun _=>rfl) h fun Pf aeb h=> ?_;try simp only [W,EE,reduceIte,Bool.false_eq_true]
          refine BW h (fun hc h=> ?_) (fun hc h=> ?_)
          ·try simp only [W,hc]
           refine A_ HM ?_;refine C4 (s' :=(u:: .ptr Dz DA 0 0::u::u::u::u::u::u::u::u::u::u::u::u::u::u::u::u::u::u::u::u::u::u::u::u::u::u::u::u::u::u::u::u::u::u::u::u::u::u::u::u::u:: .fz (a0.Dq.map (zE (AV.int .i64))):: .int .i64 (a0.Dq.length:Int):: .int .i64 Fy::u::u::u::u::u::u::u::u::u::u::u::u::u::u::u::u::u::u::u::u::u::u::u::u::u::u::u::u::u::u::u::u::u::u::u::u::u::u::u:: .bool true::u::[])) rfl ?_
           exact BH LZ ⟨_,(Option.some.inj h).symm,rfl,hS⟩
          ·try simp only [W,EE,Nat.reduceAdd,Nat.reduceBEq,hS.var 0 rfl,hc]
           refine Bv rfl rfl rfl (fun _=>rfl) h fun Fh Sr h=> ?_;try simp only [W,EE]
           refine BB h fun Pg XE h=> ?_;refine J3 XE hS fun H hS=> ?_;try simp only [W,reduceIte,Bool.false_eq_true]
           refine A_ HM ?_;refine C4 (s' :=(u:: .ptr Dz DA 0 0::u::u::u::u::u::u::u::u::u::u::u::u::u::u::u::u::u::u::u::u::u::u::u::u::u::u::u::u::u::u::u::u::u::u::u::u::u::u::u::u::u:: .fz (a0.Dq.map (zE (AV.int .i64))):: .int .i64 (a0.Dq.length:Int):: .int .i64 Fy::u::u::u::u::u::u::u::u::u::u::u::u::u::u::u::u::u::u::u::u::u::u::u::u::u::u::u::u::u::u::u::u::u::u::u::u::u::u::u:: .bool (!Pg)::u::[])) rfl ?_
           exact BH LZ ⟨_,(Option.some.inj h).symm,rfl,hS⟩
         ·try simp only [W,EE,reduceIte,Nat.reduceAdd,Nat.reduceBEq,Bool.false_eq_true,hS.var 0 rfl,hc]
          refine Bv rfl rfl rfl (fun _=>rfl) h fun Rx aec h=> ?_;try simp only [W,EE]
          refine BB h fun MT Py h=> ?_;refine J3 Py hS fun H hS=> ?_;try simp only [W,reduceIte,Bool.false_eq_true]
          refine A_ HM ?_;refine C4 (s' :=(u:: .ptr Dz DA 0 0::u::u::u::u::u::u::u::u::u::u::u::u::u::u::u::u::u::u::u::u::u::u::u::u::u::u::u::u::u::u::u::u::u::u::u::u::u::u::u::u::u:: .fz (a0.Dq.map (zE (AV.int .i64))):: .int .i64 (a0.Dq.length:Int):: .int .i64 Fy::u::u::u::u::u::u::u::u::u::u::u::u::u::u::u::u::u::u::u::u::u::u::u::u::u::u::u::u::u::u::u::u::u::u::u::u::u::u::u:: .bool (!MT)::u::[])) rfl ?_
          exact BH LZ ⟨_,(Option.some.inj h).symm,rfl,hS⟩
       ·obtain ⟨GK,En,rfl,hS⟩:=hq;obtain rfl:=En.symm;replace h:=XB;try dsimp only at h
        refine A_ Nu ?_;refine A8 ?_;simp only [W];refine Bj h (fun hc h=> ?_) (fun hc h=> ?_)
        ·refine AW fun S7 L3=> ?_;refine Bk gC ?_;try simp only [W,Nat.reduceAdd]
         refine A_ L3 ?_;refine AZ ?_;refine Bf HK ?_;refine Ba HJ ?_;try obtain rfl:=Option.some.inj h
         obtain rfl:=QI _ rfl;have h:(some (LR.done false):Option (LR Unit (Bool)))=some (LR.done false):=rfl;refine BF Gg ?_;refine Bf GS ?_;try obtain rfl:=Option.some.inj h
         obtain rfl:=Option.some.inj QH;have h:(some false:Option (Bool))=some false:=rfl;refine BI GU ?_;refine Ba H7 ?_;refine Bh DQ rfl ?_;try obtain rfl:=Option.some.inj h
         exact hP _ (hS.BT 1 [] (by decide))
        ·refine AY ?_;refine Bd HK ?_;refine A_ HJ ?_;refine Bk gC ?_;try simp only [W,EE,Nat.reduceAdd]
         exact BD Gg h ⟨rfl,hS⟩
    ·refine A7 ?_;refine Bb J4 ?_;try obtain rfl:=Option.some.inj h
     obtain rfl:=QI _ rfl;have h:(some (LR.next ()):Option (LR Unit (Bool)))=some (LR.next ()):=rfl
     refine BE Gg ?_;refine Be GS ?_;exact BH GU ⟨(Option.some.inj h).symm,rfl,(hS.BT 1 [] (by decide))⟩
   ·obtain ⟨rfl,rfl,hS⟩:=hq;replace h:=QH;try dsimp only at h
    refine A_ H7 ?_;refine AW fun XF QL=> ?_;refine Bk gC ?_;try simp only [W,Nat.reduceAdd]
    refine A_ QL ?_;refine AZ ?_;refine Bh DQ rfl ?_;try obtain rfl:=Option.some.inj h
    exact hP _ hS
theorem Ny {a0:List Int} {r:List Int} (h:JR a0=some r) {F:List It} {H:J} (hS:aq H F) {P:AV→J→Prop} (hP: ∀v0:AV,aJ v0→ ∀H',aq H' (⟨v0,1,r.map (AV.int .i64)⟩::F)→P v0 H'):aw C 166 [.fz (a0.map (AV.int .i64))] H P:=
 Cz (ids:=LK) rfl (sz:=1) (b:=8) (by simp [LK]) (fun _=>rfl) (by decide) h hS hP
theorem S8 {a0:DJ} {r:(DJ)} (h:LB a0=some r) {F:List It} {H:J} (hS:aq H (F)) {P:AV→J→Prop} (hP: ∀Ey:AV,aJ Ey→ ∀Fc:AV,aJ Fc→ ∀d65:List AV,bI d65 (r.Dq).length→ ∀G7:AV,aJ G7→ ∀H9:AV,aJ H9→ ∀H',aq H' (⟨Ey,1,r.Ds.map (AV.int .i64)⟩::⟨Fc,1,bg Dv d65 r.Dq⟩::⟨G7,1,r.Dw.map (AV.int .i64)⟩::⟨H9,1,r.Dx.map (AV.int .i64)⟩::((bG Du (AV.int .i64) 1 d65 r.Dq) ++ F))→P (.agg [Ey,Fc,G7,H9,.int .i64 r.Dr]) H'):aw C 147 [.agg [.fz (a0.Ds.map (AV.int .i64)),.fz (a0.Dq.map (zE (AV.int .i64))),.fz (a0.Dw.map (AV.int .i64)),.fz (a0.Dx.map (AV.int .i64)),.int .i64 a0.Dr]] H P:=by
 refine Bn gC (res:=[.cell 2 26]) (n:=34) rfl rfl rfl rfl fun K0 DQ=> ?_;simp only [W,Nat.reduceSub,Nat.reduceAdd,List.replicate];unfold LB at h;refine AW fun K1 D5=> ?_;refine Bk gC ?_;try simp only [W,Nat.reduceAdd]
 refine Br hS rfl rfl rfl rfl fun Dz DA H hS=> ?_;try simp only [W]
 refine Bs hS rfl rfl fun DL DM H hS=> ?_;try simp only [W]
 refine A_ D5 ?_;refine AW fun K6 Fk=> ?_;refine BY gC [(13,[])] (by kernel_rfl) rfl (by kernel_rfl) ?_
 try simp only [W,EE,reduceIte,Nat.reduceAdd,Nat.reduceBEq,hS.var 1 rfl,iG,ln,Nat.reduceEqDiff,List.contains_cons,Nat.reduceBEq,Bool.or_true,Bool.or_self]
 refine Cp (b5:=[[.sl [.sc]]]) (ys:=[.fz (a0.Ds.map (AV.int .i64))]) h rfl (by rfl) fun El XG h=>⟨.own 1 (El.map (AV.int .i64)),Ny XG (aq.nil _) fun Hd LV H hS=>Ch rfl (Cf 0 hS rfl LV (fun _ _=>by simp [aR,aP,dj]) fun H hS=>Cd rfl),(Cq _ (fun _=>rfl) _),?_⟩
 refine Cm ?_;refine Ck hS (fun _ _=>rfl) (fun _=>rfl) fun v10 H KU hS=> ?_;refine Ci ?_;try simp only [List.headD_cons]
 try simp only [W,EE,Nat.reduceAdd,Nat.reduceBEq,hS.var 2 rfl,Nat.reduceBEq]
 refine Cp (b5:=[[.sl [.sc]]]) (ys:=[.fz (a0.Dw.map (AV.int .i64))]) h rfl (by rfl) fun Ej XH h=>⟨.own 1 (Ej.map (AV.int .i64)),Ny XH (aq.nil _) fun DH If H hS=>Ch rfl (Cf 0 hS rfl If (fun _ _=>by simp [aR,aP,dj]) fun H hS=>Cd rfl),(Cq _ (fun _=>rfl) _),?_⟩
 refine Cm ?_;refine Ck hS (fun _ _=>rfl) (fun _=>rfl) fun DG H He hS=> ?_;refine Ci ?_;try simp only [List.headD_cons]
 try simp only [W,EE,Nat.reduceAdd,Nat.reduceBEq,hS.var 3 rfl,Nat.reduceBEq]
 refine Cp (b5:=[[.sl [.sc]]]) (ys:=[.fz (a0.Dx.map (AV.int .i64))]) h rfl (by rfl) fun EY Je h=>⟨.own 1 (EY.map (AV.int .i64)),Ny Je (aq.nil _) fun FE Hm H hS=>Ch rfl (Cf 0 hS rfl Hm (fun _ _=>by simp [aR,aP,dj]) fun H hS=>Cd rfl),(Cq _ (fun _=>rfl) _),?_⟩
 refine Cm ?_;refine Ck hS (fun _ _=>rfl) (fun _=>rfl) fun Ec H F2 hS=> ?_;refine Ci ?_;try simp only [List.headD_cons]
 try simp only [W,EE,Nat.reduceAdd,Nat.reduceBEq,hS.var 4 rfl,Nat.reduceBEq]
 refine BX rfl rfl rfl rfl (by simp only [fB,KU.By,KU.cells,He.By,He.cells,F2.By,F2.cells];simp [E,splice,AV.cells,di,cG]<;>rfl) ?_
 try simp only [W]
 refine Bs hS rfl rfl fun Fs Ft H hS=> ?_;try simp only [W]
 refine Bt (a:= .agg [v10,.nil,DG,Ec,.int .i64 a0.Dr]) (y' := .agg [v10,.nil,DG,Ec,.int .i64 a0.Dr]) 0 hS rfl rfl rfl rfl rfl (by simp only [di,List.all_cons,List.all_nil,KU.pL,He.pL,F2.pL];rfl) rfl rfl fun H hS=> ?_
 try simp only [W]
 refine A_ Fk ?_;refine AW fun KD GS=> ?_;refine AW fun JU Gg=> ?_;refine Bk gC ?_;try simp only [W,EE,Nat.reduceAdd,Nat.reduceBEq,hS.var 5 rfl]
 refine A_ Gg ?_;obtain ⟨PM,PN,Nj⟩:=Option.bind_eq_some_iff.1 h;refine BG gC (fun s H=> ∃FH:List (List Int),PM=(FH)∧ ∃Em:AV,aJ Em∧ ∃d30:List AV,bI d30 (FH).length∧s=[u,u,.ptr DL DM 0 0,.ptr Fs Ft 0 0,u,u,u,u,u,u,u,u,u,u,u,u,u,u,u,u,u,u,u,u,u,u,u,u,u,u,u,u,u,u]∧aq H (⟨v10,1,El.map (AV.int .i64)⟩::⟨Em,1,bg Dv d30 FH⟩::⟨DG,1,Ej.map (AV.int .i64)⟩::⟨Ec,1,EY.map (AV.int .i64)⟩::⟨.ptr DL DM 0 0,5,[.agg [.nil,.nil,.nil,.nil,.int .i64 0]]⟩::⟨.ptr Fs Ft 0 0,5,[.agg [v10,Em,DG,Ec,.int .i64 a0.Dr]]⟩::((bG Du (AV.int .i64) 1 d30 FH) ++ F))) (fun Om Jv=> ?_) (fun s H hq=> ?_)
 ·refine AX fun R8 Nk=> ?_;have hS:=hS.uo 1;obtain ⟨d59,PO,hS⟩:=CI (p:=Du) (c:=(AV.int .i64)) (z:=1) (m:=Dv) hS;have hS:aq _ (⟨AV.nil,1,bg Dv d59 ([]:List (List Int))⟩::⟨.ptr Fs Ft 0 0,5,[.agg [v10,.nil,DG,Ec,.int .i64 a0.Dr]]⟩::⟨Ec,1,EY.map (AV.int .i64)⟩::⟨DG,1,Ej.map (AV.int .i64)⟩::⟨v10,1,El.map (AV.int .i64)⟩::⟨.ptr DL DM 0 0,5,[.agg [.nil,.nil,.nil,.nil,.int .i64 0]]⟩::⟨.ptr Dz DA 0 0,5,[.agg [.fz (a0.Ds.map (AV.int .i64)),.fz (a0.Dq.map (zE (AV.int .i64))),.fz (a0.Dw.map (AV.int .i64)),.fz (a0.Dx.map (AV.int .i64)),.int .i64 a0.Dr]]⟩::((bG Du (AV.int .i64) 1 d59 ([]:List (List Int))) ++ (F))):=aq.CG (bl:=[[⟨AV.nil,1,bg Dv d59 ([]:List (List Int))⟩],(bG Du (AV.int .i64) 1 d59 ([]:List (List Int))),[⟨.ptr Fs Ft 0 0,5,[.agg [v10,.nil,DG,Ec,.int .i64 a0.Dr]]⟩],[⟨Ec,1,EY.map (AV.int .i64)⟩],[⟨DG,1,Ej.map (AV.int .i64)⟩],[⟨v10,1,El.map (AV.int .i64)⟩],[⟨.ptr DL DM 0 0,5,[.agg [.nil,.nil,.nil,.nil,.int .i64 0]]⟩],[⟨.ptr Dz DA 0 0,5,[.agg [.fz (a0.Ds.map (AV.int .i64)),.fz (a0.Dq.map (zE (AV.int .i64))),.fz (a0.Dw.map (AV.int .i64)),.fz (a0.Dx.map (AV.int .i64)),.int .i64 a0.Dr]]⟩]]) (F:=F) hS 8 rfl [0,2,3,4,5,6,7,1] (by decide)
  have hS:aq _ (⟨v10,1,El.map (AV.int .i64)⟩::⟨AV.nil,1,bg Dv d59 ([]:List (List Int))⟩::⟨DG,1,Ej.map (AV.int .i64)⟩::⟨Ec,1,EY.map (AV.int .i64)⟩::⟨.ptr DL DM 0 0,5,[.agg [.nil,.nil,.nil,.nil,.int .i64 0]]⟩::⟨.ptr Fs Ft 0 0,5,[.agg [v10,.nil,DG,Ec,.int .i64 a0.Dr]]⟩::((bG Du (AV.int .i64) 1 d59 ([]:List (List Int))) ++ (F))):=aq.CG (bl:=[[⟨AV.nil,1,bg Dv d59 ([]:List (List Int))⟩],[⟨.ptr Fs Ft 0 0,5,[.agg [v10,.nil,DG,Ec,.int .i64 a0.Dr]]⟩],[⟨Ec,1,EY.map (AV.int .i64)⟩],[⟨DG,1,Ej.map (AV.int .i64)⟩],[⟨v10,1,El.map (AV.int .i64)⟩],[⟨.ptr DL DM 0 0,5,[.agg [.nil,.nil,.nil,.nil,.int .i64 0]]⟩],[⟨.ptr Dz DA 0 0,5,[.agg [.fz (a0.Ds.map (AV.int .i64)),.fz (a0.Dq.map (zE (AV.int .i64))),.fz (a0.Dw.map (AV.int .i64)),.fz (a0.Dx.map (AV.int .i64)),.int .i64 a0.Dr]]⟩],(bG Du (AV.int .i64) 1 d59 ([]:List (List Int)))]) (F:=F) hS 8 rfl [4,0,3,2,5,1,7] (by decide)
  refine BC gC PN (fun x s H=>match x with|(G_,EQ)=> ∃D1:AV,aJ D1∧ ∃d27:List AV,bI d27 (EQ).length∧s=[u,u,.ptr DL DM 0 0,.ptr Fs Ft 0 0,u,u,u,u,u,u,u,u,u,u,u,u,u,u,u,.fz (a0.Dq.map (zE (AV.int .i64))),.int .i64 (a0.Dq.length:Int),.int .i64 G_,u,u,u,u,u,u,u,u,u,u,u,u]∧aq H (⟨v10,1,El.map (AV.int .i64)⟩::⟨D1,1,bg Dv d27 EQ⟩::⟨DG,1,Ej.map (AV.int .i64)⟩::⟨Ec,1,EY.map (AV.int .i64)⟩::⟨.ptr DL DM 0 0,5,[.agg [.nil,.nil,.nil,.nil,.int .i64 0]]⟩::⟨.ptr Fs Ft 0 0,5,[.agg [v10,D1,DG,Ec,.int .i64 a0.Dr]]⟩::((bG Du (AV.int .i64) 1 d27 EQ) ++ F))) ⟨_,lh,_,PO,rfl,hS⟩ (fun x PH s H h PP hi PG Jw=> ?_)
  obtain ⟨G_,EQ⟩:=x;try dsimp only at hi
  obtain ⟨D1,GD,d27,Nl,rfl,hS⟩:=hi;simp only [N0] at h;refine AW fun PI Jf=> ?_;refine Bk gC ?_;try simp only [W,EE,Nat.reduceAdd]
  refine A_ Jf ?_;refine AW fun PJ Is=> ?_;refine A8 ?_;simp only [W];refine Bj h (fun hc h=> ?_) (fun hc h=> ?_)
  ·refine AY ?_;refine A_ Is ?_;refine AW fun R9 LN=> ?_;refine AX fun Oh Ju=> ?_;refine AW fun Na Iq=> ?_;refine Bk gC ?_;try simp only [W,EE,Nat.reduceAdd]
   refine Bv rfl rfl rfl (fun _=>rfl) h fun DV Px h=> ?_;try simp only [W,EE,EN]
   refine A_ Iq ?_;refine BY gC [(7,[]),(5,[])] (by kernel_rfl) rfl (by kernel_rfl) ?_
   try simp only [W,EE,reduceIte,Nat.reduceAdd,Nat.reduceBEq,hS.var 5 rfl,iG,ln,Nat.reduceEqDiff,List.contains_cons,Nat.reduceBEq,Bool.or_self]
   refine Cp (b5:=[[.sl [.sc]]]) (ys:=[.fz (DV.map (AV.int .i64))]) h rfl (by rfl) fun EV P_ h=>⟨.own 1 (EV.map (AV.int .i64)),Ny P_ (aq.nil _) fun v46 XI H hS=>Ch rfl (Cf 0 hS rfl XI (fun _ _=>by simp [aR,aP,dj]) fun H hS=>Cd rfl),(Cq _ (fun _=>rfl) _),?_⟩
   refine Cm ?_;refine Ck hS (fun _ _=>rfl) (fun _=>rfl) fun Jx H L4 hS=> ?_;refine Ci ?_;try simp only [List.headD_cons]
   try simp only [W]
   refine BA (el:=[Jx]) hS rfl rfl rfl rfl (CD (aJ.CF L4) L4.By) rfl (CE (aJ.CF L4)) fun Gt H Nm hS=> ?_;have hS:aq _ (⟨Gt,1,[Jx]⟩::⟨Jx,1,EV.map (AV.int .i64)⟩::⟨v10,1,El.map (AV.int .i64)⟩::⟨D1,1,bg Dv d27 EQ⟩::⟨DG,1,Ej.map (AV.int .i64)⟩::⟨Ec,1,EY.map (AV.int .i64)⟩::⟨.ptr DL DM 0 0,5,[.agg [.nil,.nil,.nil,.nil,.int .i64 0]]⟩::⟨.ptr Fs Ft 0 0,5,[.agg [v10,D1,DG,Ec,.int .i64 a0.Dr]]⟩::((bG Du (AV.int .i64) 1 d27 EQ) ++ (F))):=hS;obtain ⟨d50,PQ,hS⟩:=CJ (m:=Dv) (p:=Du) (c:=(AV.int .i64)) (b:=EV) hS L4;have hS:aq _ (⟨Gt,1,bg Dv d50 ([EV]:List (List Int))⟩::⟨v10,1,El.map (AV.int .i64)⟩::⟨D1,1,bg Dv d27 EQ⟩::⟨DG,1,Ej.map (AV.int .i64)⟩::⟨Ec,1,EY.map (AV.int .i64)⟩::⟨.ptr DL DM 0 0,5,[.agg [.nil,.nil,.nil,.nil,.int .i64 0]]⟩::⟨.ptr Fs Ft 0 0,5,[.agg [v10,D1,DG,Ec,.int .i64 a0.Dr]]⟩::((bG Du (AV.int .i64) 1 d50 ([EV]:List (List Int))) ++ (((bG Du (AV.int .i64) 1 d27 EQ) ++ (F))))):=aq.CG (bl:=[[⟨Gt,1,bg Dv d50 ([EV]:List (List Int))⟩],(bG Du (AV.int .i64) 1 d50 ([EV]:List (List Int))),[⟨v10,1,El.map (AV.int .i64)⟩],[⟨D1,1,bg Dv d27 EQ⟩],[⟨DG,1,Ej.map (AV.int .i64)⟩],[⟨Ec,1,EY.map (AV.int .i64)⟩],[⟨.ptr DL DM 0 0,5,[.agg [.nil,.nil,.nil,.nil,.int .i64 0]]⟩],[⟨.ptr Fs Ft 0 0,5,[.agg [v10,D1,DG,Ec,.int .i64 a0.Dr]]⟩],(bG Du (AV.int .i64) 1 d27 EQ)]) (F:=F) hS 9 rfl [0,2,3,4,5,6,7,1,8] (by decide)
   try simp only [W,EE]
   have hS:aq _ (⟨D1,1,bg Dv d27 EQ⟩::⟨Gt,1,bg Dv d50 ([EV]:List (List Int))⟩::((bG Du (AV.int .i64) 1 d27 EQ) ++ (((bG Du (AV.int .i64) 1 d50 ([EV]:List (List Int))) ++ (⟨v10,1,El.map (AV.int .i64)⟩::⟨DG,1,Ej.map (AV.int .i64)⟩::⟨Ec,1,EY.map (AV.int .i64)⟩::⟨.ptr DL DM 0 0,5,[.agg [.nil,.nil,.nil,.nil,.int .i64 0]]⟩::⟨.ptr Fs Ft 0 0,5,[.agg [v10,D1,DG,Ec,.int .i64 a0.Dr]]⟩::F))))):=aq.CG (bl:=[[⟨Gt,1,bg Dv d50 ([EV]:List (List Int))⟩],[⟨v10,1,El.map (AV.int .i64)⟩],[⟨D1,1,bg Dv d27 EQ⟩],[⟨DG,1,Ej.map (AV.int .i64)⟩],[⟨Ec,1,EY.map (AV.int .i64)⟩],[⟨.ptr DL DM 0 0,5,[.agg [.nil,.nil,.nil,.nil,.int .i64 0]]⟩],[⟨.ptr Fs Ft 0 0,5,[.agg [v10,D1,DG,Ec,.int .i64 a0.Dr]]⟩],(bG Du (AV.int .i64) 1 d50 ([EV]:List (List Int))),(bG Du (AV.int .i64) 1 d27 EQ)]) (F:=F) hS 9 rfl [2,0,8,7,1,3,4,5,6] (by decide)
   refine CQ (l:=EQ) (m:=Dv) (p:=Du) (c:=(AV.int .i64)) hS GD Nm Nl PQ rfl rfl rfl H4 rfl h fun IS H HS d53 IT PR hm h hS=> ?_;have hS:aq _ (⟨v10,1,El.map (AV.int .i64)⟩::⟨IS,1,bg Dv d53 HS⟩::⟨DG,1,Ej.map (AV.int .i64)⟩::⟨Ec,1,EY.map (AV.int .i64)⟩::⟨.ptr DL DM 0 0,5,[.agg [.nil,.nil,.nil,.nil,.int .i64 0]]⟩::⟨.ptr Fs Ft 0 0,5,[.agg [v10,D1,DG,Ec,.int .i64 a0.Dr]]⟩::((bG Du (AV.int .i64) 1 d53 HS) ++ (F))):=aq.CG (bl:=[[⟨IS,1,bg Dv d53 HS⟩],(bG Du (AV.int .i64) 1 d53 HS),[⟨v10,1,El.map (AV.int .i64)⟩],[⟨DG,1,Ej.map (AV.int .i64)⟩],[⟨Ec,1,EY.map (AV.int .i64)⟩],[⟨.ptr DL DM 0 0,5,[.agg [.nil,.nil,.nil,.nil,.int .i64 0]]⟩],[⟨.ptr Fs Ft 0 0,5,[.agg [v10,D1,DG,Ec,.int .i64 a0.Dr]]⟩]]) (F:=F) hS 7 rfl [2,0,3,4,5,6,1] (by decide)
   try simp only [W,EE,Nat.reduceAdd,Nat.reduceBEq,hS.var 5 rfl,Nat.reduceBEq]
   refine Bt (a:=IS) (y' := .agg [v10,IS,DG,Ec,.int .i64 a0.Dr]) 5 hS rfl rfl rfl rfl (by rw [IT.cells];rfl) IT.By (IT.wr _ _ (by simp)) rfl fun H hS=> ?_
   try simp only [W]
   refine Bd Ju ?_;refine A_ LN ?_;refine Bk gC ?_;try simp only [W,EE,Nat.reduceAdd]
   exact BD Jw h ⟨_,IT,_,PR,rfl,hS⟩
  ·refine A7 ?_;refine Bb Is ?_;try obtain rfl:=Option.some.inj h
   obtain rfl:=PP _ rfl;have h:(some (EQ):Option ((List (List Int))))=some (EQ):=rfl;refine BE Jw ?_;refine Be Nk ?_;exact BH Jv ⟨_,(Option.some.inj h).symm,_,GD,_,Nl,rfl,hS⟩
 ·obtain ⟨FH,En,Em,HL,d30,PS,rfl,hS⟩:=hq;obtain rfl:=En.symm;replace h:=Nj;try dsimp only at h
  refine A_ GS ?_;refine AW fun UL PT=> ?_;refine Bk gC ?_;try simp only [W,EE,reduceIte,Nat.reduceAdd,Nat.reduceLeDiff,hS.var 5 rfl]
  refine Bt (a:= .agg [v10,Em,DG,Ec,.int .i64 a0.Dr]) (y' := .agg [v10,Em,DG,Ec,.int .i64 a0.Dr]) 4 hS rfl rfl rfl rfl rfl (by simp only [di,List.all_cons,List.all_nil,KU.pL,HL.pL,He.pL,F2.pL];rfl) rfl rfl fun H hS=> ?_
  try simp only [W]
  refine A_ PT ?_;refine AZ ?_;refine Bg DQ (BU rfl rfl (hS.var 4 rfl) rfl rfl) ?_;try obtain rfl:=Option.some.inj h
  have hS:aq _ (⟨v10,1,El.map (AV.int .i64)⟩::⟨Em,1,bg Dv d30 FH⟩::⟨DG,1,Ej.map (AV.int .i64)⟩::⟨Ec,1,EY.map (AV.int .i64)⟩::((bG Du (AV.int .i64) 1 d30 FH) ++ (F))):=aq.CG (bl:=[[⟨v10,1,El.map (AV.int .i64)⟩],[⟨Em,1,bg Dv d30 FH⟩],[⟨DG,1,Ej.map (AV.int .i64)⟩],[⟨Ec,1,EY.map (AV.int .i64)⟩],[⟨.ptr DL DM 0 0,5,[.agg [v10,Em,DG,Ec,.int .i64 a0.Dr]]⟩],[⟨.ptr Fs Ft 0 0,5,[.agg [v10,Em,DG,Ec,.int .i64 a0.Dr]]⟩],(bG Du (AV.int .i64) 1 d30 FH)]) (F:=F) hS 7 rfl [0,1,2,3,6] (by decide)
  exact hP _ KU _ HL _ PS _ He _ F2 _ hS
theorem XJ {a0:DJ} {i0:Nat} {w0:Nat} {DR:AV} {DS:AV} {d101:List AV} {DT:AV} {DU:AV} {r:(List Int×Bool×DJ)} (h:MW a0=some r) {F:List It} {H:J} (hS:aq H (⟨.ptr i0 w0 0 0,5,[.agg [DR,DS,DT,DU,.int .i64 a0.Dr]]⟩::⟨DR,1,a0.Ds.map (AV.int .i64)⟩::⟨DS,1,bg Dv d101 a0.Dq⟩::⟨DT,1,a0.Dw.map (AV.int .i64)⟩::⟨DU,1,a0.Dx.map (AV.int .i64)⟩::((bG Du (AV.int .i64) 1 d101 a0.Dq) ++ F))) (QM:aJ DR) (J5:aJ DS) (IU:bI d101 (a0.Dq).length) (KV:aJ DT) (OU:aJ DU) {P:AV→J→Prop} (hP: ∀JC:AV,aJ JC→ ∀QN:AV,aJ QN→ ∀QO:AV,aJ QO→ ∀QP:List AV,bI QP (r.2.2.Dq).length→ ∀QQ:AV,aJ QQ→ ∀QR:AV,aJ QR→ ∀H',aq H' (⟨JC,1,r.1.map (AV.int .i64)⟩::⟨.ptr i0 w0 0 0,5,[.agg [QN,QO,QQ,QR,.int .i64 r.2.2.Dr]]⟩::⟨QN,1,r.2.2.Ds.map (AV.int .i64)⟩::⟨QO,1,bg Dv QP r.2.2.Dq⟩::⟨QQ,1,r.2.2.Dw.map (AV.int .i64)⟩::⟨QR,1,r.2.2.Dx.map (AV.int .i64)⟩::((bG Du (AV.int .i64) 1 QP r.2.2.Dq) ++ F))→P (.aE [JC,.bool r.2.1]) H'):aw C 148 [.ptr i0 w0 0 0] H P:=by
 refine Bn gC (res:=[.tmp 2,.tmp 3]) (n:=147) rfl rfl rfl rfl fun K0 DQ=> ?_;simp only [W,Nat.reduceSub,Nat.reduceAdd,List.replicate];unfold MW at h;refine AW fun K1 D5=> ?_;refine Bk gC ?_;try simp only [W,Nat.reduceAdd]
 refine A_ D5 ?_;refine AW fun K2 y7=> ?_;refine Bk gC ?_;try simp only [W,EE,Nat.reduceAdd,Nat.reduceBEq,hS.var 0 rfl]
 refine Bz rfl rfl ?_;try simp only [W]
 refine A_ y7 ?_;refine AW fun K3 FV=> ?_;refine Bk gC ?_;try simp only [W,EE,Nat.reduceAdd,Nat.reduceBEq,hS.var 0 rfl]
 refine zi 1 hS rfl QM rfl ?_;try simp only [W,EE]
 refine Bq _ h fun Ed zU h=> ?_;try simp only [W,EE,Nat.reduceAdd,Nat.reduceBEq,hS.var 0 rfl]
 refine Bt (a:= .int .i64 Ed) (y' := .agg [DR,DS,DT,DU,.int .i64 Ed]) 0 hS rfl rfl rfl rfl rfl rfl rfl rfl fun H hS=> ?_
 try simp only [W]
 refine A_ FV ?_;refine AW fun K5 FA=> ?_;refine AW fun K6 Fk=> ?_;refine Bk gC ?_;try simp only [W,EE,Nat.reduceAdd,Nat.reduceBEq,hS.var 0 rfl]
 obtain ⟨FF,Ia,h⟩:=Option.bind_eq_some_iff.1 h;have hS:aq _ (⟨DS,1,bg Dv d101 a0.Dq⟩::((bG Du (AV.int .i64) 1 d101 a0.Dq) ++ (⟨.ptr i0 w0 0 0,5,[.agg [DR,DS,DT,DU,.int .i64 Ed]]⟩::⟨DR,1,a0.Ds.map (AV.int .i64)⟩::⟨DT,1,a0.Dw.map (AV.int .i64)⟩::⟨DU,1,a0.Dx.map (AV.int .i64)⟩::F))):=aq.CG (bl:=[[⟨.ptr i0 w0 0 0,5,[.agg [DR,DS,DT,DU,.int .i64 Ed]]⟩],[⟨DR,1,a0.Ds.map (AV.int .i64)⟩],[⟨DS,1,bg Dv d101 a0.Dq⟩],[⟨DT,1,a0.Dw.map (AV.int .i64)⟩],[⟨DU,1,a0.Dx.map (AV.int .i64)⟩],(bG Du (AV.int .i64) 1 d101 a0.Dq)]) (F:=F) hS 6 rfl [2,5,0,1,3,4] (by decide)
 obtain ⟨DE,FW,hS⟩:=CH (p:=Du) (c:=(AV.int .i64)) (m:=Dv) (b:=FF) hS IU Ia;have hS:aq _ (⟨DE,1,FF.map (AV.int .i64)⟩::⟨.ptr i0 w0 0 0,5,[.agg [DR,DS,DT,DU,.int .i64 Ed]]⟩::⟨DR,1,a0.Ds.map (AV.int .i64)⟩::⟨DS,1,(bg Dv d101 a0.Dq).set a0.Dr.toNat (DE)⟩::⟨DT,1,a0.Dw.map (AV.int .i64)⟩::⟨DU,1,a0.Dx.map (AV.int .i64)⟩::((mY Du (AV.int .i64) 1 d101 a0.Dq a0.Dr.toNat) ++ (F))):=aq.CG (bl:=[[⟨DE,1,FF.map (AV.int .i64)⟩],[⟨DS,1,(bg Dv d101 a0.Dq).set a0.Dr.toNat (DE)⟩],(mY Du (AV.int .i64) 1 d101 a0.Dq a0.Dr.toNat),[⟨.ptr i0 w0 0 0,5,[.agg [DR,DS,DT,DU,.int .i64 Ed]]⟩],[⟨DR,1,a0.Ds.map (AV.int .i64)⟩],[⟨DT,1,a0.Dw.map (AV.int .i64)⟩],[⟨DU,1,a0.Dx.map (AV.int .i64)⟩]]) (F:=F) hS 7 rfl [0,3,4,1,5,6,2] (by decide)
 refine CK (x:=DE) 3 hS rfl rfl rfl rfl rfl (gI Ia).1 (CO IU Ia) J5 (fun XK XL XM S9 XO=> ?_);obtain ⟨XP,QS,QT⟩:=XO;try simp only [W,EE,QS,QT,FW.rd]
 refine zi 0 hS rfl FW rfl ?_;try simp only [W,EE]
 refine A_ Fk ?_;obtain ⟨Pt,h,Pu⟩:=Option.bind_eq_some_iff.1 h;refine BG gC (fun s H=> ∃GA:List Int,Pt=(GA)∧ ∃d13:List AV,bI d13 (a0.Dq).length∧s=(.ptr i0 w0 0 0::u::u::u:: .int .i64 a0.Dr:: .e0::u::u::u::u::u::u::u::u::u::u::u::u::u::u::u::u::u::u::u::u::u::u::u::u::u::u::u::u::u::u::u::u::u::u::u::u::u::u::u::u::u::u::u::u::u::u::u::u::u::u::u::u::u::u::u::u::u::u::u::u::u::u::u::u::u::u::u::u::u::u::u::u::u::u::u::u::u::u::u::u::u::u::u::u::u::u::u::u::u::u::u::u::u::u::u::u::u::u::u::u::u::u::u::u::u::u::u::u::u::u::u::u::u::u::u::u::u::u::u::u::u::u::u::u::u::u::u::u::u::u::u::u::u::u::u::u::u::u::u::u::u::[])∧aq H (⟨DR,1,a0.Ds.map (AV.int .i64)⟩::⟨DS,1,bg Dv d13 a0.Dq⟩::⟨DT,1,GA.map (AV.int .i64)⟩::⟨DU,1,a0.Dx.map (AV.int .i64)⟩::⟨.ptr i0 w0 0 0,5,[.agg [DR,DS,DT,DU,.int .i64 Ed]]⟩::((bG Du (AV.int .i64) 1 d13 a0.Dq) ++ F))) (fun Ip Fj=> ?_) (fun s H hq=> ?_)
 ·refine AW fun IM FM=> ?_;refine A8 ?_;simp only [W];refine Bj h (fun hc h=> ?_) (fun hc h=> ?_)
  ·refine BY gC [(16,[])] (by kernel_rfl) rfl (by kernel_rfl) ?_
   try simp only [W,EE,reduceIte,Nat.reduceAdd,Nat.reduceBEq,hS.var 1 rfl,iG,ln,Nat.reduceEqDiff]
   refine Bw 4 hS rfl rfl rfl rfl rfl h (fun Fp aed aee aef LM h XQ=> ?_) KV.ne;obtain ⟨aeg,XR,XS⟩:=hS.elem 4 rfl XQ LM;try simp only [W,EE,Nat.reduceAdd,Nat.reduceBEq,hS.var 1 rfl,XR,XS]
   refine Bw 2 hS rfl rfl rfl rfl rfl h (fun DO aeh aei aej OV h XT=> ?_) QM.ne;obtain ⟨aek,XU,XV⟩:=hS.elem 2 rfl XT OV;try simp only [W,EE,XU,XV]
   refine Bw 4 hS rfl rfl rfl rfl rfl h (fun D0 ael aem aen JW h S_=> ?_) KV.ne;obtain ⟨aeo,aep,aeq⟩:=hS.elem 4 rfl S_ JW;try simp only [W]
   refine Bx (a:= .int .i64 (IntKind.i64.wrap (Fp+DO))) (y' :=(IntKind.i64.wrap (Fp+DO))) 4 hS rfl S_ JW rfl rfl rfl rfl rfl rfl rfl fun H hS=> ?_
   try simp only [W]
   refine A_ FM ?_;refine C4 (s' :=(.ptr i0 w0 0 0::u::u::u:: .int .i64 a0.Dr:: .e0::u::u::u::u::u::u::u::u::u::u::u::u::u::u::u::u::u::u::u::u::u::u::u::u::u::u::u::u::u::u::u::u::u::u::u::u::u::u::u::u::u::u::u::u::u::u::u::u::u::u::u::u::u::u::u::u::u::u::u::u::u::u::u::u::u::u::u::u::u::u::u::u::u::u::u::u::u::u::u::u::u::u::u::u::u::u::u::u::u::u::u::u::u::u::u::u::u::u::u::u::u::u::u::u::u::u::u::u::u::u::u::u::u::u::u::u::u::u::u::u::u::u::u::u::u::u::u::u::u::u::u::u::u::u::u::u::u::u::u::u::u::[])) rfl ?_
   have hS:aq _ (⟨DE,1,FF.map (AV.int .i64)⟩::⟨DS,1,(bg Dv d101 a0.Dq).set a0.Dr.toNat (DE)⟩::((mY Du (AV.int .i64) 1 d101 a0.Dq a0.Dr.toNat) ++ (⟨.ptr i0 w0 0 0,5,[.agg [DR,DS,DT,DU,.int .i64 Ed]]⟩::⟨DR,1,a0.Ds.map (AV.int .i64)⟩::⟨DT,1,(a0.Dw.set a0.Dr.toNat (IntKind.i64.wrap (Fp+DO))).map (AV.int .i64)⟩::⟨DU,1,a0.Dx.map (AV.int .i64)⟩::F))):=aq.CG (bl:=[[⟨DE,1,FF.map (AV.int .i64)⟩],[⟨.ptr i0 w0 0 0,5,[.agg [DR,DS,DT,DU,.int .i64 Ed]]⟩],[⟨DR,1,a0.Ds.map (AV.int .i64)⟩],[⟨DS,1,(bg Dv d101 a0.Dq).set a0.Dr.toNat (DE)⟩],[⟨DT,1,(a0.Dw.set a0.Dr.toNat (IntKind.i64.wrap (Fp+DO))).map (AV.int .i64)⟩],[⟨DU,1,a0.Dx.map (AV.int .i64)⟩],(mY Du (AV.int .i64) 1 d101 a0.Dq a0.Dr.toNat)]) (F:=F) hS 7 rfl [0,3,6,1,2,4,5] (by decide)
   obtain ⟨d25,QU,hS⟩:=CN (p:=Du) (c:=(AV.int .i64)) (m:=Dv) (b:=FF) hS IU FW Ia;have hS:aq _ (⟨.ptr i0 w0 0 0,5,[.agg [DR,DS,DT,DU,.int .i64 Ed]]⟩::⟨DR,1,a0.Ds.map (AV.int .i64)⟩::⟨DS,1,bg Dv d25 a0.Dq⟩::⟨DT,1,(a0.Dw.set a0.Dr.toNat (IntKind.i64.wrap (Fp+DO))).map (AV.int .i64)⟩::⟨DU,1,a0.Dx.map (AV.int .i64)⟩::((bG Du (AV.int .i64) 1 d25 a0.Dq) ++ (F))):=aq.CG (bl:=[[⟨DS,1,bg Dv d25 a0.Dq⟩],(bG Du (AV.int .i64) 1 d25 a0.Dq),[⟨.ptr i0 w0 0 0,5,[.agg [DR,DS,DT,DU,.int .i64 Ed]]⟩],[⟨DR,1,a0.Ds.map (AV.int .i64)⟩],[⟨DT,1,(a0.Dw.set a0.Dr.toNat (IntKind.i64.wrap (Fp+DO))).map (AV.int .i64)⟩],[⟨DU,1,a0.Dx.map (AV.int .i64)⟩]]) (F:=F) hS 6 rfl [2,3,0,4,5,1] (by decide)
   have hS:aq _ (⟨DR,1,a0.Ds.map (AV.int .i64)⟩::⟨DS,1,bg Dv d25 a0.Dq⟩::⟨DT,1,(a0.Dw.set a0.Dr.toNat (IntKind.i64.wrap (Fp+DO))).map (AV.int .i64)⟩::⟨DU,1,a0.Dx.map (AV.int .i64)⟩::⟨.ptr i0 w0 0 0,5,[.agg [DR,DS,DT,DU,.int .i64 Ed]]⟩::((bG Du (AV.int .i64) 1 d25 a0.Dq) ++ (F))):=aq.CG (bl:=[[⟨.ptr i0 w0 0 0,5,[.agg [DR,DS,DT,DU,.int .i64 Ed]]⟩],[⟨DR,1,a0.Ds.map (AV.int .i64)⟩],[⟨DS,1,bg Dv d25 a0.Dq⟩],[⟨DT,1,(a0.Dw.set a0.Dr.toNat (IntKind.i64.wrap (Fp+DO))).map (AV.int .i64)⟩],[⟨DU,1,a0.Dx.map (AV.int .i64)⟩],(bG Du (AV.int .i64) 1 d25 a0.Dq)]) (F:=F) hS 6 rfl [1,2,3,4,0,5] (by decide)
   exact BH Fj ⟨_,(Option.some.inj h).symm,_,QU,rfl,hS⟩
  ·refine AY ?_;refine A_ FM ?_;refine C4 (s' :=(.ptr i0 w0 0 0::u::u::u:: .int .i64 a0.Dr:: .e0::u::u::u::u::u::u::u::u::u::u::u::u::u::u::u::u::u::u::u::u::u::u::u::u::u::u::u::u::u::u::u::u::u::u::u::u::u::u::u::u::u::u::u::u::u::u::u::u::u::u::u::u::u::u::u::u::u::u::u::u::u::u::u::u::u::u::u::u::u::u::u::u::u::u::u::u::u::u::u::u::u::u::u::u::u::u::u::u::u::u::u::u::u::u::u::u::u::u::u::u::u::u::u::u::u::u::u::u::u::u::u::u::u::u::u::u::u::u::u::u::u::u::u::u::u::u::u::u::u::u::u::u::u::u::u::u::u::u::u::u::u::[])) rfl ?_
   have hS:aq _ (⟨DE,1,FF.map (AV.int .i64)⟩::⟨DS,1,(bg Dv d101 a0.Dq).set a0.Dr.toNat (DE)⟩::((mY Du (AV.int .i64) 1 d101 a0.Dq a0.Dr.toNat) ++ (⟨.ptr i0 w0 0 0,5,[.agg [DR,DS,DT,DU,.int .i64 Ed]]⟩::⟨DR,1,a0.Ds.map (AV.int .i64)⟩::⟨DT,1,a0.Dw.map (AV.int .i64)⟩::⟨DU,1,a0.Dx.map (AV.int .i64)⟩::F))):=aq.CG (bl:=[[⟨DE,1,FF.map (AV.int .i64)⟩],[⟨.ptr i0 w0 0 0,5,[.agg [DR,DS,DT,DU,.int .i64 Ed]]⟩],[⟨DR,1,a0.Ds.map (AV.int .i64)⟩],[⟨DS,1,(bg Dv d101 a0.Dq).set a0.Dr.toNat (DE)⟩],[⟨DT,1,a0.Dw.map (AV.int .i64)⟩],[⟨DU,1,a0.Dx.map (AV.int .i64)⟩],(mY Du (AV.int .i64) 1 d101 a0.Dq a0.Dr.toNat)]) (F:=F) hS 7 rfl [0,3,6,1,2,4,5] (by decide)
   obtain ⟨d26,XW,hS⟩:=CN (p:=Du) (c:=(AV.int .i64)) (m:=Dv) (b:=FF) hS IU FW Ia;have hS:aq _ (⟨.ptr i0 w0 0 0,5,[.agg [DR,DS,DT,DU,.int .i64 Ed]]⟩::⟨DR,1,a0.Ds.map (AV.int .i64)⟩::⟨DS,1,bg Dv d26 a0.Dq⟩::⟨DT,1,a0.Dw.map (AV.int .i64)⟩::⟨DU,1,a0.Dx.map (AV.int .i64)⟩::((bG Du (AV.int .i64) 1 d26 a0.Dq) ++ (F))):=aq.CG (bl:=[[⟨DS,1,bg Dv d26 a0.Dq⟩],(bG Du (AV.int .i64) 1 d26 a0.Dq),[⟨.ptr i0 w0 0 0,5,[.agg [DR,DS,DT,DU,.int .i64 Ed]]⟩],[⟨DR,1,a0.Ds.map (AV.int .i64)⟩],[⟨DT,1,a0.Dw.map (AV.int .i64)⟩],[⟨DU,1,a0.Dx.map (AV.int .i64)⟩]]) (F:=F) hS 6 rfl [2,3,0,4,5,1] (by decide)
   have hS:aq _ (⟨DR,1,a0.Ds.map (AV.int .i64)⟩::⟨DS,1,bg Dv d26 a0.Dq⟩::⟨DT,1,a0.Dw.map (AV.int .i64)⟩::⟨DU,1,a0.Dx.map (AV.int .i64)⟩::⟨.ptr i0 w0 0 0,5,[.agg [DR,DS,DT,DU,.int .i64 Ed]]⟩::((bG Du (AV.int .i64) 1 d26 a0.Dq) ++ (F))):=aq.CG (bl:=[[⟨.ptr i0 w0 0 0,5,[.agg [DR,DS,DT,DU,.int .i64 Ed]]⟩],[⟨DR,1,a0.Ds.map (AV.int .i64)⟩],[⟨DS,1,bg Dv d26 a0.Dq⟩],[⟨DT,1,a0.Dw.map (AV.int .i64)⟩],[⟨DU,1,a0.Dx.map (AV.int .i64)⟩],(bG Du (AV.int .i64) 1 d26 a0.Dq)]) (F:=F) hS 6 rfl [1,2,3,4,0,5] (by decide)
   exact BH Fj ⟨_,(Option.some.inj h).symm,_,XW,rfl,hS⟩
 ·obtain ⟨GA,En,d13,XX,rfl,hS⟩:=hq;obtain rfl:=En.symm;replace h:=Pu;try dsimp only at h
  refine A_ FA ?_;refine AW fun QK J4=> ?_;obtain ⟨XY,XZ,X0⟩:=Option.bind_eq_some_iff.1 h;refine BG gC (fun s H=> ∃EW:List Int,∃EA:List (List Int),∃FI:List Int,∃E2:List Int,XY=(EW,EA,FI,E2)∧ ∃DC:AV,aJ DC∧ ∃d39:List AV,bI d39 (EA).length∧s=(.ptr i0 w0 0 0::u::u::u:: .int .i64 a0.Dr::DC::u::u::u::u::u::u::u::u::u::u::u::u::u::u::u::u::u::u::u::u::u::u::u::u::u::u::u::u::u::u::u::u::u::u::u::u::u::u::u::u::u::u::u::u::u::u::u::u::u::u::u::u::u::u::u::u::u::u::u::u::u::u::u::u::u::u::u::u::u::u::u::u::u::u::u::u::u::u::u::u::u::u::u::u::u::u::u::u::u::u::u::u::u::u::u::u::u::u::u::u::u::u::u::u::u::u::u::u::u::u::u::u::u::u::u::u::u::u::u::u::u::u::u::u::u::u::u::u::u::u::u::u::u::u::u::u::u::u::u::u::u::[])∧aq H (⟨DC,1,EW.map (AV.int .i64)⟩::⟨DR,1,a0.Ds.map (AV.int .i64)⟩::⟨DS,1,bg Dv d39 EA⟩::⟨DT,1,FI.map (AV.int .i64)⟩::⟨DU,1,E2.map (AV.int .i64)⟩::⟨.ptr i0 w0 0 0,5,[.agg [DR,DS,DT,DU,.int .i64 Ed]]⟩::((bG Du (AV.int .i64) 1 d39 EA) ++ F))) (fun Sq Nw=> ?_) (fun s H hq=> ?_)
  ·refine AX fun Sd Nu=> ?_;have hS:=hS.zx 1;refine BC gC XZ (fun x s H=>match x with|(Fa,Eg,Eo,ED)=> ∃v30:AV,aJ v30∧ ∃d33:List AV,bI d33 (Eg).length∧s=(.ptr i0 w0 0 0::u::u::u:: .int .i64 a0.Dr::v30::u::u::u::u::u::u::u::u::u::u::u::u::u::u::u::u::u::u::u::u::u::u::u::u::u::u::u::u::u::u::u::u::u::u::u::u::u::u::u::u::u::u::u::u::u::u::u::u::u::u::u::u::u::u::u::u::u::u::u::u::u::u::u::u::u::u::u::u::u::u::u::u::u::u::u::u::u::u::u::u::u::u::u::u::u::u::u::u::u::u::u::u::u::u::u::u::u::u::u::u::u::u::u::u::u::u::u::u::u::u::u::u::u::u::u::u::u::u::u::u::u::u::u::u::u::u::u::u::u::u::u::u::u::u::u::u::u::u::u::u::u::[])∧aq H (⟨v30,1,Fa.map (AV.int .i64)⟩::⟨DR,1,a0.Ds.map (AV.int .i64)⟩::⟨DS,1,bg Dv d33 Eg⟩::⟨DT,1,Eo.map (AV.int .i64)⟩::⟨DU,1,ED.map (AV.int .i64)⟩::⟨.ptr i0 w0 0 0,5,[.agg [DR,DS,DT,DU,.int .i64 Ed]]⟩::((bG Du (AV.int .i64) 1 d33 Eg) ++ F))) ⟨_,mS,_,XX,rfl,hS⟩ (fun x y48 s H h X1 hi PV JY=> ?_)
   obtain ⟨Fa,Eg,Eo,ED⟩:=x;try dsimp only at hi
   obtain ⟨v30,GF,d33,Gu,rfl,hS⟩:=hi;simp only [MU] at h;refine AW fun On HM=> ?_;refine AW fun U9 Ou=> ?_;obtain ⟨X2,h,X3⟩:=Option.bind_eq_some_iff.1 h;refine BG gC (fun s H=> ∃MV:Bool,X2=(MV)∧ ∃d55:List AV,bI d55 (Eg).length∧s=(.ptr i0 w0 0 0::u::u::u:: .int .i64 a0.Dr::v30::u::u::u::u::u::u::u::u::u::u::u::u::u::u::u::u::u::u::u::u::u::u::u::u::u::u::u::u::u::u::u::u::u::u::u::u::u::u::u::u::u::u::u::u::u::u::u::u::u::u::u::u::u::u::u::u::u::u::u::u::u::u::u::u::u::u::u::u::u:: .bool MV::u::u::u::u::u::u::u::u::u::u::u::u::u::u::u::u::u::u::u::u::u::u::u::u::u::u::u::u::u::u::u::u::u::u::u::u::u::u::u::u::u::u::u::u::u::u::u::u::u::u::u::u::u::u::u::u::u::u::u::u::u::u::u::u::u::u::u::u::u::u::u::[])∧aq H (⟨v30,1,Fa.map (AV.int .i64)⟩::⟨DR,1,a0.Ds.map (AV.int .i64)⟩::⟨DS,1,bg Dv d55 Eg⟩::⟨DT,1,Eo.map (AV.int .i64)⟩::⟨DU,1,ED.map (AV.int .i64)⟩::⟨.ptr i0 w0 0 0,5,[.agg [DR,DS,DT,DU,.int .i64 Ed]]⟩::((bG Du (AV.int .i64) 1 d55 Eg) ++ F))) (fun S7 L3=> ?_) (fun s H hq=> ?_)
   ·refine AW fun K59 Ta=> ?_;refine Bm gC (by kernel_rfl) ?_
    try simp only [W,EE,Nat.reduceAdd,Nat.reduceBEq,hS.var 5 rfl]
    obtain ⟨Il,KW,h⟩:=Option.bind_eq_some_iff.1 h;have hS:aq _ (⟨DS,1,bg Dv d33 Eg⟩::((bG Du (AV.int .i64) 1 d33 Eg) ++ (⟨v30,1,Fa.map (AV.int .i64)⟩::⟨DR,1,a0.Ds.map (AV.int .i64)⟩::⟨DT,1,Eo.map (AV.int .i64)⟩::⟨DU,1,ED.map (AV.int .i64)⟩::⟨.ptr i0 w0 0 0,5,[.agg [DR,DS,DT,DU,.int .i64 Ed]]⟩::F))):=aq.CG (bl:=[[⟨v30,1,Fa.map (AV.int .i64)⟩],[⟨DR,1,a0.Ds.map (AV.int .i64)⟩],[⟨DS,1,bg Dv d33 Eg⟩],[⟨DT,1,Eo.map (AV.int .i64)⟩],[⟨DU,1,ED.map (AV.int .i64)⟩],[⟨.ptr i0 w0 0 0,5,[.agg [DR,DS,DT,DU,.int .i64 Ed]]⟩],(bG Du (AV.int .i64) 1 d33 Eg)]) (F:=F) hS 7 rfl [2,6,0,1,3,4,5] (by decide)
    obtain ⟨F5,JB,hS⟩:=CH (p:=Du) (c:=(AV.int .i64)) (m:=Dv) (b:=Il) hS Gu KW;have hS:aq _ (⟨F5,1,Il.map (AV.int .i64)⟩::⟨v30,1,Fa.map (AV.int .i64)⟩::⟨DR,1,a0.Ds.map (AV.int .i64)⟩::⟨DS,1,(bg Dv d33 Eg).set a0.Dr.toNat (F5)⟩::⟨DT,1,Eo.map (AV.int .i64)⟩::⟨DU,1,ED.map (AV.int .i64)⟩::⟨.ptr i0 w0 0 0,5,[.agg [DR,DS,DT,DU,.int .i64 Ed]]⟩::((mY Du (AV.int .i64) 1 d33 Eg a0.Dr.toNat) ++ (F))):=aq.CG (bl:=[[⟨F5,1,Il.map (AV.int .i64)⟩],[⟨DS,1,(bg Dv d33 Eg).set a0.Dr.toNat (F5)⟩],(mY Du (AV.int .i64) 1 d33 Eg a0.Dr.toNat),[⟨v30,1,Fa.map (AV.int .i64)⟩],[⟨DR,1,a0.Ds.map (AV.int .i64)⟩],[⟨DT,1,Eo.map (AV.int .i64)⟩],[⟨DU,1,ED.map (AV.int .i64)⟩],[⟨.ptr i0 w0 0 0,5,[.agg [DR,DS,DT,DU,.int .i64 Ed]]⟩]]) (F:=F) hS 8 rfl [0,3,4,1,5,6,7,2] (by decide)
    refine CK (x:=F5) 3 hS rfl rfl rfl rfl rfl (gI KW).1 (CO Gu KW) J5 (fun aer aes aeu aev X4=> ?_);obtain ⟨aew,X5,X6⟩:=X4;try simp only [W,EE,X5,X6,JB.rd]
    refine zi 0 hS rfl JB rfl ?_;try simp only [W,EE]
    refine BW h (fun hc h=> ?_) (fun hc h=> ?_)
    ·try simp only [W,EE,Nat.reduceAdd,Nat.reduceBEq,hS.var 6 rfl,hc]
     refine CK (x:=F5) 3 hS rfl rfl rfl rfl rfl (gI KW).1 (CO Gu KW) J5 (fun aex aey aez aeA X7=> ?_);obtain ⟨aeB,X8,X9⟩:=X7;try simp only [W,EE,X8,X9,JB.rd]
     refine Bw 0 hS rfl rfl rfl rfl rfl h (fun Ph aeC aeD aeE X_ h Ya=> ?_) JB.ne;obtain ⟨aeF,Yb,Yc⟩:=hS.elem 0 rfl Ya X_;try simp only [W,EE,Nat.reduceAdd,Nat.reduceBEq,hS.var 6 rfl,Yb,Yc]
     refine Bw 4 hS rfl rfl rfl rfl rfl h (fun Kq aeG aeH aeI QV h Yd=> ?_) KV.ne;obtain ⟨aeJ,Ye,Yf⟩:=hS.elem 4 rfl Yd QV;try simp only [W,EE,reduceIte,Ye,Yf]
     refine A_ Ta ?_;refine C4 (s' :=(.ptr i0 w0 0 0::u::u::u:: .int .i64 a0.Dr::v30::u::u::u::u::u::u::u::u::u::u::u::u::u::u::u::u::u::u::u::u::u::u::u::u::u::u::u::u::u::u::u::u::u::u::u::u::u::u::u::u::u::u::u::u::u::u::u::u::u::u::u::u::u::u::u::u::u::u::u::u::u::u::u::u::u::u::u::u::u:: .bool (decide (Ph≤Kq))::u::u::u::u::u::u::u::u::u::u::u::u::u::u::u::u::u::u::u::u::u::u::u::u::u::u::u::u::u::u::u::u::u::u::u::u::u::u::u::u::u::u::u::u::u::u::u::u::u::u::u::u::u::u::u::u::u::u::u::u::u::u::u::u::u::u::u::u::u::u::u::[])) rfl ?_
     have hS:aq _ (⟨F5,1,Il.map (AV.int .i64)⟩::⟨DS,1,(bg Dv d33 Eg).set a0.Dr.toNat (F5)⟩::((mY Du (AV.int .i64) 1 d33 Eg a0.Dr.toNat) ++ (⟨v30,1,Fa.map (AV.int .i64)⟩::⟨DR,1,a0.Ds.map (AV.int .i64)⟩::⟨DT,1,Eo.map (AV.int .i64)⟩::⟨DU,1,ED.map (AV.int .i64)⟩::⟨.ptr i0 w0 0 0,5,[.agg [DR,DS,DT,DU,.int .i64 Ed]]⟩::F))):=aq.CG (bl:=[[⟨F5,1,Il.map (AV.int .i64)⟩],[⟨v30,1,Fa.map (AV.int .i64)⟩],[⟨DR,1,a0.Ds.map (AV.int .i64)⟩],[⟨DS,1,(bg Dv d33 Eg).set a0.Dr.toNat (F5)⟩],[⟨DT,1,Eo.map (AV.int .i64)⟩],[⟨DU,1,ED.map (AV.int .i64)⟩],[⟨.ptr i0 w0 0 0,5,[.agg [DR,DS,DT,DU,.int .i64 Ed]]⟩],(mY Du (AV.int .i64) 1 d33 Eg a0.Dr.toNat)]) (F:=F) hS 8 rfl [0,3,7,1,2,4,5,6] (by decide)
     obtain ⟨d69,Yg,hS⟩:=CN (p:=Du) (c:=(AV.int .i64)) (m:=Dv) (b:=Il) hS Gu JB KW;have hS:aq _ (⟨v30,1,Fa.map (AV.int .i64)⟩::⟨DR,1,a0.Ds.map (AV.int .i64)⟩::⟨DS,1,bg Dv d69 Eg⟩::⟨DT,1,Eo.map (AV.int .i64)⟩::⟨DU,1,ED.map (AV.int .i64)⟩::⟨.ptr i0 w0 0 0,5,[.agg [DR,DS,DT,DU,.int .i64 Ed]]⟩::((bG Du (AV.int .i64) 1 d69 Eg) ++ (F))):=aq.CG (bl:=[[⟨DS,1,bg Dv d69 Eg⟩],(bG Du (AV.int .i64) 1 d69 Eg),[⟨v30,1,Fa.map (AV.int .i64)⟩],[⟨DR,1,a0.Ds.map (AV.int .i64)⟩],[⟨DT,1,Eo.map (AV.int .i64)⟩],[⟨DU,1,ED.map (AV.int .i64)⟩],[⟨.ptr i0 w0 0 0,5,[.agg [DR,DS,DT,DU,.int .i64 Ed]]⟩]]) (F:=F) hS 7 rfl [2,3,0,4,5,6,1] (by decide)
     exact BH L3 ⟨_,(Option.some.inj h).symm,_,Yg,rfl,hS⟩
    ·try simp only [W,hc]
     refine A_ Ta ?_;refine C4 (s' :=(.ptr i0 w0 0 0::u::u::u:: .int .i64 a0.Dr::v30::u::u::u::u::u::u::u::u::u::u::u::u::u::u::u::u::u::u::u::u::u::u::u::u::u::u::u::u::u::u::u::u::u::u::u::u::u::u::u::u::u::u::u::u::u::u::u::u::u::u::u::u::u::u::u::u::u::u::u::u::u::u::u::u::u::u::u::u::u:: .bool false::u::u::u::u::u::u::u::u::u::u::u::u::u::u::u::u::u::u::u::u::u::u::u::u::u::u::u::u::u::u::u::u::u::u::u::u::u::u::u::u::u::u::u::u::u::u::u::u::u::u::u::u::u::u::u::u::u::u::u::u::u::u::u::u::u::u::u::u::u::u::u::[])) rfl ?_
     have hS:aq _ (⟨F5,1,Il.map (AV.int .i64)⟩::⟨DS,1,(bg Dv d33 Eg).set a0.Dr.toNat (F5)⟩::((mY Du (AV.int .i64) 1 d33 Eg a0.Dr.toNat) ++ (⟨v30,1,Fa.map (AV.int .i64)⟩::⟨DR,1,a0.Ds.map (AV.int .i64)⟩::⟨DT,1,Eo.map (AV.int .i64)⟩::⟨DU,1,ED.map (AV.int .i64)⟩::⟨.ptr i0 w0 0 0,5,[.agg [DR,DS,DT,DU,.int .i64 Ed]]⟩::F))):=aq.CG (bl:=[[⟨F5,1,Il.map (AV.int .i64)⟩],[⟨v30,1,Fa.map (AV.int .i64)⟩],[⟨DR,1,a0.Ds.map (AV.int .i64)⟩],[⟨DS,1,(bg Dv d33 Eg).set a0.Dr.toNat (F5)⟩],[⟨DT,1,Eo.map (AV.int .i64)⟩],[⟨DU,1,ED.map (AV.int .i64)⟩],[⟨.ptr i0 w0 0 0,5,[.agg [DR,DS,DT,DU,.int .i64 Ed]]⟩],(mY Du (AV.int .i64) 1 d33 Eg a0.Dr.toNat)]) (F:=F) hS 8 rfl [0,3,7,1,2,4,5,6] (by decide)
     obtain ⟨d70,Yh,hS⟩:=CN (p:=Du) (c:=(AV.int .i64)) (m:=Dv) (b:=Il) hS Gu JB KW;have hS:aq _ (⟨v30,1,Fa.map (AV.int .i64)⟩::⟨DR,1,a0.Ds.map (AV.int .i64)⟩::⟨DS,1,bg Dv d70 Eg⟩::⟨DT,1,Eo.map (AV.int .i64)⟩::⟨DU,1,ED.map (AV.int .i64)⟩::⟨.ptr i0 w0 0 0,5,[.agg [DR,DS,DT,DU,.int .i64 Ed]]⟩::((bG Du (AV.int .i64) 1 d70 Eg) ++ (F))):=aq.CG (bl:=[[⟨DS,1,bg Dv d70 Eg⟩],(bG Du (AV.int .i64) 1 d70 Eg),[⟨v30,1,Fa.map (AV.int .i64)⟩],[⟨DR,1,a0.Ds.map (AV.int .i64)⟩],[⟨DT,1,Eo.map (AV.int .i64)⟩],[⟨DU,1,ED.map (AV.int .i64)⟩],[⟨.ptr i0 w0 0 0,5,[.agg [DR,DS,DT,DU,.int .i64 Ed]]⟩]]) (F:=F) hS 7 rfl [2,3,0,4,5,6,1] (by decide)
     exact BH L3 ⟨_,(Option.some.inj h).symm,_,Yh,rfl,hS⟩
   ·obtain ⟨MV,En,d55,KX,rfl,hS⟩:=hq;obtain rfl:=En.symm;replace h:=X3;try dsimp only at h
    refine A_ Ou ?_;refine A8 ?_;simp only [W];refine Bj h (fun hc h=> ?_) (fun hc h=> ?_)
    ·refine AY ?_;refine A_ HM ?_;refine AX fun K71 Yi=> ?_;refine AW fun K72 Yj=> ?_;refine Bk gC ?_;try simp only [W,EE,Nat.reduceAdd,Nat.reduceBEq,hS.var 5 rfl]
     obtain ⟨JS,JE,h⟩:=Option.bind_eq_some_iff.1 h;have hS:aq _ (⟨DS,1,bg Dv d55 Eg⟩::((bG Du (AV.int .i64) 1 d55 Eg) ++ (⟨v30,1,Fa.map (AV.int .i64)⟩::⟨DR,1,a0.Ds.map (AV.int .i64)⟩::⟨DT,1,Eo.map (AV.int .i64)⟩::⟨DU,1,ED.map (AV.int .i64)⟩::⟨.ptr i0 w0 0 0,5,[.agg [DR,DS,DT,DU,.int .i64 Ed]]⟩::F))):=aq.CG (bl:=[[⟨v30,1,Fa.map (AV.int .i64)⟩],[⟨DR,1,a0.Ds.map (AV.int .i64)⟩],[⟨DS,1,bg Dv d55 Eg⟩],[⟨DT,1,Eo.map (AV.int .i64)⟩],[⟨DU,1,ED.map (AV.int .i64)⟩],[⟨.ptr i0 w0 0 0,5,[.agg [DR,DS,DT,DU,.int .i64 Ed]]⟩],(bG Du (AV.int .i64) 1 d55 Eg)]) (F:=F) hS 7 rfl [2,6,0,1,3,4,5] (by decide)
     obtain ⟨KY,Nz,hS⟩:=CH (p:=Du) (c:=(AV.int .i64)) (m:=Dv) (b:=JS) hS KX JE;have hS:aq _ (⟨KY,1,JS.map (AV.int .i64)⟩::⟨v30,1,Fa.map (AV.int .i64)⟩::⟨DR,1,a0.Ds.map (AV.int .i64)⟩::⟨DS,1,(bg Dv d55 Eg).set a0.Dr.toNat (KY)⟩::⟨DT,1,Eo.map (AV.int .i64)⟩::⟨DU,1,ED.map (AV.int .i64)⟩::⟨.ptr i0 w0 0 0,5,[.agg [DR,DS,DT,DU,.int .i64 Ed]]⟩::((mY Du (AV.int .i64) 1 d55 Eg a0.Dr.toNat) ++ (F))):=aq.CG (bl:=[[⟨KY,1,JS.map (AV.int .i64)⟩],[⟨DS,1,(bg Dv d55 Eg).set a0.Dr.toNat (KY)⟩],(mY Du (AV.int .i64) 1 d55 Eg a0.Dr.toNat),[⟨v30,1,Fa.map (AV.int .i64)⟩],[⟨DR,1,a0.Ds.map (AV.int .i64)⟩],[⟨DT,1,Eo.map (AV.int .i64)⟩],[⟨DU,1,ED.map (AV.int .i64)⟩],[⟨.ptr i0 w0 0 0,5,[.agg [DR,DS,DT,DU,.int .i64 Ed]]⟩]]) (F:=F) hS 8 rfl [0,3,4,1,5,6,7,2] (by decide)
     refine CK (x:=KY) 3 hS rfl rfl rfl rfl rfl (gI JE).1 (CO KX JE) J5 (fun aeK aeL aeM aeN Yk=> ?_);obtain ⟨aeO,Yl,Ym⟩:=Yk;try simp only [W,EE,Yl,Ym,Nz.rd]
     refine Bw 0 hS rfl rfl rfl rfl rfl h (fun FC aeP aeQ aeR Yn h Yo=> ?_) Nz.ne;obtain ⟨aeS,Yp,Yq⟩:=hS.elem 0 rfl Yo Yn;try simp only [W,EE,Yp,Yq]
     refine A_ Yj ?_;refine AW fun K79 Yr=> ?_;refine BY gC [(14,[])] (by kernel_rfl) rfl (by kernel_rfl) ?_
     try simp only [W,EE,reduceIte,Nat.reduceAdd,Nat.reduceBEq,hS.var 6 rfl,iG,ln,Nat.reduceEqDiff]
     refine CK (x:=KY) 3 hS rfl rfl rfl rfl rfl (gI JE).1 (CO KX JE) J5 (fun aeT aeU aeV aeW Ys=> ?_);obtain ⟨aeX,Yt,Yu⟩:=Ys;try simp only [W,EE,Yt,Yu,Nz.rd]
     refine BN 0 hS rfl Nz rfl rfl rfl h fun L5 HY NA aeY h hS=> ?_;try simp only [W,EE]
     refine CK (x:=KY) 3 hS rfl rfl rfl rfl rfl (gI JE).1 (CO KX JE) J5 (fun aeZ ae0 ae1 Yv Yw=> ?_);obtain ⟨ae2,ae3,ae4⟩:=Yw;try simp only [W]
     refine CL (a:=L5) (y' :=L5) (i:=a0.Dr.toNat) 3 hS rfl Yv (CO KX JE) rfl rfl rfl (by rw [NA.cells];rfl) NA.By (NA.B8 Nz) (by first|rfl|(rw [NA.cells];rfl)) (List.set_set ..) fun H hS=> ?_
     try simp only [W]
     refine A_ Yr ?_;refine AW fun K85 Yx=> ?_;refine Bk gC ?_;try simp only [W,EE,Nat.reduceAdd,Nat.reduceBEq,hS.var 6 rfl]
     refine Bw 4 hS rfl rfl rfl rfl rfl h (fun I_ ae5 ae6 ae7 Yy h Yz=> ?_) KV.ne;obtain ⟨ae8,YA,YB⟩:=hS.elem 4 rfl Yz Yy;try simp only [W,EE,YA,YB]
     refine Bw 4 hS rfl rfl rfl rfl rfl h (fun b88 ae9 ae_ afa Tb h Tc=> ?_) KV.ne;obtain ⟨afb,afc,afd⟩:=hS.elem 4 rfl Tc Tb;try simp only [W]
     refine Bx (a:= .int .i64 (IntKind.i64.wrap (I_-FC))) (y' :=(IntKind.i64.wrap (I_-FC))) 4 hS rfl Tc Tb rfl rfl rfl rfl rfl rfl rfl fun H hS=> ?_
     try simp only [W]
     refine A_ Yx ?_;refine AW fun K90 YC=> ?_;refine Bk gC ?_;try simp only [W,EE,Nat.reduceAdd,Nat.reduceBEq,hS.var 6 rfl]
     refine Bw 5 hS rfl rfl rfl rfl rfl h (fun Hl afe aff afg QW h YD=> ?_) OU.ne;obtain ⟨afh,YE,YF⟩:=hS.elem 5 rfl YD QW;try simp only [W,EE,YE,YF]
     refine Bw 5 hS rfl rfl rfl rfl rfl h (fun b93 afi afj afk Td h Te=> ?_) OU.ne;obtain ⟨afl,afm,afn⟩:=hS.elem 5 rfl Te Td;try simp only [W]
     refine Bx (a:= .int .i64 (IntKind.i64.wrap (Hl+FC))) (y' :=(IntKind.i64.wrap (Hl+FC))) 5 hS rfl Te Td rfl rfl rfl rfl rfl rfl rfl fun H hS=> ?_
     try simp only [W]
     refine A_ YC ?_;refine Bk gC ?_;try simp only [W,Nat.reduceAdd]
     refine BA (el:=([FC]:List Int).map (AV.int .i64)) hS rfl rfl rfl rfl rfl rfl rfl fun ES H OR hS=> ?_;try simp only [W,EE]
     refine BO (l:=Fa) (c:=(AV.int .i64)) 2 hS rfl GF rfl rfl rfl (hS.gJ 0 rfl OR) (fun _=>rfl) rfl h fun L6 H JT YG hm h hS=> ?_;try simp only [W]
     refine Bd Yi ?_;have hS:aq _ (⟨L5,1,HY.map (AV.int .i64)⟩::⟨DS,1,(bg Dv d55 Eg).set a0.Dr.toNat (L5)⟩::((mY Du (AV.int .i64) 1 d55 Eg a0.Dr.toNat) ++ (⟨ES,1,([FC]:List Int).map (AV.int .i64)⟩::⟨L6,1,JT.map (AV.int .i64)⟩::⟨DR,1,a0.Ds.map (AV.int .i64)⟩::⟨DT,1,(Eo.set a0.Dr.toNat (IntKind.i64.wrap (I_-FC))).map (AV.int .i64)⟩::⟨DU,1,(ED.set a0.Dr.toNat (IntKind.i64.wrap (Hl+FC))).map (AV.int .i64)⟩::⟨.ptr i0 w0 0 0,5,[.agg [DR,DS,DT,DU,.int .i64 Ed]]⟩::F))):=aq.CG (bl:=[[⟨ES,1,([FC]:List Int).map (AV.int .i64)⟩],[⟨L5,1,HY.map (AV.int .i64)⟩],[⟨L6,1,JT.map (AV.int .i64)⟩],[⟨DR,1,a0.Ds.map (AV.int .i64)⟩],[⟨DS,1,(bg Dv d55 Eg).set a0.Dr.toNat (L5)⟩],[⟨DT,1,(Eo.set a0.Dr.toNat (IntKind.i64.wrap (I_-FC))).map (AV.int .i64)⟩],[⟨DU,1,(ED.set a0.Dr.toNat (IntKind.i64.wrap (Hl+FC))).map (AV.int .i64)⟩],[⟨.ptr i0 w0 0 0,5,[.agg [DR,DS,DT,DU,.int .i64 Ed]]⟩],(mY Du (AV.int .i64) 1 d55 Eg a0.Dr.toNat)]) (F:=F) hS 9 rfl [1,4,8,0,2,3,5,6,7] (by decide)
     obtain ⟨d100,YH,hS⟩:=Aa (p:=Du) (c:=(AV.int .i64)) (m:=Dv) (b:=JS) (y:=HY) hS KX NA JE;have hS:aq _ (⟨ES,1,([FC]:List Int).map (AV.int .i64)⟩::⟨L6,1,JT.map (AV.int .i64)⟩::⟨DR,1,a0.Ds.map (AV.int .i64)⟩::⟨DS,1,bg Dv d100 (Eg.set a0.Dr.toNat HY)⟩::⟨DT,1,(Eo.set a0.Dr.toNat (IntKind.i64.wrap (I_-FC))).map (AV.int .i64)⟩::⟨DU,1,(ED.set a0.Dr.toNat (IntKind.i64.wrap (Hl+FC))).map (AV.int .i64)⟩::⟨.ptr i0 w0 0 0,5,[.agg [DR,DS,DT,DU,.int .i64 Ed]]⟩::((bG Du (AV.int .i64) 1 d100 (Eg.set a0.Dr.toNat HY)) ++ (F))):=aq.CG (bl:=[[⟨DS,1,bg Dv d100 (Eg.set a0.Dr.toNat HY)⟩],(bG Du (AV.int .i64) 1 d100 (Eg.set a0.Dr.toNat HY)),[⟨ES,1,([FC]:List Int).map (AV.int .i64)⟩],[⟨L6,1,JT.map (AV.int .i64)⟩],[⟨DR,1,a0.Ds.map (AV.int .i64)⟩],[⟨DT,1,(Eo.set a0.Dr.toNat (IntKind.i64.wrap (I_-FC))).map (AV.int .i64)⟩],[⟨DU,1,(ED.set a0.Dr.toNat (IntKind.i64.wrap (Hl+FC))).map (AV.int .i64)⟩],[⟨.ptr i0 w0 0 0,5,[.agg [DR,DS,DT,DU,.int .i64 Ed]]⟩]]) (F:=F) hS 8 rfl [2,3,4,0,5,6,7,1] (by decide)
     have hS:aq _ (⟨L6,1,JT.map (AV.int .i64)⟩::⟨DR,1,a0.Ds.map (AV.int .i64)⟩::⟨DS,1,bg Dv d100 (Eg.set a0.Dr.toNat HY)⟩::⟨DT,1,(Eo.set a0.Dr.toNat (IntKind.i64.wrap (I_-FC))).map (AV.int .i64)⟩::⟨DU,1,(ED.set a0.Dr.toNat (IntKind.i64.wrap (Hl+FC))).map (AV.int .i64)⟩::⟨.ptr i0 w0 0 0,5,[.agg [DR,DS,DT,DU,.int .i64 Ed]]⟩::((bG Du (AV.int .i64) 1 d100 (Eg.set a0.Dr.toNat HY)) ++ (F))):=aq.CG (bl:=[[⟨ES,1,([FC]:List Int).map (AV.int .i64)⟩],[⟨L6,1,JT.map (AV.int .i64)⟩],[⟨DR,1,a0.Ds.map (AV.int .i64)⟩],[⟨DS,1,bg Dv d100 (Eg.set a0.Dr.toNat HY)⟩],[⟨DT,1,(Eo.set a0.Dr.toNat (IntKind.i64.wrap (I_-FC))).map (AV.int .i64)⟩],[⟨DU,1,(ED.set a0.Dr.toNat (IntKind.i64.wrap (Hl+FC))).map (AV.int .i64)⟩],[⟨.ptr i0 w0 0 0,5,[.agg [DR,DS,DT,DU,.int .i64 Ed]]⟩],(bG Du (AV.int .i64) 1 d100 (Eg.set a0.Dr.toNat HY))]) (F:=F) hS 8 rfl [1,2,3,4,5,6,7] (by decide)
     exact BD JY h ⟨_,YG,_,YH,rfl,hS⟩
    ·refine A7 ?_;refine Bb HM ?_;try obtain rfl:=Option.some.inj h
     obtain rfl:=X1 _ rfl;have h:(some (Fa,Eg,Eo,ED):Option ((List Int)×(List (List Int))×(List Int)×(List Int)))=some (Fa,Eg,Eo,ED):=rfl;refine BE JY ?_;refine Be Nu ?_;exact BH Nw ⟨_,_,_,_,(Option.some.inj h).symm,_,GF,_,KX,rfl,hS⟩
  ·obtain ⟨EW,EA,FI,E2,rfl,DC,HN,d39,OW,rfl,hS⟩:=hq;replace h:=X0;try dsimp only at h
   refine A_ J4 ?_;refine AW fun afo YI=> ?_;refine AW fun afp YJ=> ?_;refine Bk gC ?_;try simp only [W,EE,Nat.reduceAdd,Nat.reduceBEq,hS.var 5 rfl]
   obtain ⟨IF,NB,h⟩:=Option.bind_eq_some_iff.1 h;have hS:aq _ (⟨DS,1,bg Dv d39 EA⟩::((bG Du (AV.int .i64) 1 d39 EA) ++ (⟨DC,1,EW.map (AV.int .i64)⟩::⟨DR,1,a0.Ds.map (AV.int .i64)⟩::⟨DT,1,FI.map (AV.int .i64)⟩::⟨DU,1,E2.map (AV.int .i64)⟩::⟨.ptr i0 w0 0 0,5,[.agg [DR,DS,DT,DU,.int .i64 Ed]]⟩::F))):=aq.CG (bl:=[[⟨DC,1,EW.map (AV.int .i64)⟩],[⟨DR,1,a0.Ds.map (AV.int .i64)⟩],[⟨DS,1,bg Dv d39 EA⟩],[⟨DT,1,FI.map (AV.int .i64)⟩],[⟨DU,1,E2.map (AV.int .i64)⟩],[⟨.ptr i0 w0 0 0,5,[.agg [DR,DS,DT,DU,.int .i64 Ed]]⟩],(bG Du (AV.int .i64) 1 d39 EA)]) (F:=F) hS 7 rfl [2,6,0,1,3,4,5] (by decide)
   obtain ⟨G9,OX,hS⟩:=CH (p:=Du) (c:=(AV.int .i64)) (m:=Dv) (b:=IF) hS OW NB;have hS:aq _ (⟨G9,1,IF.map (AV.int .i64)⟩::⟨DC,1,EW.map (AV.int .i64)⟩::⟨DR,1,a0.Ds.map (AV.int .i64)⟩::⟨DS,1,(bg Dv d39 EA).set a0.Dr.toNat (G9)⟩::⟨DT,1,FI.map (AV.int .i64)⟩::⟨DU,1,E2.map (AV.int .i64)⟩::⟨.ptr i0 w0 0 0,5,[.agg [DR,DS,DT,DU,.int .i64 Ed]]⟩::((mY Du (AV.int .i64) 1 d39 EA a0.Dr.toNat) ++ (F))):=aq.CG (bl:=[[⟨G9,1,IF.map (AV.int .i64)⟩],[⟨DS,1,(bg Dv d39 EA).set a0.Dr.toNat (G9)⟩],(mY Du (AV.int .i64) 1 d39 EA a0.Dr.toNat),[⟨DC,1,EW.map (AV.int .i64)⟩],[⟨DR,1,a0.Ds.map (AV.int .i64)⟩],[⟨DT,1,FI.map (AV.int .i64)⟩],[⟨DU,1,E2.map (AV.int .i64)⟩],[⟨.ptr i0 w0 0 0,5,[.agg [DR,DS,DT,DU,.int .i64 Ed]]⟩]]) (F:=F) hS 8 rfl [0,3,4,1,5,6,7,2] (by decide)
   refine CK (x:=G9) 3 hS rfl rfl rfl rfl rfl (gI NB).1 (CO OW NB) J5 (fun afq afr afs afu YK=> ?_);obtain ⟨afv,YL,YM⟩:=YK;try simp only [W,EE,YL,YM,OX.rd]
   refine zi 0 hS rfl OX rfl ?_;try simp only [W,EE]
   refine A_ YJ ?_;obtain ⟨YN,h,YO⟩:=Option.bind_eq_some_iff.1 h;refine BG gC (fun s H=> ∃Kr:List Int,YN=(Kr)∧ ∃d112:List AV,bI d112 (EA).length∧s=(.ptr i0 w0 0 0::u::u::u:: .int .i64 a0.Dr::DC::u::u::u::u::u::u::u::u::u::u::u::u::u::u::u::u::u::u::u::u::u::u::u::u::u::u::u::u::u::u::u::u::u::u::u::u::u::u::u::u::u::u::u::u::u::u::u::u::u::u::u::u::u::u::u::u::u::u::u::u::u::u::u::u::u::u::u::u::u::u::u::u::u::u::u::u::u::u::u::u::u::u::u::u::u::u::u::u::u::u::u::u::u::u::u::u::u::u::u::u::u::u::u::u::u::u::u::u::u::u::u::u::u::u::u::u::u::u::u::u::u::u::u::u::u::u::u::u::u::u::u::u::u::u::u::u::u::u::u::u::u::[])∧aq H (⟨DC,1,EW.map (AV.int .i64)⟩::⟨DR,1,a0.Ds.map (AV.int .i64)⟩::⟨DS,1,bg Dv d112 EA⟩::⟨DT,1,Kr.map (AV.int .i64)⟩::⟨DU,1,E2.map (AV.int .i64)⟩::⟨.ptr i0 w0 0 0,5,[.agg [DR,DS,DT,DU,.int .i64 Ed]]⟩::((bG Du (AV.int .i64) 1 d112 EA) ++ F))) (fun afw Tf=> ?_) (fun s H hq=> ?_)
   ·refine AW fun afx Tg=> ?_;refine A8 ?_;simp only [W];refine Bj h (fun hc h=> ?_) (fun hc h=> ?_)
    ·refine Bk gC ?_;try simp only [W,EE,Nat.reduceAdd,Nat.reduceBEq,hS.var 6 rfl]
     refine Bw 4 hS rfl rfl rfl rfl rfl h (fun afy afz afA afB Th h Ti=> ?_) KV.ne;obtain ⟨afC,afD,afE⟩:=hS.elem 4 rfl Ti Th;try simp only [W]
     refine Bx (a:= .int .i64 0) (y' :=0) 4 hS rfl Ti Th rfl rfl rfl rfl rfl rfl rfl fun H hS=> ?_
     try simp only [W]
     refine A_ Tg ?_;refine C4 (s' :=(.ptr i0 w0 0 0::u::u::u:: .int .i64 a0.Dr::DC::u::u::u::u::u::u::u::u::u::u::u::u::u::u::u::u::u::u::u::u::u::u::u::u::u::u::u::u::u::u::u::u::u::u::u::u::u::u::u::u::u::u::u::u::u::u::u::u::u::u::u::u::u::u::u::u::u::u::u::u::u::u::u::u::u::u::u::u::u::u::u::u::u::u::u::u::u::u::u::u::u::u::u::u::u::u::u::u::u::u::u::u::u::u::u::u::u::u::u::u::u::u::u::u::u::u::u::u::u::u::u::u::u::u::u::u::u::u::u::u::u::u::u::u::u::u::u::u::u::u::u::u::u::u::u::u::u::u::u::u::u::[])) rfl ?_
     have hS:aq _ (⟨G9,1,IF.map (AV.int .i64)⟩::⟨DS,1,(bg Dv d39 EA).set a0.Dr.toNat (G9)⟩::((mY Du (AV.int .i64) 1 d39 EA a0.Dr.toNat) ++ (⟨DC,1,EW.map (AV.int .i64)⟩::⟨DR,1,a0.Ds.map (AV.int .i64)⟩::⟨DT,1,(FI.set a0.Dr.toNat 0).map (AV.int .i64)⟩::⟨DU,1,E2.map (AV.int .i64)⟩::⟨.ptr i0 w0 0 0,5,[.agg [DR,DS,DT,DU,.int .i64 Ed]]⟩::F))):=aq.CG (bl:=[[⟨G9,1,IF.map (AV.int .i64)⟩],[⟨DC,1,EW.map (AV.int .i64)⟩],[⟨DR,1,a0.Ds.map (AV.int .i64)⟩],[⟨DS,1,(bg Dv d39 EA).set a0.Dr.toNat (G9)⟩],[⟨DT,1,(FI.set a0.Dr.toNat 0).map (AV.int .i64)⟩],[⟨DU,1,E2.map (AV.int .i64)⟩],[⟨.ptr i0 w0 0 0,5,[.agg [DR,DS,DT,DU,.int .i64 Ed]]⟩],(mY Du (AV.int .i64) 1 d39 EA a0.Dr.toNat)]) (F:=F) hS 8 rfl [0,3,7,1,2,4,5,6] (by decide)
     obtain ⟨d120,YP,hS⟩:=CN (p:=Du) (c:=(AV.int .i64)) (m:=Dv) (b:=IF) hS OW OX NB;have hS:aq _ (⟨DC,1,EW.map (AV.int .i64)⟩::⟨DR,1,a0.Ds.map (AV.int .i64)⟩::⟨DS,1,bg Dv d120 EA⟩::⟨DT,1,(FI.set a0.Dr.toNat 0).map (AV.int .i64)⟩::⟨DU,1,E2.map (AV.int .i64)⟩::⟨.ptr i0 w0 0 0,5,[.agg [DR,DS,DT,DU,.int .i64 Ed]]⟩::((bG Du (AV.int .i64) 1 d120 EA) ++ (F))):=aq.CG (bl:=[[⟨DS,1,bg Dv d120 EA⟩],(bG Du (AV.int .i64) 1 d120 EA),[⟨DC,1,EW.map (AV.int .i64)⟩],[⟨DR,1,a0.Ds.map (AV.int .i64)⟩],[⟨DT,1,(FI.set a0.Dr.toNat 0).map (AV.int .i64)⟩],[⟨DU,1,E2.map (AV.int .i64)⟩],[⟨.ptr i0 w0 0 0,5,[.agg [DR,DS,DT,DU,.int .i64 Ed]]⟩]]) (F:=F) hS 7 rfl [2,3,0,4,5,6,1] (by decide)
     exact BH Tf ⟨_,(Option.some.inj h).symm,_,YP,rfl,hS⟩
    ·refine AY ?_;refine A_ Tg ?_;refine C4 (s' :=(.ptr i0 w0 0 0::u::u::u:: .int .i64 a0.Dr::DC::u::u::u::u::u::u::u::u::u::u::u::u::u::u::u::u::u::u::u::u::u::u::u::u::u::u::u::u::u::u::u::u::u::u::u::u::u::u::u::u::u::u::u::u::u::u::u::u::u::u::u::u::u::u::u::u::u::u::u::u::u::u::u::u::u::u::u::u::u::u::u::u::u::u::u::u::u::u::u::u::u::u::u::u::u::u::u::u::u::u::u::u::u::u::u::u::u::u::u::u::u::u::u::u::u::u::u::u::u::u::u::u::u::u::u::u::u::u::u::u::u::u::u::u::u::u::u::u::u::u::u::u::u::u::u::u::u::u::u::u::u::[])) rfl ?_
     have hS:aq _ (⟨G9,1,IF.map (AV.int .i64)⟩::⟨DS,1,(bg Dv d39 EA).set a0.Dr.toNat (G9)⟩::((mY Du (AV.int .i64) 1 d39 EA a0.Dr.toNat) ++ (⟨DC,1,EW.map (AV.int .i64)⟩::⟨DR,1,a0.Ds.map (AV.int .i64)⟩::⟨DT,1,FI.map (AV.int .i64)⟩::⟨DU,1,E2.map (AV.int .i64)⟩::⟨.ptr i0 w0 0 0,5,[.agg [DR,DS,DT,DU,.int .i64 Ed]]⟩::F))):=aq.CG (bl:=[[⟨G9,1,IF.map (AV.int .i64)⟩],[⟨DC,1,EW.map (AV.int .i64)⟩],[⟨DR,1,a0.Ds.map (AV.int .i64)⟩],[⟨DS,1,(bg Dv d39 EA).set a0.Dr.toNat (G9)⟩],[⟨DT,1,FI.map (AV.int .i64)⟩],[⟨DU,1,E2.map (AV.int .i64)⟩],[⟨.ptr i0 w0 0 0,5,[.agg [DR,DS,DT,DU,.int .i64 Ed]]⟩],(mY Du (AV.int .i64) 1 d39 EA a0.Dr.toNat)]) (F:=F) hS 8 rfl [0,3,7,1,2,4,5,6] (by decide)
     obtain ⟨d121,YQ,hS⟩:=CN (p:=Du) (c:=(AV.int .i64)) (m:=Dv) (b:=IF) hS OW OX NB;have hS:aq _ (⟨DC,1,EW.map (AV.int .i64)⟩::⟨DR,1,a0.Ds.map (AV.int .i64)⟩::⟨DS,1,bg Dv d121 EA⟩::⟨DT,1,FI.map (AV.int .i64)⟩::⟨DU,1,E2.map (AV.int .i64)⟩::⟨.ptr i0 w0 0 0,5,[.agg [DR,DS,DT,DU,.int .i64 Ed]]⟩::((bG Du (AV.int .i64) 1 d121 EA) ++ (F))):=aq.CG (bl:=[[⟨DS,1,bg Dv d121 EA⟩],(bG Du (AV.int .i64) 1 d121 EA),[⟨DC,1,EW.map (AV.int .i64)⟩],[⟨DR,1,a0.Ds.map (AV.int .i64)⟩],[⟨DT,1,FI.map (AV.int .i64)⟩],[⟨DU,1,E2.map (AV.int .i64)⟩],[⟨.ptr i0 w0 0 0,5,[.agg [DR,DS,DT,DU,.int .i64 Ed]]⟩]]) (F:=F) hS 7 rfl [2,3,0,4,5,6,1] (by decide)
     exact BH Tf ⟨_,(Option.some.inj h).symm,_,YQ,rfl,hS⟩
   ·obtain ⟨Kr,En,d112,YR,rfl,hS⟩:=hq;obtain rfl:=En.symm;replace h:=YO;try dsimp only at h
    refine A_ YI ?_;refine AW fun afF YS=> ?_;refine Bm gC (by kernel_rfl) ?_
    try simp only [W,EE,Nat.reduceAdd,Nat.reduceBEq,hS.var 5 rfl]
    refine Bw 4 hS rfl rfl rfl rfl rfl h (fun LC afG afH afI QX h YT=> ?_) OU.ne;obtain ⟨afJ,YU,YV⟩:=hS.elem 4 rfl YT QX;try simp only [W,EE,YU,YV]
    refine A_ YS ?_;refine AZ ?_;refine Bi DQ rfl rfl ?_;try obtain rfl:=Option.some.inj h
    have hS:aq _ (⟨DC,1,EW.map (AV.int .i64)⟩::⟨.ptr i0 w0 0 0,5,[.agg [DR,DS,DT,DU,.int .i64 Ed]]⟩::⟨DR,1,a0.Ds.map (AV.int .i64)⟩::⟨DS,1,bg Dv d112 EA⟩::⟨DT,1,Kr.map (AV.int .i64)⟩::⟨DU,1,E2.map (AV.int .i64)⟩::((bG Du (AV.int .i64) 1 d112 EA) ++ (F))):=aq.CG (bl:=[[⟨DC,1,EW.map (AV.int .i64)⟩],[⟨DR,1,a0.Ds.map (AV.int .i64)⟩],[⟨DS,1,bg Dv d112 EA⟩],[⟨DT,1,Kr.map (AV.int .i64)⟩],[⟨DU,1,E2.map (AV.int .i64)⟩],[⟨.ptr i0 w0 0 0,5,[.agg [DR,DS,DT,DU,.int .i64 Ed]]⟩],(bG Du (AV.int .i64) 1 d112 EA)]) (F:=F) hS 7 rfl [0,5,1,2,3,4,6] (by decide)
    exact hP _ HN _ QM _ J5 _ YR _ KV _ OU _ hS
theorem YW {a0:DJ} {r:(DJ×List Int×Bool)} (h:MX a0=some r) {F:List It} {H:J} (hS:aq H (F)) {P:AV→J→Prop} (hP: ∀JF:AV,aJ JF→ ∀KJ:AV,aJ KJ→ ∀d55:List AV,bI d55 (r.1.Dq).length→ ∀EL:AV,aJ EL→ ∀KO:AV,aJ KO→ ∀Iv:AV,aJ Iv→ ∀H',aq H' (⟨JF,1,r.1.Ds.map (AV.int .i64)⟩::⟨KJ,1,bg Dv d55 r.1.Dq⟩::⟨EL,1,r.1.Dw.map (AV.int .i64)⟩::⟨KO,1,r.1.Dx.map (AV.int .i64)⟩::⟨Iv,1,r.2.1.map (AV.int .i64)⟩::((bG Du (AV.int .i64) 1 d55 r.1.Dq) ++ F))→P (.aE [.agg [JF,KJ,EL,KO,.int .i64 r.1.Dr],Iv,.bool r.2.2]) H'):aw C 15 [.agg [.fz (a0.Ds.map (AV.int .i64)),.fz (a0.Dq.map (zE (AV.int .i64))),.fz (a0.Dw.map (AV.int .i64)),.fz (a0.Dx.map (AV.int .i64)),.int .i64 a0.Dr]] H P:=by
 refine Bn gC (res:=[.cell 2 26,.tmp 3,.tmp 4]) (n:=23) rfl rfl rfl rfl fun K0 DQ=> ?_;simp only [W,Nat.reduceSub,Nat.reduceAdd,List.replicate];unfold MX at h;refine AW fun K1 D5=> ?_;refine Bk gC ?_;try simp only [W,Nat.reduceAdd]
 refine Br hS rfl rfl rfl rfl fun Dz DA H hS=> ?_;try simp only [W]
 refine Bs hS rfl rfl fun DL DM H hS=> ?_;try simp only [W]
 refine A_ D5 ?_;refine AW fun K6 Fk=> ?_;refine AW fun K7 Fq=> ?_;refine Bk gC ?_;try simp only [W,EE,reduceIte,Nat.reduceAdd,Nat.reduceLeDiff,hS.var 1 rfl]
 refine BB h fun FF Ia h=> ?_;refine KT Ia hS fun H hS=> ?_;try simp only [W]
 refine A_ Fq ?_;refine A8 ?_;simp only [W];refine Bj h (fun hc h=> ?_) (fun hc h=> ?_)
 ·refine AW fun K9 Gs=> ?_;refine Bk gC ?_;try simp only [W,EE,Nat.reduceAdd]
  refine BX rfl rfl rfl rfl rfl ?_;try simp only [W]
  refine Bt (a:= .agg [.nil,.nil,.nil,.nil,.int .i64 0]) (y' := .agg [.nil,.nil,.nil,.nil,.int .i64 0]) 0 hS rfl rfl rfl rfl rfl rfl rfl rfl fun H hS=> ?_
  try simp only [W]
  refine A_ Gs ?_;refine AZ ?_;refine Ba Fk ?_;have hS:=hS.uo 1;have hS:=hS.uo 1;obtain ⟨d12,P8,hS⟩:=CI (p:=Du) (c:=(AV.int .i64)) (z:=1) (m:=Dv) hS;have hS:aq _ (⟨AV.nil,1,bg Dv d12 ([]:List (List Int))⟩::⟨AV.nil,1,([]:List Int).map (AV.int .i64)⟩::⟨.ptr DL DM 0 0,5,[.agg [.nil,.nil,.nil,.nil,.int .i64 0]]⟩::⟨.ptr Dz DA 0 0,5,[.agg [.fz (a0.Ds.map (AV.int .i64)),.fz (a0.Dq.map (zE (AV.int .i64))),.fz (a0.Dw.map (AV.int .i64)),.fz (a0.Dx.map (AV.int .i64)),.int .i64 a0.Dr]]⟩::((bG Du (AV.int .i64) 1 d12 ([]:List (List Int))) ++ (F))):=aq.CG (bl:=[[⟨AV.nil,1,bg Dv d12 ([]:List (List Int))⟩],(bG Du (AV.int .i64) 1 d12 ([]:List (List Int))),[⟨AV.nil,1,([]:List Int).map (AV.int .i64)⟩],[⟨.ptr DL DM 0 0,5,[.agg [.nil,.nil,.nil,.nil,.int .i64 0]]⟩],[⟨.ptr Dz DA 0 0,5,[.agg [.fz (a0.Ds.map (AV.int .i64)),.fz (a0.Dq.map (zE (AV.int .i64))),.fz (a0.Dw.map (AV.int .i64)),.fz (a0.Dx.map (AV.int .i64)),.int .i64 a0.Dr]]⟩]]) (F:=F) hS 5 rfl [0,2,3,4,1] (by decide)
  have hS:=hS.uo 1;have hS:=hS.uo 1;have hS:=hS.uo 1;refine Bg DQ (BU rfl rfl (hS.var 5 rfl) rfl (BV rfl (BV rfl rfl))) ?_;try obtain rfl:=Option.some.inj h
  have hS:aq _ (⟨AV.nil,1,([]:List Int).map (AV.int .i64)⟩::⟨AV.nil,1,bg Dv d12 ([]:List (List Int))⟩::⟨AV.nil,1,([]:List Int).map (AV.int .i64)⟩::⟨AV.nil,1,([]:List Int).map (AV.int .i64)⟩::⟨AV.nil,1,([]:List Int).map (AV.int .i64)⟩::((bG Du (AV.int .i64) 1 d12 ([]:List (List Int))) ++ (F))):=aq.CG (bl:=[[⟨AV.nil,1,([]:List Int).map (AV.int .i64)⟩],[⟨AV.nil,1,([]:List Int).map (AV.int .i64)⟩],[⟨AV.nil,1,([]:List Int).map (AV.int .i64)⟩],[⟨AV.nil,1,bg Dv d12 ([]:List (List Int))⟩],[⟨AV.nil,1,([]:List Int).map (AV.int .i64)⟩],[⟨.ptr DL DM 0 0,5,[.agg [.nil,.nil,.nil,.nil,.int .i64 0]]⟩],[⟨.ptr Dz DA 0 0,5,[.agg [.fz (a0.Ds.map (AV.int .i64)),.fz (a0.Dq.map (zE (AV.int .i64))),.fz (a0.Dw.map (AV.int .i64)),.fz (a0.Dx.map (AV.int .i64)),.int .i64 a0.Dr]]⟩],(bG Du (AV.int .i64) 1 d12 ([]:List (List Int)))]) (F:=F) hS 8 rfl [4,3,2,1,0,7] (by decide)
  exact hP _ lh _ lh _ P8 _ lh _ lh _ lh _ hS
 ·refine AY ?_;refine A_ Fk ?_;refine AW fun HI Fu=> ?_;refine Bk gC ?_;try simp only [W,EE,reduceIte,Nat.reduceAdd,Nat.reduceLeDiff,hS.var 1 rfl]
  refine BB h fun Ew P9 h=> ?_;refine S8 P9 hS fun Ec F2 v20 OA d22 KN FJ Hc D1 GD H hS=> ?_;have hS:aq _ (⟨Ec,1,Ew.Ds.map (AV.int .i64)⟩::⟨v20,1,bg Dv d22 Ew.Dq⟩::⟨FJ,1,Ew.Dw.map (AV.int .i64)⟩::⟨D1,1,Ew.Dx.map (AV.int .i64)⟩::⟨.ptr DL DM 0 0,5,[.agg [.nil,.nil,.nil,.nil,.int .i64 0]]⟩::⟨.ptr Dz DA 0 0,5,[.agg [.fz (a0.Ds.map (AV.int .i64)),.fz (a0.Dq.map (zE (AV.int .i64))),.fz (a0.Dw.map (AV.int .i64)),.fz (a0.Dx.map (AV.int .i64)),.int .i64 a0.Dr]]⟩::((bG Du (AV.int .i64) 1 d22 Ew.Dq) ++ (F))):=aq.CG (bl:=[[⟨Ec,1,Ew.Ds.map (AV.int .i64)⟩],[⟨v20,1,bg Dv d22 Ew.Dq⟩],[⟨FJ,1,Ew.Dw.map (AV.int .i64)⟩],[⟨D1,1,Ew.Dx.map (AV.int .i64)⟩],(bG Du (AV.int .i64) 1 d22 Ew.Dq),[⟨.ptr DL DM 0 0,5,[.agg [.nil,.nil,.nil,.nil,.int .i64 0]]⟩],[⟨.ptr Dz DA 0 0,5,[.agg [.fz (a0.Ds.map (AV.int .i64)),.fz (a0.Dq.map (zE (AV.int .i64))),.fz (a0.Dw.map (AV.int .i64)),.fz (a0.Dx.map (AV.int .i64)),.int .i64 a0.Dr]]⟩]]) (F:=F) hS 7 rfl [0,1,2,3,5,6,4] (by decide)
  try simp only [W]
  refine Bs hS rfl rfl fun D_ Ea H hS=> ?_;try simp only [W]
  refine Bt (a:= .agg [Ec,v20,FJ,D1,.int .i64 Ew.Dr]) (y' := .agg [Ec,v20,FJ,D1,.int .i64 Ew.Dr]) 0 hS rfl rfl rfl rfl rfl (by simp only [di,List.all_cons,List.all_nil,F2.pL,OA.pL,Hc.pL,GD.pL];rfl) rfl rfl fun H hS=> ?_
  try simp only [W]
  refine A_ Fu ?_;refine AW fun M9 HK=> ?_;refine Bk gC ?_;try simp only [W,Nat.reduceAdd]
  have hS:aq _ (⟨.ptr D_ Ea 0 0,5,[.agg [Ec,v20,FJ,D1,.int .i64 Ew.Dr]]⟩::⟨Ec,1,Ew.Ds.map (AV.int .i64)⟩::⟨v20,1,bg Dv d22 Ew.Dq⟩::⟨FJ,1,Ew.Dw.map (AV.int .i64)⟩::⟨D1,1,Ew.Dx.map (AV.int .i64)⟩::((bG Du (AV.int .i64) 1 d22 Ew.Dq) ++ (⟨.ptr DL DM 0 0,5,[.agg [.nil,.nil,.nil,.nil,.int .i64 0]]⟩::⟨.ptr Dz DA 0 0,5,[.agg [.fz (a0.Ds.map (AV.int .i64)),.fz (a0.Dq.map (zE (AV.int .i64))),.fz (a0.Dw.map (AV.int .i64)),.fz (a0.Dx.map (AV.int .i64)),.int .i64 a0.Dr]]⟩::F))):=aq.CG (bl:=[[⟨.ptr D_ Ea 0 0,5,[.agg [Ec,v20,FJ,D1,.int .i64 Ew.Dr]]⟩],[⟨Ec,1,Ew.Ds.map (AV.int .i64)⟩],[⟨v20,1,bg Dv d22 Ew.Dq⟩],[⟨FJ,1,Ew.Dw.map (AV.int .i64)⟩],[⟨D1,1,Ew.Dx.map (AV.int .i64)⟩],[⟨.ptr DL DM 0 0,5,[.agg [.nil,.nil,.nil,.nil,.int .i64 0]]⟩],[⟨.ptr Dz DA 0 0,5,[.agg [.fz (a0.Ds.map (AV.int .i64)),.fz (a0.Dq.map (zE (AV.int .i64))),.fz (a0.Dw.map (AV.int .i64)),.fz (a0.Dx.map (AV.int .i64)),.int .i64 a0.Dr]]⟩],(bG Du (AV.int .i64) 1 d22 Ew.Dq)]) (F:=F) hS 8 rfl [0,1,2,3,4,7,5,6] (by decide)
  refine BB h fun NC YX h=> ?_;obtain ⟨G5,N1,Eu⟩:=NC;try dsimp only at h
  refine XJ YX hS F2 OA KN Hc GD fun DP Hp Gv Tj DF GR d36 YY DC HN EM Jd H hS=> ?_;have hS:aq _ (⟨DP,1,G5.map (AV.int .i64)⟩::⟨.ptr D_ Ea 0 0,5,[.agg [Gv,DF,DC,EM,.int .i64 Eu.Dr]]⟩::⟨Gv,1,Eu.Ds.map (AV.int .i64)⟩::⟨DF,1,bg Dv d36 Eu.Dq⟩::⟨DC,1,Eu.Dw.map (AV.int .i64)⟩::⟨EM,1,Eu.Dx.map (AV.int .i64)⟩::⟨.ptr DL DM 0 0,5,[.agg [.nil,.nil,.nil,.nil,.int .i64 0]]⟩::⟨.ptr Dz DA 0 0,5,[.agg [.fz (a0.Ds.map (AV.int .i64)),.fz (a0.Dq.map (zE (AV.int .i64))),.fz (a0.Dw.map (AV.int .i64)),.fz (a0.Dx.map (AV.int .i64)),.int .i64 a0.Dr]]⟩::((bG Du (AV.int .i64) 1 d36 Eu.Dq) ++ (F))):=aq.CG (bl:=[[⟨DP,1,G5.map (AV.int .i64)⟩],[⟨.ptr D_ Ea 0 0,5,[.agg [Gv,DF,DC,EM,.int .i64 Eu.Dr]]⟩],[⟨Gv,1,Eu.Ds.map (AV.int .i64)⟩],[⟨DF,1,bg Dv d36 Eu.Dq⟩],[⟨DC,1,Eu.Dw.map (AV.int .i64)⟩],[⟨EM,1,Eu.Dx.map (AV.int .i64)⟩],(bG Du (AV.int .i64) 1 d36 Eu.Dq),[⟨.ptr DL DM 0 0,5,[.agg [.nil,.nil,.nil,.nil,.int .i64 0]]⟩],[⟨.ptr Dz DA 0 0,5,[.agg [.fz (a0.Ds.map (AV.int .i64)),.fz (a0.Dq.map (zE (AV.int .i64))),.fz (a0.Dw.map (AV.int .i64)),.fz (a0.Dx.map (AV.int .i64)),.int .i64 a0.Dr]]⟩]]) (F:=F) hS 9 rfl [0,1,2,3,4,5,7,8,6] (by decide)
  try simp only [W]
  refine A_ HK ?_;refine AW fun R9 LN=> ?_;refine AW fun Oh Ju=> ?_;refine Bk gC ?_;try simp only [W,Nat.reduceAdd]
  refine A_ Ju ?_;refine A8 ?_;simp only [W];refine Bj h (fun hc h=> ?_) (fun hc h=> ?_)
  ·refine AW fun Na Iq=> ?_;refine Bk gC ?_;try simp only [W,EE,Nat.reduceAdd]
   refine BX rfl rfl rfl rfl rfl ?_;try simp only [W]
   refine Bt (a:= .agg [.nil,.nil,.nil,.nil,.int .i64 0]) (y' := .agg [.nil,.nil,.nil,.nil,.int .i64 0]) 6 hS rfl rfl rfl rfl rfl rfl rfl rfl fun H hS=> ?_
   try simp only [W]
   refine A_ Iq ?_;refine AZ ?_;refine Ba LN ?_;have hS:=hS.uo 1;have hS:=hS.uo 1;obtain ⟨d46,YZ,hS⟩:=CI (p:=Du) (c:=(AV.int .i64)) (z:=1) (m:=Dv) hS;have hS:aq _ (⟨AV.nil,1,bg Dv d46 ([]:List (List Int))⟩::⟨AV.nil,1,([]:List Int).map (AV.int .i64)⟩::⟨DP,1,G5.map (AV.int .i64)⟩::⟨.ptr D_ Ea 0 0,5,[.agg [Gv,DF,DC,EM,.int .i64 Eu.Dr]]⟩::⟨Gv,1,Eu.Ds.map (AV.int .i64)⟩::⟨DF,1,bg Dv d36 Eu.Dq⟩::⟨DC,1,Eu.Dw.map (AV.int .i64)⟩::⟨EM,1,Eu.Dx.map (AV.int .i64)⟩::⟨.ptr DL DM 0 0,5,[.agg [.nil,.nil,.nil,.nil,.int .i64 0]]⟩::⟨.ptr Dz DA 0 0,5,[.agg [.fz (a0.Ds.map (AV.int .i64)),.fz (a0.Dq.map (zE (AV.int .i64))),.fz (a0.Dw.map (AV.int .i64)),.fz (a0.Dx.map (AV.int .i64)),.int .i64 a0.Dr]]⟩::((bG Du (AV.int .i64) 1 d46 ([]:List (List Int))) ++ (((bG Du (AV.int .i64) 1 d36 Eu.Dq) ++ (F))))):=aq.CG (bl:=[[⟨AV.nil,1,bg Dv d46 ([]:List (List Int))⟩],(bG Du (AV.int .i64) 1 d46 ([]:List (List Int))),[⟨AV.nil,1,([]:List Int).map (AV.int .i64)⟩],[⟨DP,1,G5.map (AV.int .i64)⟩],[⟨.ptr D_ Ea 0 0,5,[.agg [Gv,DF,DC,EM,.int .i64 Eu.Dr]]⟩],[⟨Gv,1,Eu.Ds.map (AV.int .i64)⟩],[⟨DF,1,bg Dv d36 Eu.Dq⟩],[⟨DC,1,Eu.Dw.map (AV.int .i64)⟩],[⟨EM,1,Eu.Dx.map (AV.int .i64)⟩],[⟨.ptr DL DM 0 0,5,[.agg [.nil,.nil,.nil,.nil,.int .i64 0]]⟩],[⟨.ptr Dz DA 0 0,5,[.agg [.fz (a0.Ds.map (AV.int .i64)),.fz (a0.Dq.map (zE (AV.int .i64))),.fz (a0.Dw.map (AV.int .i64)),.fz (a0.Dx.map (AV.int .i64)),.int .i64 a0.Dr]]⟩],(bG Du (AV.int .i64) 1 d36 Eu.Dq)]) (F:=F) hS 12 rfl [0,2,3,4,5,6,7,8,9,10,1,11] (by decide)
   have hS:=hS.uo 1;have hS:=hS.uo 1;have hS:=hS.uo 1;refine Bg DQ (BU rfl rfl (hS.var 11 rfl) rfl (BV rfl (BV rfl rfl))) ?_;try obtain rfl:=Option.some.inj h
   have hS:aq _ (⟨AV.nil,1,([]:List Int).map (AV.int .i64)⟩::⟨AV.nil,1,bg Dv d46 ([]:List (List Int))⟩::⟨AV.nil,1,([]:List Int).map (AV.int .i64)⟩::⟨AV.nil,1,([]:List Int).map (AV.int .i64)⟩::⟨AV.nil,1,([]:List Int).map (AV.int .i64)⟩::((bG Du (AV.int .i64) 1 d46 ([]:List (List Int))) ++ (F))):=aq.CG (bl:=[[⟨AV.nil,1,([]:List Int).map (AV.int .i64)⟩],[⟨AV.nil,1,([]:List Int).map (AV.int .i64)⟩],[⟨AV.nil,1,([]:List Int).map (AV.int .i64)⟩],[⟨AV.nil,1,bg Dv d46 ([]:List (List Int))⟩],[⟨AV.nil,1,([]:List Int).map (AV.int .i64)⟩],[⟨DP,1,G5.map (AV.int .i64)⟩],[⟨.ptr D_ Ea 0 0,5,[.agg [Gv,DF,DC,EM,.int .i64 Eu.Dr]]⟩],[⟨Gv,1,Eu.Ds.map (AV.int .i64)⟩],[⟨DF,1,bg Dv d36 Eu.Dq⟩],[⟨DC,1,Eu.Dw.map (AV.int .i64)⟩],[⟨EM,1,Eu.Dx.map (AV.int .i64)⟩],[⟨.ptr DL DM 0 0,5,[.agg [.nil,.nil,.nil,.nil,.int .i64 0]]⟩],[⟨.ptr Dz DA 0 0,5,[.agg [.fz (a0.Ds.map (AV.int .i64)),.fz (a0.Dq.map (zE (AV.int .i64))),.fz (a0.Dw.map (AV.int .i64)),.fz (a0.Dx.map (AV.int .i64)),.int .i64 a0.Dr]]⟩],(bG Du (AV.int .i64) 1 d46 ([]:List (List Int))),(bG Du (AV.int .i64) 1 d36 Eu.Dq)]) (F:=F) hS 15 rfl [4,3,2,1,0,13] (by decide)
   exact hP _ lh _ lh _ YZ _ lh _ lh _ lh _ hS
  ·refine AY ?_;refine A_ LN ?_;refine AW fun On HM=> ?_;refine Bk gC ?_;try simp only [W,EE,reduceIte,Nat.reduceAdd,Nat.reduceLeDiff,hS.var 1 rfl]
   refine Bt (a:= .agg [Gv,DF,DC,EM,.int .i64 Eu.Dr]) (y' := .agg [Gv,DF,DC,EM,.int .i64 Eu.Dr]) 6 hS rfl rfl rfl rfl rfl (by simp only [di,List.all_cons,List.all_nil,Tj.pL,GR.pL,HN.pL,Jd.pL];rfl) rfl rfl fun H hS=> ?_
   try simp only [W]
   refine A_ HM ?_;refine AZ ?_;refine Bg DQ (BU rfl rfl (hS.var 6 rfl) rfl (BV rfl (BV rfl rfl))) ?_;try obtain rfl:=Option.some.inj h
   have hS:aq _ (⟨Gv,1,Eu.Ds.map (AV.int .i64)⟩::⟨DF,1,bg Dv d36 Eu.Dq⟩::⟨DC,1,Eu.Dw.map (AV.int .i64)⟩::⟨EM,1,Eu.Dx.map (AV.int .i64)⟩::⟨DP,1,G5.map (AV.int .i64)⟩::((bG Du (AV.int .i64) 1 d36 Eu.Dq) ++ (F))):=aq.CG (bl:=[[⟨DP,1,G5.map (AV.int .i64)⟩],[⟨.ptr D_ Ea 0 0,5,[.agg [Gv,DF,DC,EM,.int .i64 Eu.Dr]]⟩],[⟨Gv,1,Eu.Ds.map (AV.int .i64)⟩],[⟨DF,1,bg Dv d36 Eu.Dq⟩],[⟨DC,1,Eu.Dw.map (AV.int .i64)⟩],[⟨EM,1,Eu.Dx.map (AV.int .i64)⟩],[⟨.ptr DL DM 0 0,5,[.agg [Gv,DF,DC,EM,.int .i64 Eu.Dr]]⟩],[⟨.ptr Dz DA 0 0,5,[.agg [.fz (a0.Ds.map (AV.int .i64)),.fz (a0.Dq.map (zE (AV.int .i64))),.fz (a0.Dw.map (AV.int .i64)),.fz (a0.Dx.map (AV.int .i64)),.int .i64 a0.Dr]]⟩],(bG Du (AV.int .i64) 1 d36 Eu.Dq)]) (F:=F) hS 9 rfl [2,3,4,5,0,8] (by decide)
   exact hP _ Tj _ GR _ YY _ HN _ Jd _ Hp _ hS
theorem Tk {a0:List Int} {r:(Int)} (h:LD a0=some r) {F:List It} {H:J} (hS:aq H (F)) {P:AV→J→Prop} (hP: ∀H',aq H' (F)→P (.int .i64 r) H'):aw C 152 [.fz (a0.map (AV.int .i64))] H P:=by
 refine Bn gC (res:=[.tmp 2]) (n:=17) rfl rfl rfl rfl fun K0 DQ=> ?_;simp only [W,Nat.reduceSub,Nat.reduceAdd,List.replicate];unfold LD at h;refine AW fun K1 D5=> ?_;refine Bk gC ?_;try simp only [W,Nat.reduceAdd]
 refine A_ D5 ?_;refine AW fun K2 y7=> ?_;refine Bk gC ?_;try simp only [W,Nat.reduceAdd]
 refine A_ y7 ?_;refine AW fun K3 FV=> ?_;refine AW fun K4 Ez=> ?_;refine Bk gC ?_;try simp only [W,EE,Nat.reduceAdd]
 refine A_ Ez ?_;obtain ⟨Hn,JG,Iw⟩:=Option.bind_eq_some_iff.1 h;refine BG gC (fun s H=> ∃Er:Int,Hn=(Er)∧s=[u,u,u,.int .i64 Er,u,u,u,u,u,u,u,u,u,u,u,u,u]∧aq H (F)) (fun Jc Fi=> ?_) (fun s H hq=> ?_)
 ·refine AX fun IL EC=> ?_;refine BC gC JG (fun x s H=>match x with|(Et,FD)=>s=[u,u,u,.int .i64 Et,u,u,.fz (a0.map (AV.int .i64)),.int .i64 (a0.length:Int),.int .i64 FD,u,u,u,u,u,u,u,u]∧aq H (F)) ⟨rfl,hS⟩ (fun x L7 s H h Ji hi Jt E9=> ?_)
  obtain ⟨Et,FD⟩:=x;try dsimp only at hi
  obtain ⟨rfl,hS⟩:=hi;simp only [N2] at h;refine AW fun HI Fu=> ?_;refine Bk gC ?_;try simp only [W,EE,Nat.reduceAdd]
  refine A_ Fu ?_;refine AW fun Ip Fj=> ?_;refine A8 ?_;simp only [W];refine Bj h (fun hc h=> ?_) (fun hc h=> ?_)
  ·refine AY ?_;refine A_ Fj ?_;refine AW fun IM FM=> ?_;refine AX fun KC G6=> ?_;refine AW fun KE GU=> ?_;refine Bk gC ?_;try simp only [W,EE,Nat.reduceAdd]
   refine Bv rfl rfl rfl (fun _=>rfl) h fun DO OV h=> ?_;try simp only [W,EE]
   refine A_ GU ?_;refine Bk gC ?_;try simp only [W,EE,Nat.reduceAdd]
   refine Bd G6 ?_;refine A_ FM ?_;refine Bk gC ?_;try simp only [W,EE,Nat.reduceAdd]
   exact BD E9 h ⟨rfl,hS⟩
  ·refine A7 ?_;refine Bb Fj ?_;try obtain rfl:=Option.some.inj h
   obtain rfl:=Ji _ rfl;have h:(some (Et):Option (Int))=some (Et):=rfl;refine BE E9 ?_;refine Be EC ?_;exact BH Fi ⟨_,(Option.some.inj h).symm,rfl,hS⟩
 ·obtain ⟨Er,En,rfl,hS⟩:=hq;obtain rfl:=En.symm;replace h:=Iw;try dsimp only at h
  refine A_ FV ?_;refine AW fun JV Gh=> ?_;refine Bk gC ?_;try simp only [W,Nat.reduceAdd]
  refine A_ Gh ?_;refine AZ ?_;refine Bh DQ rfl ?_;try obtain rfl:=Option.some.inj h
  exact hP _ hS
theorem Tl {a0:DJ} {r:(Int×Bool)} (h:LF a0=some r) {F:List It} {H:J} (hS:aq H (F)) {P:AV→J→Prop} (hP: ∀H',aq H' (F)→P (.aE [.int .i64 r.1,.bool r.2]) H'):aw C 17 [.agg [.fz (a0.Ds.map (AV.int .i64)),.fz (a0.Dq.map (zE (AV.int .i64))),.fz (a0.Dw.map (AV.int .i64)),.fz (a0.Dx.map (AV.int .i64)),.int .i64 a0.Dr]] H P:=by
 refine Bn gC (res:=[.tmp 2,.tmp 3]) (n:=10) rfl rfl rfl rfl fun K0 DQ=> ?_;simp only [W,Nat.reduceSub,Nat.reduceAdd,List.replicate];unfold LF at h;refine AW fun K1 D5=> ?_;refine Bk gC ?_;try simp only [W,Nat.reduceAdd]
 refine Br hS rfl rfl rfl rfl fun Dz DA H hS=> ?_;try simp only [W]
 refine A_ D5 ?_;refine AW fun K4 Ez=> ?_;refine AW fun K5 FA=> ?_;refine Bk gC ?_;try simp only [W,EE,reduceIte,Nat.reduceAdd,Nat.reduceLeDiff,hS.var 0 rfl]
 refine BB h fun Dt GQ h=> ?_;refine KT GQ hS fun H hS=> ?_;try simp only [W]
 refine A_ FA ?_;refine A8 ?_;simp only [W];refine Bj h (fun hc h=> ?_) (fun hc h=> ?_)
 ·refine AW fun K7 Fq=> ?_;refine Bk gC ?_;try simp only [W,Nat.reduceAdd]
  refine A_ Fq ?_;refine AZ ?_;refine Ba Ez ?_;refine Bi DQ rfl rfl ?_;try obtain rfl:=Option.some.inj h
  exact hP _ (hS.BT 1 [] (by decide))
 ·refine AY ?_;refine A_ Ez ?_;refine AW fun K8 GP=> ?_;refine Bk gC ?_;try simp only [W,EE,Nat.reduceAdd,Nat.reduceBEq,hS.var 0 rfl]
  refine BB h fun Ek KZ h=> ?_;refine Tk KZ hS fun H hS=> ?_;try simp only [W]
  refine A_ GP ?_;refine AZ ?_;refine Bi DQ rfl rfl ?_;try obtain rfl:=Option.some.inj h
  exact hP _ (hS.BT 1 [] (by decide))
theorem Tm {a0:List Int} {r:(Int)} (h:LG a0=some r) {F:List It} {H:J} (hS:aq H (F)) {P:AV→J→Prop} (hP: ∀H',aq H' (F)→P (.int .i64 r) H'):aw C 153 [.fz (a0.map (AV.int .i64))] H P:=by
 refine Bn gC (res:=[.tmp 2]) (n:=17) rfl rfl rfl rfl fun K0 DQ=> ?_;simp only [W,Nat.reduceSub,Nat.reduceAdd,List.replicate];unfold LG at h;refine AW fun K1 D5=> ?_;refine Bk gC ?_;try simp only [W,Nat.reduceAdd]
 refine A_ D5 ?_;refine AW fun K2 y7=> ?_;refine Bk gC ?_;try simp only [W,Nat.reduceAdd]
 refine A_ y7 ?_;refine AW fun K3 FV=> ?_;refine AW fun K4 Ez=> ?_;refine Bk gC ?_;try simp only [W,EE,Nat.reduceAdd]
 refine A_ Ez ?_;obtain ⟨Hn,JG,Iw⟩:=Option.bind_eq_some_iff.1 h;refine BG gC (fun s H=> ∃Er:Int,Hn=(Er)∧s=[u,u,u,.int .i64 Er,u,u,u,u,u,u,u,u,u,u,u,u,u]∧aq H (F)) (fun Jc Fi=> ?_) (fun s H hq=> ?_)
 ·refine AX fun IL EC=> ?_;refine BC gC JG (fun x s H=>match x with|(Et,FD)=>s=[u,u,u,.int .i64 Et,u,u,.fz (a0.map (AV.int .i64)),.int .i64 (a0.length:Int),.int .i64 FD,u,u,u,u,u,u,u,u]∧aq H (F)) ⟨rfl,hS⟩ (fun x L7 s H h Ji hi Jt E9=> ?_)
  obtain ⟨Et,FD⟩:=x;try dsimp only at hi
  obtain ⟨rfl,hS⟩:=hi;simp only [Pj] at h;refine AW fun HI Fu=> ?_;refine Bk gC ?_;try simp only [W,EE,Nat.reduceAdd]
  refine A_ Fu ?_;refine AW fun Ip Fj=> ?_;refine A8 ?_;simp only [W];refine Bj h (fun hc h=> ?_) (fun hc h=> ?_)
  ·refine AY ?_;refine A_ Fj ?_;refine AW fun IM FM=> ?_;refine AX fun KC G6=> ?_;refine AW fun KE GU=> ?_;refine Bk gC ?_;try simp only [W,EE,Nat.reduceAdd]
   refine Bv rfl rfl rfl (fun _=>rfl) h fun DO OV h=> ?_;try simp only [W,EE]
   refine A_ GU ?_;refine Bk gC ?_;try simp only [W,EE,Nat.reduceAdd]
   refine Bd G6 ?_;refine A_ FM ?_;refine Bk gC ?_;try simp only [W,EE,Nat.reduceAdd]
   exact BD E9 h ⟨rfl,hS⟩
  ·refine A7 ?_;refine Bb Fj ?_;try obtain rfl:=Option.some.inj h
   obtain rfl:=Ji _ rfl;have h:(some (Et):Option (Int))=some (Et):=rfl;refine BE E9 ?_;refine Be EC ?_;exact BH Fi ⟨_,(Option.some.inj h).symm,rfl,hS⟩
 ·obtain ⟨Er,En,rfl,hS⟩:=hq;obtain rfl:=En.symm;replace h:=Iw;try dsimp only at h
  refine A_ FV ?_;refine AW fun JV Gh=> ?_;refine Bk gC ?_;try simp only [W,Nat.reduceAdd]
  refine A_ Gh ?_;refine AZ ?_;refine Bh DQ rfl ?_;try obtain rfl:=Option.some.inj h
  exact hP _ hS
theorem Y0 {a0:DJ} {r:(Int×Bool)} (h:MY a0=some r) {F:List It} {H:J} (hS:aq H (F)) {P:AV→J→Prop} (hP: ∀H',aq H' (F)→P (.aE [.int .i64 r.1,.bool r.2]) H'):aw C 18 [.agg [.fz (a0.Ds.map (AV.int .i64)),.fz (a0.Dq.map (zE (AV.int .i64))),.fz (a0.Dw.map (AV.int .i64)),.fz (a0.Dx.map (AV.int .i64)),.int .i64 a0.Dr]] H P:=by
 refine Bn gC (res:=[.tmp 2,.tmp 3]) (n:=10) rfl rfl rfl rfl fun K0 DQ=> ?_;simp only [W,Nat.reduceSub,Nat.reduceAdd,List.replicate];unfold MY at h;refine AW fun K1 D5=> ?_;refine Bk gC ?_;try simp only [W,Nat.reduceAdd]
 refine Br hS rfl rfl rfl rfl fun Dz DA H hS=> ?_;try simp only [W]
 refine A_ D5 ?_;refine AW fun K4 Ez=> ?_;refine AW fun K5 FA=> ?_;refine Bk gC ?_;try simp only [W,EE,reduceIte,Nat.reduceAdd,Nat.reduceLeDiff,hS.var 0 rfl]
 refine BB h fun Dt GQ h=> ?_;refine Ni GQ hS fun H hS=> ?_;try simp only [W]
 refine A_ FA ?_;refine A8 ?_;simp only [W];refine Bj h (fun hc h=> ?_) (fun hc h=> ?_)
 ·refine AW fun K7 Fq=> ?_;refine Bk gC ?_;try simp only [W,Nat.reduceAdd]
  refine A_ Fq ?_;refine AZ ?_;refine Ba Ez ?_;refine Bi DQ rfl rfl ?_;try obtain rfl:=Option.some.inj h
  exact hP _ (hS.BT 1 [] (by decide))
 ·refine AY ?_;refine A_ Ez ?_;refine AW fun K8 GP=> ?_;refine Bk gC ?_;try simp only [W,EE,Nat.reduceAdd,Nat.reduceBEq,hS.var 0 rfl]
  refine BB h fun Ek KZ h=> ?_;refine Tm KZ hS fun H hS=> ?_;try simp only [W]
  refine A_ GP ?_;refine AZ ?_;refine Bi DQ rfl rfl ?_;try obtain rfl:=Option.some.inj h
  exact hP _ (hS.BT 1 [] (by decide))
theorem Y1 {a1:Int} {r:(List Int)} (h:MZ a1=some r) {F:List It} {H:J} (hS:aq H (F)) {P:AV→J→Prop} (hP: ∀D1:AV,aJ D1→ ∀H',aq H' (⟨D1,1,r.map (AV.int .i64)⟩::F)→P (D1) H'):aw C 279 [.nil,.int .i64 a1] H P:=by
 refine Bn gC (res:=[.tmp 4]) (n:=27) rfl rfl rfl rfl fun K0 DQ=> ?_;simp only [W,Nat.reduceSub,Nat.reduceAdd,List.replicate];unfold MZ at h;refine AW fun K1 D5=> ?_;refine Bk gC ?_;try simp only [W,Nat.reduceAdd]
 refine A_ D5 ?_;refine AW fun K2 y7=> ?_;refine AW fun K3 FV=> ?_;refine Bk gC ?_;try simp only [W,EE,Nat.reduceAdd]
 refine A_ FV ?_;obtain ⟨Y2,h,g5⟩:=Option.bind_eq_some_iff.1 h;refine BG gC (fun s H=>Y2=()∧s=[.nil,.int .i64 a1,u,u,u,u,u,u,u,u,u,u,u,u,u,u,u,u,u,u,u,u,u,u,u,u,u]∧aq H (F)) (fun K6 Fk=> ?_) (fun s H hq=> ?_)
 ·refine AW fun K7 Fq=> ?_;refine A8 ?_;simp only [W];refine Bj h (fun hc h=> ?_) (fun hc h=> ?_)
  ·refine Bk gC ?_;try simp only [W,Nat.reduceAdd]
   exact absurd h (by simp)
  ·refine AY ?_;refine A_ Fq ?_;refine A9 ?_;exact BH Fk ⟨(Option.some.inj h).symm,rfl,hS⟩
 ·obtain ⟨rfl,rfl,hS⟩:=hq;replace h:=g5;try dsimp only at h
  refine A_ y7 ?_;refine AW fun K8 GP=> ?_;refine AW fun K9 Gs=> ?_;refine Bk gC ?_;try simp only [W,Nat.reduceAdd]
  refine CX rfl rfl rfl ?_;try simp only [W,EE]
  refine A_ Gs ?_;refine AW fun Jc Fi=> ?_;refine Bk gC ?_;try simp only [W,EE,Nat.reduceAdd]
  refine A_ Fi ?_;obtain ⟨L7,h,Iw⟩:=Option.bind_eq_some_iff.1 h;refine BG gC (fun s H=> ∃GX:List Int,L7=(GX)∧ ∃DH:AV,aJ DH∧s=[DH,u,u,u,u,u,u,u,u,u,u,u,u,u,u,u,u,u,u,u,u,u,u,u,u,u,u]∧aq H (⟨DH,1,GX.map (AV.int .i64)⟩::F)) (fun HI Fu=> ?_) (fun s H hq=> ?_)
  ·refine AW fun Ip Fj=> ?_;refine A8 ?_;simp only [W];refine Bj h (fun hc h=> ?_) (fun hc h=> ?_)
   ·refine Bk gC ?_;try simp only [W,Nat.reduceAdd]
    refine CX rfl rfl rfl ?_;try simp only [W,EE]
    refine CY rfl rfl rfl rfl rfl ?_;try simp only [W,EE]
    refine C3 (c:=(AV.int .i64)) hS rfl rfl rfl rfl rfl rfl h fun Ec H GB F2 hm h hS=> ?_;try simp only [W,EE]
    refine BN 0 hS rfl F2 rfl rfl rfl h fun J2 HZ Y3 afK h hS=> ?_;try simp only [W]
    refine A_ Fj ?_;refine A9 ?_;exact BH Fu ⟨_,(Option.some.inj h).symm,_,Y3,rfl,hS⟩
   ·refine AY ?_;refine A_ Fj ?_;refine A9 ?_;exact BH Fu ⟨_,(Option.some.inj h).symm,_,lh,rfl,(hS.uo 1)⟩
  ·obtain ⟨GX,En,DH,If,rfl,hS⟩:=hq;obtain rfl:=En.symm;replace h:=Iw;try dsimp only at h
   refine A_ GP ?_;refine AW fun JV Gh=> ?_;refine Bk gC ?_;try simp only [W,Nat.reduceAdd]
   refine A_ Gh ?_;refine AZ ?_;refine Bh DQ rfl ?_;try obtain rfl:=Option.some.inj h
   exact hP _ If _ hS
theorem Y4 {a0:List (List Int)} {r:(List Int)} (h:M0 a0=some r) {F:List It} {H:J} (hS:aq H (F)) {P:AV→J→Prop} (hP: ∀G7:AV,aJ G7→ ∀H',aq H' (⟨G7,1,r.map (AV.int .i64)⟩::F)→P (G7) H'):aw C 154 [.fz (a0.map (zE (AV.int .i64)))] H P:=by
 refine Bn gC (res:=[.tmp 2]) (n:=36) rfl rfl rfl rfl fun K0 DQ=> ?_;simp only [W,Nat.reduceSub,Nat.reduceAdd,List.replicate];unfold M0 at h;refine AW fun K1 D5=> ?_;refine Bk gC ?_;try simp only [W,Nat.reduceAdd]
 refine A_ D5 ?_;refine AW fun K2 y7=> ?_;refine Bk gC ?_;try simp only [W,Nat.reduceAdd]
 refine A_ y7 ?_;refine AW fun K3 FV=> ?_;refine AW fun K4 Ez=> ?_;refine Bk gC ?_;try simp only [W,EE,Nat.reduceAdd]
 refine A_ Ez ?_;obtain ⟨Hn,JG,Iw⟩:=Option.bind_eq_some_iff.1 h;refine BG gC (fun s H=> ∃Er:Int,Hn=(Er)∧s=[.fz (a0.map (zE (AV.int .i64))),u,u,.int .i64 Er,u,u,u,u,u,u,u,u,u,u,u,u,u,u,u,u,u,u,u,u,u,u,u,u,u,u,u,u,u,u,u,u]∧aq H (F)) (fun Jc Fi=> ?_) (fun s H hq=> ?_)
 ·refine AX fun IL EC=> ?_;refine BC gC JG (fun x s H=>match x with|(Et,FD)=>s=[.fz (a0.map (zE (AV.int .i64))),u,u,.int .i64 Et,u,u,u,u,u,.fz (a0.map (zE (AV.int .i64))),.int .i64 (a0.length:Int),.int .i64 FD,u,u,u,u,u,u,u,u,u,u,u,u,u,u,u,u,u,u,u,u,u,u,u,u]∧aq H (F)) ⟨rfl,hS⟩ (fun x L7 s H h Ji hi Jt E9=> ?_)
  obtain ⟨Et,FD⟩:=x;try dsimp only at hi
  obtain ⟨rfl,hS⟩:=hi;simp only [N3] at h;refine AW fun HI Fu=> ?_;refine Bk gC ?_;try simp only [W,EE,Nat.reduceAdd]
  refine A_ Fu ?_;refine AW fun Ip Fj=> ?_;refine A8 ?_;simp only [W];refine Bj h (fun hc h=> ?_) (fun hc h=> ?_)
  ·refine AY ?_;refine A_ Fj ?_;refine AW fun IM FM=> ?_;obtain ⟨PE,h,Y5⟩:=Option.bind_eq_some_iff.1 h;refine BG gC (fun s H=> ∃GB:Int,PE=(GB)∧s=[.fz (a0.map (zE (AV.int .i64))),u,u,.int .i64 GB,u,u,u,u,u,.fz (a0.map (zE (AV.int .i64))),.int .i64 (a0.length:Int),.int .i64 FD,u,u,u,u,u,u,u,u,u,u,u,u,u,u,u,u,u,u,u,u,u,u,u,u]∧aq H (F)) (fun Od IN=> ?_) (fun s H hq=> ?_)
   ·refine AX fun KC G6=> ?_;refine AW fun JV Gh=> ?_;refine Bk gC ?_;try simp only [W,EE,Nat.reduceAdd]
    refine Bv rfl rfl rfl (fun _=>rfl) h fun Ks afL h=> ?_;try simp only [W,EE,EN]
    refine A_ Gh ?_;refine AW fun Xu QJ=> ?_;refine Bk gC ?_;try simp only [W,EE,Nat.reduceAdd]
    refine A_ QJ ?_;refine AW fun QK J4=> ?_;refine Bk gC ?_;try simp only [W,EE,Nat.reduceAdd]
    refine A_ J4 ?_;obtain ⟨Y6,h,Y7⟩:=Option.bind_eq_some_iff.1 h;refine BG gC (fun s H=>Y6=()∧s=[.fz (a0.map (zE (AV.int .i64))),u,u,.int .i64 (IntKind.i64.wrap (Et+(Ks.length:Int))),u,u,u,u,u,.fz (a0.map (zE (AV.int .i64))),.int .i64 (a0.length:Int),.int .i64 FD,u,u,u,u,u,u,u,u,u,u,u,u,u,u,u,u,u,u,u,u,u,u,u,u]∧aq H (F)) (fun M_ H8=> ?_) (fun s H hq=> ?_)
    ·refine AW fun Og IP=> ?_;refine A8 ?_;simp only [W];refine Bj h (fun hc h=> ?_) (fun hc h=> ?_)
     ·refine Bk gC ?_;try simp only [W,Nat.reduceAdd]
      exact absurd h (by simp)
     ·refine AY ?_;refine A_ IP ?_;refine A9 ?_;exact BH H8 ⟨(Option.some.inj h).symm,rfl,hS⟩
    ·obtain ⟨rfl,rfl,hS⟩:=hq;replace h:=Y7;try dsimp only at h
     refine Bc G6 ?_;exact BH IN ⟨_,(Option.some.inj h).symm,rfl,hS⟩
   ·obtain ⟨GB,En,rfl,hS⟩:=hq;obtain rfl:=En.symm;replace h:=Y5;try dsimp only at h
    refine A_ FM ?_;refine Bk gC ?_;try simp only [W,EE,Nat.reduceAdd]
    exact BD E9 h ⟨rfl,hS⟩
  ·refine A7 ?_;refine Bb Fj ?_;try obtain rfl:=Option.some.inj h
   obtain rfl:=Ji _ rfl;have h:(some (Et):Option (Int))=some (Et):=rfl;refine BE E9 ?_;refine Be EC ?_;exact BH Fi ⟨_,(Option.some.inj h).symm,rfl,hS⟩
 ·obtain ⟨Er,En,rfl,hS⟩:=hq;obtain rfl:=En.symm;replace h:=Iw;try dsimp only at h
  refine A_ FV ?_;refine AW fun R8 Nk=> ?_;refine Bk gC ?_;try simp only [W,Nat.reduceAdd]
  refine BB h fun LH Tn h=> ?_;refine Y1 Tn hS fun J6 Y8 H hS=> ?_;try simp only [W]
  refine A_ Nk ?_;refine AW fun Xy OT=> ?_;refine AW fun PI Jf=> ?_;refine Bk gC ?_;try simp only [W,EE,Nat.reduceAdd]
  refine A_ Jf ?_;obtain ⟨Y9,Y_,Za⟩:=Option.bind_eq_some_iff.1 h;refine BG gC (fun s H=> ∃HV:List Int,Y9=(HV)∧ ∃OY:AV,aJ OY∧s=[u,u,u,u,u,u,OY,u,u,u,u,u,u,u,u,u,u,u,u,u,u,u,u,u,u,u,u,u,u,u,u,u,u,u,u,u]∧aq H (⟨OY,1,HV.map (AV.int .i64)⟩::F)) (fun VY OE=> ?_) (fun s H hq=> ?_)
  ·refine AX fun XC LZ=> ?_;refine BC gC Y_ (fun x s H=>match x with|(FI,Gr)=> ∃Jj:AV,aJ Jj∧s=[u,u,u,u,u,u,Jj,u,u,u,u,u,u,u,u,u,u,u,u,u,u,u,u,u,u,.fz (a0.map (zE (AV.int .i64))),.int .i64 (a0.length:Int),.int .i64 Gr,u,u,u,u,u,u,u,u]∧aq H (⟨Jj,1,FI.map (AV.int .i64)⟩::F)) ⟨_,Y8,rfl,hS⟩ (fun x y52 s H h Zb hi On HM=> ?_)
   obtain ⟨FI,Gr⟩:=x;try dsimp only at hi
   obtain ⟨Jj,OZ,rfl,hS⟩:=hi;simp only [N4] at h;refine AW fun Uz Oj=> ?_;refine Bk gC ?_;try simp only [W,EE,Nat.reduceAdd]
   refine A_ Oj ?_;refine AW fun K55 To=> ?_;refine A8 ?_;simp only [W];refine Bj h (fun hc h=> ?_) (fun hc h=> ?_)
   ·refine AY ?_;refine A_ To ?_;refine AW fun Vc Ov=> ?_;refine AX fun Vd Ox=> ?_;refine AW fun S7 L3=> ?_;refine Bk gC ?_;try simp only [W,EE,Nat.reduceAdd]
    refine Bv rfl rfl rfl (fun _=>rfl) h fun Kd afM h=> ?_;try simp only [W,EE,EN]
    refine A_ L3 ?_;refine Bk gC ?_;try simp only [W,EE,Nat.reduceAdd]
    refine BO (l:=FI) (c:=(AV.int .i64)) 0 hS rfl OZ rfl rfl rfl rfl (fun _=>rfl) rfl h fun Ey H Ry KP hm h hS=> ?_;try simp only [W]
    refine Bd Ox ?_;refine A_ Ov ?_;refine Bk gC ?_;try simp only [W,EE,Nat.reduceAdd]
    exact BD HM h ⟨_,KP,rfl,hS⟩
   ·refine A7 ?_;refine Bb To ?_;try obtain rfl:=Option.some.inj h
    obtain rfl:=Zb _ rfl;have h:(some (FI):Option ((List Int)))=some (FI):=rfl;refine BE HM ?_;refine Be LZ ?_;exact BH OE ⟨_,(Option.some.inj h).symm,_,OZ,rfl,hS⟩
  ·obtain ⟨HV,En,OY,Zc,rfl,hS⟩:=hq;obtain rfl:=En.symm;replace h:=Za;try dsimp only at h
   refine A_ OT ?_;refine AW fun XF QL=> ?_;refine Bk gC ?_;try simp only [W,Nat.reduceAdd]
   refine A_ QL ?_;refine AZ ?_;refine Bh DQ rfl ?_;try obtain rfl:=Option.some.inj h
   exact hP _ Zc _ hS
theorem Tp {a0:DJ} {r:(Int×Bool)} (h:LI a0=some r) {F:List It} {H:J} (hS:aq H (F)) {P:AV→J→Prop} (hP: ∀H',aq H' (F)→P (.aE [.int .i64 r.1,.bool r.2]) H'):aw C 19 [.agg [.fz (a0.Ds.map (AV.int .i64)),.fz (a0.Dq.map (zE (AV.int .i64))),.fz (a0.Dw.map (AV.int .i64)),.fz (a0.Dx.map (AV.int .i64)),.int .i64 a0.Dr]] H P:=by
 refine Bn gC (res:=[.tmp 2,.tmp 3]) (n:=11) rfl rfl rfl rfl fun K0 DQ=> ?_;simp only [W,Nat.reduceSub,Nat.reduceAdd,List.replicate];unfold LI at h;refine AW fun K1 D5=> ?_;refine Bk gC ?_;try simp only [W,Nat.reduceAdd]
 refine Br hS rfl rfl rfl rfl fun Dz DA H hS=> ?_;try simp only [W]
 refine A_ D5 ?_;refine AW fun K4 Ez=> ?_;refine AW fun K5 FA=> ?_;refine Bk gC ?_;try simp only [W,EE,reduceIte,Nat.reduceAdd,Nat.reduceLeDiff,hS.var 0 rfl]
 refine BB h fun Dt GQ h=> ?_;refine KT GQ hS fun H hS=> ?_;try simp only [W]
 refine A_ FA ?_;refine A8 ?_;simp only [W];refine Bj h (fun hc h=> ?_) (fun hc h=> ?_)
 ·refine AW fun K7 Fq=> ?_;refine Bk gC ?_;try simp only [W,Nat.reduceAdd]
  refine A_ Fq ?_;refine AZ ?_;refine Ba Ez ?_;refine Bi DQ rfl rfl ?_;try obtain rfl:=Option.some.inj h
  exact hP _ (hS.BT 1 [] (by decide))
 ·refine AY ?_;refine A_ Ez ?_;refine AW fun K8 GP=> ?_;refine Bk gC ?_;try simp only [W,EE,Nat.reduceAdd,Nat.reduceBEq,hS.var 0 rfl]
  refine BB h fun Ek KZ h=> ?_;refine Y4 KZ hS fun v10 KU H hS=> ?_;try simp only [W]
  refine Co (b5:=[[.sc]]) (ys:=[.fz (Ek.map (AV.int .i64))]) h rfl (Cc (Ca hS 0 rfl KU (fun _=>rfl)) Cb) fun FG Ho h=>⟨.int .i64 FG,Tk Ho (aq.nil _) fun H hS=>Ch rfl (Ce rfl (Cd rfl)),⟨rfl,rfl,fun _=>rfl⟩,?_⟩;try simp only [W]
  refine A_ GP ?_;refine AZ ?_;refine Bi DQ rfl rfl ?_;try obtain rfl:=Option.some.inj h
  exact hP _ (hS.BT 2 [] (by decide))
theorem Zd {a0:DJ} {r:(Int)} (h:N6 a0=some r) {F:List It} {H:J} (hS:aq H (F)) {P:AV→J→Prop} (hP: ∀H',aq H' (F)→P (.int .i64 r) H'):aw C 155 [.agg [.fz (a0.Ds.map (AV.int .i64)),.fz (a0.Dq.map (zE (AV.int .i64))),.fz (a0.Dw.map (AV.int .i64)),.fz (a0.Dx.map (AV.int .i64)),.int .i64 a0.Dr]] H P:=by
 refine Bn gC (res:=[.tmp 2]) (n:=19) rfl rfl rfl rfl fun K0 DQ=> ?_;simp only [W,Nat.reduceSub,Nat.reduceAdd,List.replicate];unfold N6 at h;refine AW fun K1 D5=> ?_;refine Bk gC ?_;try simp only [W,Nat.reduceAdd]
 refine Br hS rfl rfl rfl rfl fun Dz DA H hS=> ?_;try simp only [W]
 refine A_ D5 ?_;refine AW fun K4 Ez=> ?_;refine Bk gC ?_;try simp only [W,Nat.reduceAdd]
 refine A_ Ez ?_;refine AW fun K5 FA=> ?_;refine AW fun K6 Fk=> ?_;refine Bk gC ?_;try simp only [W,EE,Nat.reduceAdd,Nat.reduceBEq,hS.var 0 rfl]
 refine A_ Fk ?_;obtain ⟨Ze,Zf,Zg⟩:=Option.bind_eq_some_iff.1 h;refine BG gC (fun s H=> ∃M1:Int,Ze=(M1)∧s=[u,u,u,.int .i64 M1,u,u,u,u,u,u,u,u,u,u,u,u,u,u,u]∧aq H (F)) (fun Jt E9=> ?_) (fun s H hq=> ?_)
 ·refine AX fun Oa Jb=> ?_;refine BC gC Zf (fun x s H=>match x with|(Er,D9)=>s=[u,u,u,.int .i64 Er,u,u,u,.fz (a0.Dq.map (zE (AV.int .i64))),.int .i64 (a0.Dq.length:Int),.int .i64 D9,u,u,u,u,u,u,u,u,u]∧aq H (F)) ⟨rfl,(hS.BT 1 [] (by decide))⟩ (fun x y16 s H h Zh hi LL Hb=> ?_)
  obtain ⟨Er,D9⟩:=x;try dsimp only at hi
  obtain ⟨rfl,hS⟩:=hi;simp only [N5] at h;refine AW fun IM FM=> ?_;refine Bk gC ?_;try simp only [W,EE,Nat.reduceAdd]
  refine A_ FM ?_;refine AW fun KC G6=> ?_;refine A8 ?_;simp only [W];refine Bj h (fun hc h=> ?_) (fun hc h=> ?_)
  ·refine AY ?_;refine A_ G6 ?_;refine AW fun KE GU=> ?_;refine AX fun KD GS=> ?_;refine AW fun JU Gg=> ?_;refine Bk gC ?_;try simp only [W,EE,Nat.reduceAdd]
   refine Bv rfl rfl rfl (fun _=>rfl) h fun D0 JW h=> ?_;try simp only [W,EE,EN]
   refine A_ Gg ?_;refine Bk gC ?_;try simp only [W,Nat.reduceAdd]
   refine BB h fun DX Nt h=> ?_;refine Tm Nt hS fun H hS=> ?_;try simp only [W,EE]
   refine Bd GS ?_;refine A_ GU ?_;refine Bk gC ?_;try simp only [W,EE,Nat.reduceAdd]
   exact BD Hb h ⟨rfl,hS⟩
  ·refine A7 ?_;refine Bb G6 ?_;try obtain rfl:=Option.some.inj h
   obtain rfl:=Zh _ rfl;have h:(some (Er):Option (Int))=some (Er):=rfl;refine BE Hb ?_;refine Be Jb ?_;exact BH E9 ⟨_,(Option.some.inj h).symm,rfl,hS⟩
 ·obtain ⟨M1,En,rfl,hS⟩:=hq;obtain rfl:=En.symm;replace h:=Zg;try dsimp only at h
  refine A_ FA ?_;refine AW fun QK J4=> ?_;refine Bk gC ?_;try simp only [W,Nat.reduceAdd]
  refine A_ J4 ?_;refine AZ ?_;refine Bh DQ rfl ?_;try obtain rfl:=Option.some.inj h
  exact hP _ hS
theorem Zi {a0:DJ} {r:(Int×Bool)} (h:M2 a0=some r) {F:List It} {H:J} (hS:aq H (F)) {P:AV→J→Prop} (hP: ∀H',aq H' (F)→P (.aE [.int .i64 r.1,.bool r.2]) H'):aw C 20 [.agg [.fz (a0.Ds.map (AV.int .i64)),.fz (a0.Dq.map (zE (AV.int .i64))),.fz (a0.Dw.map (AV.int .i64)),.fz (a0.Dx.map (AV.int .i64)),.int .i64 a0.Dr]] H P:=by
 refine Bn gC (res:=[.tmp 2,.tmp 3]) (n:=9) rfl rfl rfl rfl fun K0 DQ=> ?_;simp only [W,Nat.reduceSub,Nat.reduceAdd,List.replicate];unfold M2 at h;refine AW fun K1 D5=> ?_;refine Bk gC ?_;try simp only [W,Nat.reduceAdd]
 refine Br hS rfl rfl rfl rfl fun Dz DA H hS=> ?_;try simp only [W]
 refine A_ D5 ?_;refine AW fun K4 Ez=> ?_;refine AW fun K5 FA=> ?_;refine Bk gC ?_;try simp only [W,EE,reduceIte,Nat.reduceAdd,Nat.reduceLeDiff,hS.var 0 rfl]
 refine BB h fun Dt GQ h=> ?_;refine Ni GQ hS fun H hS=> ?_;try simp only [W]
 refine A_ FA ?_;refine A8 ?_;simp only [W];refine Bj h (fun hc h=> ?_) (fun hc h=> ?_)
 ·refine AW fun K7 Fq=> ?_;refine Bk gC ?_;try simp only [W,Nat.reduceAdd]
  refine A_ Fq ?_;refine AZ ?_;refine Ba Ez ?_;refine Bi DQ rfl rfl ?_;try obtain rfl:=Option.some.inj h
  exact hP _ (hS.BT 1 [] (by decide))
 ·refine AY ?_;refine A_ Ez ?_;refine AW fun K8 GP=> ?_;refine Bk gC ?_;try simp only [W,EE,reduceIte,Nat.reduceAdd,Nat.reduceLeDiff,hS.var 0 rfl]
  refine BB h fun Ek KZ h=> ?_;refine Zd KZ hS fun H hS=> ?_;try simp only [W]
  refine A_ GP ?_;refine AZ ?_;refine Bi DQ rfl rfl ?_;try obtain rfl:=Option.some.inj h
  exact hP _ (hS.BT 1 [] (by decide))
theorem K_ {a0:List Int} {a1:List Int} {r:(Bool)} (h:IG a0 a1=some r) {F:List It} {H:J} (hS:aq H (F)) {P:AV→J→Prop} (hP: ∀H',aq H' (F)→P (.bool r) H'):aw C 21 [.fz (a0.map (AV.int .i64)),.fz (a1.map (AV.int .i64))] H P:=by
 refine Bn gC (res:=[.tmp 4]) (n:=26) rfl rfl rfl rfl fun K0 DQ=> ?_;simp only [W,Nat.reduceSub,Nat.reduceAdd,List.replicate];unfold IG at h;refine AW fun K1 D5=> ?_;refine Bk gC ?_;try simp only [W,Nat.reduceAdd]
 refine A_ D5 ?_;refine AW fun K2 y7=> ?_;refine AW fun K3 FV=> ?_;refine Bk gC ?_;try simp only [W,EE,Nat.reduceAdd]
 refine A_ FV ?_;refine A8 ?_;simp only [W];refine Bj h (fun hc h=> ?_) (fun hc h=> ?_)
 ·refine AW fun K4 Ez=> ?_;refine Bk gC ?_;try simp only [W,Nat.reduceAdd]
  refine A_ Ez ?_;refine AZ ?_;refine Ba y7 ?_;refine Bh DQ rfl ?_;try obtain rfl:=Option.some.inj h
  exact hP _ hS
 ·refine AY ?_;refine A_ y7 ?_;refine AW fun K5 FA=> ?_;refine AW fun K6 Fk=> ?_;refine Bk gC ?_;try simp only [W,EE,Nat.reduceAdd]
  refine A_ Fk ?_;obtain ⟨Hn,JG,Iw⟩:=Option.bind_eq_some_iff.1 h;refine BG gC (fun s H=>Hn=LR.next ()∧s=[u,u,u,u,u,u,u,u,u,u,u,u,u,u,u,u,u,u,u,u,u,u,u,u,u,u]∧aq H (F)) (fun Jc Fi=> ?_) (fun s H hq=> ?_)
  ·refine AX fun IL EC=> ?_;refine BC gC JG (fun x s H=>s=[.fz (a0.map (AV.int .i64)),.fz (a1.map (AV.int .i64)),u,u,u,u,u,u,u,u,u,u,.int .i64 (a0.length:Int),.int .i64 x,u,u,u,u,u,u,u,u,u,u,u,u]∧aq H (F)) ⟨rfl,hS⟩ (fun Er L7 s H h Ji hi Jt E9=> ?_)
   skip
   try dsimp only at hi
   obtain ⟨rfl,hS⟩:=hi;simp only [N7] at h;refine AW fun HI Fu=> ?_;refine Bk gC ?_;try simp only [W,EE,Nat.reduceAdd]
   refine A_ Fu ?_;refine AW fun Ip Fj=> ?_;refine A8 ?_;simp only [W];refine Bj h (fun hc h=> ?_) (fun hc h=> ?_)
   ·refine AY ?_;refine A_ Fj ?_;refine AW fun IM FM=> ?_;refine AX fun KC G6=> ?_;refine AW fun KE GU=> ?_;refine Bk gC ?_;try simp only [W,Nat.reduceAdd]
    refine A_ GU ?_;refine AW fun KD GS=> ?_;refine Bm gC (by kernel_rfl) ?_
    try simp only [W,EE,Nat.reduceAdd]
    refine Bv rfl rfl rfl (fun _=>rfl) h fun F8 Sa h=> ?_;try simp only [W,EE]
    refine Bv rfl rfl rfl (fun _=>rfl) h fun D0 JW h=> ?_;try simp only [W,EE]
    refine A_ GS ?_;refine A8 ?_;simp only [W];refine Bj h (fun hc h=> ?_) (fun hc h=> ?_)
    ·refine AW fun JV Gh=> ?_;refine Bk gC ?_;try simp only [W,Nat.reduceAdd]
     refine A_ Gh ?_;refine AZ ?_;refine Bf G6 ?_;refine Ba FM ?_;try obtain rfl:=Option.some.inj h
     obtain rfl:=Ji _ rfl;have h:(some (LR.done false):Option (LR Unit (Bool)))=some (LR.done false):=rfl;refine BF E9 ?_;refine Bf EC ?_;try obtain rfl:=Option.some.inj h
     obtain rfl:=Option.some.inj Iw;have h:(some false:Option (Bool))=some false:=rfl;refine BI Fi ?_;refine Ba FA ?_;refine Bh DQ rfl ?_;try obtain rfl:=Option.some.inj h
     exact hP _ hS
    ·refine AY ?_;refine Bd G6 ?_;refine A_ FM ?_;refine Bk gC ?_;try simp only [W,EE,Nat.reduceAdd]
     exact BD E9 h ⟨rfl,hS⟩
   ·refine A7 ?_;refine Bb Fj ?_;try obtain rfl:=Option.some.inj h
    obtain rfl:=Ji _ rfl;have h:(some (LR.next ()):Option (LR Unit (Bool)))=some (LR.next ()):=rfl
    refine BE E9 ?_;refine Be EC ?_;exact BH Fi ⟨(Option.some.inj h).symm,rfl,hS⟩
  ·obtain ⟨rfl,rfl,hS⟩:=hq;replace h:=Iw;try dsimp only at h
   refine A_ FA ?_;refine AW fun Og IP=> ?_;refine Bk gC ?_;try simp only [W,Nat.reduceAdd]
   refine A_ IP ?_;refine AZ ?_;refine Bh DQ rfl ?_;try obtain rfl:=Option.some.inj h
   exact hP _ hS
theorem QY {a0:DJ} {a1:DJ} {r:(Bool)} (h:IH a0 a1=some r) {F:List It} {H:J} (hS:aq H (F)) {P:AV→J→Prop} (hP: ∀H',aq H' (F)→P (.bool r) H'):aw C 22 [.agg [.fz (a0.Ds.map (AV.int .i64)),.fz (a0.Dq.map (zE (AV.int .i64))),.fz (a0.Dw.map (AV.int .i64)),.fz (a0.Dx.map (AV.int .i64)),.int .i64 a0.Dr],.agg [.fz (a1.Ds.map (AV.int .i64)),.fz (a1.Dq.map (zE (AV.int .i64))),.fz (a1.Dw.map (AV.int .i64)),.fz (a1.Dx.map (AV.int .i64)),.int .i64 a1.Dr]] H P:=by
 refine Bn gC (res:=[.tmp 4]) (n:=63) rfl rfl rfl rfl fun K0 DQ=> ?_;simp only [W,Nat.reduceSub,Nat.reduceAdd,List.replicate];unfold IH at h;refine AW fun K1 D5=> ?_;refine Bk gC ?_;try simp only [W,Nat.reduceAdd]
 refine Br hS rfl rfl rfl rfl fun Dz DA H hS=> ?_;try simp only [W]
 refine Br hS rfl rfl rfl rfl fun DL DM H hS=> ?_;try simp only [W]
 refine A_ D5 ?_;refine AW fun K6 Fk=> ?_;refine AW fun K7 Fq=> ?_;obtain ⟨Np,h,Nq⟩:=Option.bind_eq_some_iff.1 h;refine BG gC (fun s H=> ∃D9:Bool,Np=(D9)∧s=(u::u:: .ptr Dz DA 0 0:: .ptr DL DM 0 0::u::u::u::u::u::u::u::u::u::u::u::u::u::u::u::u::u::u::u::u::u::u::u::u::u::u::u::u::u::u::u::u::u::u::u::u::u::u::u:: .bool D9::u::u::u::u::u::u::u::u::u::u::u::u::u::u::u::u::u::u::u::[])∧aq H (⟨.ptr Dz DA 0 0,5,[.agg [.fz (a0.Ds.map (AV.int .i64)),.fz (a0.Dq.map (zE (AV.int .i64))),.fz (a0.Dw.map (AV.int .i64)),.fz (a0.Dx.map (AV.int .i64)),.int .i64 a0.Dr]]⟩::⟨.ptr DL DM 0 0,5,[.agg [.fz (a1.Ds.map (AV.int .i64)),.fz (a1.Dq.map (zE (AV.int .i64))),.fz (a1.Dw.map (AV.int .i64)),.fz (a1.Dx.map (AV.int .i64)),.int .i64 a1.Dr]]⟩::F)) (fun IL EC=> ?_) (fun s H hq=> ?_)
 ·refine AW fun Jt E9=> ?_;refine Bk gC ?_;try simp only [W,EE,Nat.reduceAdd,Nat.reduceBEq,hS.var 1 rfl,hS.var 0 rfl]
  refine BB h fun GJ IQ h=> ?_;refine K_ IQ hS fun H hS=> ?_;try simp only [W]
  refine BW h (fun hc h=> ?_) (fun hc h=> ?_)
  ·try simp only [W,hc]
   refine A_ E9 ?_;refine C4 (s' :=(u::u:: .ptr Dz DA 0 0:: .ptr DL DM 0 0::u::u::u::u::u::u::u::u::u::u::u::u::u::u::u::u::u::u::u::u::u::u::u::u::u::u::u::u::u::u::u::u::u::u::u::u::u::u::u:: .bool true::u::u::u::u::u::u::u::u::u::u::u::u::u::u::u::u::u::u::u::[])) rfl ?_
   exact BH EC ⟨_,(Option.some.inj h).symm,rfl,(hS.BT 2 [1,0] (by decide))⟩
  ·try simp only [W,EE,Nat.reduceAdd,Nat.reduceBEq,hS.var 1 rfl,hS.var 0 rfl,hc]
   refine BB h fun IC KG h=> ?_;refine K_ KG hS fun H hS=> ?_;try simp only [W,reduceIte,Bool.false_eq_true]
   refine BW h (fun hc h=> ?_) (fun hc h=> ?_)
   ·try simp only [W,hc]
    refine A_ E9 ?_;refine C4 (s' :=(u::u:: .ptr Dz DA 0 0:: .ptr DL DM 0 0::u::u::u::u::u::u::u::u::u::u::u::u::u::u::u::u::u::u::u::u::u::u::u::u::u::u::u::u::u::u::u::u::u::u::u::u::u::u::u:: .bool true::u::u::u::u::u::u::u::u::u::u::u::u::u::u::u::u::u::u::u::[])) rfl ?_
    exact BH EC ⟨_,(Option.some.inj h).symm,rfl,(hS.BT 2 [1,0] (by decide))⟩
   ·try simp only [W,EE,Nat.reduceAdd,Nat.reduceBEq,hS.var 1 rfl,hS.var 0 rfl,hc]
    refine BB h fun EY Je h=> ?_;refine K_ Je hS fun H hS=> ?_;try simp only [W,reduceIte,Bool.false_eq_true]
    refine BW h (fun hc h=> ?_) (fun hc h=> ?_)
    ·try simp only [W,hc]
     refine A_ E9 ?_;refine C4 (s' :=(u::u:: .ptr Dz DA 0 0:: .ptr DL DM 0 0::u::u::u::u::u::u::u::u::u::u::u::u::u::u::u::u::u::u::u::u::u::u::u::u::u::u::u::u::u::u::u::u::u::u::u::u::u::u::u:: .bool true::u::u::u::u::u::u::u::u::u::u::u::u::u::u::u::u::u::u::u::[])) rfl ?_
     exact BH EC ⟨_,(Option.some.inj h).symm,rfl,(hS.BT 2 [1,0] (by decide))⟩
    ·try simp only [W,EE,reduceIte,Nat.reduceAdd,Nat.reduceBEq,Bool.false_eq_true,hS.var 1 rfl,hS.var 0 rfl,hc]
     refine BW h (fun hc h=> ?_) (fun hc h=> ?_)
     ·try simp only [W,hc]
      refine A_ E9 ?_;refine C4 (s' :=(u::u:: .ptr Dz DA 0 0:: .ptr DL DM 0 0::u::u::u::u::u::u::u::u::u::u::u::u::u::u::u::u::u::u::u::u::u::u::u::u::u::u::u::u::u::u::u::u::u::u::u::u::u::u::u:: .bool true::u::u::u::u::u::u::u::u::u::u::u::u::u::u::u::u::u::u::u::[])) rfl ?_
      exact BH EC ⟨_,(Option.some.inj h).symm,rfl,(hS.BT 2 [1,0] (by decide))⟩
     ·try simp only [W,EE,reduceIte,Nat.reduceAdd,Nat.reduceBEq,Bool.false_eq_true,hS.var 1 rfl,hS.var 0 rfl,hc]
      refine A_ E9 ?_;refine C4 (s' :=(u::u:: .ptr Dz DA 0 0:: .ptr DL DM 0 0::u::u::u::u::u::u::u::u::u::u::u::u::u::u::u::u::u::u::u::u::u::u::u::u::u::u::u::u::u::u::u::u::u::u::u::u::u::u::u:: .bool ((a0.Dq.length:Int) !=(a1.Dq.length:Int))::u::u::u::u::u::u::u::u::u::u::u::u::u::u::u::u::u::u::u::[])) rfl ?_
      exact BH EC ⟨_,(Option.some.inj h).symm,rfl,(hS.BT 2 [1,0] (by decide))⟩
 ·obtain ⟨D9,En,rfl,hS⟩:=hq;obtain rfl:=En.symm;replace h:=Nq;try dsimp only at h
  refine A_ Fq ?_;refine A8 ?_;simp only [W];refine Bj h (fun hc h=> ?_) (fun hc h=> ?_)
  ·refine AW fun HI Fu=> ?_;refine Bk gC ?_;try simp only [W,Nat.reduceAdd]
   refine A_ Fu ?_;refine AZ ?_;refine Ba Fk ?_;refine Bh DQ rfl ?_;try obtain rfl:=Option.some.inj h
   exact hP _ (hS.BT 2 [] (by decide))
  ·refine AY ?_;refine A_ Fk ?_;refine AW fun Ip Fj=> ?_;refine AW fun IM FM=> ?_;refine Bk gC ?_;try simp only [W,EE,Nat.reduceAdd,Nat.reduceBEq,hS.var 0 rfl]
   refine A_ FM ?_;obtain ⟨Pv,Pw,Oc⟩:=Option.bind_eq_some_iff.1 h;refine BG gC (fun s H=>Pv=LR.next ()∧s=(u::u::u::u::u::u::u::u::u::u::u::u::u::u::u::u::u::u::u::u::u::u::u::u::u::u::u::u::u::u::u::u::u::u::u::u::u::u::u::u::u::u::u::u::u::u::u::u::u::u::u::u::u::u::u::u::u::u::u::u::u::u::u::[])∧aq H (F)) (fun JU Gg=> ?_) (fun s H hq=> ?_)
   ·refine AX fun Od IN=> ?_;refine BC gC Pw (fun x s H=>s=(u::u:: .ptr Dz DA 0 0:: .ptr DL DM 0 0::u::u::u::u::u::u::u::u::u::u::u::u::u::u::u::u::u::u::u::u::u::u::u::u::u::u::u::u::u::u::u::u::u::u::u::u::u::u::u::u::u::u:: .int .i64 (a0.Dq.length:Int):: .int .i64 x::u::u::u::u::u::u::u::u::u::u::u::u::u::u::u::[])∧aq H (⟨.ptr Dz DA 0 0,5,[.agg [.fz (a0.Ds.map (AV.int .i64)),.fz (a0.Dq.map (zE (AV.int .i64))),.fz (a0.Dw.map (AV.int .i64)),.fz (a0.Dx.map (AV.int .i64)),.int .i64 a0.Dr]]⟩::⟨.ptr DL DM 0 0,5,[.agg [.fz (a1.Ds.map (AV.int .i64)),.fz (a1.Dq.map (zE (AV.int .i64))),.fz (a1.Dw.map (AV.int .i64)),.fz (a1.Dx.map (AV.int .i64)),.int .i64 a1.Dr]]⟩::F)) ⟨rfl,hS⟩ (fun IA Uu s H h Oe hi JV Gh=> ?_)
    skip
    try dsimp only at hi
    obtain ⟨rfl,hS⟩:=hi;simp only [N8] at h;refine AW fun M8 HJ=> ?_;refine Bk gC ?_;try simp only [W,EE,Nat.reduceAdd]
    refine A_ HJ ?_;refine AW fun M9 HK=> ?_;refine A8 ?_;simp only [W];refine Bj h (fun hc h=> ?_) (fun hc h=> ?_)
    ·refine AY ?_;refine A_ HK ?_;refine AW fun M_ H8=> ?_;refine AX fun Og IP=> ?_;refine AW fun R7 KH=> ?_;refine Bk gC ?_;try simp only [W,Nat.reduceAdd]
     refine A_ KH ?_;refine AW fun Om Jv=> ?_;refine Bm gC (by kernel_rfl) ?_
     try simp only [W,EE,Nat.reduceAdd,Nat.reduceBEq,hS.var 0 rfl]
     refine Bv rfl rfl rfl (fun _=>rfl) h fun HR UJ h=> ?_;try simp only [W,EE,EN,Nat.reduceAdd,Nat.reduceBEq,hS.var 1 rfl]
     refine Bv rfl rfl rfl (fun _=>rfl) h fun LH Tn h=> ?_;try simp only [W,EE,EN]
     refine Co (b5:=[[.sc]]) (ys:=[.fz (HR.map (AV.int .i64)),.fz (LH.map (AV.int .i64))]) h rfl (by rfl) fun Pk Zj h=>⟨.bool Pk,K_ Zj (aq.nil _) fun H hS=>Ch rfl (Ce rfl (Cd rfl)),⟨rfl,rfl,fun _=>rfl⟩,?_⟩
     try simp only [W]
     refine A_ Jv ?_;refine A8 ?_;simp only [W];refine Bj h (fun hc h=> ?_) (fun hc h=> ?_)
     ·refine AW fun Xx OS=> ?_;refine Bk gC ?_;try simp only [W,Nat.reduceAdd]
      refine A_ OS ?_;refine AZ ?_;refine Bf IP ?_;refine Ba H8 ?_;try obtain rfl:=Option.some.inj h
      obtain rfl:=Oe _ rfl;have h:(some (LR.done false):Option (LR Unit (Bool)))=some (LR.done false):=rfl;refine BF Gh ?_;refine Bf IN ?_;try obtain rfl:=Option.some.inj h
      obtain rfl:=Option.some.inj Oc;have h:(some false:Option (Bool))=some false:=rfl;refine BI Gg ?_;refine Ba Fj ?_;refine Bh DQ rfl ?_;try obtain rfl:=Option.some.inj h
      exact hP _ (hS.BT 2 [] (by decide))
     ·refine AY ?_;refine Bd IP ?_;refine A_ H8 ?_;refine Bk gC ?_;try simp only [W,EE,Nat.reduceAdd]
      exact BD Gh h ⟨rfl,hS⟩
    ·refine A7 ?_;refine Bb HK ?_;try obtain rfl:=Option.some.inj h
     obtain rfl:=Oe _ rfl;have h:(some (LR.next ()):Option (LR Unit (Bool)))=some (LR.next ()):=rfl
     refine BE Gh ?_;refine Be IN ?_;exact BH Gg ⟨(Option.some.inj h).symm,rfl,(hS.BT 2 [] (by decide))⟩
   ·obtain ⟨rfl,rfl,hS⟩:=hq;replace h:=Oc;try dsimp only at h
    refine A_ Fj ?_;refine AW fun Sq Nw=> ?_;refine Bk gC ?_;try simp only [W,Nat.reduceAdd]
    refine A_ Nw ?_;refine AZ ?_;refine Bh DQ rfl ?_;try obtain rfl:=Option.some.inj h
    exact hP _ hS
theorem Tq {a0:List Int} {r:(Int)} (h:LJ a0=some r) {F:List It} {H:J} (hS:aq H (F)) {P:AV→J→Prop} (hP: ∀H',aq H' (F)→P (.int .i64 r) H'):aw C 24 [.fz (a0.map (AV.int .i64))] H P:=by
 refine Bn gC (res:=[.tmp 2]) (n:=17) rfl rfl rfl rfl fun K0 DQ=> ?_;simp only [W,Nat.reduceSub,Nat.reduceAdd,List.replicate];unfold LJ at h;refine AW fun K1 D5=> ?_;refine Bk gC ?_;try simp only [W,Nat.reduceAdd]
 refine A_ D5 ?_;refine AW fun K2 y7=> ?_;refine Bk gC ?_;try simp only [W,Nat.reduceAdd]
 refine A_ y7 ?_;refine AW fun K3 FV=> ?_;refine AW fun K4 Ez=> ?_;refine Bk gC ?_;try simp only [W,EE,Nat.reduceAdd]
 refine A_ Ez ?_;obtain ⟨Hn,JG,Iw⟩:=Option.bind_eq_some_iff.1 h;refine BG gC (fun s H=> ∃Er:Int,Hn=(Er)∧s=[u,u,u,.int .i64 Er,u,u,u,u,u,u,u,u,u,u,u,u,u]∧aq H (F)) (fun Jc Fi=> ?_) (fun s H hq=> ?_)
 ·refine AX fun IL EC=> ?_;refine BC gC JG (fun x s H=>match x with|(Et,FD)=>s=[u,u,u,.int .i64 Et,u,u,.fz (a0.map (AV.int .i64)),.int .i64 (a0.length:Int),.int .i64 FD,u,u,u,u,u,u,u,u]∧aq H (F)) ⟨rfl,hS⟩ (fun x L7 s H h Ji hi Jt E9=> ?_)
  obtain ⟨Et,FD⟩:=x;try dsimp only at hi
  obtain ⟨rfl,hS⟩:=hi;simp only [Pl] at h;refine AW fun HI Fu=> ?_;refine Bk gC ?_;try simp only [W,EE,Nat.reduceAdd]
  refine A_ Fu ?_;refine AW fun Ip Fj=> ?_;refine A8 ?_;simp only [W];refine Bj h (fun hc h=> ?_) (fun hc h=> ?_)
  ·refine AY ?_;refine A_ Fj ?_;refine AW fun IM FM=> ?_;refine AX fun KC G6=> ?_;refine AW fun KE GU=> ?_;refine Bk gC ?_;try simp only [W,EE,Nat.reduceAdd]
   refine Bv rfl rfl rfl (fun _=>rfl) h fun DO OV h=> ?_;try simp only [W,EE]
   refine A_ GU ?_;refine Bk gC ?_;try simp only [W,EE,Nat.reduceAdd]
   refine Bd G6 ?_;refine A_ FM ?_;refine Bk gC ?_;try simp only [W,EE,Nat.reduceAdd]
   exact BD E9 h ⟨rfl,hS⟩
  ·refine A7 ?_;refine Bb Fj ?_;try obtain rfl:=Option.some.inj h
   obtain rfl:=Ji _ rfl;have h:(some (Et):Option (Int))=some (Et):=rfl;refine BE E9 ?_;refine Be EC ?_;exact BH Fi ⟨_,(Option.some.inj h).symm,rfl,hS⟩
 ·obtain ⟨Er,En,rfl,hS⟩:=hq;obtain rfl:=En.symm;replace h:=Iw;try dsimp only at h
  refine A_ FV ?_;refine AW fun JV Gh=> ?_;refine Bk gC ?_;try simp only [W,Nat.reduceAdd]
  refine A_ Gh ?_;refine AZ ?_;refine Bh DQ rfl ?_;try obtain rfl:=Option.some.inj h
  exact hP _ hS
theorem Zk {a0:Ev} {a1:List Int} {i0:Nat} {w0:Nat} {O0:AV} {r:(Int×Ev)} (h:JN a0 a1=some r) {F:List It} {H:J} (hS:aq H (⟨.ptr i0 w0 0 0,3,[.agg [.fz (a0.Code.map (AV.int .u8)),.int .i64 a0.Dr,.int .u64 a0.D8]]⟩::⟨O0,1,a1.map (AV.int .i64)⟩::F)) (Ts:aJ O0) {P:AV→J→Prop} (hP: ∀H',aq H' (⟨.ptr i0 w0 0 0,3,[.agg [.fz (r.2.Code.map (AV.int .u8)),.int .i64 r.2.Dr,.int .u64 r.2.D8]]⟩::⟨O0,1,a1.map (AV.int .i64)⟩::F)→P (.int .i64 r.1) H'):aw C 163 [.ptr i0 w0 0 0,O0] H P:=by
 refine Bn gC (res:=[.tmp 4]) (n:=12) rfl rfl rfl rfl fun K0 DQ=> ?_;simp only [W,Nat.reduceSub,Nat.reduceAdd,List.replicate];unfold JN at h;refine AW fun K1 D5=> ?_;refine Bk gC ?_;try simp only [W,Nat.reduceAdd]
 refine A_ D5 ?_;refine AW fun K2 y7=> ?_;refine Bk gC ?_;try simp only [W,EE,Nat.reduceAdd]
 refine zi 1 hS rfl Ts rfl ?_;try simp only [W]
 refine BB h fun b3 ky h=> ?_;obtain ⟨Gd,EO⟩:=b3;try dsimp only at h
 refine Io ky hS fun H hS=> ?_;try simp only [W,EE]
 refine Bw 1 hS rfl rfl rfl rfl rfl h (fun Dt XK XL XM GQ h S9=> ?_) Ts.ne;obtain ⟨XP,QS,QT⟩:=hS.elem 1 rfl S9 GQ;try simp only [W,EE,QS,QT]
 refine A_ y7 ?_;refine AZ ?_;refine Bh DQ rfl ?_;try obtain rfl:=Option.some.inj h
 exact hP _ hS
theorem Zl {a0:List Int} {r:(DJ×Int×Int)} (h:Kt a0=some r) {F:List It} {H:J} (hS:aq H (F)) {P:AV→J→Prop} (hP: ∀EZ:AV,aJ EZ→ ∀Iu:AV,aJ Iu→ ∀d35:List AV,bI d35 (r.1.Dq).length→ ∀J6:AV,aJ J6→ ∀EM:AV,aJ EM→ ∀H',aq H' (⟨EZ,1,r.1.Ds.map (AV.int .i64)⟩::⟨Iu,1,bg Dv d35 r.1.Dq⟩::⟨J6,1,r.1.Dw.map (AV.int .i64)⟩::⟨EM,1,r.1.Dx.map (AV.int .i64)⟩::((bG Du (AV.int .i64) 1 d35 r.1.Dq) ++ F))→P (.aE [.agg [EZ,Iu,J6,EM,.int .i64 r.1.Dr],.int .i64 r.2.1,.int .i64 r.2.2]) H'):aw C 25 [.fz (a0.map (AV.int .u8))] H P:=by
 refine Bn gC (res:=[.cell 2 26,.tmp 3,.tmp 4]) (n:=19) rfl rfl rfl rfl fun K0 DQ=> ?_;simp only [W,Nat.reduceSub,Nat.reduceAdd,List.replicate];unfold Kt at h;refine AW fun K1 D5=> ?_;refine Bk gC ?_;try simp only [W,Nat.reduceAdd]
 refine Bs hS rfl rfl fun Dz DA H hS=> ?_;try simp only [W]
 refine A_ D5 ?_;refine AW fun K4 Ez=> ?_;refine Bk gC ?_;try simp only [W,EE,Nat.reduceAdd]
 refine BX rfl rfl rfl rfl rfl ?_;try simp only [W]
 refine Br hS rfl rfl rfl rfl fun KR KS H hS=> ?_;try simp only [W]
 refine A_ Ez ?_;refine AW fun K7 Fq=> ?_;refine Bk gC ?_;try simp only [W,Nat.reduceAdd]
 refine BB h fun FF Ia h=> ?_;obtain ⟨Ek,E6⟩:=FF;try dsimp only at h
 refine Sv Ia hS fun v11 JD D6 F9 d15 Nx FE Hm Ec F2 H hS=> ?_;have hS:aq _ (⟨v11,1,Ek.Ds.map (AV.int .i64)⟩::⟨D6,1,bg Dv d15 Ek.Dq⟩::⟨FE,1,Ek.Dw.map (AV.int .i64)⟩::⟨Ec,1,Ek.Dx.map (AV.int .i64)⟩::⟨.ptr KR KS 0 0,3,[.agg [.fz (E6.Code.map (AV.int .u8)),.int .i64 E6.Dr,.int .u64 E6.D8]]⟩::⟨.ptr Dz DA 0 0,5,[.agg [.nil,.nil,.nil,.nil,.int .i64 0]]⟩::((bG Du (AV.int .i64) 1 d15 Ek.Dq) ++ (F))):=aq.CG (bl:=[[⟨v11,1,Ek.Ds.map (AV.int .i64)⟩],[⟨D6,1,bg Dv d15 Ek.Dq⟩],[⟨FE,1,Ek.Dw.map (AV.int .i64)⟩],[⟨Ec,1,Ek.Dx.map (AV.int .i64)⟩],[⟨.ptr KR KS 0 0,3,[.agg [.fz (E6.Code.map (AV.int .u8)),.int .i64 E6.Dr,.int .u64 E6.D8]]⟩],(bG Du (AV.int .i64) 1 d15 Ek.Dq),[⟨.ptr Dz DA 0 0,5,[.agg [.nil,.nil,.nil,.nil,.int .i64 0]]⟩]]) (F:=F) hS 7 rfl [0,1,2,3,4,6,5] (by decide)
 try simp only [W]
 refine Bs hS rfl rfl fun Zm Zn H hS=> ?_;try simp only [W]
 refine Bt (a:= .agg [v11,D6,FE,Ec,.int .i64 Ek.Dr]) (y' := .agg [v11,D6,FE,Ec,.int .i64 Ek.Dr]) 0 hS rfl rfl rfl rfl rfl (by simp only [di,List.all_cons,List.all_nil,JD.pL,F9.pL,Hm.pL,F2.pL];rfl) rfl rfl fun H hS=> ?_
 try simp only [W]
 refine A_ Fq ?_;refine AW fun JU Gg=> ?_;refine BY gC [(3,[0,2]),(6,[0,4]),(7,[4])] (by kernel_rfl) rfl (by kernel_rfl) ?_
 try simp only [W,EE,reduceIte,Nat.reduceAdd,Nat.reduceLeDiff,hS.var 0 rfl,iG,ln,Nat.reduceEqDiff,B2,B3,B4,B5,B6,Nat.reduceEqDiff]
 refine BB h fun D0 JW h=> ?_;obtain ⟨DX,Ks⟩:=D0;try dsimp only at h
 refine Io JW (hS.BT 7 [5,0,1,2,3,4,6] (by decide)) fun H hS=> ?_
 refine BZ ?_;refine B0 (by first|rfl|(simp [aK,W,EE,bO,ju,aG,AV.cells,B4,hS.var 1 rfl];done)) ?_
 refine B0 (by first|rfl|(simp [aK,W,EE,EN,bO,ju,aG,AV.cells,B4,B3,B5,hS.var 0 rfl,hS.var 1 rfl,hS.var 6 rfl];done)) ?_
 refine B1 ?_;try simp only [W,EE]
 refine BA (el:=([0,1,7,20,21]:List Int).map (AV.int .i64)) hS rfl rfl rfl rfl rfl rfl rfl fun Es H G8 hS=> ?_;try simp only [W]
 refine BB h fun Ee Zo h=> ?_;obtain ⟨Ha,NC⟩:=Ee;try dsimp only at h
 refine Zk Zo (hS.BT 8 [1,0,2,3,4,5,6,7] (by decide)) G8 fun H hS=> ?_
 refine BZ ?_;refine B0 (by first|rfl|(simp [aK,W,EE,bO,ju,aG,AV.cells,B4,hS.var 2 rfl];done)) ?_
 refine B0 (by first|rfl|(simp [aK,W,EE,EN,bO,ju,aG,AV.cells,B4,B3,B5,hS.var 0 rfl,hS.var 2 rfl,hS.var 7 rfl];done)) ?_
 refine B1 ?_;try simp only [W]
 refine Bt (a:= .agg [v11,D6,FE,Ec,.int .i64 Ek.Dr]) (y' := .agg [v11,D6,FE,Ec,.int .i64 Ek.Dr]) 7 hS rfl rfl rfl rfl rfl (by simp only [di,List.all_cons,List.all_nil,JD.pL,F9.pL,Hm.pL,F2.pL];rfl) rfl rfl fun H hS=> ?_
 refine BZ ?_;refine B0 (by first|rfl|(simp [aK,W,EE,EN,bO,ju,aG,AV.cells,B4,B3,B5,hS.var 0 rfl,hS.var 2 rfl,hS.var 7 rfl];done)) ?_
 refine B1 ?_;try simp only [W]
 refine A_ Gg ?_;refine AZ ?_;refine Bg DQ (BU rfl rfl (hS.var 7 rfl) rfl (BV rfl (BV rfl rfl))) ?_;try obtain rfl:=Option.some.inj h
 have hS:aq _ (⟨v11,1,Ek.Ds.map (AV.int .i64)⟩::⟨D6,1,bg Dv d15 Ek.Dq⟩::⟨FE,1,Ek.Dw.map (AV.int .i64)⟩::⟨Ec,1,Ek.Dx.map (AV.int .i64)⟩::((bG Du (AV.int .i64) 1 d15 Ek.Dq) ++ (F))):=aq.CG (bl:=[[⟨.ptr KR KS 0 0,3,[.agg [.fz (NC.Code.map (AV.int .u8)),.int .i64 NC.Dr,.int .u64 NC.D8]]⟩],[⟨Es,1,([0,1,7,20,21]:List Int).map (AV.int .i64)⟩],[⟨.ptr Zm Zn 0 0,5,[.agg [v11,D6,FE,Ec,.int .i64 Ek.Dr]]⟩],[⟨v11,1,Ek.Ds.map (AV.int .i64)⟩],[⟨D6,1,bg Dv d15 Ek.Dq⟩],[⟨FE,1,Ek.Dw.map (AV.int .i64)⟩],[⟨Ec,1,Ek.Dx.map (AV.int .i64)⟩],[⟨.ptr Dz DA 0 0,5,[.agg [v11,D6,FE,Ec,.int .i64 Ek.Dr]]⟩],(bG Du (AV.int .i64) 1 d15 Ek.Dq)]) (F:=F) hS 9 rfl [3,4,5,6,8] (by decide)
 exact hP _ JD _ F9 _ Nx _ Hm _ F2 _ hS
theorem Zp {a0:DJ} {a1:Int} {a2:Int} {r:(DJ×Bool)} (h:Ku a0 a1 a2=some r) {F:List It} {H:J} (hS:aq H (F)) {P:AV→J→Prop} (hP: ∀Gt:AV,aJ Gt→ ∀JF:AV,aJ JF→ ∀d53:List AV,bI d53 (r.1.Dq).length→ ∀EX:AV,aJ EX→ ∀EL:AV,aJ EL→ ∀H',aq H' (⟨Gt,1,r.1.Ds.map (AV.int .i64)⟩::⟨JF,1,bg Dv d53 r.1.Dq⟩::⟨EX,1,r.1.Dw.map (AV.int .i64)⟩::⟨EL,1,r.1.Dx.map (AV.int .i64)⟩::((bG Du (AV.int .i64) 1 d53 r.1.Dq) ++ F))→P (.aE [.agg [Gt,JF,EX,EL,.int .i64 r.1.Dr],.bool r.2]) H'):aw C 26 [.agg [.fz (a0.Ds.map (AV.int .i64)),.fz (a0.Dq.map (zE (AV.int .i64))),.fz (a0.Dw.map (AV.int .i64)),.fz (a0.Dx.map (AV.int .i64)),.int .i64 a0.Dr],.int .i64 a1,.int .i64 a2] H P:=by
 refine Bn gC (res:=[.cell 6 26,.tmp 7]) (n:=51) rfl rfl rfl rfl fun K0 DQ=> ?_;simp only [W,Nat.reduceSub,Nat.reduceAdd,List.replicate];unfold Ku at h;refine AW fun K1 D5=> ?_;refine Bk gC ?_;try simp only [W,Nat.reduceAdd]
 refine Br hS rfl rfl rfl rfl fun Dz DA H hS=> ?_;try simp only [W]
 refine Bs hS rfl rfl fun DL DM H hS=> ?_;try simp only [W]
 refine A_ D5 ?_;refine AW fun K6 Fk=> ?_;refine AW fun K7 Fq=> ?_;obtain ⟨Np,h,Nq⟩:=Option.bind_eq_some_iff.1 h;refine BG gC (fun s H=> ∃D9:Bool,Np=(D9)∧s=[u,.int .i64 a1,.int .i64 a2,.ptr Dz DA 0 0,u,u,.ptr DL DM 0 0,u,u,u,u,u,u,u,u,u,u,u,u,u,u,u,u,u,u,u,u,u,u,u,u,u,u,u,.bool D9,u,u,u,u,u,u,u,u,u,u,u,u,u,u,u,u]∧aq H (⟨.ptr Dz DA 0 0,5,[.agg [.fz (a0.Ds.map (AV.int .i64)),.fz (a0.Dq.map (zE (AV.int .i64))),.fz (a0.Dw.map (AV.int .i64)),.fz (a0.Dx.map (AV.int .i64)),.int .i64 a0.Dr]]⟩::⟨.ptr DL DM 0 0,5,[.agg [.nil,.nil,.nil,.nil,.int .i64 0]]⟩::F)) (fun IL EC=> ?_) (fun s H hq=> ?_)
 ·refine AW fun Jt E9=> ?_;refine Bk gC ?_;try simp only [W,EE,reduceIte,Nat.reduceAdd,Nat.reduceLeDiff,hS.var 1 rfl]
  refine BB h fun GJ IQ h=> ?_;refine KT IQ hS fun H hS=> ?_;try simp only [W]
  refine BW h (fun hc h=> ?_) (fun hc h=> ?_)
  ·try simp only [W,hc]
   refine A_ E9 ?_;refine A9 ?_;exact BH EC ⟨_,(Option.some.inj h).symm,rfl,(hS.BT 2 [1,0] (by decide))⟩
  ·try simp only [W,EE,Nat.reduceAdd,Nat.reduceBEq,hS.var 1 rfl,hc]
   refine BB h fun IC KG h=> ?_;refine J3 KG hS fun H hS=> ?_;try simp only [W,reduceIte,Bool.false_eq_true]
   refine BW h (fun hc h=> ?_) (fun hc h=> ?_)
   ·try simp only [W,hc]
    refine A_ E9 ?_;refine A9 ?_;exact BH EC ⟨_,(Option.some.inj h).symm,rfl,(hS.BT 2 [1,0] (by decide))⟩
   ·try simp only [W,hc]
    refine BB h fun EY Je h=> ?_;refine S6 Je hS fun H hS=> ?_;try simp only [W,reduceIte,Bool.false_eq_true]
    refine BW h (fun hc h=> ?_) (fun hc h=> ?_)
    ·try simp only [W,hc]
     refine A_ E9 ?_;refine A9 ?_;exact BH EC ⟨_,(Option.some.inj h).symm,rfl,(hS.BT 2 [1,0] (by decide))⟩
    ·try simp only [W,EE,Nat.reduceAdd,Nat.reduceBEq,hS.var 1 rfl,hc]
     refine Bv rfl rfl rfl (fun _=>rfl) h fun Lp R4 h=> ?_;try simp only [W,EE,EN,reduceIte,Bool.false_eq_true]
     refine A_ E9 ?_;refine A9 ?_;exact BH EC ⟨_,(Option.some.inj h).symm,rfl,(hS.BT 2 [1,0] (by decide))⟩
 ·obtain ⟨D9,En,rfl,hS⟩:=hq;obtain rfl:=En.symm;replace h:=Nq;try dsimp only at h
  refine A_ Fq ?_;refine A8 ?_;simp only [W];refine Bj h (fun hc h=> ?_) (fun hc h=> ?_)
  ·refine AW fun Ip Fj=> ?_;refine Bk gC ?_;try simp only [W,EE,Nat.reduceAdd]
   refine BX rfl rfl rfl rfl rfl ?_;try simp only [W]
   refine Bt (a:= .agg [.nil,.nil,.nil,.nil,.int .i64 0]) (y' := .agg [.nil,.nil,.nil,.nil,.int .i64 0]) 1 hS rfl rfl rfl rfl rfl rfl rfl rfl fun H hS=> ?_
   try simp only [W]
   refine A_ Fj ?_;refine AZ ?_;refine Ba Fk ?_;have hS:=hS.uo 1;have hS:=hS.uo 1;obtain ⟨d20,Zq,hS⟩:=CI (p:=Du) (c:=(AV.int .i64)) (z:=1) (m:=Dv) hS;have hS:aq _ (⟨AV.nil,1,bg Dv d20 ([]:List (List Int))⟩::⟨AV.nil,1,([]:List Int).map (AV.int .i64)⟩::⟨.ptr Dz DA 0 0,5,[.agg [.fz (a0.Ds.map (AV.int .i64)),.fz (a0.Dq.map (zE (AV.int .i64))),.fz (a0.Dw.map (AV.int .i64)),.fz (a0.Dx.map (AV.int .i64)),.int .i64 a0.Dr]]⟩::⟨.ptr DL DM 0 0,5,[.agg [.nil,.nil,.nil,.nil,.int .i64 0]]⟩::((bG Du (AV.int .i64) 1 d20 ([]:List (List Int))) ++ (F))):=aq.CG (bl:=[[⟨AV.nil,1,bg Dv d20 ([]:List (List Int))⟩],(bG Du (AV.int .i64) 1 d20 ([]:List (List Int))),[⟨AV.nil,1,([]:List Int).map (AV.int .i64)⟩],[⟨.ptr Dz DA 0 0,5,[.agg [.fz (a0.Ds.map (AV.int .i64)),.fz (a0.Dq.map (zE (AV.int .i64))),.fz (a0.Dw.map (AV.int .i64)),.fz (a0.Dx.map (AV.int .i64)),.int .i64 a0.Dr]]⟩],[⟨.ptr DL DM 0 0,5,[.agg [.nil,.nil,.nil,.nil,.int .i64 0]]⟩]]) (F:=F) hS 5 rfl [0,2,3,4,1] (by decide)
   have hS:=hS.uo 1;have hS:=hS.uo 1;refine Bg DQ (BU rfl rfl (hS.var 5 rfl) rfl (BV rfl rfl)) ?_;try obtain rfl:=Option.some.inj h
   have hS:aq _ (⟨AV.nil,1,([]:List Int).map (AV.int .i64)⟩::⟨AV.nil,1,bg Dv d20 ([]:List (List Int))⟩::⟨AV.nil,1,([]:List Int).map (AV.int .i64)⟩::⟨AV.nil,1,([]:List Int).map (AV.int .i64)⟩::((bG Du (AV.int .i64) 1 d20 ([]:List (List Int))) ++ (F))):=aq.CG (bl:=[[⟨AV.nil,1,([]:List Int).map (AV.int .i64)⟩],[⟨AV.nil,1,([]:List Int).map (AV.int .i64)⟩],[⟨AV.nil,1,bg Dv d20 ([]:List (List Int))⟩],[⟨AV.nil,1,([]:List Int).map (AV.int .i64)⟩],[⟨.ptr Dz DA 0 0,5,[.agg [.fz (a0.Ds.map (AV.int .i64)),.fz (a0.Dq.map (zE (AV.int .i64))),.fz (a0.Dw.map (AV.int .i64)),.fz (a0.Dx.map (AV.int .i64)),.int .i64 a0.Dr]]⟩],[⟨.ptr DL DM 0 0,5,[.agg [.nil,.nil,.nil,.nil,.int .i64 0]]⟩],(bG Du (AV.int .i64) 1 d20 ([]:List (List Int)))]) (F:=F) hS 7 rfl [3,2,1,0,6] (by decide)
   exact hP _ lh _ lh _ Zq _ lh _ lh _ hS
  ·refine AY ?_;refine A_ Fk ?_;refine AW fun Od IN=> ?_;refine Bk gC ?_;try simp only [W,EE,reduceIte,Nat.reduceAdd,Nat.reduceLeDiff,hS.var 0 rfl]
   refine BB h fun DX Nt h=> ?_;refine S8 Nt hS fun D1 GD E_ La d29 ND v30 GF DB Gi H hS=> ?_;have hS:aq _ (⟨D1,1,DX.Ds.map (AV.int .i64)⟩::⟨E_,1,bg Dv d29 DX.Dq⟩::⟨v30,1,DX.Dw.map (AV.int .i64)⟩::⟨DB,1,DX.Dx.map (AV.int .i64)⟩::⟨.ptr Dz DA 0 0,5,[.agg [.fz (a0.Ds.map (AV.int .i64)),.fz (a0.Dq.map (zE (AV.int .i64))),.fz (a0.Dw.map (AV.int .i64)),.fz (a0.Dx.map (AV.int .i64)),.int .i64 a0.Dr]]⟩::⟨.ptr DL DM 0 0,5,[.agg [.nil,.nil,.nil,.nil,.int .i64 0]]⟩::((bG Du (AV.int .i64) 1 d29 DX.Dq) ++ (F))):=aq.CG (bl:=[[⟨D1,1,DX.Ds.map (AV.int .i64)⟩],[⟨E_,1,bg Dv d29 DX.Dq⟩],[⟨v30,1,DX.Dw.map (AV.int .i64)⟩],[⟨DB,1,DX.Dx.map (AV.int .i64)⟩],(bG Du (AV.int .i64) 1 d29 DX.Dq),[⟨.ptr Dz DA 0 0,5,[.agg [.fz (a0.Ds.map (AV.int .i64)),.fz (a0.Dq.map (zE (AV.int .i64))),.fz (a0.Dw.map (AV.int .i64)),.fz (a0.Dx.map (AV.int .i64)),.int .i64 a0.Dr]]⟩],[⟨.ptr DL DM 0 0,5,[.agg [.nil,.nil,.nil,.nil,.int .i64 0]]⟩]]) (F:=F) hS 7 rfl [0,1,2,3,5,6,4] (by decide)
   try simp only [W]
   refine Bs hS rfl rfl fun JH JI H hS=> ?_;try simp only [W]
   refine Bt (a:= .agg [D1,E_,v30,DB,.int .i64 DX.Dr]) (y' := .agg [D1,E_,v30,DB,.int .i64 DX.Dr]) 0 hS rfl rfl rfl rfl rfl (by simp only [di,List.all_cons,List.all_nil,GD.pL,La.pL,GF.pL,Gi.pL];rfl) rfl rfl fun H hS=> ?_
   try simp only [W]
   refine A_ IN ?_;refine AW fun K36 Zr=> ?_;refine BY gC [(10,[0,1,2]),(12,[])] (by kernel_rfl) rfl (by kernel_rfl) ?_
   try simp only [W,EE,reduceIte,Nat.reduceAdd,Nat.reduceBEq,hS.var 0 rfl,iG,ln,Nat.reduceEqDiff]
   obtain ⟨Kv,Ig,h⟩:=Option.bind_eq_some_iff.1 h;have hS:aq _ (⟨E_,1,bg Dv d29 DX.Dq⟩::((bG Du (AV.int .i64) 1 d29 DX.Dq) ++ (⟨.ptr JH JI 0 0,5,[.agg [D1,E_,v30,DB,.int .i64 DX.Dr]]⟩::⟨D1,1,DX.Ds.map (AV.int .i64)⟩::⟨v30,1,DX.Dw.map (AV.int .i64)⟩::⟨DB,1,DX.Dx.map (AV.int .i64)⟩::⟨.ptr Dz DA 0 0,5,[.agg [.fz (a0.Ds.map (AV.int .i64)),.fz (a0.Dq.map (zE (AV.int .i64))),.fz (a0.Dw.map (AV.int .i64)),.fz (a0.Dx.map (AV.int .i64)),.int .i64 a0.Dr]]⟩::⟨.ptr DL DM 0 0,5,[.agg [.nil,.nil,.nil,.nil,.int .i64 0]]⟩::F))):=aq.CG (bl:=[[⟨.ptr JH JI 0 0,5,[.agg [D1,E_,v30,DB,.int .i64 DX.Dr]]⟩],[⟨D1,1,DX.Ds.map (AV.int .i64)⟩],[⟨E_,1,bg Dv d29 DX.Dq⟩],[⟨v30,1,DX.Dw.map (AV.int .i64)⟩],[⟨DB,1,DX.Dx.map (AV.int .i64)⟩],[⟨.ptr Dz DA 0 0,5,[.agg [.fz (a0.Ds.map (AV.int .i64)),.fz (a0.Dq.map (zE (AV.int .i64))),.fz (a0.Dw.map (AV.int .i64)),.fz (a0.Dx.map (AV.int .i64)),.int .i64 a0.Dr]]⟩],[⟨.ptr DL DM 0 0,5,[.agg [.nil,.nil,.nil,.nil,.int .i64 0]]⟩],(bG Du (AV.int .i64) 1 d29 DX.Dq)]) (F:=F) hS 8 rfl [2,7,0,1,3,4,5,6] (by decide)
   obtain ⟨DP,Hp,hS⟩:=CH (p:=Du) (c:=(AV.int .i64)) (m:=Dv) (b:=Kv) hS ND Ig;have hS:aq _ (⟨DP,1,Kv.map (AV.int .i64)⟩::⟨.ptr JH JI 0 0,5,[.agg [D1,E_,v30,DB,.int .i64 DX.Dr]]⟩::⟨D1,1,DX.Ds.map (AV.int .i64)⟩::⟨E_,1,(bg Dv d29 DX.Dq).set a1.toNat (DP)⟩::⟨v30,1,DX.Dw.map (AV.int .i64)⟩::⟨DB,1,DX.Dx.map (AV.int .i64)⟩::⟨.ptr Dz DA 0 0,5,[.agg [.fz (a0.Ds.map (AV.int .i64)),.fz (a0.Dq.map (zE (AV.int .i64))),.fz (a0.Dw.map (AV.int .i64)),.fz (a0.Dx.map (AV.int .i64)),.int .i64 a0.Dr]]⟩::⟨.ptr DL DM 0 0,5,[.agg [.nil,.nil,.nil,.nil,.int .i64 0]]⟩::((mY Du (AV.int .i64) 1 d29 DX.Dq a1.toNat) ++ (F))):=aq.CG (bl:=[[⟨DP,1,Kv.map (AV.int .i64)⟩],[⟨E_,1,(bg Dv d29 DX.Dq).set a1.toNat (DP)⟩],(mY Du (AV.int .i64) 1 d29 DX.Dq a1.toNat),[⟨.ptr JH JI 0 0,5,[.agg [D1,E_,v30,DB,.int .i64 DX.Dr]]⟩],[⟨D1,1,DX.Ds.map (AV.int .i64)⟩],[⟨v30,1,DX.Dw.map (AV.int .i64)⟩],[⟨DB,1,DX.Dx.map (AV.int .i64)⟩],[⟨.ptr Dz DA 0 0,5,[.agg [.fz (a0.Ds.map (AV.int .i64)),.fz (a0.Dq.map (zE (AV.int .i64))),.fz (a0.Dw.map (AV.int .i64)),.fz (a0.Dx.map (AV.int .i64)),.int .i64 a0.Dr]]⟩],[⟨.ptr DL DM 0 0,5,[.agg [.nil,.nil,.nil,.nil,.int .i64 0]]⟩]]) (F:=F) hS 9 rfl [0,3,4,1,5,6,7,8,2] (by decide)
   refine CK (x:=DP) 3 hS rfl rfl rfl rfl rfl (gI Ig).1 (CO ND Ig) La (fun afN afO afP L8 Zs=> ?_);obtain ⟨afQ,Zt,Zu⟩:=Zs;try simp only [W,EE,Zt,Zu,Hp.rd]
   refine BA (el:=([a2]:List Int).map (AV.int .i64)) hS rfl rfl rfl rfl rfl rfl rfl fun Jj H OZ hS=> ?_;try simp only [W,EE]
   refine BO (l:=Kv) (c:=(AV.int .i64)) 1 hS rfl Hp rfl rfl rfl (hS.gJ 0 rfl OZ) (fun _=>rfl) rfl h fun L9 H Gr NE hm h hS=> ?_;refine BZ ?_;refine B0 (by first|rfl|(simp [aK,W,EE,hS.var 2 rfl];done)|exact CA 4 hS rfl rfl rfl rfl rfl L8 Ig rfl rfl rfl rfl|exact CB 4 hS rfl rfl L8 Ig rfl rfl rfl) ?_
   refine B0 (by first|rfl|(simp [aK,W,EE,bO,ju,aG,AV.cells,hS.var 2 rfl];done)|exact CA 4 hS rfl rfl rfl rfl rfl L8 Ig rfl rfl rfl rfl|exact CB 4 hS rfl rfl L8 Ig rfl rfl rfl) ?_
   refine B0 (by first|rfl|(simp [aK,W,EE,EN,bO,ju,aG,AV.cells,hS.var 2 rfl,hS.var 7 rfl,hS.var 8 rfl];done)|exact CA 4 hS rfl rfl rfl rfl rfl L8 Ig rfl rfl rfl rfl|exact CB 4 hS rfl rfl L8 Ig rfl rfl rfl) ?_
   refine B1 ?_;try simp only [W,EE]
   refine CK (x:=DP) 4 hS rfl rfl rfl rfl rfl (gI Ig).1 (CO ND Ig) La (fun afR afS afT Zv Zw=> ?_);obtain ⟨afU,afV,afW⟩:=Zw;try simp only [W]
   refine CL (a:=L9) (y' :=L9) (i:=a1.toNat) 4 hS rfl Zv (CO ND Ig) rfl rfl rfl (by rw [NE.cells];rfl) NE.By (NE.B8 Hp) (by first|rfl|(rw [NE.cells];rfl)) (List.set_set ..) fun H hS=> ?_
   try simp only [W]
   refine A_ Zr ?_;refine AW fun Se KK=> ?_;refine Bk gC ?_;try simp only [W,EE,reduceIte,Nat.reduceAdd,Nat.reduceLeDiff,hS.var 2 rfl]
   refine Bt (a:= .agg [D1,E_,v30,DB,.int .i64 DX.Dr]) (y' := .agg [D1,E_,v30,DB,.int .i64 DX.Dr]) 8 hS rfl rfl rfl rfl rfl (by simp only [di,List.all_cons,List.all_nil,GD.pL,La.pL,GF.pL,Gi.pL];rfl) rfl rfl fun H hS=> ?_
   try simp only [W]
   refine A_ KK ?_;refine AZ ?_;have hS:aq _ (⟨L9,1,Gr.map (AV.int .i64)⟩::⟨E_,1,(bg Dv d29 DX.Dq).set a1.toNat (L9)⟩::((mY Du (AV.int .i64) 1 d29 DX.Dq a1.toNat) ++ (⟨Jj,1,([a2]:List Int).map (AV.int .i64)⟩::⟨.ptr JH JI 0 0,5,[.agg [D1,E_,v30,DB,.int .i64 DX.Dr]]⟩::⟨D1,1,DX.Ds.map (AV.int .i64)⟩::⟨v30,1,DX.Dw.map (AV.int .i64)⟩::⟨DB,1,DX.Dx.map (AV.int .i64)⟩::⟨.ptr Dz DA 0 0,5,[.agg [.fz (a0.Ds.map (AV.int .i64)),.fz (a0.Dq.map (zE (AV.int .i64))),.fz (a0.Dw.map (AV.int .i64)),.fz (a0.Dx.map (AV.int .i64)),.int .i64 a0.Dr]]⟩::⟨.ptr DL DM 0 0,5,[.agg [D1,E_,v30,DB,.int .i64 DX.Dr]]⟩::F))):=aq.CG (bl:=[[⟨Jj,1,([a2]:List Int).map (AV.int .i64)⟩],[⟨L9,1,Gr.map (AV.int .i64)⟩],[⟨.ptr JH JI 0 0,5,[.agg [D1,E_,v30,DB,.int .i64 DX.Dr]]⟩],[⟨D1,1,DX.Ds.map (AV.int .i64)⟩],[⟨E_,1,(bg Dv d29 DX.Dq).set a1.toNat (L9)⟩],[⟨v30,1,DX.Dw.map (AV.int .i64)⟩],[⟨DB,1,DX.Dx.map (AV.int .i64)⟩],[⟨.ptr Dz DA 0 0,5,[.agg [.fz (a0.Ds.map (AV.int .i64)),.fz (a0.Dq.map (zE (AV.int .i64))),.fz (a0.Dw.map (AV.int .i64)),.fz (a0.Dx.map (AV.int .i64)),.int .i64 a0.Dr]]⟩],[⟨.ptr DL DM 0 0,5,[.agg [D1,E_,v30,DB,.int .i64 DX.Dr]]⟩],(mY Du (AV.int .i64) 1 d29 DX.Dq a1.toNat)]) (F:=F) hS 10 rfl [1,4,9,0,2,3,5,6,7,8] (by decide)
   obtain ⟨d48,Zx,hS⟩:=Aa (p:=Du) (c:=(AV.int .i64)) (m:=Dv) (b:=Kv) (y:=Gr) hS ND NE Ig;have hS:aq _ (⟨Jj,1,([a2]:List Int).map (AV.int .i64)⟩::⟨.ptr JH JI 0 0,5,[.agg [D1,E_,v30,DB,.int .i64 DX.Dr]]⟩::⟨D1,1,DX.Ds.map (AV.int .i64)⟩::⟨E_,1,bg Dv d48 (DX.Dq.set a1.toNat Gr)⟩::⟨v30,1,DX.Dw.map (AV.int .i64)⟩::⟨DB,1,DX.Dx.map (AV.int .i64)⟩::⟨.ptr Dz DA 0 0,5,[.agg [.fz (a0.Ds.map (AV.int .i64)),.fz (a0.Dq.map (zE (AV.int .i64))),.fz (a0.Dw.map (AV.int .i64)),.fz (a0.Dx.map (AV.int .i64)),.int .i64 a0.Dr]]⟩::⟨.ptr DL DM 0 0,5,[.agg [D1,E_,v30,DB,.int .i64 DX.Dr]]⟩::((bG Du (AV.int .i64) 1 d48 (DX.Dq.set a1.toNat Gr)) ++ (F))):=aq.CG (bl:=[[⟨E_,1,bg Dv d48 (DX.Dq.set a1.toNat Gr)⟩],(bG Du (AV.int .i64) 1 d48 (DX.Dq.set a1.toNat Gr)),[⟨Jj,1,([a2]:List Int).map (AV.int .i64)⟩],[⟨.ptr JH JI 0 0,5,[.agg [D1,E_,v30,DB,.int .i64 DX.Dr]]⟩],[⟨D1,1,DX.Ds.map (AV.int .i64)⟩],[⟨v30,1,DX.Dw.map (AV.int .i64)⟩],[⟨DB,1,DX.Dx.map (AV.int .i64)⟩],[⟨.ptr Dz DA 0 0,5,[.agg [.fz (a0.Ds.map (AV.int .i64)),.fz (a0.Dq.map (zE (AV.int .i64))),.fz (a0.Dw.map (AV.int .i64)),.fz (a0.Dx.map (AV.int .i64)),.int .i64 a0.Dr]]⟩],[⟨.ptr DL DM 0 0,5,[.agg [D1,E_,v30,DB,.int .i64 DX.Dr]]⟩]]) (F:=F) hS 9 rfl [2,3,4,0,5,6,7,8,1] (by decide)
   refine Bg DQ (BU rfl rfl (hS.var 7 rfl) rfl (BV rfl rfl)) ?_;try obtain rfl:=Option.some.inj h
   have hS:aq _ (⟨D1,1,DX.Ds.map (AV.int .i64)⟩::⟨E_,1,bg Dv d48 (DX.Dq.set a1.toNat Gr)⟩::⟨v30,1,DX.Dw.map (AV.int .i64)⟩::⟨DB,1,DX.Dx.map (AV.int .i64)⟩::((bG Du (AV.int .i64) 1 d48 (DX.Dq.set a1.toNat Gr)) ++ (F))):=aq.CG (bl:=[[⟨Jj,1,([a2]:List Int).map (AV.int .i64)⟩],[⟨.ptr JH JI 0 0,5,[.agg [D1,E_,v30,DB,.int .i64 DX.Dr]]⟩],[⟨D1,1,DX.Ds.map (AV.int .i64)⟩],[⟨E_,1,bg Dv d48 (DX.Dq.set a1.toNat Gr)⟩],[⟨v30,1,DX.Dw.map (AV.int .i64)⟩],[⟨DB,1,DX.Dx.map (AV.int .i64)⟩],[⟨.ptr Dz DA 0 0,5,[.agg [.fz (a0.Ds.map (AV.int .i64)),.fz (a0.Dq.map (zE (AV.int .i64))),.fz (a0.Dw.map (AV.int .i64)),.fz (a0.Dx.map (AV.int .i64)),.int .i64 a0.Dr]]⟩],[⟨.ptr DL DM 0 0,5,[.agg [D1,E_,v30,DB,.int .i64 DX.Dr]]⟩],(bG Du (AV.int .i64) 1 d48 (DX.Dq.set a1.toNat Gr))]) (F:=F) hS 9 rfl [2,3,4,5,8] (by decide)
   exact hP _ GD _ La _ Zx _ GF _ Gi _ hS
theorem Zy {a0:List Int} {r:(List Int)} (h:Kw a0=some r) {F:List It} {H:J} (hS:aq H (F)) {P:AV→J→Prop} (hP: ∀v11:AV,aJ v11→ ∀H',aq H' (⟨v11,1,r.map (AV.int .i64)⟩::F)→P (v11) H'):aw C 28 [.fz (a0.map (AV.int .u8))] H P:=by
 refine Bn gC (res:=[.tmp 2]) (n:=9) rfl rfl rfl rfl fun K0 DQ=> ?_;simp only [W,Nat.reduceSub,Nat.reduceAdd,List.replicate];unfold Kw at h;refine AW fun K1 D5=> ?_;refine Bk gC ?_;try simp only [W,Nat.reduceAdd]
 refine A_ D5 ?_;refine AW fun K2 y7=> ?_;refine Bk gC ?_;try simp only [W,EE,Nat.reduceAdd]
 refine BX rfl rfl rfl rfl rfl ?_;try simp only [W]
 refine Br hS rfl rfl rfl rfl fun ip3 wp3 H hS=> ?_;try simp only [W]
 refine A_ y7 ?_;refine AW fun K5 FA=> ?_;refine Bk gC ?_;try simp only [W,Nat.reduceAdd]
 refine BB h fun Dt GQ h=> ?_;obtain ⟨El,FF⟩:=Dt;try dsimp only at h
 refine R1 GQ hS fun DE FW H hS=> ?_;try simp only [W]
 refine A_ FA ?_;refine AZ ?_;refine Bh DQ rfl ?_;try obtain rfl:=Option.some.inj h
 exact hP _ FW _ (hS.BT 2 [0] (by decide))
theorem Zz {a0:List Int} {r:(DJ×Bool)} (h:Kx a0=some r) {F:List It} {H:J} (hS:aq H (F)) {P:AV→J→Prop} (hP: ∀Em:AV,aJ Em→ ∀EZ:AV,aJ EZ→ ∀d33:List AV,bI d33 (r.1.Dq).length→ ∀Gv:AV,aJ Gv→ ∀J6:AV,aJ J6→ ∀H',aq H' (⟨Em,1,r.1.Ds.map (AV.int .i64)⟩::⟨EZ,1,bg Dv d33 r.1.Dq⟩::⟨Gv,1,r.1.Dw.map (AV.int .i64)⟩::⟨J6,1,r.1.Dx.map (AV.int .i64)⟩::((bG Du (AV.int .i64) 1 d33 r.1.Dq) ++ F))→P (.aE [.agg [Em,EZ,Gv,J6,.int .i64 r.1.Dr],.bool r.2]) H'):aw C 29 [.fz (a0.map (AV.int .i64))] H P:=by
 refine Bn gC (res:=[.cell 2 26,.tmp 3]) (n:=20) rfl rfl rfl rfl fun K0 DQ=> ?_;simp only [W,Nat.reduceSub,Nat.reduceAdd,List.replicate];unfold Kx at h;refine AW fun K1 D5=> ?_;refine Bk gC ?_;try simp only [W,Nat.reduceAdd]
 refine Bs hS rfl rfl fun Dz DA H hS=> ?_;try simp only [W]
 refine A_ D5 ?_;refine AW fun K4 Ez=> ?_;refine AW fun K5 FA=> ?_;refine Bk gC ?_;try simp only [W,Nat.reduceAdd]
 refine BB h fun Dt GQ h=> ?_;refine S5 GQ hS fun H hS=> ?_;try simp only [W]
 refine A_ FA ?_;refine A8 ?_;simp only [W];refine Bj h (fun hc h=> ?_) (fun hc h=> ?_)
 ·refine AW fun K7 Fq=> ?_;refine Bk gC ?_;try simp only [W,EE,Nat.reduceAdd]
  refine BX rfl rfl rfl rfl rfl ?_;try simp only [W]
  refine Bt (a:= .agg [.nil,.nil,.nil,.nil,.int .i64 0]) (y' := .agg [.nil,.nil,.nil,.nil,.int .i64 0]) 0 hS rfl rfl rfl rfl rfl rfl rfl rfl fun H hS=> ?_
  try simp only [W]
  refine A_ Fq ?_;refine AZ ?_;refine Ba Ez ?_;have hS:=hS.uo 1;have hS:=hS.uo 1;obtain ⟨d10,QF,hS⟩:=CI (p:=Du) (c:=(AV.int .i64)) (z:=1) (m:=Dv) hS;have hS:aq _ (⟨AV.nil,1,bg Dv d10 ([]:List (List Int))⟩::⟨AV.nil,1,([]:List Int).map (AV.int .i64)⟩::⟨.ptr Dz DA 0 0,5,[.agg [.nil,.nil,.nil,.nil,.int .i64 0]]⟩::((bG Du (AV.int .i64) 1 d10 ([]:List (List Int))) ++ (F))):=aq.CG (bl:=[[⟨AV.nil,1,bg Dv d10 ([]:List (List Int))⟩],(bG Du (AV.int .i64) 1 d10 ([]:List (List Int))),[⟨AV.nil,1,([]:List Int).map (AV.int .i64)⟩],[⟨.ptr Dz DA 0 0,5,[.agg [.nil,.nil,.nil,.nil,.int .i64 0]]⟩]]) (F:=F) hS 4 rfl [0,2,3,1] (by decide)
  have hS:=hS.uo 1;have hS:=hS.uo 1;refine Bg DQ (BU rfl rfl (hS.var 4 rfl) rfl (BV rfl rfl)) ?_;try obtain rfl:=Option.some.inj h
  have hS:aq _ (⟨AV.nil,1,([]:List Int).map (AV.int .i64)⟩::⟨AV.nil,1,bg Dv d10 ([]:List (List Int))⟩::⟨AV.nil,1,([]:List Int).map (AV.int .i64)⟩::⟨AV.nil,1,([]:List Int).map (AV.int .i64)⟩::((bG Du (AV.int .i64) 1 d10 ([]:List (List Int))) ++ (F))):=aq.CG (bl:=[[⟨AV.nil,1,([]:List Int).map (AV.int .i64)⟩],[⟨AV.nil,1,([]:List Int).map (AV.int .i64)⟩],[⟨AV.nil,1,bg Dv d10 ([]:List (List Int))⟩],[⟨AV.nil,1,([]:List Int).map (AV.int .i64)⟩],[⟨.ptr Dz DA 0 0,5,[.agg [.nil,.nil,.nil,.nil,.int .i64 0]]⟩],(bG Du (AV.int .i64) 1 d10 ([]:List (List Int)))]) (F:=F) hS 6 rfl [3,2,1,0,5] (by decide)
  exact hP _ lh _ lh _ QF _ lh _ lh _ hS
 ·refine AY ?_;refine A_ Ez ?_;refine AW fun Oa Jb=> ?_;refine Bk gC ?_;try simp only [W,EE,Nat.reduceAdd]
  refine A_ Jb ?_;refine AW fun LL Hb=> ?_;refine BY gC [(9,[])] (by kernel_rfl) rfl (by kernel_rfl) ?_
  try simp only [W,reduceIte,Nat.reduceAdd,Nat.reduceBEq,iG,ln,Nat.reduceEqDiff,List.contains_cons,Nat.reduceBEq,Bool.or_self]
  refine Cp (b5:=[[.sl [.sc]]]) (ys:=[.fz (a0.map (AV.int .i64))]) h rfl (by rfl) fun EY Je h=>⟨.own 1 (EY.map (AV.int .i64)),Ny Je (aq.nil _) fun FE Hm H hS=>Ch rfl (Cf 0 hS rfl Hm (fun _ _=>by simp [aR,aP,dj]) fun H hS=>Cd rfl),(Cq _ (fun _=>rfl) _),?_⟩
  refine Cm ?_;refine Ck hS (fun _ _=>rfl) (fun _=>rfl) fun Ec H F2 hS=> ?_;refine Ci ?_;try simp only [List.headD_cons]
  try simp only [W]
  refine CR (m:=Dv) (p:=Du) (c:=(AV.int .i64)) (z:=1) hS rfl rfl rfl rfl rfl rfl rfl h fun F4 H HZ d22 KQ KN hm h hS=> ?_;have hS:aq _ (⟨F4,1,bg Dv d22 HZ⟩::⟨Ec,1,EY.map (AV.int .i64)⟩::⟨.ptr Dz DA 0 0,5,[.agg [.nil,.nil,.nil,.nil,.int .i64 0]]⟩::((bG Du (AV.int .i64) 1 d22 HZ) ++ (F))):=aq.CG (bl:=[[⟨F4,1,bg Dv d22 HZ⟩],(bG Du (AV.int .i64) 1 d22 HZ),[⟨Ec,1,EY.map (AV.int .i64)⟩],[⟨.ptr Dz DA 0 0,5,[.agg [.nil,.nil,.nil,.nil,.int .i64 0]]⟩]]) (F:=F) hS 4 rfl [0,2,3,1] (by decide)
  try simp only [W]
  refine zw (c:=(AV.int .i64)) hS rfl rfl rfl rfl rfl rfl h fun FJ H N9 Hc hm h hS=> ?_;try simp only [W]
  refine zw (c:=(AV.int .i64)) hS rfl rfl rfl rfl rfl rfl h fun Es H FH G8 hm h hS=> ?_;try simp only [W,EE]
  refine BX rfl rfl rfl rfl (by simp only [fB,F2.By,F2.cells,KQ.By,KQ.cells,Hc.By,Hc.cells,G8.By,G8.cells];simp [E,splice,AV.cells,di,cG]<;>rfl) ?_
  try simp only [W]
  refine Bt (a:= .agg [Ec,F4,FJ,Es,.int .i64 0]) (y' := .agg [Ec,F4,FJ,Es,.int .i64 0]) 4 hS rfl rfl rfl rfl rfl (by simp only [di,List.all_cons,List.all_nil,F2.pL,KQ.pL,Hc.pL,G8.pL];rfl) rfl rfl fun H hS=> ?_
  try simp only [W]
  refine A_ Hb ?_;refine AZ ?_;refine Bg DQ (BU rfl rfl (hS.var 4 rfl) rfl (BV rfl rfl)) ?_;try obtain rfl:=Option.some.inj h
  have hS:aq _ (⟨Ec,1,EY.map (AV.int .i64)⟩::⟨F4,1,bg Dv d22 HZ⟩::⟨FJ,1,N9.map (AV.int .i64)⟩::⟨Es,1,FH.map (AV.int .i64)⟩::((bG Du (AV.int .i64) 1 d22 HZ) ++ (F))):=aq.CG (bl:=[[⟨Es,1,FH.map (AV.int .i64)⟩],[⟨FJ,1,N9.map (AV.int .i64)⟩],[⟨F4,1,bg Dv d22 HZ⟩],[⟨Ec,1,EY.map (AV.int .i64)⟩],[⟨.ptr Dz DA 0 0,5,[.agg [Ec,F4,FJ,Es,.int .i64 0]]⟩],(bG Du (AV.int .i64) 1 d22 HZ)]) (F:=F) hS 6 rfl [3,2,1,0,5] (by decide)
  exact hP _ F2 _ KQ _ KN _ Hc _ G8 _ hS
end Go.HC
