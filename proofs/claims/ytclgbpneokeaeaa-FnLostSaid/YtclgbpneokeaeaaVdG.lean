import Derived.Test.YtclgbpneokeaeaaVdG1
import Derived.Test.YtclgbpneokeaeaaProg
import Derived.Test.YtclgbpneokeaeaaVaG
import Derived.KernelRfl
open Go Go.VS
set_option maxRecDepth 8000
set_option maxHeartbeats 4000000
namespace Go.GB
theorem R2 {a0:List Span} {a1:Span} {r:(List Span)} (h:Kk a0 a1=some r) {F:List It} {H:J} (hS:ay H (F)) {P:AV→J→Prop} (hP: ∀v82:AV,bp v82→ ∀H',ay H' (⟨v82,2,r.map El⟩::F)→P (v82) H'):aq C 120 [.fz (a0.map El),.agg [.int .i64 a1.Em,.int .i64 a1.To]] H P:=by
 refine Cp gC (res:=[.tmp 4]) (n:=72) rfl rfl rfl rfl fun K0 En=> ?_;simp only [W,Nat.reduceSub,Nat.reduceAdd,List.replicate];unfold Kk at h;refine B5 fun K1 Er=> ?_;refine Cm gC ?_;try simp only [W,Nat.reduceAdd]
 refine Cr hS rfl rfl rfl rfl fun Eu Ev H hS=> ?_;try simp only [W]
 refine Cb Er ?_;refine B5 fun K4 EI=> ?_;refine Cm gC ?_;try simp only [W,Nat.reduceAdd]
 refine Cb EI ?_;refine B5 fun K5 EV=> ?_;refine Cm gC ?_;try simp only [W,Nat.reduceAdd]
 refine Cb EV ?_;refine B5 fun K6 Fg=> ?_;obtain ⟨HD,MD,g21⟩:=Option.bind_eq_some_iff.1 h;refine CH gC (fun s H=> ∃EJ:List Span,∃EC:Int,HD=(EJ,EC)∧ ∃v12:AV,bp v12∧s=(.fz (a0.map El)::u::u:: .ptr Eu Ev 0 0::u::v12:: .int .i64 EC::u::u::u::u::u::u::u::u::u::u::u::u::u::u::u::u::u::u::u::u::u::u::u::u::u::u::u::u::u::u::u::u::u::u::u::u::u::u::u::u::u::u::u::u::u::u::u::u::u::u::u::u::u::u::u::u::u::u::u::u::u::u::u::u::u::[])∧ay H (⟨v12,2,EJ.map El⟩::⟨.ptr Eu Ev 0 0,2,[.agg [.int .i64 a1.Em,.int .i64 a1.To]]⟩::F)) (fun F8 EQ=> ?_) (fun s H hq=> ?_)
 ·refine B6 fun FY EH=> ?_;refine CD gC MD (fun x s H=>match x with|(EZ,Et)=> ∃GR:AV,bp GR∧s=(.fz (a0.map El)::u::u:: .ptr Eu Ev 0 0::u::GR:: .int .i64 Et::u::u::u::u::u::u::u::u::u::u::u::u::u::u::u::u::u::u::u::u::u::u::u::u::u::u::u::u::u::u::u::u::u::u::u::u::u::u::u::u::u::u::u::u::u::u::u::u::u::u::u::u::u::u::u::u::u::u::u::u::u::u::u::u::u::[])∧ay H (⟨GR,2,EZ.map El⟩::⟨.ptr Eu Ev 0 0,2,[.agg [.int .i64 a1.Em,.int .i64 a1.To]]⟩::F)) ⟨_,nt,rfl,(hS.Au 2)⟩ (fun x RG s H h ME hi Gc ET=> ?_)
  obtain ⟨EZ,Et⟩:=x;try dsimp only at hi
  obtain ⟨GR,II,rfl,hS⟩:=hi;simp only [Lt] at h;refine B5 fun Iw FL=> ?_;refine B5 fun Ib FI=> ?_;obtain ⟨Ky,h,JQ⟩:=Option.bind_eq_some_iff.1 h;refine CH gC (fun s H=> ∃Gg:Bool,Ky=(Gg)∧s=(.fz (a0.map El)::u::u:: .ptr Eu Ev 0 0::u::GR:: .int .i64 Et::u::u::u::u::u::u::u::u::u::u::u::u::u:: .bool Gg::u::u::u::u::u::u::u::u::u::u::u::u::u::u::u::u::u::u::u::u::u::u::u::u::u::u::u::u::u::u::u::u::u::u::u::u::u::u::u::u::u::u::u::u::u::u::u::u::u::u::u::[])∧ay H (⟨GR,2,EZ.map El⟩::⟨.ptr Eu Ev 0 0,2,[.agg [.int .i64 a1.Em,.int .i64 a1.To]]⟩::F)) (fun Gy Fa=> ?_) (fun s H hq=> ?_)
  ·refine B5 fun Hk Fs=> ?_;refine Co gC (by kernel_rfl) ?_
   try simp only [W,EE,Nat.reduceAdd]
   refine C6 h (fun hc h=> ?_) (fun hc h=> ?_)
   ·try simp only [W,EE,hc]
    refine Cv rfl rfl rfl (fun _=>rfl) h fun Gv Oh h=> ?_;try simp only [W,EE,EN,reduceIte,Nat.reduceAdd,Nat.reduceBEq,hS.var 1 rfl]
    refine Cb Fs ?_;refine DR (s' :=(.fz (a0.map El)::u::u:: .ptr Eu Ev 0 0::u::GR:: .int .i64 Et::u::u::u::u::u::u::u::u::u::u::u::u::u:: .bool (decide (Gv.To<a1.Em))::u::u::u::u::u::u::u::u::u::u::u::u::u::u::u::u::u::u::u::u::u::u::u::u::u::u::u::u::u::u::u::u::u::u::u::u::u::u::u::u::u::u::u::u::u::u::u::u::u::u::u::[])) rfl ?_
    exact CI Fa ⟨_,(Option.some.inj h).symm,rfl,hS⟩
   ·try simp only [W,hc]
    refine Cb Fs ?_;refine DR (s' :=(.fz (a0.map El)::u::u:: .ptr Eu Ev 0 0::u::GR:: .int .i64 Et::u::u::u::u::u::u::u::u::u::u::u::u::u:: .bool false::u::u::u::u::u::u::u::u::u::u::u::u::u::u::u::u::u::u::u::u::u::u::u::u::u::u::u::u::u::u::u::u::u::u::u::u::u::u::u::u::u::u::u::u::u::u::u::u::u::u::u::[])) rfl ?_
    exact CI Fa ⟨_,(Option.some.inj h).symm,rfl,hS⟩
  ·obtain ⟨Gg,Eo,rfl,hS⟩:=hq;obtain rfl:=Eo.symm;replace h:=JQ;try dsimp only at h
   refine Cb FI ?_;refine B_ ?_;simp only [W];refine Cl h (fun hc h=> ?_) (fun hc h=> ?_)
   ·refine B7 ?_;refine Cb FL ?_;refine B6 fun Ms HF=> ?_;refine B5 fun Ku Hn=> ?_;refine Cm gC ?_;try simp only [W,EE,Nat.reduceAdd]
    refine Cv rfl rfl rfl (fun _=>rfl) h fun Hw RH h=> ?_;try simp only [W,EE,EN,reduceIte,Nat.reduceAdd,Nat.reduceLeDiff]
    refine CB (el:=([Hw]:List Span).map El) hS rfl rfl rfl rfl rfl rfl rfl fun v33 H Jd hS=> ?_;try simp only [W,EE]
    refine CR (l:=EZ) (c:=El) 1 hS rfl II rfl rfl rfl (hS.iu 0 rfl Jd) (fun _=>rfl) rfl h fun UQ H I6 Pq hm h hS=> ?_;try simp only [W]
    refine Cb Hn ?_;refine Cm gC ?_;try simp only [W,EE,Nat.reduceAdd]
    refine Cf HF ?_;exact CE ET h ⟨_,Pq,rfl,(hS.C2 3 [1,2] (by decide))⟩
   ·refine B9 ?_;refine Cd FL ?_;try obtain rfl:=Option.some.inj h
    obtain rfl:=ME _ rfl;have h:(some (EZ,Et):Option ((List Span)×Int))=some (EZ,Et):=rfl;refine CF ET ?_;refine Cg EH ?_;exact CI EQ ⟨_,_,(Option.some.inj h).symm,_,II,rfl,hS⟩
 ·obtain ⟨EJ,EC,rfl,v12,Pp,rfl,hS⟩:=hq;replace h:=g21;try dsimp only at h
  refine Cb Fg ?_;refine B5 fun NV HR=> ?_;obtain ⟨Wk,Wl,Wm⟩:=Option.bind_eq_some_iff.1 h;refine CH gC (fun s H=> ∃HM:Int,∃Kl:Int,∃Gb:Int,Wk=(HM,Kl,Gb)∧s=(.fz (a0.map El)::u::u:: .ptr Eu Ev 0 0::u::v12:: .int .i64 HM::u::u::u::u::u::u::u::u::u::u::u::u::u::u::u::u::u::u::u::u::u::u::u::u::u::u::u::u::u::u::u::u::u::u::u::u::u::u::u::u::u::u::u::u::u::u::u::u::u::u::u::u::u::u::u::u::u::u::u::u::u::u::u::u::u::[])∧ay H (⟨v12,2,EJ.map El⟩::⟨.ptr Eu Ev 0 0,2,[.agg [.int .i64 Kl,.int .i64 Gb]]⟩::F)) (fun NZ IC=> ?_) (fun s H hq=> ?_)
  ·refine B6 fun N0 Ie=> ?_;refine CD gC Wl (fun x s H=>match x with|(F1,GF,Ga)=>s=(.fz (a0.map El)::u::u:: .ptr Eu Ev 0 0::u::v12:: .int .i64 F1::u::u::u::u::u::u::u::u::u::u::u::u::u::u::u::u::u::u::u::u::u::u::u::u::u::u::u::u::u::u::u::u::u::u::u::u::u::u::u::u::u::u::u::u::u::u::u::u::u::u::u::u::u::u::u::u::u::u::u::u::u::u::u::u::u::[])∧ay H (⟨v12,2,EJ.map El⟩::⟨.ptr Eu Ev 0 0,2,[.agg [.int .i64 GF,.int .i64 Ga]]⟩::F)) ⟨rfl,hS⟩ (fun x y53 s H h Wn hi Oa Ih=> ?_)
   obtain ⟨F1,GF,Ga⟩:=x;try dsimp only at hi
   obtain ⟨rfl,hS⟩:=hi;simp only [Lu] at h;refine B5 fun Rf JG=> ?_;refine B5 fun O_ Ja=> ?_;obtain ⟨Wo,h,Wp⟩:=Option.bind_eq_some_iff.1 h;refine CH gC (fun s H=> ∃Lv:Bool,Wo=(Lv)∧s=(.fz (a0.map El)::u::u:: .ptr Eu Ev 0 0::u::v12:: .int .i64 F1::u::u::u::u::u::u::u::u::u::u::u::u::u::u::u::u::u::u::u::u::u::u::u::u::u::u::u::u::u::u::u::u::u::u::u::u:: .bool Lv::u::u::u::u::u::u::u::u::u::u::u::u::u::u::u::u::u::u::u::u::u::u::u::u::u::u::u::u::[])∧ay H (⟨v12,2,EJ.map El⟩::⟨.ptr Eu Ev 0 0,2,[.agg [.int .i64 GF,.int .i64 Ga]]⟩::F)) (fun Wq KE=> ?_) (fun s H hq=> ?_)
   ·refine B5 fun Pw ID=> ?_;refine Co gC (by kernel_rfl) ?_
    try simp only [W,EE,Nat.reduceAdd]
    refine C6 h (fun hc h=> ?_) (fun hc h=> ?_)
    ·try simp only [W,EE,hc]
     refine Cv rfl rfl rfl (fun _=>rfl) h fun OT abW h=> ?_;try simp only [W,EE,EN,reduceIte,Nat.reduceAdd,Nat.reduceBEq,hS.var 1 rfl]
     refine Cb ID ?_;refine DR (s' :=(.fz (a0.map El)::u::u:: .ptr Eu Ev 0 0::u::v12:: .int .i64 F1::u::u::u::u::u::u::u::u::u::u::u::u::u::u::u::u::u::u::u::u::u::u::u::u::u::u::u::u::u::u::u::u::u::u::u::u:: .bool (decide (OT.Em≤Ga))::u::u::u::u::u::u::u::u::u::u::u::u::u::u::u::u::u::u::u::u::u::u::u::u::u::u::u::u::[])) rfl ?_
     exact CI KE ⟨_,(Option.some.inj h).symm,rfl,hS⟩
    ·try simp only [W,hc]
     refine Cb ID ?_;refine DR (s' :=(.fz (a0.map El)::u::u:: .ptr Eu Ev 0 0::u::v12:: .int .i64 F1::u::u::u::u::u::u::u::u::u::u::u::u::u::u::u::u::u::u::u::u::u::u::u::u::u::u::u::u::u::u::u::u::u::u::u::u:: .bool false::u::u::u::u::u::u::u::u::u::u::u::u::u::u::u::u::u::u::u::u::u::u::u::u::u::u::u::u::[])) rfl ?_
     exact CI KE ⟨_,(Option.some.inj h).symm,rfl,hS⟩
   ·obtain ⟨Lv,Eo,rfl,hS⟩:=hq;obtain rfl:=Eo.symm;replace h:=Wp;try dsimp only at h
    refine Cb Ja ?_;refine B_ ?_;simp only [W];refine Cl h (fun hc h=> ?_) (fun hc h=> ?_)
    ·refine B7 ?_;refine Cb JG ?_;refine B6 fun RY MS=> ?_;refine B5 fun R3 MT=> ?_;refine C8 gC [(17,[])] (by kernel_rfl) rfl (by kernel_rfl) ?_
     try simp only [W,EE,reduceIte,Nat.reduceAdd,Nat.reduceBEq,hS.var 1 rfl,iX,lJ,Nat.reduceEqDiff]
     refine Cv rfl rfl rfl (fun _=>rfl) h fun OU HH h=> ?_;try simp only [W,EE,EN,Nat.reduceAdd,Nat.reduceBEq]
     refine Du (b6:=[[.sc]]) (ys:=[.int .i64 GF,.int .i64 OU.Em]) h rfl (by rfl) fun Lw Wr h=>⟨.int .i64 Lw,Rc Wr (ay.nil _) fun H hS=>Dm rfl (Dj rfl (Di rfl)),⟨rfl,rfl,fun _=>rfl⟩,?_⟩
     try simp only [W,EE,Nat.reduceAdd,Nat.reduceBEq,hS.var 1 rfl]
     refine Cv rfl rfl rfl (fun _=>rfl) h fun OV abX h=> ?_;try simp only [W,EE,EN,Nat.reduceAdd,Nat.reduceBEq]
     refine Du (b6:=[[.sc]]) (ys:=[.int .i64 Ga,.int .i64 OV.To]) h rfl (by rfl) fun Ly Ws h=>⟨.int .i64 Ly,PP Ws (ay.nil _) fun H hS=>Dm rfl (Dj rfl (Di rfl)),⟨rfl,rfl,fun _=>rfl⟩,?_⟩
     try simp only [W,EE]
     refine C7 rfl rfl rfl rfl rfl ?_;try simp only [W]
     refine Ct (a:= .agg [.int .i64 Lw,.int .i64 Ly]) (y' := .agg [.int .i64 Lw,.int .i64 Ly]) 1 hS rfl rfl rfl rfl rfl rfl rfl rfl fun H hS=> ?_
     try simp only [W]
     refine Cb MT ?_;refine Cm gC ?_;try simp only [W,EE,Nat.reduceAdd]
     refine Cf MS ?_;exact CE Ih h ⟨rfl,hS⟩
    ·refine B9 ?_;refine Cd JG ?_;try obtain rfl:=Option.some.inj h
     obtain rfl:=Wn _ rfl;have h:(some (F1,GF,Ga):Option (Int×Int×Int))=some (F1,GF,Ga):=rfl;refine CF Ih ?_;refine Cg Ie ?_;exact CI IC ⟨_,_,_,(Option.some.inj h).symm,rfl,hS⟩
  ·obtain ⟨HM,Kl,Gb,rfl,rfl,hS⟩:=hq;replace h:=Wm;try dsimp only at h
   refine Cb HR ?_;refine B5 fun Rg Mm=> ?_;refine Cm gC ?_;try simp only [W,EE,reduceIte,Nat.reduceAdd,Nat.reduceLeDiff,hS.var 1 rfl]
   refine CB (el:=([(⟨Kl,Gb⟩:Span)]:List Span).map El) hS rfl rfl rfl rfl rfl rfl rfl fun v72 H Wt hS=> ?_;try simp only [W,EE]
   refine CR (l:=EJ) (c:=El) 1 hS rfl Pp rfl rfl rfl (hS.iu 0 rfl Wt) (fun _=>rfl) rfl h fun v75 H Gh KF hm h hS=> ?_;try simp only [W]
   refine Cb Mm ?_;refine B5 fun TP NM=> ?_;refine Cm gC ?_;try simp only [W,EE,Nat.reduceAdd]
   refine CO rfl rfl rfl (fun _=>rfl) h fun G3 abY h=> ?_;try simp only [W,EE]
   refine CR (l:=Gh) (c:=El) 1 hS rfl KF rfl rfl rfl rfl (fun _=>rfl) rfl h fun v80 H IY Ii hm h hS=> ?_;try simp only [W]
   refine Cb NM ?_;refine B8 ?_;refine Cj En rfl ?_;try obtain rfl:=Option.some.inj h
   exact hP _ Ii _ (hS.C2 3 [1] (by decide))
theorem Wu {a0:List Span} {a1:List Span} {r:(List Span)} (h:LA a0 a1=some r) {F:List It} {H:J} (hS:ay H (F)) {P:AV→J→Prop} (hP: ∀Hr:AV,bp Hr→ ∀H',ay H' (⟨Hr,2,r.map El⟩::F)→P (Hr) H'):aq C 146 [.fz (a0.map El),.fz (a1.map El)] H P:=by
 refine Cp gC (res:=[.tmp 4]) (n:=22) rfl rfl rfl rfl fun K0 En=> ?_;simp only [W,Nat.reduceSub,Nat.reduceAdd,List.replicate];unfold LA at h;refine B5 fun K1 Er=> ?_;refine Cm gC ?_;try simp only [W,Nat.reduceAdd]
 refine Cb Er ?_;refine B5 fun K2 zY=> ?_;refine Cm gC ?_;try simp only [W,Nat.reduceAdd]
 refine CA rfl rfl ?_;try simp only [W,EE]
 have hS:=hS.Av 2;refine CR (l:=([]:List Span)) (c:=El) 0 hS rfl nu rfl rfl rfl rfl (fun _=>rfl) rfl h fun v5 H Ez Wv hm h hS=> ?_;try simp only [W]
 refine Cb zY ?_;refine B5 fun K7 EU=> ?_;refine B5 fun K8 EO=> ?_;refine Cm gC ?_;try simp only [W,EE,Nat.reduceAdd]
 refine Cb EO ?_;obtain ⟨JF,Ww,g22⟩:=Option.bind_eq_some_iff.1 h;refine CH gC (fun s H=> ∃EC:List Span,JF=(EC)∧ ∃If:AV,bp If∧s=[u,u,u,u,u,If,u,u,u,u,u,u,u,u,u,u,u,u,u,u,u,u]∧ay H (⟨If,2,EC.map El⟩::F)) (fun FY EH=> ?_) (fun s H hq=> ?_)
 ·refine B6 fun Gc ET=> ?_;refine CD gC Ww (fun x s H=>match x with|(ER,E6)=> ∃v10:AV,bp v10∧s=[u,u,u,u,u,v10,u,u,u,u,u,.fz (a1.map El),.int .i64 (a1.length:Int),.int .i64 E6,u,u,u,u,u,u,u,u]∧ay H (⟨v10,2,ER.map El⟩::F)) ⟨_,Wv,rfl,hS⟩ (fun x Ks s H h Wx hi Gw E9=> ?_)
  obtain ⟨ER,E6⟩:=x;try dsimp only at hi
  obtain ⟨v10,FP,rfl,hS⟩:=hi;simp only [Lz] at h;refine B5 fun Ib FI=> ?_;refine Cm gC ?_;try simp only [W,EE,Nat.reduceAdd]
  refine Cb FI ?_;refine B5 fun GM Ff=> ?_;refine B_ ?_;simp only [W];refine Cl h (fun hc h=> ?_) (fun hc h=> ?_)
  ·refine B7 ?_;refine Cb Ff ?_;refine B5 fun Hj Fj=> ?_;refine B6 fun HB FB=> ?_;refine B5 fun Gy Fa=> ?_;refine Cm gC ?_;try simp only [W,EE,Nat.reduceAdd]
   refine Cv rfl rfl rfl (fun _=>rfl) h fun Gi abZ h=> ?_;try simp only [W,EE,EN,reduceIte,Nat.reduceAdd,Nat.reduceLeDiff]
   refine Cs hS rfl rfl fun ab0 ab1 H hS=> ?_;try simp only [W]
   refine Ct (a:= .agg [.int .i64 Gi.Em,.int .i64 Gi.To]) (y' := .agg [.int .i64 Gi.Em,.int .i64 Gi.To]) 0 hS rfl rfl rfl rfl rfl rfl rfl rfl fun H hS=> ?_
   try simp only [W]
   refine Cb Fa ?_;refine Cm gC ?_;try simp only [W,EE,reduceIte,Nat.reduceAdd,Nat.reduceLeDiff,Nat.reduceBEq,hS.var 0 rfl,List.contains_cons,Nat.reduceBEq,Bool.or_self]
   refine Dv (b6:=[[.sl [.sc,.sc]]]) (ys:=[.fz (ER.map El),.agg [.int .i64 Gi.Em,.int .i64 Gi.To]]) h rfl (Dh (De hS 1 rfl FP (fun _=>rfl)) (Dh rfl Dg)) fun Hv Ru h=>⟨.own 2 (Hv.map El),R2 Ru (ay.nil _) fun v32 Oe H hS=>Dm rfl (Dk 0 hS rfl Oe (fun _ _=>by simp [aY,aO,cp,dp,El]) fun H hS=>Di rfl),(Dw _ (fun _=>rfl) _),?_⟩
   refine Ds ?_;refine Dq hS (fun _ _=>rfl) (fun _=>rfl) fun KG H MU hS=> ?_;refine Dn ?_;try simp only [List.headD_cons]
   try simp only [W]
   refine Cf FB ?_;refine Cb Fj ?_;refine Cm gC ?_;try simp only [W,EE,Nat.reduceAdd]
   exact CE E9 h ⟨_,MU,rfl,(hS.C2 3 [0] (by decide))⟩
  ·refine B9 ?_;refine Cd Ff ?_;try obtain rfl:=Option.some.inj h
   obtain rfl:=Wx _ rfl;have h:(some (ER):Option ((List Span)))=some (ER):=rfl;refine CF E9 ?_;refine Cg ET ?_;exact CI EH ⟨_,(Option.some.inj h).symm,_,FP,rfl,hS⟩
 ·obtain ⟨EC,Eo,If,Kx,rfl,hS⟩:=hq;obtain rfl:=Eo.symm;replace h:=g22;try dsimp only at h
  refine Cb EU ?_;refine B5 fun NK HP=> ?_;refine Cm gC ?_;try simp only [W,Nat.reduceAdd]
  refine Cb HP ?_;refine B8 ?_;refine Cj En rfl ?_;try obtain rfl:=Option.some.inj h
  exact hP _ Kx _ hS
theorem PQ {a0:List Span} {a1:Int} {r:(Bool)} (h:Jy a0 a1=some r) {F:List It} {H:J} (hS:ay H (F)) {P:AV→J→Prop} (hP: ∀H',ay H' (F)→P (.bool r) H'):aq C 110 [.fz (a0.map El),.int .i64 a1] H P:=by
 refine Cp gC (res:=[.tmp 4]) (n:=24) rfl rfl rfl rfl fun K0 En=> ?_;simp only [W,Nat.reduceSub,Nat.reduceAdd,List.replicate];unfold Jy at h;refine B5 fun K1 Er=> ?_;refine Cm gC ?_;try simp only [W,Nat.reduceAdd]
 refine Cb Er ?_;refine B5 fun K2 zY=> ?_;refine B5 fun K3 EG=> ?_;refine Cm gC ?_;try simp only [W,EE,Nat.reduceAdd]
 refine Cb EG ?_;obtain ⟨Gl,GL,g12⟩:=Option.bind_eq_some_iff.1 h;refine CH gC (fun s H=>Gl=LR.next ()∧s=[u,u,u,u,u,u,u,u,u,u,u,u,u,u,u,u,u,u,u,u,u,u,u,u]∧ay H (F)) (fun K7 EU=> ?_) (fun s H hq=> ?_)
 ·refine B6 fun K8 EO=> ?_;refine CD gC GL (fun x s H=>s=[u,.int .i64 a1,u,u,u,u,u,.fz (a0.map El),.int .i64 (a0.length:Int),.int .i64 x,u,u,u,u,u,u,u,u,u,u,u,u,u,u]∧ay H (F)) ⟨rfl,hS⟩ (fun Ez HQ s H h FO hi K9 EK=> ?_)
  skip
  try dsimp only at hi
  obtain ⟨rfl,hS⟩:=hi;simp only [LB] at h;refine B5 fun GJ Fo=> ?_;refine Cm gC ?_;try simp only [W,EE,Nat.reduceAdd]
  refine Cb Fo ?_;refine B5 fun Hz Fe=> ?_;refine B_ ?_;simp only [W];refine Cl h (fun hc h=> ?_) (fun hc h=> ?_)
  ·refine B7 ?_;refine Cb Fe ?_;refine B5 fun G5 E8=> ?_;refine B6 fun F8 EQ=> ?_;refine B5 fun FY EH=> ?_;refine Cm gC ?_;try simp only [W,EE,Nat.reduceAdd]
   refine Cv rfl rfl rfl (fun _=>rfl) h fun EL NP h=> ?_;try simp only [W,EE,EN,reduceIte,Nat.reduceAdd,Nat.reduceLeDiff]
   refine Cs hS rfl rfl fun ab2 ab3 H hS=> ?_;try simp only [W]
   refine Ct (a:= .agg [.int .i64 EL.Em,.int .i64 EL.To]) (y' := .agg [.int .i64 EL.Em,.int .i64 EL.To]) 0 hS rfl rfl rfl rfl rfl rfl rfl rfl fun H hS=> ?_
   try simp only [W]
   refine Cb EH ?_;refine B5 fun HA FA=> ?_;obtain ⟨O4,h,g24⟩:=Option.bind_eq_some_iff.1 h;refine CH gC (fun s H=> ∃LC:Bool,O4=(LC)∧s=[u,.int .i64 a1,u,u,u,u,u,.fz (a0.map El),.int .i64 (a0.length:Int),.int .i64 Ez,u,u,u,u,u,u,u,u,u,u,u,u,.bool LC,u]∧ay H (F)) (fun Hj Fj=> ?_) (fun s H hq=> ?_)
   ·refine B5 fun HB FB=> ?_;refine Cm gC ?_;try simp only [W,EE,Nat.reduceAdd,Nat.reduceBEq,hS.var 0 rfl]
    refine C6 h (fun hc h=> ?_) (fun hc h=> ?_)
    ·try simp only [W,EE,reduceIte,Nat.reduceAdd,Nat.reduceBEq,hS.var 0 rfl,hc]
     refine Cb FB ?_;refine Ca ?_;exact CI Fj ⟨_,(Option.some.inj h).symm,rfl,(hS.C2 1 [] (by decide))⟩
    ·try simp only [W,hc]
     refine Cb FB ?_;refine Ca ?_;exact CI Fj ⟨_,(Option.some.inj h).symm,rfl,(hS.C2 1 [] (by decide))⟩
   ·obtain ⟨LC,Eo,rfl,hS⟩:=hq;obtain rfl:=Eo.symm;replace h:=g24;try dsimp only at h
    refine Cb FA ?_;refine B_ ?_;simp only [W];refine Cl h (fun hc h=> ?_) (fun hc h=> ?_)
    ·refine B5 fun Gy Fa=> ?_;refine Cm gC ?_;try simp only [W,Nat.reduceAdd]
     refine Cb Fa ?_;refine B8 ?_;refine Ch EQ ?_;refine Cc E8 ?_;try obtain rfl:=Option.some.inj h
     obtain rfl:=FO _ rfl;have h:(some (LR.done true):Option (LR Unit (Bool)))=some (LR.done true):=rfl;refine CG EK ?_;refine Ch EO ?_;try obtain rfl:=Option.some.inj h
     obtain rfl:=Option.some.inj g12;have h:(some true:Option (Bool))=some true:=rfl;refine CJ EU ?_;refine Cc zY ?_;refine Cj En rfl ?_;try obtain rfl:=Option.some.inj h
     exact hP _ hS
    ·refine B7 ?_;refine Cf EQ ?_;refine Cb E8 ?_;refine Cm gC ?_;try simp only [W,EE,Nat.reduceAdd]
     exact CE EK h ⟨rfl,hS⟩
  ·refine B9 ?_;refine Cd Fe ?_;try obtain rfl:=Option.some.inj h
   obtain rfl:=FO _ rfl;have h:(some (LR.next ()):Option (LR Unit (Bool)))=some (LR.next ()):=rfl
   refine CF EK ?_;refine Cg EO ?_;exact CI EU ⟨(Option.some.inj h).symm,rfl,hS⟩
 ·obtain ⟨rfl,rfl,hS⟩:=hq;replace h:=g12;try dsimp only at h
  refine Cb zY ?_;refine B5 fun Kv GN=> ?_;refine Cm gC ?_;try simp only [W,Nat.reduceAdd]
  refine Cb GN ?_;refine B8 ?_;refine Cj En rfl ?_;try obtain rfl:=Option.some.inj h
  exact hP _ hS
theorem Wy {a0:EB} {a1:List Span} {r:(EB×List Int×List Int×Bool)} (h:LK a0 a1=some r) {F:List It} {H:J} (hS:ay H (F)) {P:AV→J→Prop} (hP: ∀v152:AV,bp v152→ ∀v154:AV,bp v154→ ∀PR:AV,bp PR→ ∀PS:AV,bp PS→ ∀H',ay H' (⟨v152,2,r.1.Es.map El⟩::⟨v154,1,r.1.Ep.map (AV.int .i64)⟩::⟨PR,1,r.2.1.map (AV.int .i64)⟩::⟨PS,1,r.2.2.1.map (AV.int .i64)⟩::F)→P (.az [.agg [.int .i64 r.1.Next,v152,v154],PR,PS,.bool r.2.2.2]) H'):aq C 117 [.agg [.int .i64 a0.Next,.fz (a0.Es.map El),.fz (a0.Ep.map (AV.int .i64))],.fz (a1.map El)] H P:=by
 refine Cp gC (res:=[.cell 4 116,.tmp 5,.tmp 6,.tmp 7]) (n:=103) rfl rfl rfl rfl fun K0 En=> ?_;simp only [W,Nat.reduceSub,Nat.reduceAdd,List.replicate];unfold LK at h;refine B5 fun K1 Er=> ?_;refine Cm gC ?_;try simp only [W,Nat.reduceAdd]
 refine Cr hS rfl rfl rfl rfl fun Eu Ev H hS=> ?_;try simp only [W]
 refine Cs hS rfl rfl fun Ew Ey H hS=> ?_;try simp only [W]
 refine Cb Er ?_;refine B5 fun K6 Fg=> ?_;refine C8 gC [(8,[])] (by kernel_rfl) rfl (by kernel_rfl) ?_
 try simp only [W,EE,reduceIte,Nat.reduceAdd,Nat.reduceBEq,hS.var 1 rfl,iX,lJ,Nat.reduceEqDiff,List.contains_cons,Nat.reduceBEq,Bool.or_self]
 refine Dv (b6:=[[.sl [.sc,.sc]]]) (ys:=[.fz (a0.Es.map El),.fz (a1.map El)]) h rfl (by rfl) fun EF JO h=>⟨.own 2 (EF.map El),Wu JO (ay.nil _) fun GR II H hS=>Dm rfl (Dk 0 hS rfl II (fun _ _=>by simp [aY,aO,cp,dp,El]) fun H hS=>Di rfl),(Dw _ (fun _=>rfl) _),?_⟩
 refine Ds ?_;refine Dq hS (fun _ _=>rfl) (fun _=>rfl) fun v10 H FP hS=> ?_;refine Dn ?_;try simp only [List.headD_cons]
 try simp only [W,EE]
 refine C7 rfl rfl rfl rfl (by simp only [fG,FP.Cy,FP.cells];simp [E,splice,AV.cells,dD,cN]<;>rfl) ?_
 try simp only [W]
 refine Cs hS rfl rfl fun E0 E1 H hS=> ?_;try simp only [W]
 refine Ct (a:= .agg [.int .i64 a0.Next,v10,.nil]) (y' := .agg [.int .i64 a0.Next,v10,.nil]) 0 hS rfl rfl rfl rfl rfl (by simp only [dD,List.all_cons,List.all_nil,FP.qu];rfl) rfl rfl fun H hS=> ?_
 try simp only [W]
 refine Cb Fg ?_;refine B5 fun GJ Fo=> ?_;refine Cm gC ?_;try simp only [W,Nat.reduceAdd]
 refine Cb Fo ?_;refine B5 fun Hz Fe=> ?_;refine B5 fun G5 E8=> ?_;refine Cm gC ?_;try simp only [W,Nat.reduceAdd]
 refine Cb E8 ?_;obtain ⟨N5,Wz,Mr⟩:=Option.bind_eq_some_iff.1 h;refine CH gC (fun s H=> ∃Fc:List Int,N5=(Fc)∧ ∃v21:AV,bp v21∧s=(u::u:: .ptr Eu Ev 0 0::u:: .ptr Ew Ey 0 0::u::u::u:: .ptr E0 E1 0 0::v21:: .nil::u::u::u::u::u::u::u::u::u::u::u::u::u::u::u::u::u::u::u::u::u::u::u::u::u::u::u::u::u::u::u::u::u::u::u::u::u::u::u::u::u::u::u::u::u::u::u::u::u::u::u::u::u::u::u::u::u::u::u::u::u::u::u::u::u::u::u::u::u::u::u::u::u::u::u::u::u::u::u::u::u::u::u::u::u::u::u::u::u::u::u::u::[])∧ay H (⟨v21,1,Fc.map (AV.int .i64)⟩::⟨v10,2,EF.map El⟩::⟨.ptr Eu Ev 0 0,3,[.agg [.int .i64 a0.Next,.fz (a0.Es.map El),.fz (a0.Ep.map (AV.int .i64))]]⟩::⟨.ptr Ew Ey 0 0,3,[.agg [.int .i64 0,.nil,.nil]]⟩::⟨.ptr E0 E1 0 0,3,[.agg [.int .i64 a0.Next,v10,.nil]]⟩::F)) (fun GM Ff=> ?_) (fun s H hq=> ?_)
 ·refine B6 fun Hj Fj=> ?_;refine CD gC Wz (fun x s H=>match x with|(Fl,Gj)=> ∃v17:AV,bp v17∧s=(u::u:: .ptr Eu Ev 0 0::u:: .ptr Ew Ey 0 0::u::u::u:: .ptr E0 E1 0 0::v17:: .nil:: .int .i64 Gj::u::u::u::u::u::u::u::u::u::u::u::u::u::u::u::u::u::u::u::u::u::u::u::u::u::u::u::u::u::u::u::u::u::u::u::u::u::u::u::u::u::u::u::u::u::u::u::u::u::u::u::u::u::u::u::u::u::u::u::u::u::u::u::u::u::u::u::u::u::u::u::u::u::u::u::u::u::u::u::u::u::u::u::u::u::u::u::u::u::u::u::[])∧ay H (⟨v17,1,Fl.map (AV.int .i64)⟩::⟨v10,2,EF.map El⟩::⟨.ptr Eu Ev 0 0,3,[.agg [.int .i64 a0.Next,.fz (a0.Es.map El),.fz (a0.Ep.map (AV.int .i64))]]⟩::⟨.ptr Ew Ey 0 0,3,[.agg [.int .i64 0,.nil,.nil]]⟩::⟨.ptr E0 E1 0 0,3,[.agg [.int .i64 a0.Next,v10,.nil]]⟩::F)) ⟨_,nt,rfl,((hS.Au 1).C2 5 [0,2,4,3,1] (by decide))⟩ (fun x NX s H h WA hi HB FB=> ?_)
  obtain ⟨Fl,Gj⟩:=x;try dsimp only at hi
  obtain ⟨v17,Ig,rfl,hS⟩:=hi;simp only [Ny] at h;refine B5 fun Ms HF=> ?_;refine B5 fun Ku Hn=> ?_;refine Cm gC ?_;try simp only [W,EE,Nat.reduceAdd,Nat.reduceBEq,hS.var 2 rfl]
  refine Cb Hn ?_;refine B_ ?_;simp only [W];refine Cl h (fun hc h=> ?_) (fun hc h=> ?_)
  ·refine B7 ?_;refine Cb HF ?_;refine B5 fun UE Pl=> ?_;obtain ⟨PT,h,PU⟩:=Option.bind_eq_some_iff.1 h;refine CH gC (fun s H=> ∃LF:List Int,PT=(LF)∧ ∃v35:AV,bp v35∧s=(u::u:: .ptr Eu Ev 0 0::u:: .ptr Ew Ey 0 0::u::u::u:: .ptr E0 E1 0 0::v35:: .nil:: .int .i64 Gj::u::u::u::u::u::u::u::u::u::u::u::u::u::u::u::u::u::u::u::u::u::u::u::u::u::u::u::u::u::u::u::u::u::u::u::u::u::u::u::u::u::u::u::u::u::u::u::u::u::u::u::u::u::u::u::u::u::u::u::u::u::u::u::u::u::u::u::u::u::u::u::u::u::u::u::u::u::u::u::u::u::u::u::u::u::u::u::u::u::u::u::[])∧ay H (⟨v35,1,LF.map (AV.int .i64)⟩::⟨v10,2,EF.map El⟩::⟨.ptr Eu Ev 0 0,3,[.agg [.int .i64 a0.Next,.fz (a0.Es.map El),.fz (a0.Ep.map (AV.int .i64))]]⟩::⟨.ptr Ew Ey 0 0,3,[.agg [.int .i64 0,.nil,.nil]]⟩::⟨.ptr E0 E1 0 0,3,[.agg [.int .i64 a0.Next,v10,.nil]]⟩::F)) (fun NY Ho=> ?_) (fun s H hq=> ?_)
   ·refine B6 fun MA GQ=> ?_;refine B5 fun Kt Gd=> ?_;obtain ⟨WB,h,WC⟩:=Option.bind_eq_some_iff.1 h;refine CH gC (fun s H=> ∃G0:Bool,WB=(G0)∧s=(u::u:: .ptr Eu Ev 0 0::u:: .ptr Ew Ey 0 0::u::u::u:: .ptr E0 E1 0 0::v17:: .nil:: .int .i64 Gj::u::u::u::u::u::u::u::u::u::u::u::u::u::u::u::u::u::u::u::u::u::u::u::u::u::u::u:: .bool G0::u::u::u::u::u::u::u::u::u::u::u::u::u::u::u::u::u::u::u::u::u::u::u::u::u::u::u::u::u::u::u::u::u::u::u::u::u::u::u::u::u::u::u::u::u::u::u::u::u::u::u::u::u::u::u::u::u::u::u::u::u::u::u::[])∧ay H (⟨v17,1,Fl.map (AV.int .i64)⟩::⟨v10,2,EF.map El⟩::⟨.ptr Eu Ev 0 0,3,[.agg [.int .i64 a0.Next,.fz (a0.Es.map El),.fz (a0.Ep.map (AV.int .i64))]]⟩::⟨.ptr Ew Ey 0 0,3,[.agg [.int .i64 0,.nil,.nil]]⟩::⟨.ptr E0 E1 0 0,3,[.agg [.int .i64 a0.Next,v10,.nil]]⟩::F)) (fun MJ Gz=> ?_) (fun s H hq=> ?_)
    ·refine B5 fun RK JR=> ?_;refine Cm gC ?_;try simp only [W,EE,Nat.reduceAdd,Nat.reduceBEq,hS.var 4 rfl]
     refine Du (b6:=[[.sc]]) (ys:=[.fz (EF.map El),.int .i64 Gj]) h rfl (Dh (De hS 1 rfl FP (fun _=>rfl)) (Dh rfl Dg)) fun I7 WD h=>⟨.bool I7,PQ WD (ay.nil _) fun H hS=>Dm rfl (Dj rfl (Di rfl)),⟨rfl,rfl,fun _=>rfl⟩,?_⟩;try simp only [W]
     refine C6 h (fun hc h=> ?_) (fun hc h=> ?_)
     ·try simp only [W,EE,Nat.reduceAdd,Nat.reduceBEq,hS.var 2 rfl,hc]
      refine CC h fun Hg RX h=> ?_;refine PQ RX hS fun H hS=> ?_;try simp only [W,reduceIte]
      refine Cb JR ?_;refine DR (s' :=(u::u:: .ptr Eu Ev 0 0::u:: .ptr Ew Ey 0 0::u::u::u:: .ptr E0 E1 0 0::v17:: .nil:: .int .i64 Gj::u::u::u::u::u::u::u::u::u::u::u::u::u::u::u::u::u::u::u::u::u::u::u::u::u::u::u:: .bool (!Hg)::u::u::u::u::u::u::u::u::u::u::u::u::u::u::u::u::u::u::u::u::u::u::u::u::u::u::u::u::u::u::u::u::u::u::u::u::u::u::u::u::u::u::u::u::u::u::u::u::u::u::u::u::u::u::u::u::u::u::u::u::u::u::u::[])) rfl ?_
      exact CI Gz ⟨_,(Option.some.inj h).symm,rfl,hS⟩
     ·try simp only [W,hc]
      refine Cb JR ?_;refine DR (s' :=(u::u:: .ptr Eu Ev 0 0::u:: .ptr Ew Ey 0 0::u::u::u:: .ptr E0 E1 0 0::v17:: .nil:: .int .i64 Gj::u::u::u::u::u::u::u::u::u::u::u::u::u::u::u::u::u::u::u::u::u::u::u::u::u::u::u:: .bool false::u::u::u::u::u::u::u::u::u::u::u::u::u::u::u::u::u::u::u::u::u::u::u::u::u::u::u::u::u::u::u::u::u::u::u::u::u::u::u::u::u::u::u::u::u::u::u::u::u::u::u::u::u::u::u::u::u::u::u::u::u::u::u::[])) rfl ?_
      exact CI Gz ⟨_,(Option.some.inj h).symm,rfl,hS⟩
    ·obtain ⟨G0,Eo,rfl,hS⟩:=hq;obtain rfl:=Eo.symm;replace h:=WC;try dsimp only at h
     refine Cb Gd ?_;obtain ⟨WE,h,WG⟩:=Option.bind_eq_some_iff.1 h;refine CH gC (fun s H=> ∃LD:List Int,WE=(LD)∧ ∃H_:AV,bp H_∧s=(u::u:: .ptr Eu Ev 0 0::u:: .ptr Ew Ey 0 0::u::u::u:: .ptr E0 E1 0 0::H_:: .nil:: .int .i64 Gj::u::u::u::u::u::u::u::u::u::u::u::u::u::u::u::u::u::u::u::u::u::u::u::u::u::u::u::u::u::u::u::u::u::u::u::u::u::u::u::u::u::u::u::u::u::u::u::u::u::u::u::u::u::u::u::u::u::u::u::u::u::u::u::u::u::u::u::u::u::u::u::u::u::u::u::u::u::u::u::u::u::u::u::u::u::u::u::u::u::u::u::[])∧ay H (⟨H_,1,LD.map (AV.int .i64)⟩::⟨v10,2,EF.map El⟩::⟨.ptr Eu Ev 0 0,3,[.agg [.int .i64 a0.Next,.fz (a0.Es.map El),.fz (a0.Ep.map (AV.int .i64))]]⟩::⟨.ptr Ew Ey 0 0,3,[.agg [.int .i64 0,.nil,.nil]]⟩::⟨.ptr E0 E1 0 0,3,[.agg [.int .i64 a0.Next,v10,.nil]]⟩::F)) (fun VF Ob=> ?_) (fun s H hq=> ?_)
     ·refine B5 fun WH MV=> ?_;refine B_ ?_;simp only [W];refine Cl h (fun hc h=> ?_) (fun hc h=> ?_)
      ·refine Cm gC ?_;try simp only [W,Nat.reduceAdd]
       refine CB (el:=([Gj]:List Int).map (AV.int .i64)) hS rfl rfl rfl rfl rfl rfl rfl fun v54 H Pu hS=> ?_;try simp only [W,EE]
       refine CR (l:=Fl) (c:=(AV.int .i64)) 1 hS rfl Ig rfl rfl rfl (hS.iu 0 rfl Pu) (fun _=>rfl) rfl h fun Pv H Lf MB hm h hS=> ?_;try simp only [W]
       refine Cb MV ?_;refine DR (s' :=(u::u:: .ptr Eu Ev 0 0::u:: .ptr Ew Ey 0 0::u::u::u:: .ptr E0 E1 0 0::Pv:: .nil:: .int .i64 Gj::u::u::u::u::u::u::u::u::u::u::u::u::u::u::u::u::u::u::u::u::u::u::u::u::u::u::u::u::u::u::u::u::u::u::u::u::u::u::u::u::u::u::u::u::u::u::u::u::u::u::u::u::u::u::u::u::u::u::u::u::u::u::u::u::u::u::u::u::u::u::u::u::u::u::u::u::u::u::u::u::u::u::u::u::u::u::u::u::u::u::u::[])) rfl ?_
       exact CI Ob ⟨_,(Option.some.inj h).symm,_,MB,rfl,(hS.C2 6 [1,2,3,4,5] (by decide))⟩
      ·refine B7 ?_;refine Cb MV ?_;refine DR (s' :=(u::u:: .ptr Eu Ev 0 0::u:: .ptr Ew Ey 0 0::u::u::u:: .ptr E0 E1 0 0::v17:: .nil:: .int .i64 Gj::u::u::u::u::u::u::u::u::u::u::u::u::u::u::u::u::u::u::u::u::u::u::u::u::u::u::u::u::u::u::u::u::u::u::u::u::u::u::u::u::u::u::u::u::u::u::u::u::u::u::u::u::u::u::u::u::u::u::u::u::u::u::u::u::u::u::u::u::u::u::u::u::u::u::u::u::u::u::u::u::u::u::u::u::u::u::u::u::u::u::u::[])) rfl ?_
       exact CI Ob ⟨_,(Option.some.inj h).symm,_,Ig,rfl,hS⟩
     ·obtain ⟨LD,Eo,H_,Ml,rfl,hS⟩:=hq;obtain rfl:=Eo.symm;replace h:=WG;try dsimp only at h
      refine Ce GQ ?_;exact CI Ho ⟨_,(Option.some.inj h).symm,_,Ml,rfl,hS⟩
   ·obtain ⟨LF,Eo,v35,WI,rfl,hS⟩:=hq;obtain rfl:=Eo.symm;replace h:=PU;try dsimp only at h
    refine Cb Pl ?_;refine Cm gC ?_;try simp only [W,EE,Nat.reduceAdd]
    exact CE FB h ⟨_,WI,rfl,hS⟩
  ·refine B9 ?_;refine Cd HF ?_;try obtain rfl:=Option.some.inj h
   obtain rfl:=WA _ rfl;have h:(some (Fl):Option ((List Int)))=some (Fl):=rfl;refine CF FB ?_;refine Cg Fj ?_;exact CI Ff ⟨_,(Option.some.inj h).symm,_,Ig,rfl,hS⟩
 ·obtain ⟨Fc,Eo,v21,IE,rfl,hS⟩:=hq;obtain rfl:=Eo.symm;replace h:=Mr;try dsimp only at h
  refine Cb Fe ?_;refine B5 fun Pw ID=> ?_;refine Cm gC ?_;try simp only [W,Nat.reduceAdd]
  refine Cb ID ?_;refine B5 fun Wh PM=> ?_;refine B5 fun RY MS=> ?_;refine Cm gC ?_;try simp only [W,EE,Nat.reduceAdd,Nat.reduceBEq,hS.var 4 rfl]
  refine Cz 1 hS rfl FP rfl ?_;try simp only [W]
  refine Cb MS ?_;refine B5 fun R3 MT=> ?_;refine Cm gC ?_;try simp only [W,EE,Nat.reduceAdd]
  refine Cb MT ?_;obtain ⟨WJ,h,WK⟩:=Option.bind_eq_some_iff.1 h;refine CH gC (fun s H=> ∃Fb:Int,WJ=(Fb)∧s=(u::u:: .ptr Eu Ev 0 0::u:: .ptr Ew Ey 0 0::u::u::u:: .ptr E0 E1 0 0::v21:: .nil::u:: .int .i64 Fb::u::u::u::u::u::u::u::u::u::u::u::u::u::u::u::u::u::u::u::u::u::u::u::u::u::u::u::u::u::u::u::u::u::u::u::u::u::u::u::u::u::u::u::u::u::u::u::u::u::u::u::u::u::u::u::u::u::u::u::u::u::u::u::u::u::u::u::u::u::u::u::u::u::u::u::u::u::u::u::u::u::u::u::u::u::u::u::u::u::u::[])∧ay H (⟨v21,1,Fc.map (AV.int .i64)⟩::⟨v10,2,EF.map El⟩::⟨.ptr Eu Ev 0 0,3,[.agg [.int .i64 a0.Next,.fz (a0.Es.map El),.fz (a0.Ep.map (AV.int .i64))]]⟩::⟨.ptr Ew Ey 0 0,3,[.agg [.int .i64 0,.nil,.nil]]⟩::⟨.ptr E0 E1 0 0,3,[.agg [.int .i64 a0.Next,v10,.nil]]⟩::F)) (fun RZ KD=> ?_) (fun s H hq=> ?_)
  ·refine B5 fun K69 R4=> ?_;refine B_ ?_;simp only [W];refine Cl h (fun hc h=> ?_) (fun hc h=> ?_)
   ·refine Cm gC ?_;try simp only [W,EE,Nat.reduceAdd,Nat.reduceBEq,hS.var 4 rfl]
    refine Cw 1 hS rfl rfl rfl rfl rfl h (fun LL ab4 ab5 ab6 WL h WM=> ?_) FP.ne;obtain ⟨ab7,WN,WO⟩:=hS.elem 1 rfl WM WL;try simp only [W,EE,EN,Nat.reduceAdd,Nat.reduceBEq,WN,WO]
    refine Cb R4 ?_;refine DR (s' :=(u::u:: .ptr Eu Ev 0 0::u:: .ptr Ew Ey 0 0::u::u::u:: .ptr E0 E1 0 0::v21:: .nil::u:: .int .i64 (IntKind.i64.wrap (LL.To-1))::u::u::u::u::u::u::u::u::u::u::u::u::u::u::u::u::u::u::u::u::u::u::u::u::u::u::u::u::u::u::u::u::u::u::u::u::u::u::u::u::u::u::u::u::u::u::u::u::u::u::u::u::u::u::u::u::u::u::u::u::u::u::u::u::u::u::u::u::u::u::u::u::u::u::u::u::u::u::u::u::u::u::u::u::u::u::u::u::u::u::[])) rfl ?_
    exact CI KD ⟨_,(Option.some.inj h).symm,rfl,hS⟩
   ·refine B7 ?_;refine Cb R4 ?_;refine DR (s' :=(u::u:: .ptr Eu Ev 0 0::u:: .ptr Ew Ey 0 0::u::u::u:: .ptr E0 E1 0 0::v21:: .nil::u:: .int .i64 (-1)::u::u::u::u::u::u::u::u::u::u::u::u::u::u::u::u::u::u::u::u::u::u::u::u::u::u::u::u::u::u::u::u::u::u::u::u::u::u::u::u::u::u::u::u::u::u::u::u::u::u::u::u::u::u::u::u::u::u::u::u::u::u::u::u::u::u::u::u::u::u::u::u::u::u::u::u::u::u::u::u::u::u::u::u::u::u::u::u::u::u::[])) rfl ?_
    exact CI KD ⟨_,(Option.some.inj h).symm,rfl,hS⟩
  ·obtain ⟨Fb,Eo,rfl,hS⟩:=hq;obtain rfl:=Eo.symm;replace h:=WK;try dsimp only at h
   refine Cb PM ?_;refine B5 fun TN Pa=> ?_;refine B5 fun Rh JH=> ?_;refine Cm gC ?_;try simp only [W,Nat.reduceAdd]
   refine Cb JH ?_;obtain ⟨PV,PW,PX⟩:=Option.bind_eq_some_iff.1 h;refine CH gC (fun s H=> ∃LM:List Int,∃Hy:List Int,PV=(LM,Hy)∧ ∃v82:AV,bp v82∧ ∃KH:AV,bp KH∧s=(u::u::u::u:: .ptr Ew Ey 0 0::u::u::u:: .ptr E0 E1 0 0::v21::v82::u::u::u::u::u::u::u::u::u::u::u::u::u::u::u::u::u::u::u::u::u::u::u::u::u::u::u::u::u::u::u::u::u::u::u::u::u::u::u::u::u::u::u::u::u::u::u::u::u::u::u::u::u::u::u::u::u::u::u::u::u::u::u::u::u::u::u::u::u::u::u::u::u::u::u::u::u::u::u::u::u::u::u::u::u::u::u::u::u::u::u::u::[])∧ay H (⟨v21,1,Fc.map (AV.int .i64)⟩::⟨v82,1,LM.map (AV.int .i64)⟩::⟨v10,2,EF.map El⟩::⟨KH,1,Hy.map (AV.int .i64)⟩::⟨.ptr Ew Ey 0 0,3,[.agg [.int .i64 0,.nil,.nil]]⟩::⟨.ptr E0 E1 0 0,3,[.agg [.int .i64 a0.Next,v10,KH]]⟩::F)) (fun R5 MW=> ?_) (fun s H hq=> ?_)
   ·refine B6 fun R6 MX=> ?_;refine CD gC PW (fun x s H=>match x with|(Gh,Fx,G3)=> ∃v75:AV,bp v75∧ ∃v79:AV,bp v79∧s=(u::u:: .ptr Eu Ev 0 0::u:: .ptr Ew Ey 0 0::u::u::u:: .ptr E0 E1 0 0::v21::v75::u:: .int .i64 Fb::u:: .int .i64 Fx::u::u::u::u::u::u::u::u::u::u::u::u::u::u::u::u::u::u::u::u::u::u::u::u::u::u::u::u::u::u::u::u::u::u::u::u::u::u::u::u::u::u::u::u::u::u::u::u::u::u::u::u::u::u::u::u::u::u::u::u::u::u::u::u::u::u::u::u::u::u::u::u::u::u::u::u::u::u::u::u::u::u::u::u::u::u::u::u::[])∧ay H (⟨v21,1,Fc.map (AV.int .i64)⟩::⟨v75,1,Gh.map (AV.int .i64)⟩::⟨v10,2,EF.map El⟩::⟨v79,1,G3.map (AV.int .i64)⟩::⟨.ptr Eu Ev 0 0,3,[.agg [.int .i64 a0.Next,.fz (a0.Es.map El),.fz (a0.Ep.map (AV.int .i64))]]⟩::⟨.ptr Ew Ey 0 0,3,[.agg [.int .i64 0,.nil,.nil]]⟩::⟨.ptr E0 E1 0 0,3,[.agg [.int .i64 a0.Next,v10,v79]]⟩::F)) ⟨_,nt,_,nt,rfl,(((hS.Au 1).Au 1).C2 7 [2,0,3,1,4,5,6] (by decide))⟩ (fun x WQ s H h PY hi R7 JU=> ?_)
    obtain ⟨Gh,Fx,G3⟩:=x;try dsimp only at hi
    obtain ⟨v75,KF,v79,Oi,rfl,hS⟩:=hi;simp only [Nz] at h;refine B5 fun RO KB=> ?_;refine B5 fun WR Oj=> ?_;refine Cm gC ?_;try simp only [W,EE,Nat.reduceAdd,Nat.reduceBEq,hS.var 4 rfl]
    refine Cb Oj ?_;refine B_ ?_;simp only [W];refine Cl h (fun hc h=> ?_) (fun hc h=> ?_)
    ·refine B7 ?_;refine Cb KB ?_;refine B5 fun NN Ix=> ?_;obtain ⟨WS,h,WT⟩:=Option.bind_eq_some_iff.1 h;refine CH gC (fun s H=> ∃LJ:List Int,∃GI:List Int,WS=(LJ,GI)∧ ∃Ol:AV,bp Ol∧ ∃Ij:AV,bp Ij∧s=(u::u:: .ptr Eu Ev 0 0::u:: .ptr Ew Ey 0 0::u::u::u:: .ptr E0 E1 0 0::v21::Ol::u:: .int .i64 Fb::u:: .int .i64 Fx::u::u::u::u::u::u::u::u::u::u::u::u::u::u::u::u::u::u::u::u::u::u::u::u::u::u::u::u::u::u::u::u::u::u::u::u::u::u::u::u::u::u::u::u::u::u::u::u::u::u::u::u::u::u::u::u::u::u::u::u::u::u::u::u::u::u::u::u::u::u::u::u::u::u::u::u::u::u::u::u::u::u::u::u::u::u::u::u::[])∧ay H (⟨v21,1,Fc.map (AV.int .i64)⟩::⟨Ol,1,LJ.map (AV.int .i64)⟩::⟨v10,2,EF.map El⟩::⟨Ij,1,GI.map (AV.int .i64)⟩::⟨.ptr Eu Ev 0 0,3,[.agg [.int .i64 a0.Next,.fz (a0.Es.map El),.fz (a0.Ep.map (AV.int .i64))]]⟩::⟨.ptr Ew Ey 0 0,3,[.agg [.int .i64 0,.nil,.nil]]⟩::⟨.ptr E0 E1 0 0,3,[.agg [.int .i64 a0.Next,v10,Ij]]⟩::F)) (fun ab8 R8=> ?_) (fun s H hq=> ?_)
     ·refine B6 fun R9 KI=> ?_;refine B5 fun WU Om=> ?_;refine B5 fun Rp Mn=> ?_;refine Cm gC ?_;try simp only [W,EE,Nat.reduceAdd,Nat.reduceBEq,hS.var 6 rfl]
      refine Du (b6:=[[.sc]]) (ys:=[.fz (EF.map El),.int .i64 Fx]) h rfl (Dh (De hS 2 rfl FP (fun _=>rfl)) (Dh rfl Dg)) fun OW WV h=>⟨.bool OW,PQ WV (ay.nil _) fun H hS=>Dm rfl (Dj rfl (Di rfl)),⟨rfl,rfl,fun _=>rfl⟩,?_⟩;try simp only [W]
      refine Cb Mn ?_;refine B_ ?_;simp only [W];refine Cl h (fun hc h=> ?_) (fun hc h=> ?_)
      ·refine B9 ?_;refine Cd Om ?_;refine Cg KI ?_;exact CI R8 ⟨_,_,(Option.some.inj h).symm,_,KF,_,Oi,rfl,hS⟩
      ·refine B7 ?_;refine Cb Om ?_;refine B5 fun RQ MP=> ?_;refine Cm gC ?_;try simp only [W,EE,Nat.reduceAdd,Nat.reduceBEq,hS.var 4 rfl]
       refine CC h fun Jz PZ h=> ?_;refine R1 PZ hS fun H hS=> ?_;try simp only [W]
       refine Cb MP ?_;refine B5 fun ab9 WW=> ?_;refine B5 fun WX P0=> ?_;obtain ⟨P1,h,WY⟩:=Option.bind_eq_some_iff.1 h;refine CH gC (fun s H=> ∃F5:Bool,∃LG:Bool,P1=(F5,LG)∧s=(u::u:: .ptr Eu Ev 0 0::u:: .ptr Ew Ey 0 0::u::u::u:: .ptr E0 E1 0 0::v21::v75::u:: .int .i64 Fb::u:: .int .i64 Fx:: .bool F5::u::u::u::u::u::u::u::u::u::u::u::u::u::u::u::u::u::u::u::u::u::u::u::u::u::u::u::u::u::u::u::u::u::u::u::u::u::u::u::u::u::u::u::u::u::u::u::u::u::u::u::u::u::u::u::u::u::u::u::u::u:: .bool LG::u::u::u::u::u::u::u::u::u::u::u::u::u::u::u::u::u::u::u::u::u::u::u::u::u::[])∧ay H (⟨v21,1,Fc.map (AV.int .i64)⟩::⟨v75,1,Gh.map (AV.int .i64)⟩::⟨v10,2,EF.map El⟩::⟨v79,1,G3.map (AV.int .i64)⟩::⟨.ptr Eu Ev 0 0,3,[.agg [.int .i64 a0.Next,.fz (a0.Es.map El),.fz (a0.Ep.map (AV.int .i64))]]⟩::⟨.ptr Ew Ey 0 0,3,[.agg [.int .i64 0,.nil,.nil]]⟩::⟨.ptr E0 E1 0 0,3,[.agg [.int .i64 a0.Next,v10,v79]]⟩::F)) (fun PG IG=> ?_) (fun s H hq=> ?_)
       ·refine B5 fun WZ On=> ?_;refine Cm gC ?_;try simp only [W,Nat.reduceAdd]
        refine C6 h (fun hc h=> ?_) (fun hc h=> ?_)
        ·try simp only [W,hc]
         refine Cb On ?_;refine DR (s' :=(u::u:: .ptr Eu Ev 0 0::u:: .ptr Ew Ey 0 0::u::u::u:: .ptr E0 E1 0 0::v21::v75::u:: .int .i64 Fb::u:: .int .i64 Fx:: .bool true::u::u::u::u::u::u::u::u::u::u::u::u::u::u::u::u::u::u::u::u::u::u::u::u::u::u::u::u::u::u::u::u::u::u::u::u::u::u::u::u::u::u::u::u::u::u::u::u::u::u::u::u::u::u::u::u::u::u::u::u::u:: .bool true::u::u::u::u::u::u::u::u::u::u::u::u::u::u::u::u::u::u::u::u::u::u::u::u::u::[])) rfl ?_
         exact CI IG ⟨_,_,(Option.some.inj h).symm,rfl,hS⟩
        ·try simp only [W,EE,reduceIte,Bool.false_eq_true,hc]
         refine Cb On ?_;refine DR (s' :=(u::u:: .ptr Eu Ev 0 0::u:: .ptr Ew Ey 0 0::u::u::u:: .ptr E0 E1 0 0::v21::v75::u:: .int .i64 Fb::u:: .int .i64 Fx:: .bool false::u::u::u::u::u::u::u::u::u::u::u::u::u::u::u::u::u::u::u::u::u::u::u::u::u::u::u::u::u::u::u::u::u::u::u::u::u::u::u::u::u::u::u::u::u::u::u::u::u::u::u::u::u::u::u::u::u::u::u::u::u:: .bool (decide ((IntKind.i64.wrap (Fx+3))≤Fb))::u::u::u::u::u::u::u::u::u::u::u::u::u::u::u::u::u::u::u::u::u::u::u::u::u::[])) rfl ?_
         exact CI IG ⟨_,_,(Option.some.inj h).symm,rfl,hS⟩
       ·obtain ⟨F5,LG,rfl,rfl,hS⟩:=hq;replace h:=WY;try dsimp only at h
        refine Cb P0 ?_;obtain ⟨P2,h,W0⟩:=Option.bind_eq_some_iff.1 h;refine CH gC (fun s H=> ∃JA:List Int,P2=(JA)∧ ∃Jf:AV,bp Jf∧s=(u::u:: .ptr Eu Ev 0 0::u:: .ptr Ew Ey 0 0::u::u::u:: .ptr E0 E1 0 0::v21::v75::u:: .int .i64 Fb::u:: .int .i64 Fx:: .bool F5::u::u::u::u::u::u::u::u::u::u::u::u::u::u::u::u::u::u::u::u::u::u::u::u::u::u::u::u::u::u::u::u::u::u::u::u::u::u::u::u::u::u::u::u::u::u::u::u::u::u::u::u::u::u::u::u::u::u::u::u::u::u::u::u::u::u::u::u::u::u::u::u::u::u::u::u::u::u::u::u::u::u::u::u::u::u::u::[])∧ay H (⟨v21,1,Fc.map (AV.int .i64)⟩::⟨v75,1,Gh.map (AV.int .i64)⟩::⟨v10,2,EF.map El⟩::⟨Jf,1,JA.map (AV.int .i64)⟩::⟨.ptr Eu Ev 0 0,3,[.agg [.int .i64 a0.Next,.fz (a0.Es.map El),.fz (a0.Ep.map (AV.int .i64))]]⟩::⟨.ptr Ew Ey 0 0,3,[.agg [.int .i64 0,.nil,.nil]]⟩::⟨.ptr E0 E1 0 0,3,[.agg [.int .i64 a0.Next,v10,Jf]]⟩::F)) (fun R_ Jg=> ?_) (fun s H hq=> ?_)
        ·refine B5 fun Sa JV=> ?_;refine B_ ?_;simp only [W];refine Cl h (fun hc h=> ?_) (fun hc h=> ?_)
         ·refine Cm gC ?_;try simp only [W,EE,Nat.reduceAdd,Nat.reduceBEq,hS.var 6 rfl]
          refine CB (el:=([Fx]:List Int).map (AV.int .i64)) hS rfl rfl rfl rfl rfl rfl rfl fun ab_ H W1 hS=> ?_;try simp only [W,EE]
          refine CR (l:=G3) (c:=(AV.int .i64)) 4 hS rfl Oi rfl rfl rfl (hS.iu 0 rfl W1) (fun _=>rfl) rfl h fun Sb H QN Oo hm h hS=> ?_;try simp only [W,EE,Nat.reduceAdd,Nat.reduceBEq,hS.var 7 rfl]
          refine Ct (a:=Sb) (y' := .agg [.int .i64 a0.Next,v10,Sb]) 7 hS rfl rfl rfl rfl (by rw [Oo.cells];rfl) Oo.Cy (Oo.wr _ _ (by simp)) rfl fun H hS=> ?_
          try simp only [W]
          refine Cb JV ?_;refine DR (s' :=(u::u:: .ptr Eu Ev 0 0::u:: .ptr Ew Ey 0 0::u::u::u:: .ptr E0 E1 0 0::v21::v75::u:: .int .i64 Fb::u:: .int .i64 Fx:: .bool F5::u::u::u::u::u::u::u::u::u::u::u::u::u::u::u::u::u::u::u::u::u::u::u::u::u::u::u::u::u::u::u::u::u::u::u::u::u::u::u::u::u::u::u::u::u::u::u::u::u::u::u::u::u::u::u::u::u::u::u::u::u::u::u::u::u::u::u::u::u::u::u::u::u::u::u::u::u::u::u::u::u::u::u::u::u::u::u::[])) rfl ?_
          exact CI Jg ⟨_,(Option.some.inj h).symm,_,Oo,rfl,(hS.C2 8 [1,2,3,4,5,6,7] (by decide))⟩
         ·refine B7 ?_;refine Cb JV ?_;refine DR (s' :=(u::u:: .ptr Eu Ev 0 0::u:: .ptr Ew Ey 0 0::u::u::u:: .ptr E0 E1 0 0::v21::v75::u:: .int .i64 Fb::u:: .int .i64 Fx:: .bool F5::u::u::u::u::u::u::u::u::u::u::u::u::u::u::u::u::u::u::u::u::u::u::u::u::u::u::u::u::u::u::u::u::u::u::u::u::u::u::u::u::u::u::u::u::u::u::u::u::u::u::u::u::u::u::u::u::u::u::u::u::u::u::u::u::u::u::u::u::u::u::u::u::u::u::u::u::u::u::u::u::u::u::u::u::u::u::u::[])) rfl ?_
          exact CI Jg ⟨_,(Option.some.inj h).symm,_,Oi,rfl,hS⟩
        ·obtain ⟨JA,Eo,Jf,W2,rfl,hS⟩:=hq;obtain rfl:=Eo.symm;replace h:=W0;try dsimp only at h
         refine Cb WW ?_;refine B5 fun Sc MY=> ?_;obtain ⟨W3,h,W4⟩:=Option.bind_eq_some_iff.1 h;refine CH gC (fun s H=> ∃LH:Bool,W3=(LH)∧s=(u::u:: .ptr Eu Ev 0 0::u:: .ptr Ew Ey 0 0::u::u::u:: .ptr E0 E1 0 0::v21::v75::u:: .int .i64 Fb::u:: .int .i64 Fx::u::u::u::u::u::u::u::u::u::u::u::u::u::u::u::u::u::u::u::u::u::u::u::u::u::u::u::u::u::u::u::u::u::u::u::u::u::u::u::u::u::u::u::u::u::u::u::u::u::u::u::u::u::u::u::u::u::u::u::u::u::u::u::u::u::u::u::u::u::u::u::u::u::u::u::u:: .bool LH::u::u::u::u::u::u::u::u::u::u::u::[])∧ay H (⟨v21,1,Fc.map (AV.int .i64)⟩::⟨v75,1,Gh.map (AV.int .i64)⟩::⟨v10,2,EF.map El⟩::⟨Jf,1,JA.map (AV.int .i64)⟩::⟨.ptr Eu Ev 0 0,3,[.agg [.int .i64 a0.Next,.fz (a0.Es.map El),.fz (a0.Ep.map (AV.int .i64))]]⟩::⟨.ptr Ew Ey 0 0,3,[.agg [.int .i64 0,.nil,.nil]]⟩::⟨.ptr E0 E1 0 0,3,[.agg [.int .i64 a0.Next,v10,Jf]]⟩::F)) (fun W5 Oq=> ?_) (fun s H hq=> ?_)
         ·refine B5 fun aca Sd=> ?_;refine Cm gC ?_;try simp only [W,Nat.reduceAdd]
          refine C6 h (fun hc h=> ?_) (fun hc h=> ?_)
          ·try simp only [W,EE,reduceIte,hc]
           refine Cb Sd ?_;refine DR (s' :=(u::u:: .ptr Eu Ev 0 0::u:: .ptr Ew Ey 0 0::u::u::u:: .ptr E0 E1 0 0::v21::v75::u:: .int .i64 Fb::u:: .int .i64 Fx::u::u::u::u::u::u::u::u::u::u::u::u::u::u::u::u::u::u::u::u::u::u::u::u::u::u::u::u::u::u::u::u::u::u::u::u::u::u::u::u::u::u::u::u::u::u::u::u::u::u::u::u::u::u::u::u::u::u::u::u::u::u::u::u::u::u::u::u::u::u::u::u::u::u::u::u:: .bool (decide ((IntKind.i64.wrap (Fx+3))≤Fb))::u::u::u::u::u::u::u::u::u::u::u::[])) rfl ?_
           exact CI Oq ⟨_,(Option.some.inj h).symm,rfl,hS⟩
          ·try simp only [W,hc]
           refine Cb Sd ?_;refine DR (s' :=(u::u:: .ptr Eu Ev 0 0::u:: .ptr Ew Ey 0 0::u::u::u:: .ptr E0 E1 0 0::v21::v75::u:: .int .i64 Fb::u:: .int .i64 Fx::u::u::u::u::u::u::u::u::u::u::u::u::u::u::u::u::u::u::u::u::u::u::u::u::u::u::u::u::u::u::u::u::u::u::u::u::u::u::u::u::u::u::u::u::u::u::u::u::u::u::u::u::u::u::u::u::u::u::u::u::u::u::u::u::u::u::u::u::u::u::u::u::u::u::u::u:: .bool false::u::u::u::u::u::u::u::u::u::u::u::[])) rfl ?_
           exact CI Oq ⟨_,(Option.some.inj h).symm,rfl,hS⟩
         ·obtain ⟨LH,Eo,rfl,hS⟩:=hq;obtain rfl:=Eo.symm;replace h:=W4;try dsimp only at h
          refine Cb MY ?_;obtain ⟨W6,h,W7⟩:=Option.bind_eq_some_iff.1 h;refine CH gC (fun s H=> ∃LI:List Int,W6=(LI)∧ ∃v138:AV,bp v138∧s=(u::u:: .ptr Eu Ev 0 0::u:: .ptr Ew Ey 0 0::u::u::u:: .ptr E0 E1 0 0::v21::v138::u:: .int .i64 Fb::u:: .int .i64 Fx::u::u::u::u::u::u::u::u::u::u::u::u::u::u::u::u::u::u::u::u::u::u::u::u::u::u::u::u::u::u::u::u::u::u::u::u::u::u::u::u::u::u::u::u::u::u::u::u::u::u::u::u::u::u::u::u::u::u::u::u::u::u::u::u::u::u::u::u::u::u::u::u::u::u::u::u::u::u::u::u::u::u::u::u::u::u::u::u::[])∧ay H (⟨v21,1,Fc.map (AV.int .i64)⟩::⟨v138,1,LI.map (AV.int .i64)⟩::⟨v10,2,EF.map El⟩::⟨Jf,1,JA.map (AV.int .i64)⟩::⟨.ptr Eu Ev 0 0,3,[.agg [.int .i64 a0.Next,.fz (a0.Es.map El),.fz (a0.Ep.map (AV.int .i64))]]⟩::⟨.ptr Ew Ey 0 0,3,[.agg [.int .i64 0,.nil,.nil]]⟩::⟨.ptr E0 E1 0 0,3,[.agg [.int .i64 a0.Next,v10,Jf]]⟩::F)) (fun Se JW=> ?_) (fun s H hq=> ?_)
          ·refine B5 fun acb Sf=> ?_;refine B_ ?_;simp only [W];refine Cl h (fun hc h=> ?_) (fun hc h=> ?_)
           ·refine Cm gC ?_;try simp only [W,Nat.reduceAdd]
            refine CB (el:=([Fx]:List Int).map (AV.int .i64)) hS rfl rfl rfl rfl rfl rfl rfl fun acd H W8 hS=> ?_;try simp only [W,EE]
            refine CR (l:=Gh) (c:=(AV.int .i64)) 2 hS rfl KF rfl rfl rfl (hS.iu 0 rfl W8) (fun _=>rfl) rfl h fun W9 H QO W_ hm h hS=> ?_;try simp only [W]
            refine Cb Sf ?_;refine DR (s' :=(u::u:: .ptr Eu Ev 0 0::u:: .ptr Ew Ey 0 0::u::u::u:: .ptr E0 E1 0 0::v21::W9::u:: .int .i64 Fb::u:: .int .i64 Fx::u::u::u::u::u::u::u::u::u::u::u::u::u::u::u::u::u::u::u::u::u::u::u::u::u::u::u::u::u::u::u::u::u::u::u::u::u::u::u::u::u::u::u::u::u::u::u::u::u::u::u::u::u::u::u::u::u::u::u::u::u::u::u::u::u::u::u::u::u::u::u::u::u::u::u::u::u::u::u::u::u::u::u::u::u::u::u::u::[])) rfl ?_
            exact CI JW ⟨_,(Option.some.inj h).symm,_,W_,rfl,(hS.C2 8 [1,2,3,4,5,6,7] (by decide))⟩
           ·refine B7 ?_;refine Cb Sf ?_;refine DR (s' :=(u::u:: .ptr Eu Ev 0 0::u:: .ptr Ew Ey 0 0::u::u::u:: .ptr E0 E1 0 0::v21::v75::u:: .int .i64 Fb::u:: .int .i64 Fx::u::u::u::u::u::u::u::u::u::u::u::u::u::u::u::u::u::u::u::u::u::u::u::u::u::u::u::u::u::u::u::u::u::u::u::u::u::u::u::u::u::u::u::u::u::u::u::u::u::u::u::u::u::u::u::u::u::u::u::u::u::u::u::u::u::u::u::u::u::u::u::u::u::u::u::u::u::u::u::u::u::u::u::u::u::u::u::u::[])) rfl ?_
            exact CI JW ⟨_,(Option.some.inj h).symm,_,KF,rfl,hS⟩
          ·obtain ⟨LI,Eo,v138,Xa,rfl,hS⟩:=hq;obtain rfl:=Eo.symm;replace h:=W7;try dsimp only at h
           refine Ce KI ?_;exact CI R8 ⟨_,_,(Option.some.inj h).symm,_,Xa,_,W2,rfl,hS⟩
     ·obtain ⟨LJ,GI,rfl,Ol,Xb,Ij,MQ,rfl,hS⟩:=hq;replace h:=WT;try dsimp only at h
      refine Cb Ix ?_;refine Cm gC ?_;try simp only [W,EE,Nat.reduceAdd]
      exact CE JU h ⟨_,Xb,_,MQ,rfl,hS⟩
    ·refine B9 ?_;refine Cd KB ?_;try obtain rfl:=Option.some.inj h
     obtain rfl:=PY _ rfl;have h:(some (Gh,G3):Option ((List Int)×(List Int)))=some (Gh,G3):=rfl;refine CF JU ?_;refine Cg MX ?_;exact CI MW ⟨_,_,(Option.some.inj h).symm,_,KF,_,Oi,rfl,(hS.C2 7 [0,1,2,3,5,6] (by decide))⟩
   ·obtain ⟨LM,Hy,rfl,v82,JX,KH,Jh,rfl,hS⟩:=hq;replace h:=PX;try dsimp only at h
    refine Cb Pa ?_;refine B5 fun Xc P3=> ?_;refine C8 gC [(7,[1,2,3,4,5,6])] (by kernel_rfl) rfl (by kernel_rfl) ?_
    try simp only [W,EE,reduceIte,Nat.reduceAdd,Nat.reduceLeDiff,Nat.reduceBEq,hS.var 5 rfl,iX,lJ,Nat.reduceEqDiff]
    refine Cz 2 hS rfl FP rfl ?_;try simp only [W,EE]
    refine Ct (a:= .agg [.int .i64 a0.Next,v10,KH]) (y' := .agg [.int .i64 a0.Next,v10,KH]) 4 hS rfl rfl rfl rfl rfl (by simp only [dD,List.all_cons,List.all_nil,FP.qu,Jh.qu];rfl) rfl rfl fun H hS=> ?_
    refine C9 ?_;refine C_ (by first|rfl|(simp [gT,aM,cB,lenOf,W,EE,EN,bP,jL,aB,AV.cells,hS.var 4 rfl,hS.var 5 rfl];done)|exact DE 0 hS rfl IE rfl rfl rfl rfl rfl|exact DE 1 hS rfl JX rfl rfl rfl rfl rfl|exact DE 2 hS rfl FP rfl rfl rfl rfl rfl|exact DE 3 hS rfl Jh rfl rfl rfl rfl rfl|exact DF 2 hS rfl rfl rfl rfl rfl HS HH rfl rfl rfl rfl|exact DG 2 hS rfl rfl HS HH rfl rfl rfl) ?_
    refine C_ (by first|rfl|(simp [gT,aM,cB,lenOf,W,EE,EN,bP,jL,aB,AV.cells,hS.var 4 rfl,hS.var 5 rfl];done)|exact DE 0 hS rfl IE rfl rfl rfl rfl rfl|exact DE 1 hS rfl JX rfl rfl rfl rfl rfl|exact DE 2 hS rfl FP rfl rfl rfl rfl rfl|exact DE 3 hS rfl Jh rfl rfl rfl rfl rfl|exact DF 2 hS rfl rfl rfl rfl rfl HS HH rfl rfl rfl rfl|exact DG 2 hS rfl rfl HS HH rfl rfl rfl) ?_
    refine C_ (by first|rfl|(simp [gT,aM,W,EE,hS.var 5 rfl];done)|exact DE 0 hS rfl IE rfl rfl rfl rfl rfl|exact DE 1 hS rfl JX rfl rfl rfl rfl rfl|exact DE 2 hS rfl FP rfl rfl rfl rfl rfl|exact DE 3 hS rfl Jh rfl rfl rfl rfl rfl|exact DF 2 hS rfl rfl rfl rfl rfl HS HH rfl rfl rfl rfl|exact DG 2 hS rfl rfl HS HH rfl rfl rfl) ?_
    refine C_ (by first|rfl|(simp [gT,aM,W,EE,bP,jL,aB,AV.cells,hS.var 5 rfl];done)|exact DE 0 hS rfl IE rfl rfl rfl rfl rfl|exact DE 1 hS rfl JX rfl rfl rfl rfl rfl|exact DE 2 hS rfl FP rfl rfl rfl rfl rfl|exact DE 3 hS rfl Jh rfl rfl rfl rfl rfl|exact DF 2 hS rfl rfl rfl rfl rfl HS HH rfl rfl rfl rfl|exact DG 2 hS rfl rfl HS HH rfl rfl rfl) ?_
    refine C_ (by first|rfl|(simp [gT,cB,lenOf,W,EE];done)|exact DE 0 hS rfl IE rfl rfl rfl rfl rfl|exact DE 1 hS rfl JX rfl rfl rfl rfl rfl|exact DE 2 hS rfl FP rfl rfl rfl rfl rfl|exact DE 3 hS rfl Jh rfl rfl rfl rfl rfl|exact DF 2 hS rfl rfl rfl rfl rfl HS HH rfl rfl rfl rfl|exact DG 2 hS rfl rfl HS HH rfl rfl rfl) ?_
    refine C_ (by first|rfl|(simp [gT,aM,cB,lenOf,W,EE,EN,bP,jL,aB,AV.cells,hS.var 4 rfl,hS.var 5 rfl];done)|exact DE 0 hS rfl IE rfl rfl rfl rfl rfl|exact DE 1 hS rfl JX rfl rfl rfl rfl rfl|exact DE 2 hS rfl FP rfl rfl rfl rfl rfl|exact DE 3 hS rfl Jh rfl rfl rfl rfl rfl|exact DF 2 hS rfl rfl rfl rfl rfl HS HH rfl rfl rfl rfl|exact DG 2 hS rfl rfl HS HH rfl rfl rfl) ?_
    refine Da ?_;try simp only [W]
    refine Cb P3 ?_;refine B8 ?_;refine Ci En (C4 rfl rfl (hS.var 4 rfl) rfl (C5 rfl (C5 rfl (C5 rfl rfl)))) ?_;try obtain rfl:=Option.some.inj h
    exact hP _ FP _ Jh _ IE _ JX _ (hS.C2 6 [2,3,0,1] (by decide))
theorem Xd {a0:Int} {a1:List Int} {r:(List Int×Bool)} (h:LQ a0 a1=some r) {F:List It} {H:J} (hS:ay H (F)) {P:AV→J→Prop} (hP: ∀P4:AV,bp P4→ ∀H',ay H' (⟨P4,1,r.1.map (AV.int .i64)⟩::F)→P (.az [P4,.bool r.2]) H'):aq C 51 [.int .i64 a0,.fz (a1.map (AV.int .i64))] H P:=by
 refine Cp gC (res:=[.tmp 4,.tmp 5]) (n:=81) rfl rfl rfl rfl fun K0 En=> ?_;simp only [W,Nat.reduceSub,Nat.reduceAdd,List.replicate];unfold LQ at h;refine B5 fun K1 Er=> ?_;refine Cm gC ?_;try simp only [W,Nat.reduceAdd]
 refine Cb Er ?_;refine B5 fun K2 zY=> ?_;refine Cm gC ?_;try simp only [W,Nat.reduceAdd]
 refine CC h fun b3 kS h=> ?_;obtain ⟨EM,GW⟩:=b3;try dsimp only at h
 refine Wj kS hS fun v6 Gx GR II H hS=> ?_;try simp only [W]
 refine Cs hS rfl rfl fun GS GU H hS=> ?_;try simp only [W]
 refine Ct (a:= .agg [.int .i64 EM.Next,v6,GR]) (y' := .agg [.int .i64 EM.Next,v6,GR]) 0 hS rfl rfl rfl rfl rfl (by simp only [dD,List.all_cons,List.all_nil,Gx.qu,II.qu];rfl) rfl rfl fun H hS=> ?_
 try simp only [W]
 refine Cb zY ?_;refine B5 fun H7 Fm=> ?_;refine B5 fun GJ Fo=> ?_;obtain ⟨JF,h,g16⟩:=Option.bind_eq_some_iff.1 h;refine CH gC (fun s H=> ∃EX:Bool,JF=(EX)∧s=(.int .i64 a0:: .fz (a1.map (AV.int .i64))::u::u::u::u:: .ptr GS GU 0 0::u::u::u::u::u::u::u::u::u::u::u::u::u::u::u::u::u::u::u::u::u::u::u::u::u:: .bool EX::u::u::u::u::u::u::u::u::u::u::u::u::u::u::u::u::u::u::u::u::u::u::u::u::u::u::u::u::u::u::u::u::u::u::u::u::u::u::u::u::u::u::u::u::u::u::u::u::[])∧ay H (⟨v6,2,EM.Es.map El⟩::⟨GR,1,EM.Ep.map (AV.int .i64)⟩::⟨.ptr GS GU 0 0,3,[.agg [.int .i64 EM.Next,v6,GR]]⟩::F)) (fun FY EH=> ?_) (fun s H hq=> ?_)
 ·refine B5 fun Gc ET=> ?_;refine Cm gC ?_;try simp only [W,Nat.reduceAdd]
  refine C6 h (fun hc h=> ?_) (fun hc h=> ?_)
  ·try simp only [W,hc]
   refine Cb ET ?_;refine DR (s' :=(.int .i64 a0:: .fz (a1.map (AV.int .i64))::u::u::u::u:: .ptr GS GU 0 0::u::u::u::u::u::u::u::u::u::u::u::u::u::u::u::u::u::u::u::u::u::u::u::u::u:: .bool true::u::u::u::u::u::u::u::u::u::u::u::u::u::u::u::u::u::u::u::u::u::u::u::u::u::u::u::u::u::u::u::u::u::u::u::u::u::u::u::u::u::u::u::u::u::u::u::u::[])) rfl ?_
   exact CI EH ⟨_,(Option.some.inj h).symm,rfl,(hS.C2 3 [1,2,0] (by decide))⟩
  ·try simp only [W,hc]
   refine CC h fun FK H9 h=> ?_;refine PO H9 hS fun H hS=> ?_;try simp only [W,reduceIte,Bool.false_eq_true]
   refine Cb ET ?_;refine DR (s' :=(.int .i64 a0:: .fz (a1.map (AV.int .i64))::u::u::u::u:: .ptr GS GU 0 0::u::u::u::u::u::u::u::u::u::u::u::u::u::u::u::u::u::u::u::u::u::u::u::u::u:: .bool (!FK)::u::u::u::u::u::u::u::u::u::u::u::u::u::u::u::u::u::u::u::u::u::u::u::u::u::u::u::u::u::u::u::u::u::u::u::u::u::u::u::u::u::u::u::u::u::u::u::u::[])) rfl ?_
   exact CI EH ⟨_,(Option.some.inj h).symm,rfl,(hS.C2 3 [1,2,0] (by decide))⟩
 ·obtain ⟨EX,Eo,rfl,hS⟩:=hq;obtain rfl:=Eo.symm;replace h:=g16;try dsimp only at h
  refine Cb Fo ?_;refine B_ ?_;simp only [W];refine Cl h (fun hc h=> ?_) (fun hc h=> ?_)
  ·refine B5 fun GK E_=> ?_;refine Cm gC ?_;try simp only [W,Nat.reduceAdd]
   refine Cb E_ ?_;refine B8 ?_;refine Cc Fm ?_;refine Ck En rfl rfl ?_;try obtain rfl:=Option.some.inj h
   exact hP _ nt _ ((hS.Au 1).C2 4 [0] (by decide))
  ·refine B7 ?_;refine Cb Fm ?_;refine B5 fun HA FA=> ?_;refine Cm gC ?_;try simp only [W,Nat.reduceAdd]
   refine CQ (c:=AV.bool) hS rfl rfl rfl rfl rfl rfl h fun v22 H Gg JL hm h hS=> ?_;try simp only [W]
   refine Cb FA ?_;refine B5 fun Hj Fj=> ?_;refine B5 fun HB FB=> ?_;refine Cm gC ?_;try simp only [W,EE,Nat.reduceAdd]
   refine Cb FB ?_;obtain ⟨Xe,Xf,N7⟩:=Option.bind_eq_some_iff.1 h;refine CH gC (fun s H=> ∃FT:List Bool,Xe=LR.next (FT)∧s=(u::u::u::u::u::u::u::u::v22::u::u::u::u::u::u::u::u::u::u::u::u::u::u::u::u::u::u::u::u::u::u::u::u::u::u::u::u::u::u::u::u::u::u::u::u::u::u::u::u::u::u::u::u::u::u::u::u::u::u::u::u::u::u::u::u::u::u::u::u::u::u::u::u::u::u::u::u::u::u::u::u::[])∧ay H (⟨v22,1,FT.map AV.bool⟩::F)) (fun Kt Gd=> ?_) (fun s H hq=> ?_)
   ·refine B6 fun NV HR=> ?_;refine CD gC Xf (fun x s H=>match x with|(F3,Fu,Gr,F4,GY)=> ∃v31:AV,bp v31∧ ∃KG:AV,bp KG∧s=(u::u::u::u::u::u:: .ptr GS GU 0 0::u::v22::u::u::u::u::u::u::u::u::u::u::u::u::u::u::u::u::u::u::u::u::u::u::u::u::u::u:: .fz (a1.map (AV.int .i64)):: .int .i64 (a1.length:Int):: .int .i64 Fu::u::u::u::u::u::u::u::u::u::u::u::u::u::u::u::u::u::u::u::u::u::u::u::u::u::u::u::u::u::u::u::u::u::u::u::u::u::u::u::u::u::u::u::[])∧ay H (⟨v22,1,F3.map AV.bool⟩::⟨v31,2,F4.map El⟩::⟨KG,1,GY.map (AV.int .i64)⟩::⟨.ptr GS GU 0 0,3,[.agg [.int .i64 Gr,v31,KG]]⟩::F)) ⟨_,Gx,_,II,rfl,hS⟩ (fun x RC s H h Sg hi N6 HG=> ?_)
    obtain ⟨F3,Fu,Gr,F4,GY⟩:=x;try dsimp only at hi
    obtain ⟨v31,MZ,KG,MU,rfl,hS⟩:=hi;simp only [LO] at h;refine B5 fun Pt Jc=> ?_;refine Cm gC ?_;try simp only [W,EE,Nat.reduceAdd]
    refine Cb Jc ?_;refine B5 fun O8 G6=> ?_;refine B_ ?_;simp only [W];refine Cl h (fun hc h=> ?_) (fun hc h=> ?_)
    ·refine B7 ?_;refine Cb G6 ?_;refine B5 fun Mk Gk=> ?_;refine B6 fun Rw JM=> ?_;refine B5 fun NZ IC=> ?_;refine Cm gC ?_;try simp only [W,EE,Nat.reduceAdd]
     refine Cv rfl rfl rfl (fun _=>rfl) h fun Gf N8 h=> ?_;try simp only [W,EE]
     refine Cb IC ?_;refine B5 fun Oa Ih=> ?_;refine Cm gC ?_;try simp only [W,EE,reduceIte,Nat.reduceAdd,Nat.reduceLeDiff,Nat.reduceBEq,hS.var 3 rfl,List.contains_cons,Nat.reduceBEq,Bool.or_self]
     refine C7 rfl rfl rfl rfl rfl ?_;try simp only [W]
     refine CB (el:=([(⟨Gf,(IntKind.i64.wrap (Gf+1))⟩:Span)]:List Span).map El) hS rfl rfl rfl rfl rfl rfl rfl fun IF H Px hS=> ?_;try simp only [W]
     refine Dv (b6:=[[.sc,.sl [.sc,.sc],.sl [.sc]],[.sl [.sc]],[.sl [.sc]],[.sc]]) (ys:=[.agg [.int .i64 Gr,.fz (F4.map El),.fz (GY.map (AV.int .i64))],.fz (([(⟨Gf,(IntKind.i64.wrap (Gf+1))⟩:Span)]:List Span).map El)]) h rfl (Dh (Dc (AB rfl (AB (De hS 2 rfl MZ (fun _=>rfl)) (AB (De hS 3 rfl MU (fun _=>rfl)) (Db _))))) (Dh (De hS 0 rfl Px (fun _=>rfl)) Dg)) fun HZ Xg h=>⟨.az [.agg [.int .i64 HZ.1.Next,.own 2 (HZ.1.Es.map El),.own 1 (HZ.1.Ep.map (AV.int .i64))],.own 1 (HZ.2.1.map (AV.int .i64)),.own 1 (HZ.2.2.1.map (AV.int .i64)),.bool HZ.2.2.2],Wy Xg (ay.nil _) fun v59 Xh v60 Xi Kw Mt N4 Xj H hS=>Dm rfl (Dl (CW rfl (CZ 0 hS rfl Xh (fun _ _=>by simp [aY,aO,cp,dp,El]) fun H hS=>CZ 0 hS rfl Xi (fun _ _=>by simp [aY,aO,dp]) fun H hS=>CV (Dk 0 hS rfl Mt (fun _ _=>by simp [aY,aO,dp]) fun H hS=>Dk 0 hS rfl Xj (fun _ _=>by simp [aY,aO,dp]) fun H hS=>Dj rfl (Di rfl))))),(DA (Dy (Dz (Dy rfl (Dy (Dw _ (fun _=>rfl) _) (Dy (Dw _ (fun _=>rfl) _) Dx)))) (Dy (Dw _ (fun _=>rfl) _) (Dy (Dw _ (fun _=>rfl) _) (Dy rfl Dx))))),?_⟩
     refine Dt ?_;refine Dr ?_;refine Dp (fun _=>rfl) ?_;refine Dq hS (fun _ _=>rfl) (fun _=>rfl) fun v64 H P5 hS=> ?_;refine Dq hS (fun _ _=>rfl) (fun _=>rfl) fun v66 H P6 hS=> ?_;refine Dn ?_;refine Dq hS (fun _ _=>rfl) (fun _=>rfl) fun v68 H ace hS=> ?_;refine Dq hS (fun _ _=>rfl) (fun _=>rfl) fun v70 H KA hS=> ?_;refine Dp (fun _=>rfl) ?_;refine Dn ?_;try simp only [List.headD_cons]
     obtain ⟨G4,b56,Is,IZ⟩:=HZ;try dsimp only at h
     try simp only [W]
     refine Cs hS rfl rfl fun acf acg H hS=> ?_;try simp only [W]
     refine Ct (a:= .agg [.int .i64 G4.Next,v64,v66]) (y' := .agg [.int .i64 G4.Next,v64,v66]) 0 hS rfl rfl rfl rfl rfl (by simp only [dD,List.all_cons,List.all_nil,P5.qu,P6.qu];rfl) rfl rfl fun H hS=> ?_
     try simp only [W]
     refine Cb Ih ?_;refine B5 fun Rh JH=> ?_;refine B5 fun RL MO=> ?_;refine Cm gC ?_;try simp only [W,Nat.reduceAdd]
     refine Cb MO ?_;refine B_ ?_;simp only [W];refine Cl h (fun hc h=> ?_) (fun hc h=> ?_)
     ·refine B5 fun Xk Ot=> ?_;refine Cm gC ?_;try simp only [W,Nat.reduceAdd]
      refine Cb Ot ?_;refine B8 ?_;refine Cc JH ?_;refine Ch JM ?_;refine Cc Gk ?_;try obtain rfl:=Option.some.inj h
      obtain rfl:=Sg _ rfl;have h:(some (LR.done ([],false)):Option (LR ((List Bool)) (List Int×Bool)))=some (LR.done ([],false)):=rfl;refine CG HG ?_;refine Ch HR ?_;try obtain rfl:=Option.some.inj h
      obtain rfl:=Option.some.inj N7;have h:(some ([],false):Option (List Int×Bool))=some ([],false):=rfl;refine CJ Gd ?_;refine Cc Fj ?_;refine Ck En rfl rfl ?_;try obtain rfl:=Option.some.inj h
      exact hP _ nt _ ((hS.Au 1).C2 11 [0] (by decide))
     ·refine B7 ?_;refine Cb JH ?_;refine B5 fun K80 Xl=> ?_;refine Cm gC ?_;try simp only [W,EE,reduceIte,Nat.reduceAdd,Nat.reduceLeDiff,hS.var 0 rfl]
      refine Ct (a:= .agg [.int .i64 G4.Next,v64,v66]) (y' := .agg [.int .i64 G4.Next,v64,v66]) 9 hS rfl rfl rfl rfl rfl (by simp only [dD,List.all_cons,List.all_nil,P5.qu,P6.qu];rfl) rfl rfl fun H hS=> ?_
      try simp only [W]
      refine Cb Xl ?_;refine B5 fun K81 Xm=> ?_;refine Cm gC ?_;try simp only [W,EE,Nat.reduceAdd]
      refine Cz 1 hS rfl KA rfl ?_;try simp only [W]
      refine Cb Xm ?_;obtain ⟨PV,PW,PX⟩:=Option.bind_eq_some_iff.1 h;refine CH gC (fun s H=> ∃LP:List Bool,PV=(LP)∧s=(u::u::u::u::u::u:: .ptr GS GU 0 0::u::v22::u::u::u::u::u::u::u::u::u::u::u::u::u::u::u::u::u::u::u::u::u::u::u::u::u::u:: .fz (a1.map (AV.int .i64)):: .int .i64 (a1.length:Int):: .int .i64 Fu::u::u::u::u::u::u::u::u::u::u::u::u::u::u::u::u::u::u::u::u::u::u::u::u::u::u::u::u::u::u::u::u::u::u::u::u::u::u::u::u::u::u::u::[])∧ay H (⟨v22,1,LP.map AV.bool⟩::⟨v64,2,G4.Es.map El⟩::⟨v66,1,G4.Ep.map (AV.int .i64)⟩::⟨.ptr GS GU 0 0,3,[.agg [.int .i64 G4.Next,v64,v66]]⟩::F)) (fun R5 MW=> ?_) (fun s H hq=> ?_)
      ·refine B6 fun R6 MX=> ?_;refine CD gC PW (fun x s H=>match x with|(I8,Hy)=>s=(u::u::u::u::u::u:: .ptr GS GU 0 0::u::v22::u::u::u::u::u::u::u::u::u::u::u::u::u::u::u::u::u::u::u::u::u::u::u::u::u::u:: .fz (a1.map (AV.int .i64)):: .int .i64 (a1.length:Int):: .int .i64 Fu::u::u::u::u::u::u::u::u::u::u::u::u::u::u::u::u::u::u::v70:: .int .i64 (Is.length:Int):: .int .i64 Hy::u::u::u::u::u::u::u::u::u::u::u::u::u::u::u::u::u::u::u::u::u::u::[])∧ay H (⟨v22,1,I8.map AV.bool⟩::⟨v70,1,Is.map (AV.int .i64)⟩::⟨v64,2,G4.Es.map El⟩::⟨v66,1,G4.Ep.map (AV.int .i64)⟩::⟨.ptr GS GU 0 0,3,[.agg [.int .i64 G4.Next,v64,v66]]⟩::F)) ⟨rfl,(hS.C2 10 [6,1,4,3,9] (by decide))⟩ (fun x WQ s H h PY hi R7 JU=> ?_)
       obtain ⟨I8,Hy⟩:=x;try dsimp only at hi
       obtain ⟨rfl,hS⟩:=hi;simp only [LN] at h;refine B5 fun RO KB=> ?_;refine Cm gC ?_;try simp only [W,EE,Nat.reduceAdd]
       refine Cb KB ?_;refine B5 fun WR Oj=> ?_;refine B_ ?_;simp only [W];refine Cl h (fun hc h=> ?_) (fun hc h=> ?_)
       ·refine B7 ?_;refine Cb Oj ?_;refine B5 fun NN Ix=> ?_;refine B6 fun R9 KI=> ?_;refine B5 fun Xn Ou=> ?_;refine Cm gC ?_;try simp only [W,EE,Nat.reduceAdd]
        refine Cw 1 hS rfl rfl rfl rfl rfl h (fun OX ach aci acj Xo h Xp=> ?_) KA.ne;obtain ⟨ack,Xq,Xr⟩:=hS.elem 1 rfl Xp Xo;try simp only [W,EE,Xq,Xr]
        refine Cb Ou ?_;refine Cm gC ?_;try simp only [W,EE,Nat.reduceAdd]
        refine Cw 0 hS rfl rfl rfl rfl rfl h (fun acm acn aco acp Si h Sj=> ?_) JL.ne;obtain ⟨acq,acr,acs⟩:=hS.elem 0 rfl Sj Si;try simp only [W]
        refine Cx (a:= .bool true) (y' :=true) 0 hS rfl Sj Si rfl rfl rfl rfl rfl rfl rfl fun H hS=> ?_
        try simp only [W]
        refine Cf KI ?_;refine Cb Ix ?_;refine Cm gC ?_;try simp only [W,EE,Nat.reduceAdd]
        exact CE JU h ⟨rfl,hS⟩
       ·refine B9 ?_;refine Cd Oj ?_;try obtain rfl:=Option.some.inj h
        obtain rfl:=PY _ rfl;have h:(some (I8):Option ((List Bool)))=some (I8):=rfl;refine CF JU ?_;refine Cg MX ?_;exact CI MW ⟨_,(Option.some.inj h).symm,rfl,(hS.C2 5 [0,2,3,4] (by decide))⟩
      ·obtain ⟨LP,Eo,rfl,hS⟩:=hq;obtain rfl:=Eo.symm;replace h:=PX;try dsimp only at h
       refine Cf JM ?_;refine Cb Gk ?_;refine Cm gC ?_;try simp only [W,EE,Nat.reduceAdd]
       exact CE HG h ⟨_,P5,_,P6,rfl,hS⟩
    ·refine B9 ?_;refine Cd G6 ?_;try obtain rfl:=Option.some.inj h
     obtain rfl:=Sg _ rfl;have h:(some (LR.next (F3)):Option (LR ((List Bool)) (List Int×Bool)))=some (LR.next (F3)):=rfl
     refine CF HG ?_;refine Cg HR ?_;exact CI Gd ⟨_,(Option.some.inj h).symm,rfl,(hS.C2 4 [0] (by decide))⟩
   ·obtain ⟨FT,Eo,rfl,hS⟩:=hq;obtain rfl:=Eo.symm;replace h:=N7;try dsimp only at h
    refine Cb Fj ?_;refine B5 fun WU Om=> ?_;refine Cm gC ?_;try simp only [W,Nat.reduceAdd]
    refine Cb Om ?_;refine B5 fun Rp Mn=> ?_;refine B5 fun Pf JI=> ?_;refine Cm gC ?_;try simp only [W,EE,Nat.reduceAdd]
    refine Cz 0 hS rfl JL rfl ?_;try simp only [W]
    refine Cb JI ?_;obtain ⟨P1,Xs,Xt⟩:=Option.bind_eq_some_iff.1 h;refine CH gC (fun s H=> ∃F5:List Int,P1=(F5)∧ ∃Ov:AV,bp Ov∧s=(u::u::u::u::u::u::u::u::u::u::u::u::u::u::u::u::u::Ov::u::u::u::u::u::u::u::u::u::u::u::u::u::u::u::u::u::u::u::u::u::u::u::u::u::u::u::u::u::u::u::u::u::u::u::u::u::u::u::u::u::u::u::u::u::u::u::u::u::u::u::u::u::u::u::u::u::u::u::u::u::u::u::[])∧ay H (⟨Ov,1,F5.map (AV.int .i64)⟩::F)) (fun PG IG=> ?_) (fun s H hq=> ?_)
    ·refine B6 fun WZ On=> ?_;refine CD gC Xs (fun x s H=>match x with|(GC,F7)=> ∃M0:AV,bp M0∧s=(u::u::u::u::u::u::u::u::u::u::u::u::u::u::u::u::u::M0::u::u::u::u::u::u::u::u::u::u::u::u::u::u::u::u::u::u::u::u::u::u::u::u::u::u::u::u::u::u::u::u::u::u::u::u::u::u::u::u::u::u::u::u::u::u::u::u::u::v22:: .int .i64 (FT.length:Int):: .int .i64 F7::u::u::u::u::u::u::u::u::u::u::u::[])∧ay H (⟨M0,1,GC.map (AV.int .i64)⟩::⟨v22,1,FT.map AV.bool⟩::F)) ⟨_,nt,rfl,(hS.Au 1)⟩ (fun x acu s H h Xu hi acv Sk=> ?_)
     obtain ⟨GC,F7⟩:=x;try dsimp only at hi
     obtain ⟨M0,P7,rfl,hS⟩:=hi;simp only [NA] at h;refine B5 fun V0 PH=> ?_;refine Cm gC ?_;try simp only [W,EE,Nat.reduceAdd]
     refine Cb PH ?_;refine B5 fun R_ Jg=> ?_;refine B_ ?_;simp only [W];refine Cl h (fun hc h=> ?_) (fun hc h=> ?_)
     ·refine B7 ?_;refine Cb Jg ?_;refine B5 fun Sa JV=> ?_;obtain ⟨Xv,h,Xw⟩:=Option.bind_eq_some_iff.1 h;refine CH gC (fun s H=> ∃HN:List Int,Xv=(HN)∧ ∃IH:AV,bp IH∧s=(u::u::u::u::u::u::u::u::u::u::u::u::u::u::u::u::u::IH::u::u::u::u::u::u::u::u::u::u::u::u::u::u::u::u::u::u::u::u::u::u::u::u::u::u::u::u::u::u::u::u::u::u::u::u::u::u::u::u::u::u::u::u::u::u::u::u::u::v22:: .int .i64 (FT.length:Int):: .int .i64 F7::u::u::u::u::u::u::u::u::u::u::u::[])∧ay H (⟨IH,1,HN.map (AV.int .i64)⟩::⟨v22,1,FT.map AV.bool⟩::F)) (fun Sc MY=> ?_) (fun s H hq=> ?_)
      ·refine B6 fun Pg Ia=> ?_;refine B5 fun RS JS=> ?_;refine Cm gC ?_;try simp only [W,EE,Nat.reduceAdd]
       refine Cw 1 hS rfl rfl rfl rfl rfl h (fun Jp acw acx acy Xx h Xy=> ?_) JL.ne;obtain ⟨acz,Xz,XA⟩:=hS.elem 1 rfl Xy Xx;try simp only [W,EE,Xz,XA]
       refine Cb JS ?_;refine B5 fun W5 Oq=> ?_;refine Cm gC ?_;try simp only [W,Nat.reduceAdd]
       refine Cb Oq ?_;obtain ⟨XB,h,XC⟩:=Option.bind_eq_some_iff.1 h;refine CH gC (fun s H=> ∃I5:List Int,XB=(I5)∧ ∃KC:AV,bp KC∧s=(u::u::u::u::u::u::u::u::u::u::u::u::u::u::u::u::u::KC::u::u::u::u::u::u::u::u::u::u::u::u::u::u::u::u::u::u::u::u::u::u::u::u::u::u::u::u::u::u::u::u::u::u::u::u::u::u::u::u::u::u::u::u::u::u::u::u::u::v22:: .int .i64 (FT.length:Int):: .int .i64 F7::u::u::u::u::u::u::u::u::u::u::u::[])∧ay H (⟨KC,1,I5.map (AV.int .i64)⟩::⟨v22,1,FT.map AV.bool⟩::F)) (fun Wa Od=> ?_) (fun s H hq=> ?_)
       ·refine B5 fun Se JW=> ?_;refine B_ ?_;simp only [W];refine Cl h (fun hc h=> ?_) (fun hc h=> ?_)
        ·refine Cm gC ?_;try simp only [W,Nat.reduceAdd]
         refine CB (el:=([F7]:List Int).map (AV.int .i64)) hS rfl rfl rfl rfl rfl rfl rfl fun v143 H JT hS=> ?_;try simp only [W,EE]
         refine CR (l:=GC) (c:=(AV.int .i64)) 1 hS rfl P7 rfl rfl rfl (hS.iu 0 rfl JT) (fun _=>rfl) rfl h fun v146 H QP XD hm h hS=> ?_;try simp only [W]
         refine Cb JW ?_;refine DR (s' :=(u::u::u::u::u::u::u::u::u::u::u::u::u::u::u::u::u::v146::u::u::u::u::u::u::u::u::u::u::u::u::u::u::u::u::u::u::u::u::u::u::u::u::u::u::u::u::u::u::u::u::u::u::u::u::u::u::u::u::u::u::u::u::u::u::u::u::u::v22:: .int .i64 (FT.length:Int):: .int .i64 F7::u::u::u::u::u::u::u::u::u::u::u::[])) rfl ?_
         exact CI Od ⟨_,(Option.some.inj h).symm,_,XD,rfl,(hS.C2 3 [1,2] (by decide))⟩
        ·refine B7 ?_;refine Cb JW ?_;refine DR (s' :=(u::u::u::u::u::u::u::u::u::u::u::u::u::u::u::u::u::M0::u::u::u::u::u::u::u::u::u::u::u::u::u::u::u::u::u::u::u::u::u::u::u::u::u::u::u::u::u::u::u::u::u::u::u::u::u::u::u::u::u::u::u::u::u::u::u::u::u::v22:: .int .i64 (FT.length:Int):: .int .i64 F7::u::u::u::u::u::u::u::u::u::u::u::[])) rfl ?_
         exact CI Od ⟨_,(Option.some.inj h).symm,_,P7,rfl,hS⟩
       ·obtain ⟨I5,Eo,KC,PJ,rfl,hS⟩:=hq;obtain rfl:=Eo.symm;replace h:=XC;try dsimp only at h
        refine Ce Ia ?_;exact CI MY ⟨_,(Option.some.inj h).symm,_,PJ,rfl,hS⟩
      ·obtain ⟨HN,Eo,IH,PK,rfl,hS⟩:=hq;obtain rfl:=Eo.symm;replace h:=Xw;try dsimp only at h
       refine Cb JV ?_;refine Cm gC ?_;try simp only [W,EE,Nat.reduceAdd]
       exact CE Sk h ⟨_,PK,rfl,hS⟩
     ·refine B9 ?_;refine Cd Jg ?_;try obtain rfl:=Option.some.inj h
      obtain rfl:=Xu _ rfl;have h:(some (GC):Option ((List Int)))=some (GC):=rfl;refine CF Sk ?_;refine Cg On ?_;exact CI IG ⟨_,(Option.some.inj h).symm,_,P7,rfl,(hS.C2 2 [0] (by decide))⟩
    ·obtain ⟨F5,Eo,Ov,XE,rfl,hS⟩:=hq;obtain rfl:=Eo.symm;replace h:=Xt;try dsimp only at h
     refine Cb Mn ?_;refine B5 fun acA XF=> ?_;refine Cm gC ?_;try simp only [W,Nat.reduceAdd]
     refine Cb XF ?_;refine B8 ?_;refine Ck En rfl rfl ?_;try obtain rfl:=Option.some.inj h
     exact hP _ XE _ hS
theorem XG {a0:List Int} {r:(Int×Bool)} (h:LS a0=some r) {F:List It} {H:J} (hS:ay H (F)) {P:AV→J→Prop} (hP: ∀H',ay H' (F)→P (.az [.int .i64 r.1,.bool r.2]) H'):aq C 52 [.fz (a0.map (AV.int .i64))] H P:=by
 refine Cp gC (res:=[.tmp 2,.tmp 3]) (n:=27) rfl rfl rfl rfl fun K0 En=> ?_;simp only [W,Nat.reduceSub,Nat.reduceAdd,List.replicate];unfold LS at h;refine B5 fun K1 Er=> ?_;refine Cm gC ?_;try simp only [W,Nat.reduceAdd]
 refine Cb Er ?_;refine B5 fun K2 zY=> ?_;refine B5 fun K3 EG=> ?_;refine Cm gC ?_;try simp only [W,Nat.reduceAdd]
 refine CC h fun EM Ic h=> ?_;refine Pk Ic hS fun H hS=> ?_;try simp only [W]
 refine Cb EG ?_;refine B_ ?_;simp only [W];refine Cl h (fun hc h=> ?_) (fun hc h=> ?_)
 ·refine B5 fun K5 EV=> ?_;refine Cm gC ?_;try simp only [W,Nat.reduceAdd]
  refine Cb EV ?_;refine B8 ?_;refine Cc zY ?_;refine Ck En rfl rfl ?_;try obtain rfl:=Option.some.inj h
  exact hP _ hS
 ·refine B7 ?_;refine Cb zY ?_;refine B5 fun K6 Fg=> ?_;refine Cm gC ?_;try simp only [W,Nat.reduceAdd]
  refine Cb Fg ?_;refine B5 fun K7 EU=> ?_;refine B5 fun K8 EO=> ?_;refine Cm gC ?_;try simp only [W,EE,Nat.reduceAdd]
  refine Cb EO ?_;obtain ⟨XH,XI,g20⟩:=Option.bind_eq_some_iff.1 h;refine CH gC (fun s H=> ∃E6:Int,XH=(E6)∧s=[u,u,u,u,.int .i64 E6,u,u,u,u,u,u,u,u,u,u,u,u,u,u,u,u,u,u,u,u,u,u]∧ay H (F)) (fun G5 E8=> ?_) (fun s H hq=> ?_)
  ·refine B6 fun F8 EQ=> ?_;refine CD gC XI (fun x s H=>match x with|(ER,Et,EJ)=>s=[u,u,u,u,.int .i64 ER,.int .i64 Et,u,u,u,u,u,.fz (a0.map (AV.int .i64)),.int .i64 (a0.length:Int),.int .i64 EJ,u,u,u,u,u,u,u,u,u,u,u,u,u]∧ay H (F)) ⟨rfl,hS⟩ (fun x Sl s H h XJ hi FY EH=> ?_)
   obtain ⟨ER,Et,EJ⟩:=x;try dsimp only at hi
   obtain ⟨rfl,hS⟩:=hi;simp only [NB] at h;refine B5 fun HA FA=> ?_;refine Cm gC ?_;try simp only [W,EE,Nat.reduceAdd]
   refine Cb FA ?_;refine B5 fun Iw FL=> ?_;refine B_ ?_;simp only [W];refine Cl h (fun hc h=> ?_) (fun hc h=> ?_)
   ·refine B7 ?_;refine Cb FL ?_;refine B5 fun Ib FI=> ?_;refine B6 fun GM Ff=> ?_;refine B5 fun Hj Fj=> ?_;refine Cm gC ?_;try simp only [W,EE,Nat.reduceAdd]
    refine Cv rfl rfl rfl (fun _=>rfl) h fun Gt Sm h=> ?_;try simp only [W,EE]
    refine Cb Fj ?_;refine B5 fun Gy Fa=> ?_;refine Cm gC ?_;try simp only [W,Nat.reduceAdd]
    refine Cb Fa ?_;refine Cm gC ?_;try simp only [W,EE,Nat.reduceAdd]
    refine Cf Ff ?_;refine Cb FI ?_;refine Cm gC ?_;try simp only [W,EE,Nat.reduceAdd]
    exact CE EH h ⟨rfl,hS⟩
   ·refine B9 ?_;refine Cd FL ?_;try obtain rfl:=Option.some.inj h
    obtain rfl:=XJ _ rfl;have h:(some (ER):Option (Int))=some (ER):=rfl;refine CF EH ?_;refine Cg EQ ?_;exact CI E8 ⟨_,(Option.some.inj h).symm,rfl,hS⟩
  ·obtain ⟨E6,Eo,rfl,hS⟩:=hq;obtain rfl:=Eo.symm;replace h:=g20;try dsimp only at h
   refine Cb EU ?_;refine B5 fun Ms HF=> ?_;refine Cm gC ?_;try simp only [W,Nat.reduceAdd]
   refine Cb HF ?_;refine B8 ?_;refine Ck En rfl rfl ?_;try obtain rfl:=Option.some.inj h
   exact hP _ hS
theorem XK {a0:List Int} {r:(Int×Bool)} (h:LU a0=some r) {F:List It} {H:J} (hS:ay H (F)) {P:AV→J→Prop} (hP: ∀H',ay H' (F)→P (.az [.int .i64 r.1,.bool r.2]) H'):aq C 53 [.fz (a0.map (AV.int .i64))] H P:=by
 refine Cp gC (res:=[.tmp 2,.tmp 3]) (n:=27) rfl rfl rfl rfl fun K0 En=> ?_;simp only [W,Nat.reduceSub,Nat.reduceAdd,List.replicate];unfold LU at h;refine B5 fun K1 Er=> ?_;refine Cm gC ?_;try simp only [W,Nat.reduceAdd]
 refine Cb Er ?_;refine B5 fun K2 zY=> ?_;refine B5 fun K3 EG=> ?_;refine Cm gC ?_;try simp only [W,Nat.reduceAdd]
 refine CC h fun EM Ic h=> ?_;refine PO Ic hS fun H hS=> ?_;try simp only [W]
 refine Cb EG ?_;refine B_ ?_;simp only [W];refine Cl h (fun hc h=> ?_) (fun hc h=> ?_)
 ·refine B5 fun K5 EV=> ?_;refine Cm gC ?_;try simp only [W,Nat.reduceAdd]
  refine Cb EV ?_;refine B8 ?_;refine Cc zY ?_;refine Ck En rfl rfl ?_;try obtain rfl:=Option.some.inj h
  exact hP _ hS
 ·refine B7 ?_;refine Cb zY ?_;refine B5 fun K6 Fg=> ?_;refine Cm gC ?_;try simp only [W,Nat.reduceAdd]
  refine Cb Fg ?_;refine B5 fun K7 EU=> ?_;refine Cm gC ?_;try simp only [W,Nat.reduceAdd]
  refine Cb EU ?_;refine B5 fun K8 EO=> ?_;refine B5 fun K9 EK=> ?_;refine Cm gC ?_;try simp only [W,EE,Nat.reduceAdd]
  refine Cb EK ?_;obtain ⟨HD,MD,g21⟩:=Option.bind_eq_some_iff.1 h;refine CH gC (fun s H=> ∃EC:Int,HD=(EC)∧s=[u,u,u,u,.int .i64 EC,u,u,u,u,u,u,u,u,u,u,u,u,u,u,u,u,u,u,u,u,u,u]∧ay H (F)) (fun F8 EQ=> ?_) (fun s H hq=> ?_)
  ·refine B6 fun FY EH=> ?_;refine CD gC MD (fun x s H=>match x with|(Et,EJ,E6)=>s=[u,u,u,u,.int .i64 Et,.int .i64 EJ,u,u,u,u,u,.fz (a0.map (AV.int .i64)),.int .i64 (a0.length:Int),.int .i64 E6,u,u,u,u,u,u,u,u,u,u,u,u,u]∧ay H (F)) ⟨rfl,hS⟩ (fun x RG s H h ME hi Gc ET=> ?_)
   obtain ⟨Et,EJ,E6⟩:=x;try dsimp only at hi
   obtain ⟨rfl,hS⟩:=hi;simp only [NC] at h;refine B5 fun Iw FL=> ?_;refine Cm gC ?_;try simp only [W,EE,Nat.reduceAdd]
   refine Cb FL ?_;refine B5 fun Ib FI=> ?_;refine B_ ?_;simp only [W];refine Cl h (fun hc h=> ?_) (fun hc h=> ?_)
   ·refine B7 ?_;refine Cb FI ?_;refine B5 fun GM Ff=> ?_;refine B6 fun Hj Fj=> ?_;refine B5 fun HB FB=> ?_;refine Cm gC ?_;try simp only [W,EE,Nat.reduceAdd]
    refine Cv rfl rfl rfl (fun _=>rfl) h fun FH NR h=> ?_;try simp only [W,EE]
    refine Cb FB ?_;refine B5 fun Hk Fs=> ?_;refine Cm gC ?_;try simp only [W,EE,Nat.reduceAdd]
    refine CC h fun Gv Oh h=> ?_;refine PP Oh hS fun H hS=> ?_;try simp only [W]
    refine Cb Fs ?_;refine Cm gC ?_;try simp only [W,Nat.reduceAdd]
    refine CC h fun F2 Jb h=> ?_;refine PP Jb hS fun H hS=> ?_;try simp only [W]
    refine Cf Fj ?_;refine Cb Ff ?_;refine Cm gC ?_;try simp only [W,EE,Nat.reduceAdd]
    exact CE ET h ⟨rfl,hS⟩
   ·refine B9 ?_;refine Cd FI ?_;try obtain rfl:=Option.some.inj h
    obtain rfl:=ME _ rfl;have h:(some (Et):Option (Int))=some (Et):=rfl;refine CF ET ?_;refine Cg EH ?_;exact CI EQ ⟨_,(Option.some.inj h).symm,rfl,hS⟩
  ·obtain ⟨EC,Eo,rfl,hS⟩:=hq;obtain rfl:=Eo.symm;replace h:=g21;try dsimp only at h
   refine Cb EO ?_;refine B5 fun MA GQ=> ?_;refine Cm gC ?_;try simp only [W,Nat.reduceAdd]
   refine Cb GQ ?_;refine B8 ?_;refine Ck En rfl rfl ?_;try obtain rfl:=Option.some.inj h
   exact hP _ hS
theorem XL {a0:List Int} {a1:List Int} {r:(Bool)} (h:LW a0 a1=some r) {F:List It} {H:J} (hS:ay H (F)) {P:AV→J→Prop} (hP: ∀H',ay H' (F)→P (.bool r) H'):aq C 18 [.fz (a0.map (AV.int .i64)),.fz (a1.map (AV.int .i64))] H P:=by
 refine Cp gC (res:=[.tmp 4]) (n:=26) rfl rfl rfl rfl fun K0 En=> ?_;simp only [W,Nat.reduceSub,Nat.reduceAdd,List.replicate];unfold LW at h;refine B5 fun K1 Er=> ?_;refine Cm gC ?_;try simp only [W,Nat.reduceAdd]
 refine Cb Er ?_;refine B5 fun K2 zY=> ?_;refine B5 fun K3 EG=> ?_;refine Cm gC ?_;try simp only [W,EE,Nat.reduceAdd]
 refine Cb EG ?_;refine B_ ?_;simp only [W];refine Cl h (fun hc h=> ?_) (fun hc h=> ?_)
 ·refine B5 fun K4 EI=> ?_;refine Cm gC ?_;try simp only [W,Nat.reduceAdd]
  refine Cb EI ?_;refine B8 ?_;refine Cc zY ?_;refine Cj En rfl ?_;try obtain rfl:=Option.some.inj h
  exact hP _ hS
 ·refine B7 ?_;refine Cb zY ?_;refine B5 fun K5 EV=> ?_;refine B5 fun K6 Fg=> ?_;refine Cm gC ?_;try simp only [W,EE,Nat.reduceAdd]
  refine Cb Fg ?_;obtain ⟨Iz,IA,g15⟩:=Option.bind_eq_some_iff.1 h;refine CH gC (fun s H=>Iz=LR.next ()∧s=[u,u,u,u,u,u,u,u,u,u,u,u,u,u,u,u,u,u,u,u,u,u,u,u,u,u]∧ay H (F)) (fun I_ FX=> ?_) (fun s H hq=> ?_)
  ·refine B6 fun Iv FN=> ?_;refine CD gC IA (fun x s H=>s=[.fz (a0.map (AV.int .i64)),.fz (a1.map (AV.int .i64)),u,u,u,u,u,u,u,u,u,u,.int .i64 (a0.length:Int),.int .i64 x,u,u,u,u,u,u,u,u,u,u,u,u]∧ay H (F)) ⟨rfl,hS⟩ (fun EZ HD s H h HE hi H7 Fm=> ?_)
   skip
   try dsimp only at hi
   obtain ⟨rfl,hS⟩:=hi;simp only [LV] at h;refine B5 fun F8 EQ=> ?_;refine Cm gC ?_;try simp only [W,EE,Nat.reduceAdd]
   refine Cb EQ ?_;refine B5 fun FY EH=> ?_;refine B_ ?_;simp only [W];refine Cl h (fun hc h=> ?_) (fun hc h=> ?_)
   ·refine B7 ?_;refine Cb EH ?_;refine B5 fun Gc ET=> ?_;refine B6 fun Gw E9=> ?_;refine B5 fun GK E_=> ?_;refine Cm gC ?_;try simp only [W,Nat.reduceAdd]
    refine Cb E_ ?_;refine B5 fun HA FA=> ?_;refine Co gC (by kernel_rfl) ?_
    try simp only [W,EE,Nat.reduceAdd]
    refine Cv rfl rfl rfl (fun _=>rfl) h fun Km XM h=> ?_;try simp only [W,EE]
    refine Cv rfl rfl rfl (fun _=>rfl) h fun Kn XO h=> ?_;try simp only [W,EE]
    refine Cb FA ?_;refine B_ ?_;simp only [W];refine Cl h (fun hc h=> ?_) (fun hc h=> ?_)
    ·refine B5 fun GM Ff=> ?_;refine Cm gC ?_;try simp only [W,Nat.reduceAdd]
     refine Cb Ff ?_;refine B8 ?_;refine Ch E9 ?_;refine Cc ET ?_;try obtain rfl:=Option.some.inj h
     obtain rfl:=HE _ rfl;have h:(some (LR.done false):Option (LR Unit (Bool)))=some (LR.done false):=rfl;refine CG Fm ?_;refine Ch FN ?_;try obtain rfl:=Option.some.inj h
     obtain rfl:=Option.some.inj g15;have h:(some false:Option (Bool))=some false:=rfl;refine CJ FX ?_;refine Cc EV ?_;refine Cj En rfl ?_;try obtain rfl:=Option.some.inj h
     exact hP _ hS
    ·refine B7 ?_;refine Cf E9 ?_;refine Cb ET ?_;refine Cm gC ?_;try simp only [W,EE,Nat.reduceAdd]
     exact CE Fm h ⟨rfl,hS⟩
   ·refine B9 ?_;refine Cd EH ?_;try obtain rfl:=Option.some.inj h
    obtain rfl:=HE _ rfl;have h:(some (LR.next ()):Option (LR Unit (Bool)))=some (LR.next ()):=rfl
    refine CF Fm ?_;refine Cg FN ?_;exact CI FX ⟨(Option.some.inj h).symm,rfl,hS⟩
  ·obtain ⟨rfl,rfl,hS⟩:=hq;replace h:=g15;try dsimp only at h
   refine Cb EV ?_;refine B5 fun Ku Hn=> ?_;refine Cm gC ?_;try simp only [W,Nat.reduceAdd]
   refine Cb Hn ?_;refine B8 ?_;refine Cj En rfl ?_;try obtain rfl:=Option.some.inj h
   exact hP _ hS
theorem P8 {a0:List Int} {a1:Int} {r:(Bool)} (h:JB a0 a1=some r) {F:List It} {H:J} (hS:ay H (F)) {P:AV→J→Prop} (hP: ∀H',ay H' (F)→P (.bool r) H'):aq C 27 [.fz (a0.map (AV.int .i64)),.int .i64 a1] H P:=by
 refine Cp gC (res:=[.tmp 4]) (n:=17) rfl rfl rfl rfl fun K0 En=> ?_;simp only [W,Nat.reduceSub,Nat.reduceAdd,List.replicate];unfold JB at h;refine B5 fun K1 Er=> ?_;refine Cm gC ?_;try simp only [W,Nat.reduceAdd]
 refine Cb Er ?_;refine B5 fun K2 zY=> ?_;refine B5 fun K3 EG=> ?_;refine Cm gC ?_;try simp only [W,EE,Nat.reduceAdd]
 refine Cb EG ?_;obtain ⟨Gl,GL,g12⟩:=Option.bind_eq_some_iff.1 h;refine CH gC (fun s H=>Gl=LR.next ()∧s=[u,u,u,u,u,u,u,u,u,u,u,u,u,u,u,u,u]∧ay H (F)) (fun K7 EU=> ?_) (fun s H hq=> ?_)
 ·refine B6 fun K8 EO=> ?_;refine CD gC GL (fun x s H=>s=[u,.int .i64 a1,u,u,u,u,u,.fz (a0.map (AV.int .i64)),.int .i64 (a0.length:Int),.int .i64 x,u,u,u,u,u,u,u]∧ay H (F)) ⟨rfl,hS⟩ (fun Ez HQ s H h FO hi K9 EK=> ?_)
  skip
  try dsimp only at hi
  obtain ⟨rfl,hS⟩:=hi;simp only [ND] at h;refine B5 fun GJ Fo=> ?_;refine Cm gC ?_;try simp only [W,EE,Nat.reduceAdd]
  refine Cb Fo ?_;refine B5 fun Hz Fe=> ?_;refine B_ ?_;simp only [W];refine Cl h (fun hc h=> ?_) (fun hc h=> ?_)
  ·refine B7 ?_;refine Cb Fe ?_;refine B5 fun G5 E8=> ?_;refine B6 fun F8 EQ=> ?_;refine B5 fun FY EH=> ?_;refine Cm gC ?_;try simp only [W,EE,Nat.reduceAdd]
   refine Cv rfl rfl rfl (fun _=>rfl) h fun EL NP h=> ?_;try simp only [W,EE]
   refine Cb EH ?_;refine B5 fun Gw E9=> ?_;refine Cm gC ?_;try simp only [W,EE,Nat.reduceAdd]
   refine Cb E9 ?_;refine B_ ?_;simp only [W];refine Cl h (fun hc h=> ?_) (fun hc h=> ?_)
   ·refine B5 fun GK E_=> ?_;refine Cm gC ?_;try simp only [W,Nat.reduceAdd]
    refine Cb E_ ?_;refine B8 ?_;refine Ch EQ ?_;refine Cc E8 ?_;try obtain rfl:=Option.some.inj h
    obtain rfl:=FO _ rfl;have h:(some (LR.done true):Option (LR Unit (Bool)))=some (LR.done true):=rfl;refine CG EK ?_;refine Ch EO ?_;try obtain rfl:=Option.some.inj h
    obtain rfl:=Option.some.inj g12;have h:(some true:Option (Bool))=some true:=rfl;refine CJ EU ?_;refine Cc zY ?_;refine Cj En rfl ?_;try obtain rfl:=Option.some.inj h
    exact hP _ hS
   ·refine B7 ?_;refine Cf EQ ?_;refine Cb E8 ?_;refine Cm gC ?_;try simp only [W,EE,Nat.reduceAdd]
    exact CE EK h ⟨rfl,hS⟩
  ·refine B9 ?_;refine Cd Fe ?_;try obtain rfl:=Option.some.inj h
   obtain rfl:=FO _ rfl;have h:(some (LR.next ()):Option (LR Unit (Bool)))=some (LR.next ()):=rfl
   refine CF EK ?_;refine Cg EO ?_;exact CI EU ⟨(Option.some.inj h).symm,rfl,hS⟩
 ·obtain ⟨rfl,rfl,hS⟩:=hq;replace h:=g12;try dsimp only at h
  refine Cb zY ?_;refine B5 fun Gy Fa=> ?_;refine Cm gC ?_;try simp only [W,Nat.reduceAdd]
  refine Cb Fa ?_;refine B8 ?_;refine Cj En rfl ?_;try obtain rfl:=Option.some.inj h
  exact hP _ hS
theorem XP {a0:List Int} {r:(List Int)} (h:LX a0=some r) {F:List It} {H:J} (hS:ay H (F)) {P:AV→J→Prop} (hP: ∀H_:AV,bp H_→ ∀H',ay H' (⟨H_,1,r.map (AV.int .i64)⟩::F)→P (H_) H'):aq C 54 [.fz (a0.map (AV.int .u8))] H P:=by
 refine Cp gC (res:=[.tmp 2]) (n:=24) rfl rfl rfl rfl fun K0 En=> ?_;simp only [W,Nat.reduceSub,Nat.reduceAdd,List.replicate];unfold LX at h;refine B5 fun K1 Er=> ?_;refine Cm gC ?_;try simp only [W,Nat.reduceAdd]
 refine Cb Er ?_;refine B5 fun K2 zY=> ?_;refine Cm gC ?_;try simp only [W,EE,Nat.reduceAdd]
 refine C7 rfl rfl rfl rfl rfl ?_;try simp only [W]
 refine Cr hS rfl rfl rfl rfl fun Ur Us H hS=> ?_;try simp only [W]
 refine Cb zY ?_;refine B5 fun K5 EV=> ?_;refine B5 fun K6 Fg=> ?_;refine Cm gC ?_;try simp only [W,Nat.reduceAdd]
 refine CC h fun EF JO h=> ?_;obtain ⟨EP,Jt⟩:=EF;try dsimp only at h
 refine O2 JO hS fun H hS=> ?_;try simp only [W]
 refine Cb Fg ?_;refine B_ ?_;simp only [W];refine Cl h (fun hc h=> ?_) (fun hc h=> ?_)
 ·refine B5 fun I_ FX=> ?_;refine Cm gC ?_;try simp only [W,Nat.reduceAdd]
  refine Cb FX ?_;refine B5 fun Iv FN=> ?_;refine B5 fun H7 Fm=> ?_;refine Cm gC ?_;try simp only [W,Nat.reduceAdd]
  refine Cb Fm ?_;obtain ⟨Sl,XQ,JQ⟩:=Option.bind_eq_some_iff.1 h;refine CH gC (fun s H=> ∃LY:List Int,Sl=(LY)∧ ∃Iy:AV,bp Iy∧s=[u,u,u,u,Iy,u,u,u,u,u,u,u,u,u,u,u,u,u,u,u,u,u,u,u]∧ay H (⟨Iy,1,LY.map (AV.int .i64)⟩::F)) (fun HA FA=> ?_) (fun s H hq=> ?_)
  ·refine B6 fun Iw FL=> ?_;refine CD gC XQ (fun x s H=>match x with|(EC,Fl)=> ∃If:AV,bp If∧s=[u,u,u,u,If,.int .i64 Fl,u,u,u,u,u,u,u,u,u,u,u,u,u,u,u,u,u,u]∧ay H (⟨If,1,EC.map (AV.int .i64)⟩::F)) ⟨_,nt,rfl,((hS.Au 1).C2 2 [0] (by decide))⟩ (fun x Ky s H h XR hi Ib FI=> ?_)
   obtain ⟨EC,Fl⟩:=x;try dsimp only at hi
   obtain ⟨If,Kx,rfl,hS⟩:=hi;simp only [OY] at h;refine B5 fun Gy Fa=> ?_;refine B5 fun Hk Fs=> ?_;refine Cm gC ?_;try simp only [W,EE,Nat.reduceAdd]
   refine Cb Fs ?_;refine B_ ?_;simp only [W];refine Cl h (fun hc h=> ?_) (fun hc h=> ?_)
   ·refine B7 ?_;refine Cb Fa ?_;refine B5 fun Mp Hm=> ?_;refine B6 fun Ms HF=> ?_;refine Cm gC ?_;try simp only [W,Nat.reduceAdd]
    refine CB (el:=([Fl]:List Int).map (AV.int .i64)) hS rfl rfl rfl rfl rfl rfl rfl fun v31 H MZ hS=> ?_;try simp only [W,EE]
    refine CR (l:=EC) (c:=(AV.int .i64)) 1 hS rfl Kx rfl rfl rfl (hS.iu 0 rfl MZ) (fun _=>rfl) rfl h fun KG H GY MU hm h hS=> ?_;try simp only [W]
    refine Cf HF ?_;refine Cb Hm ?_;refine Cm gC ?_;try simp only [W,EE,Nat.reduceAdd]
    exact CE FI h ⟨_,MU,rfl,(hS.C2 2 [1] (by decide))⟩
   ·refine B9 ?_;refine Cd Fa ?_;try obtain rfl:=Option.some.inj h
    obtain rfl:=XR _ rfl;have h:(some (EC):Option ((List Int)))=some (EC):=rfl;refine CF FI ?_;refine Cg FL ?_;exact CI FA ⟨_,(Option.some.inj h).symm,_,Kx,rfl,hS⟩
  ·obtain ⟨LY,Eo,Iy,Po,rfl,hS⟩:=hq;obtain rfl:=Eo.symm;replace h:=JQ;try dsimp only at h
   refine Cb FN ?_;refine B5 fun NY Ho=> ?_;refine Cm gC ?_;try simp only [W,Nat.reduceAdd]
   refine Cb Ho ?_;refine B8 ?_;refine Cc EV ?_;refine Cj En rfl ?_;try obtain rfl:=Option.some.inj h
   exact hP _ Po _ hS
 ·refine B7 ?_;refine Cb EV ?_;refine B5 fun Kt Gd=> ?_;refine Cm gC ?_;try simp only [W,Nat.reduceAdd]
  refine CC h fun He P9 h=> ?_;obtain ⟨QQ,NE⟩:=He;try dsimp only at h
  refine I9 P9 hS fun H hS=> ?_;try simp only [W]
  refine CC h fun L4 N9 h=> ?_;obtain ⟨LZ,I7⟩:=L4;try dsimp only at h
  refine Re N9 hS fun v46 XS H hS=> ?_;try simp only [W]
  refine Cb Gd ?_;refine B8 ?_;refine Cj En rfl ?_;try obtain rfl:=Option.some.inj h
  exact hP _ XS _ (hS.C2 2 [0] (by decide))
theorem XT {a0:List Int} {r:(List Span×Bool)} (h:L3 a0=some r) {F:List It} {H:J} (hS:ay H (F)) {P:AV→J→Prop} (hP: ∀H',ay H' (F)→P (.az [.fz (r.1.map El),.bool r.2]) H'):aq C 55 [.fz (a0.map (AV.int .i64))] H P:=by
 refine Cp gC (res:=[.tmp 2,.tmp 3]) (n:=30) rfl rfl rfl rfl fun K0 En=> ?_;simp only [W,Nat.reduceSub,Nat.reduceAdd,List.replicate];unfold L3 at h;refine B5 fun K1 Er=> ?_;refine Cm gC ?_;try simp only [W,Nat.reduceAdd]
 refine Cb Er ?_;refine B5 fun K2 zY=> ?_;refine B5 fun K3 EG=> ?_;refine Cm gC ?_;try simp only [W,Nat.reduceAdd]
 refine CC h fun EM Ic h=> ?_;refine Pk Ic hS fun H hS=> ?_;try simp only [W]
 refine Cb EG ?_;refine B_ ?_;simp only [W];refine Cl h (fun hc h=> ?_) (fun hc h=> ?_)
 ·refine B5 fun K5 EV=> ?_;refine B5 fun K6 Fg=> ?_;refine Cm gC ?_;try simp only [W,Nat.reduceAdd]
  refine Cb Fg ?_;refine C1 ?_;refine CU rfl ?_;simp only [W];refine Cb EV ?_;refine B8 ?_;refine Cc zY ?_;refine Ck En rfl rfl ?_;try obtain rfl:=Option.some.inj h
  exact hP _ hS
 ·refine B7 ?_;refine Cb zY ?_;refine B5 fun K7 EU=> ?_;refine Cm gC ?_;try simp only [W,Nat.reduceAdd]
  refine CA rfl rfl ?_;try simp only [W]
  refine Cb EU ?_;refine B5 fun K8 EO=> ?_;refine B5 fun K9 EK=> ?_;refine Cm gC ?_;try simp only [W,EE,Nat.reduceAdd]
  refine Cb EK ?_;obtain ⟨Mu,Mw,g23⟩:=Option.bind_eq_some_iff.1 h;refine CH gC (fun s H=> ∃EX:List Span,Mu=(EX)∧ ∃GP:AV,bp GP∧s=[u,u,u,u,GP,u,u,u,u,u,u,u,u,u,u,u,u,u,u,u,u,u,u,u,u,u,u,u,u,u]∧ay H (⟨GP,2,EX.map El⟩::F)) (fun Gc ET=> ?_) (fun s H hq=> ?_)
  ·refine B6 fun Gw E9=> ?_;refine CD gC Mw (fun x s H=>match x with|(Et,EC)=> ∃v11:AV,bp v11∧s=[u,u,u,u,v11,u,u,u,u,u,u,.fz (a0.map (AV.int .i64)),.int .i64 (a0.length:Int),.int .i64 EC,u,u,u,u,u,u,u,u,u,u,u,u,u,u,u,u]∧ay H (⟨v11,2,Et.map El⟩::F)) ⟨_,nu,rfl,(hS.Av 2)⟩ (fun x N5 s H h Mx hi GK E_=> ?_)
   obtain ⟨Et,EC⟩:=x;try dsimp only at hi
   obtain ⟨v11,Hq,rfl,hS⟩:=hi;simp only [NF] at h;refine B5 fun GM Ff=> ?_;refine Cm gC ?_;try simp only [W,EE,Nat.reduceAdd]
   refine Cb Ff ?_;refine B5 fun Hj Fj=> ?_;refine B_ ?_;simp only [W];refine Cl h (fun hc h=> ?_) (fun hc h=> ?_)
   ·refine B7 ?_;refine Cb Fj ?_;refine B5 fun HB FB=> ?_;refine B6 fun Gy Fa=> ?_;refine B5 fun Hk Fs=> ?_;refine Cm gC ?_;try simp only [W,EE,Nat.reduceAdd]
    refine Cv rfl rfl rfl (fun _=>rfl) h fun Gv Oh h=> ?_;try simp only [W,EE]
    refine Cb Fs ?_;refine Cm gC ?_;try simp only [W,EE,Nat.reduceAdd]
    refine C7 rfl rfl rfl rfl rfl ?_;try simp only [W]
    refine CB (el:=([(⟨Gv,(IntKind.i64.wrap (Gv+1))⟩:Span)]:List Span).map El) hS rfl rfl rfl rfl rfl rfl rfl fun v30 H O9 hS=> ?_;try simp only [W,EE]
    refine CR (l:=Et) (c:=El) 1 hS rfl Hq rfl rfl rfl (hS.iu 0 rfl O9) (fun _=>rfl) rfl h fun v33 H FF Jd hm h hS=> ?_;try simp only [W]
    refine Cf Fa ?_;refine Cb FB ?_;refine Cm gC ?_;try simp only [W,EE,Nat.reduceAdd]
    exact CE E_ h ⟨_,Jd,rfl,(hS.C2 2 [1] (by decide))⟩
   ·refine B9 ?_;refine Cd Fj ?_;try obtain rfl:=Option.some.inj h
    obtain rfl:=Mx _ rfl;have h:(some (Et):Option ((List Span)))=some (Et):=rfl;refine CF E_ ?_;refine Cg E9 ?_;exact CI ET ⟨_,(Option.some.inj h).symm,_,Hq,rfl,hS⟩
  ·obtain ⟨EX,Eo,GP,JP,rfl,hS⟩:=hq;obtain rfl:=Eo.symm;replace h:=g23;try dsimp only at h
   refine Cb EO ?_;refine B5 fun NK HP=> ?_;refine Cn (fz:=[(2,[([26],[.sl [.sc,.sc]])])]) gC ?_;try simp only [W,Nat.reduceAdd,Nat.reduceBEq,List.contains_cons,Nat.reduceBEq,Bool.or_self]
   refine Dv (b6:=[[.sl [.sc,.sc]]]) (ys:=[.fz (EX.map El)]) h rfl (Dh (De hS 0 rfl JP (fun _=>rfl)) Dg) fun HL Mj h=>⟨.own 2 (HL.map El),Rz Mj (ay.nil _) fun v39 XU H hS=>Dm rfl (Dk 0 hS rfl XU (fun _ _=>by simp [aY,aO,cp,dp,El]) fun H hS=>Di rfl),(Dw _ (fun _=>rfl) _),?_⟩
   refine Ds ?_;refine Dq hS (fun _ _=>rfl) (fun _=>rfl) fun v41 H N1 hS=> ?_;refine Dn ?_;try simp only [List.headD_cons]
   try simp only [W,Nat.reduceAdd]
   refine CT 0 hS rfl N1 rfl (fun _ _=>by simp [aY,aO,cp,dp,El]) (fun _=>rfl) fun H r6 hS=> ?_
   try simp only [W]
   refine CC h fun NE XV h=> ?_;obtain ⟨L4,LZ⟩:=NE;try dsimp only at h
   refine RF XV hS fun H hS=> ?_;try simp only [W,Nat.reduceAdd,Nat.reduceBEq,Nat.reduceBEq]
   refine Cb HP ?_;refine B8 ?_;refine Ck En rfl rfl ?_;try obtain rfl:=Option.some.inj h
   exact hP _ (hS.C2 1 [] (by decide))
theorem XW {a0:List Span} {r:(List Span×Bool)} (h:L5 a0=some r) {F:List It} {H:J} (hS:ay H (F)) {P:AV→J→Prop} (hP: ∀H',ay H' (F)→P (.az [.fz (r.1.map El),.bool r.2]) H'):aq C 121 [.fz (a0.map El)] H P:=by
 refine Cp gC (res:=[.tmp 2,.tmp 3]) (n:=8) rfl rfl rfl rfl fun K0 En=> ?_;simp only [W,Nat.reduceSub,Nat.reduceAdd,List.replicate];unfold L5 at h;refine B5 fun K1 Er=> ?_;refine Cm gC ?_;try simp only [W,Nat.reduceAdd]
 refine Cb Er ?_;refine B5 fun K2 zY=> ?_;refine B5 fun K3 EG=> ?_;refine Cm gC ?_;try simp only [W,EE,Nat.reduceAdd]
 refine Cb EG ?_;refine B_ ?_;simp only [W];refine Cl h (fun hc h=> ?_) (fun hc h=> ?_)
 ·refine B5 fun K4 EI=> ?_;refine B5 fun K5 EV=> ?_;refine Cm gC ?_;try simp only [W,Nat.reduceAdd]
  refine Cb EV ?_;refine C1 ?_;refine CU rfl ?_;simp only [W];refine Cb EI ?_;refine B8 ?_;refine Cc zY ?_;refine Ck En rfl rfl ?_;try obtain rfl:=Option.some.inj h
  exact hP _ hS
 ·refine B7 ?_;refine Cb zY ?_;refine B5 fun K6 Fg=> ?_;refine Cm gC ?_;try simp only [W,Nat.reduceAdd]
  refine Cb Fg ?_;refine B8 ?_;refine Ck En rfl rfl ?_;try obtain rfl:=Option.some.inj h
  exact hP _ hS
theorem XX {a0:List Int} {r:(List Span×Bool)} (h:L6 a0=some r) {F:List It} {H:J} (hS:ay H (F)) {P:AV→J→Prop} (hP: ∀H',ay H' (F)→P (.az [.fz (r.1.map El),.bool r.2]) H'):aq C 56 [.fz (a0.map (AV.int .i64))] H P:=by
 refine Cp gC (res:=[.tmp 2,.tmp 3]) (n:=27) rfl rfl rfl rfl fun K0 En=> ?_;simp only [W,Nat.reduceSub,Nat.reduceAdd,List.replicate];unfold L6 at h;refine B5 fun K1 Er=> ?_;refine Cm gC ?_;try simp only [W,Nat.reduceAdd]
 refine Cb Er ?_;refine B5 fun K2 zY=> ?_;refine B5 fun K3 EG=> ?_;refine Cm gC ?_;try simp only [W,Nat.reduceAdd]
 refine CC h fun EM Ic h=> ?_;refine PO Ic hS fun H hS=> ?_;try simp only [W]
 refine Cb EG ?_;refine B_ ?_;simp only [W];refine Cl h (fun hc h=> ?_) (fun hc h=> ?_)
 ·refine B5 fun K5 EV=> ?_;refine B5 fun K6 Fg=> ?_;refine Cm gC ?_;try simp only [W,Nat.reduceAdd]
  refine Cb Fg ?_;refine C1 ?_;refine CU rfl ?_;simp only [W];refine Cb EV ?_;refine B8 ?_;refine Cc zY ?_;refine Ck En rfl rfl ?_;try obtain rfl:=Option.some.inj h
  exact hP _ hS
 ·refine B7 ?_;refine Cb zY ?_;refine B5 fun K7 EU=> ?_;refine Cm gC ?_;try simp only [W,Nat.reduceAdd]
  refine Cb EU ?_;refine B5 fun K8 EO=> ?_;refine B5 fun K9 EK=> ?_;refine Cm gC ?_;try simp only [W,EE,Nat.reduceAdd]
  refine Cb EK ?_;obtain ⟨Mu,Mw,g23⟩:=Option.bind_eq_some_iff.1 h;refine CH gC (fun s H=> ∃EX:List Span,Mu=(EX)∧ ∃GP:AV,bp GP∧s=[u,u,u,u,GP,u,u,u,u,u,u,u,u,u,u,u,u,u,u,u,u,u,u,u,u,u,u]∧ay H (⟨GP,2,EX.map El⟩::F)) (fun Gc ET=> ?_) (fun s H hq=> ?_)
  ·refine B6 fun Gw E9=> ?_;refine CD gC Mw (fun x s H=>match x with|(Et,EC)=> ∃v11:AV,bp v11∧s=[u,u,u,u,v11,u,u,u,u,u,.fz (a0.map (AV.int .i64)),.int .i64 (a0.length:Int),.int .i64 EC,u,u,u,u,u,u,u,u,u,u,u,u,u,u]∧ay H (⟨v11,2,Et.map El⟩::F)) ⟨_,nt,rfl,(hS.Au 2)⟩ (fun x N5 s H h Mx hi GK E_=> ?_)
   obtain ⟨Et,EC⟩:=x;try dsimp only at hi
   obtain ⟨v11,Hq,rfl,hS⟩:=hi;simp only [NG] at h;refine B5 fun GM Ff=> ?_;refine Cm gC ?_;try simp only [W,EE,Nat.reduceAdd]
   refine Cb Ff ?_;refine B5 fun Hj Fj=> ?_;refine B_ ?_;simp only [W];refine Cl h (fun hc h=> ?_) (fun hc h=> ?_)
   ·refine B7 ?_;refine Cb Fj ?_;refine B5 fun HB FB=> ?_;refine B6 fun Gy Fa=> ?_;refine B5 fun Hk Fs=> ?_;refine Cm gC ?_;try simp only [W,EE,Nat.reduceAdd]
    refine Cv rfl rfl rfl (fun _=>rfl) h fun Gv Oh h=> ?_;try simp only [W,EE]
    refine Cb Fs ?_;refine Cn (fz:=[(5,[([16,4],[.sl [.sc,.sc]])])]) gC ?_;try simp only [W,EE,Nat.reduceAdd,Nat.reduceBEq]
    refine C7 rfl rfl rfl rfl rfl ?_;try simp only [W,Nat.reduceAdd]
    refine CT 0 hS rfl Hq rfl (fun _ _=>by simp [aY,aO,cp,dp,El]) (fun _=>rfl) fun H r6 hS=> ?_
    simp only [W,r6,if_true];try simp only [W,EE,EN,reduceIte,Nat.reduceAdd,Nat.reduceLeDiff,Nat.reduceBEq,Nat.reduceMul,Bool.false_eq_true]
    refine CC h fun F2 Jb h=> ?_;refine R2 Jb hS fun v31 MZ H hS=> ?_;try simp only [W,Nat.reduceAdd,Nat.reduceBEq]
    refine Cf Fa ?_;refine Cb FB ?_;refine Cm gC ?_;try simp only [W,EE,Nat.reduceAdd]
    exact CE E_ h ⟨_,MZ,rfl,hS⟩
   ·refine B9 ?_;refine Cd Fj ?_;try obtain rfl:=Option.some.inj h
    obtain rfl:=Mx _ rfl;have h:(some (Et):Option ((List Span)))=some (Et):=rfl;refine CF E_ ?_;refine Cg E9 ?_;exact CI ET ⟨_,(Option.some.inj h).symm,_,Hq,rfl,hS⟩
  ·obtain ⟨EX,Eo,GP,JP,rfl,hS⟩:=hq;obtain rfl:=Eo.symm;replace h:=g23;try dsimp only at h
   refine Cb EO ?_;refine B5 fun NS Hl=> ?_;refine Cn (fz:=[(1,[([23,4],[.sl [.sc,.sc]])])]) gC ?_;try simp only [W,Nat.reduceAdd,Nat.reduceBEq]
   refine CT 0 hS rfl JP rfl (fun _ _=>by simp [aY,aO,cp,dp,El]) (fun _=>rfl) fun H r6 hS=> ?_
   simp only [W,r6,if_true];try simp only [W,EE,EN,reduceIte,Nat.reduceAdd,Nat.reduceLeDiff,Nat.reduceBEq,Nat.reduceMul,Bool.false_eq_true]
   refine CC h fun Ju MH h=> ?_;obtain ⟨K_,HL⟩:=Ju;try dsimp only at h
   refine XW MH hS fun H hS=> ?_;try simp only [W,Nat.reduceAdd,Nat.reduceBEq]
   refine Cb Hl ?_;refine B8 ?_;refine Ck En rfl rfl ?_;try obtain rfl:=Option.some.inj h
   exact hP _ hS
theorem XY {a0:List Span} {a1:List Span} {r:(Bool)} (h:Ko a0 a1=some r) {F:List It} {H:J} (hS:ay H (F)) {P:AV→J→Prop} (hP: ∀H',ay H' (F)→P (.bool r) H'):aq C 57 [.fz (a0.map El),.fz (a1.map El)] H P:=by
 refine Cp gC (res:=[.tmp 4]) (n:=26) rfl rfl rfl rfl fun K0 En=> ?_;simp only [W,Nat.reduceSub,Nat.reduceAdd,List.replicate];unfold Ko at h;refine B5 fun K1 Er=> ?_;refine Cm gC ?_;try simp only [W,Nat.reduceAdd]
 refine Cb Er ?_;refine B5 fun K2 zY=> ?_;refine B5 fun K3 EG=> ?_;refine Cm gC ?_;try simp only [W,EE,Nat.reduceAdd]
 refine Cb EG ?_;refine B_ ?_;simp only [W];refine Cl h (fun hc h=> ?_) (fun hc h=> ?_)
 ·refine B5 fun K4 EI=> ?_;refine Cm gC ?_;try simp only [W,Nat.reduceAdd]
  refine Cb EI ?_;refine B8 ?_;refine Cc zY ?_;refine Cj En rfl ?_;try obtain rfl:=Option.some.inj h
  exact hP _ hS
 ·refine B7 ?_;refine Cb zY ?_;refine B5 fun K5 EV=> ?_;refine B5 fun K6 Fg=> ?_;refine Cm gC ?_;try simp only [W,EE,Nat.reduceAdd]
  refine Cb Fg ?_;obtain ⟨Iz,IA,g15⟩:=Option.bind_eq_some_iff.1 h;refine CH gC (fun s H=>Iz=LR.next ()∧s=[u,u,u,u,u,u,u,u,u,u,u,u,u,u,u,u,u,u,u,u,u,u,u,u,u,u]∧ay H (F)) (fun I_ FX=> ?_) (fun s H hq=> ?_)
  ·refine B6 fun Iv FN=> ?_;refine CD gC IA (fun x s H=>s=[.fz (a0.map El),.fz (a1.map El),u,u,u,u,u,u,u,u,u,u,.int .i64 (a0.length:Int),.int .i64 x,u,u,u,u,u,u,u,u,u,u,u,u]∧ay H (F)) ⟨rfl,hS⟩ (fun EZ HD s H h HE hi H7 Fm=> ?_)
   skip
   try dsimp only at hi
   obtain ⟨rfl,hS⟩:=hi;simp only [L7] at h;refine B5 fun F8 EQ=> ?_;refine Cm gC ?_;try simp only [W,EE,Nat.reduceAdd]
   refine Cb EQ ?_;refine B5 fun FY EH=> ?_;refine B_ ?_;simp only [W];refine Cl h (fun hc h=> ?_) (fun hc h=> ?_)
   ·refine B7 ?_;refine Cb EH ?_;refine B5 fun Gc ET=> ?_;refine B6 fun Gw E9=> ?_;refine B5 fun GK E_=> ?_;refine Cm gC ?_;try simp only [W,Nat.reduceAdd]
    refine Cb E_ ?_;refine B5 fun HA FA=> ?_;refine Co gC (by kernel_rfl) ?_
    try simp only [W,EE,Nat.reduceAdd]
    refine Cv rfl rfl rfl (fun _=>rfl) h fun Km XM h=> ?_;try simp only [W,EE,EN,reduceIte,Nat.reduceAdd,Nat.reduceLeDiff]
    refine Cv rfl rfl rfl (fun _=>rfl) h fun Kn XO h=> ?_;try simp only [W,EE,EN,reduceIte,Nat.reduceAdd,Nat.reduceLeDiff]
    refine Cb FA ?_;refine B_ ?_;simp only [W];refine Cl h (fun hc h=> ?_) (fun hc h=> ?_)
    ·refine B5 fun GM Ff=> ?_;refine Cm gC ?_;try simp only [W,Nat.reduceAdd]
     refine Cb Ff ?_;refine B8 ?_;refine Ch E9 ?_;refine Cc ET ?_;try obtain rfl:=Option.some.inj h
     obtain rfl:=HE _ rfl;have h:(some (LR.done false):Option (LR Unit (Bool)))=some (LR.done false):=rfl;refine CG Fm ?_;refine Ch FN ?_;try obtain rfl:=Option.some.inj h
     obtain rfl:=Option.some.inj g15;have h:(some false:Option (Bool))=some false:=rfl;refine CJ FX ?_;refine Cc EV ?_;refine Cj En rfl ?_;try obtain rfl:=Option.some.inj h
     exact hP _ hS
    ·refine B7 ?_;refine Cf E9 ?_;refine Cb ET ?_;refine Cm gC ?_;try simp only [W,EE,Nat.reduceAdd]
     exact CE Fm h ⟨rfl,hS⟩
   ·refine B9 ?_;refine Cd EH ?_;try obtain rfl:=Option.some.inj h
    obtain rfl:=HE _ rfl;have h:(some (LR.next ()):Option (LR Unit (Bool)))=some (LR.next ()):=rfl
    refine CF Fm ?_;refine Cg FN ?_;exact CI FX ⟨(Option.some.inj h).symm,rfl,hS⟩
  ·obtain ⟨rfl,rfl,hS⟩:=hq;replace h:=g15;try dsimp only at h
   refine Cb EV ?_;refine B5 fun Ku Hn=> ?_;refine Cm gC ?_;try simp only [W,Nat.reduceAdd]
   refine Cb Hn ?_;refine B8 ?_;refine Cj En rfl ?_;try obtain rfl:=Option.some.inj h
   exact hP _ hS
theorem XZ {a0:List Span} {r:(Int)} (h:L9 a0=some r) {F:List It} {H:J} (hS:ay H (F)) {P:AV→J→Prop} (hP: ∀H',ay H' (F)→P (.int .i64 r) H'):aq C 123 [.fz (a0.map El)] H P:=by
 refine Cp gC (res:=[.tmp 2]) (n:=21) rfl rfl rfl rfl fun K0 En=> ?_;simp only [W,Nat.reduceSub,Nat.reduceAdd,List.replicate];unfold L9 at h;refine B5 fun K1 Er=> ?_;refine Cm gC ?_;try simp only [W,Nat.reduceAdd]
 refine Cb Er ?_;refine B5 fun K2 zY=> ?_;refine Cm gC ?_;try simp only [W,Nat.reduceAdd]
 refine Cb zY ?_;refine B5 fun K3 EG=> ?_;refine B5 fun K4 EI=> ?_;refine Cm gC ?_;try simp only [W,EE,Nat.reduceAdd]
 refine Cb EI ?_;obtain ⟨Iz,IA,g15⟩:=Option.bind_eq_some_iff.1 h;refine CH gC (fun s H=> ∃EZ:Int,Iz=(EZ)∧s=[u,u,u,.int .i64 EZ,u,u,u,u,u,u,u,u,u,u,u,u,u,u,u,u,u]∧ay H (F)) (fun I_ FX=> ?_) (fun s H hq=> ?_)
 ·refine B6 fun Iv FN=> ?_;refine CD gC IA (fun x s H=>match x with|(ED,FW)=>s=[u,u,u,.int .i64 ED,u,u,.fz (a0.map El),.int .i64 (a0.length:Int),.int .i64 FW,u,u,u,u,u,u,u,u,u,u,u,u]∧ay H (F)) ⟨rfl,hS⟩ (fun x HD s H h HE hi H7 Fm=> ?_)
  obtain ⟨ED,FW⟩:=x;try dsimp only at hi
  obtain ⟨rfl,hS⟩:=hi;simp only [L8] at h;refine B5 fun F8 EQ=> ?_;refine Cm gC ?_;try simp only [W,EE,Nat.reduceAdd]
  refine Cb EQ ?_;refine B5 fun FY EH=> ?_;refine B_ ?_;simp only [W];refine Cl h (fun hc h=> ?_) (fun hc h=> ?_)
  ·refine B7 ?_;refine Cb EH ?_;refine B5 fun Gc ET=> ?_;refine B6 fun Gw E9=> ?_;refine B5 fun GK E_=> ?_;refine Cm gC ?_;try simp only [W,EE,Nat.reduceAdd]
   refine Cv rfl rfl rfl (fun _=>rfl) h fun FE Uy h=> ?_;try simp only [W,EE,EN,reduceIte,Nat.reduceAdd,Nat.reduceLeDiff]
   refine Cs hS rfl rfl fun Uz UA H hS=> ?_;try simp only [W]
   refine Ct (a:= .agg [.int .i64 FE.Em,.int .i64 FE.To]) (y' := .agg [.int .i64 FE.Em,.int .i64 FE.To]) 0 hS rfl rfl rfl rfl rfl rfl rfl rfl fun H hS=> ?_
   try simp only [W]
   refine Cb E_ ?_;refine Cm gC ?_;try simp only [W,EE,Nat.reduceAdd,Nat.reduceBEq,hS.var 0 rfl]
   refine Cf E9 ?_;refine Cb ET ?_;refine Cm gC ?_;try simp only [W,EE,Nat.reduceAdd]
   exact CE Fm h ⟨rfl,(hS.C2 1 [] (by decide))⟩
  ·refine B9 ?_;refine Cd EH ?_;try obtain rfl:=Option.some.inj h
   obtain rfl:=HE _ rfl;have h:(some (ED):Option (Int))=some (ED):=rfl;refine CF Fm ?_;refine Cg FN ?_;exact CI FX ⟨_,(Option.some.inj h).symm,rfl,hS⟩
 ·obtain ⟨EZ,Eo,rfl,hS⟩:=hq;obtain rfl:=Eo.symm;replace h:=g15;try dsimp only at h
  refine Cb EG ?_;refine B5 fun HB FB=> ?_;refine Cm gC ?_;try simp only [W,Nat.reduceAdd]
  refine Cb FB ?_;refine B8 ?_;refine Cj En rfl ?_;try obtain rfl:=Option.some.inj h
  exact hP _ hS
theorem X0 {a0:List Span} {r:(Int×Bool)} (h:JC a0=some r) {F:List It} {H:J} (hS:ay H (F)) {P:AV→J→Prop} (hP: ∀H',ay H' (F)→P (.az [.int .i64 r.1,.bool r.2]) H'):aq C 58 [.fz (a0.map El)] H P:=by
 refine Cp gC (res:=[.tmp 2,.tmp 3]) (n:=9) rfl rfl rfl rfl fun K0 En=> ?_;simp only [W,Nat.reduceSub,Nat.reduceAdd,List.replicate];unfold JC at h;refine B5 fun K1 Er=> ?_;refine Cm gC ?_;try simp only [W,Nat.reduceAdd]
 refine Cb Er ?_;refine B5 fun K2 zY=> ?_;refine B5 fun K3 EG=> ?_;refine Cm gC ?_;try simp only [W,Nat.reduceAdd]
 refine CC h fun EM Ic h=> ?_;refine NT Ic hS fun H hS=> ?_;try simp only [W]
 refine Cb EG ?_;refine B_ ?_;simp only [W];refine Cl h (fun hc h=> ?_) (fun hc h=> ?_)
 ·refine B5 fun K5 EV=> ?_;refine Cm gC ?_;try simp only [W,Nat.reduceAdd]
  refine Cb EV ?_;refine B8 ?_;refine Cc zY ?_;refine Ck En rfl rfl ?_;try obtain rfl:=Option.some.inj h
  exact hP _ hS
 ·refine B7 ?_;refine Cb zY ?_;refine B5 fun K6 Fg=> ?_;refine Cm gC ?_;try simp only [W,Nat.reduceAdd]
  refine CC h fun EF JO h=> ?_;refine XZ JO hS fun H hS=> ?_;try simp only [W]
  refine Cb Fg ?_;refine B8 ?_;refine Ck En rfl rfl ?_;try obtain rfl:=Option.some.inj h
  exact hP _ hS
theorem X1 {a0:List Int} {a1:List Int} {r:(Bool)} (h:Mf a0 a1=some r) {F:List It} {H:J} (hS:ay H (F)) {P:AV→J→Prop} (hP: ∀H',ay H' (F)→P (.bool r) H'):aq C 6 [.fz (a0.map (AV.int .u8)),.fz (a1.map (AV.int .u8))] H P:=by
 refine Cp gC (res:=[.tmp 4]) (n:=158) rfl rfl rfl rfl fun K0 En=> ?_;simp only [W,Nat.reduceSub,Nat.reduceAdd,List.replicate];unfold Mf at h;refine B5 fun K1 Er=> ?_;refine Cm gC ?_;try simp only [W,Nat.reduceAdd]
 refine Cb Er ?_;refine B5 fun K2 zY=> ?_;refine B5 fun K3 EG=> ?_;refine Cm gC ?_;try simp only [W,EE,Nat.reduceAdd]
 refine Cb EG ?_;refine B_ ?_;simp only [W];refine Cl h (fun hc h=> ?_) (fun hc h=> ?_)
 ·refine B5 fun K4 EI=> ?_;refine Cm gC ?_;try simp only [W,Nat.reduceAdd]
  refine Cb EI ?_;refine B8 ?_;refine Cc zY ?_;refine Cj En rfl ?_;try obtain rfl:=Option.some.inj h
  exact hP _ hS
 ·refine B7 ?_;refine Cb zY ?_;refine B5 fun K5 EV=> ?_;refine Cm gC ?_;try simp only [W,Nat.reduceAdd]
  refine CC h fun GX H8 h=> ?_;obtain ⟨EF,EP⟩:=GX;try dsimp only at h
  refine Uq H8 hS fun v9 Ji H hS=> ?_;try simp only [W]
  refine Cb EV ?_;refine B5 fun Iv FN=> ?_;refine Cm gC ?_;try simp only [W,Nat.reduceAdd,Nat.reduceBEq,List.contains_cons,Nat.reduceBEq,Bool.or_self]
  refine Dv (b6:=[[.sl [.sc]],[.sc]]) (ys:=[.int .i64 EF,.fz (EP.map (AV.int .i64))]) h rfl (Dh rfl (Dh (De hS 0 rfl Ji (fun _=>rfl)) Dg)) fun Iq Pm h=>⟨.az [.own 1 (Iq.1.map (AV.int .i64)),.bool Iq.2],Wf Pm (ay.nil _) fun GP JP H hS=>Dm rfl (Dk 0 hS rfl JP (fun _ _=>by simp [aY,aO,dp]) fun H hS=>Dj rfl (Di rfl)),(DA (Dy (Dw _ (fun _=>rfl) _) (Dy rfl Dx))),?_⟩
  refine Dt ?_;refine Dq hS (fun _ _=>rfl) (fun _=>rfl) fun v17 H Ig hS=> ?_;refine Dp (fun _=>rfl) ?_;refine Dn ?_;try simp only [List.headD_cons]
  obtain ⟨Fv,GD⟩:=Iq;try dsimp only at h
  try simp only [W]
  refine Cb FN ?_;refine B5 fun Gc ET=> ?_;refine Cm gC ?_;try simp only [W,Nat.reduceAdd,Nat.reduceBEq,List.contains_cons,Nat.reduceBEq,Bool.or_self]
  refine Dv (b6:=[[.sl [.sc]],[.sc]]) (ys:=[.int .i64 EF,.fz (EP.map (AV.int .i64))]) h rfl (Dh rfl (Dh (De hS 1 rfl Ji (fun _=>rfl)) Dg)) fun FK H9 h=>⟨.az [.own 1 (FK.1.map (AV.int .i64)),.bool FK.2],Xd H9 (ay.nil _) fun v22 JL H hS=>Dm rfl (Dk 0 hS rfl JL (fun _ _=>by simp [aY,aO,dp]) fun H hS=>Dj rfl (Di rfl)),(DA (Dy (Dw _ (fun _=>rfl) _) (Dy rfl Dx))),?_⟩
  refine Dt ?_;refine Dq hS (fun _ _=>rfl) (fun _=>rfl) fun v24 H ML hS=> ?_;refine Dp (fun _=>rfl) ?_;refine Dn ?_;try simp only [List.headD_cons]
  obtain ⟨Gq,FE⟩:=FK;try dsimp only at h
  try simp only [W]
  refine Cb ET ?_;refine B5 fun Hj Fj=> ?_;refine Cm gC ?_;try simp only [W,Nat.reduceAdd]
  refine Du (b6:=[[.sc],[.sc]]) (ys:=[.fz (EP.map (AV.int .i64))]) h rfl (Dh (De hS 2 rfl Ji (fun _=>rfl)) Dg) fun Gt Sm h=>⟨.az [.int .i64 Gt.1,.bool Gt.2],XG Sm (ay.nil _) fun H hS=>Dm rfl (Dj rfl (Dj rfl (Di rfl))),⟨rfl,rfl,fun _=>rfl⟩,?_⟩;obtain ⟨FH,Gi⟩:=Gt;try dsimp only at h
  try simp only [W]
  refine Cb Fj ?_;refine B5 fun Mp Hm=> ?_;refine Cm gC ?_;try simp only [W,Nat.reduceAdd]
  refine Du (b6:=[[.sc],[.sc]]) (ys:=[.fz (EP.map (AV.int .i64))]) h rfl (Dh (De hS 2 rfl Ji (fun _=>rfl)) Dg) fun F2 Jb h=>⟨.az [.int .i64 F2.1,.bool F2.2],XK Jb (ay.nil _) fun H hS=>Dm rfl (Dj rfl (Dj rfl (Di rfl))),⟨rfl,rfl,fun _=>rfl⟩,?_⟩;obtain ⟨Hv,Hw⟩:=F2;try dsimp only at h
  try simp only [W]
  refine Cb Hm ?_;refine B5 fun MA GQ=> ?_;refine B5 fun Kv GN=> ?_;obtain ⟨PT,h,PU⟩:=Option.bind_eq_some_iff.1 h;refine CH gC (fun s H=> ∃I6:Bool,PT=(I6)∧s=(u:: .fz (a1.map (AV.int .u8))::u::u::u::u::v9::v17:: .bool GD::u::u:: .int .i64 FH:: .bool Gi::u::u::u::u::u::u::u::u::u::u::u::u::u::u::u::u::u::u::u::u::u::u::u::u::u::u::u::u::u::u::u::u::u::u::u::u::u::u::u::u::u::u::u::u::u::u::u::u::u::u::u::u::u::u::u::u::u::u::u::u::u::u::u::u::u::u:: .bool I6::u::u::u::u::u::u::u::u::u::u::u::u::u::u::u::u::u::u::u::u::u::u::u::u::u::u::u::u::u::u::u::u::u::u::u::u::u::u::u::u::u::u::u::u::u::u::u::u::u::u::u::u::u::u::u::u::u::u::u::u::u::u::u::u::u::u::u::u::u::u::u::u::u::u::u::u::u::u::[])∧ay H (⟨v9,1,EP.map (AV.int .i64)⟩::⟨v17,1,Fv.map (AV.int .i64)⟩::F)) (fun NY Ho=> ?_) (fun s H hq=> ?_)
  ·refine B5 fun Kt Gd=> ?_;refine Cm gC ?_;try simp only [W,EE,Nat.reduceAdd]
   rw [Cq _ _ _ _ (h:=rfl) rfl,tv];try simp only [W]
   refine C6 h (fun hc h=> ?_) (fun hc h=> ?_)
   ·try simp only [W,hc]
    refine Cb Gd ?_;refine DR (s' :=(u:: .fz (a1.map (AV.int .u8))::u::u::u::u::v9::v17:: .bool GD::u::u:: .int .i64 FH:: .bool Gi::u::u::u::u::u::u::u::u::u::u::u::u::u::u::u::u::u::u::u::u::u::u::u::u::u::u::u::u::u::u::u::u::u::u::u::u::u::u::u::u::u::u::u::u::u::u::u::u::u::u::u::u::u::u::u::u::u::u::u::u::u::u::u::u::u::u:: .bool true::u::u::u::u::u::u::u::u::u::u::u::u::u::u::u::u::u::u::u::u::u::u::u::u::u::u::u::u::u::u::u::u::u::u::u::u::u::u::u::u::u::u::u::u::u::u::u::u::u::u::u::u::u::u::u::u::u::u::u::u::u::u::u::u::u::u::u::u::u::u::u::u::u::u::u::u::u::u::[])) rfl ?_
    exact CI Ho ⟨_,(Option.some.inj h).symm,rfl,(hS.C2 3 [2,1] (by decide))⟩
   ·try simp only [W,hc]
    refine Du (b6:=[[.sc]]) (ys:=[.fz (Fv.map (AV.int .i64)),.fz (Gq.map (AV.int .i64))]) h rfl (Dh (De hS 1 rfl Ig (fun _=>rfl)) (Dh (De hS 0 rfl ML (fun _=>rfl)) Dg)) fun He P9 h=>⟨.bool He,XL P9 (ay.nil _) fun H hS=>Dm rfl (Dj rfl (Di rfl)),⟨rfl,rfl,fun _=>rfl⟩,?_⟩;try simp only [W,reduceIte,Bool.false_eq_true]
    refine C6 h (fun hc h=> ?_) (fun hc h=> ?_)
    ·try simp only [W,hc]
     refine Cb Gd ?_;refine DR (s' :=(u:: .fz (a1.map (AV.int .u8))::u::u::u::u::v9::v17:: .bool GD::u::u:: .int .i64 FH:: .bool Gi::u::u::u::u::u::u::u::u::u::u::u::u::u::u::u::u::u::u::u::u::u::u::u::u::u::u::u::u::u::u::u::u::u::u::u::u::u::u::u::u::u::u::u::u::u::u::u::u::u::u::u::u::u::u::u::u::u::u::u::u::u::u::u::u::u::u:: .bool true::u::u::u::u::u::u::u::u::u::u::u::u::u::u::u::u::u::u::u::u::u::u::u::u::u::u::u::u::u::u::u::u::u::u::u::u::u::u::u::u::u::u::u::u::u::u::u::u::u::u::u::u::u::u::u::u::u::u::u::u::u::u::u::u::u::u::u::u::u::u::u::u::u::u::u::u::u::u::[])) rfl ?_
     exact CI Ho ⟨_,(Option.some.inj h).symm,rfl,(hS.C2 3 [2,1] (by decide))⟩
    ·try simp only [W,EE,hc]
     rw [Cq _ _ _ _ (h:=rfl) rfl,tv];try simp only [W,reduceIte,Bool.false_eq_true]
     refine C6 h (fun hc h=> ?_) (fun hc h=> ?_)
     ·try simp only [W,hc]
      refine Cb Gd ?_;refine DR (s' :=(u:: .fz (a1.map (AV.int .u8))::u::u::u::u::v9::v17:: .bool GD::u::u:: .int .i64 FH:: .bool Gi::u::u::u::u::u::u::u::u::u::u::u::u::u::u::u::u::u::u::u::u::u::u::u::u::u::u::u::u::u::u::u::u::u::u::u::u::u::u::u::u::u::u::u::u::u::u::u::u::u::u::u::u::u::u::u::u::u::u::u::u::u::u::u::u::u::u:: .bool true::u::u::u::u::u::u::u::u::u::u::u::u::u::u::u::u::u::u::u::u::u::u::u::u::u::u::u::u::u::u::u::u::u::u::u::u::u::u::u::u::u::u::u::u::u::u::u::u::u::u::u::u::u::u::u::u::u::u::u::u::u::u::u::u::u::u::u::u::u::u::u::u::u::u::u::u::u::u::[])) rfl ?_
      exact CI Ho ⟨_,(Option.some.inj h).symm,rfl,(hS.C2 3 [2,1] (by decide))⟩
     ·try simp only [W,EE,reduceIte,Bool.false_eq_true,hc]
      refine Cb Gd ?_;refine DR (s' :=(u:: .fz (a1.map (AV.int .u8))::u::u::u::u::v9::v17:: .bool GD::u::u:: .int .i64 FH:: .bool Gi::u::u::u::u::u::u::u::u::u::u::u::u::u::u::u::u::u::u::u::u::u::u::u::u::u::u::u::u::u::u::u::u::u::u::u::u::u::u::u::u::u::u::u::u::u::u::u::u::u::u::u::u::u::u::u::u::u::u::u::u::u::u::u::u::u::u:: .bool (FH !=Hv)::u::u::u::u::u::u::u::u::u::u::u::u::u::u::u::u::u::u::u::u::u::u::u::u::u::u::u::u::u::u::u::u::u::u::u::u::u::u::u::u::u::u::u::u::u::u::u::u::u::u::u::u::u::u::u::u::u::u::u::u::u::u::u::u::u::u::u::u::u::u::u::u::u::u::u::u::u::u::[])) rfl ?_
      exact CI Ho ⟨_,(Option.some.inj h).symm,rfl,(hS.C2 3 [2,1] (by decide))⟩
  ·obtain ⟨I6,Eo,rfl,hS⟩:=hq;obtain rfl:=Eo.symm;replace h:=PU;try dsimp only at h
   refine Cb GN ?_;refine B_ ?_;simp only [W];refine Cl h (fun hc h=> ?_) (fun hc h=> ?_)
   ·refine B5 fun N6 HG=> ?_;refine Cm gC ?_;try simp only [W,Nat.reduceAdd]
    refine Cb HG ?_;refine B8 ?_;refine Cc GQ ?_;refine Cj En rfl ?_;try obtain rfl:=Option.some.inj h
    exact hP _ (hS.C2 2 [] (by decide))
   ·refine B7 ?_;refine Cb GQ ?_;refine B5 fun MF Gm=> ?_;refine B5 fun MJ Gz=> ?_;refine Cm gC ?_;try simp only [W,Nat.reduceAdd]
    refine Cb Gz ?_;obtain ⟨O7,h,Kr⟩:=Option.bind_eq_some_iff.1 h;refine CH gC (fun s H=>O7=LR.next ()∧s=(u:: .fz (a1.map (AV.int .u8))::u::u::u::u::u::u::u::u::u::u::u::u::u::u::u::u::u::u::u::u::u::u::u::u::u::u::u::u::u::u::u::u::u::u::u::u::u::u::u::u::u::u::u::u::u::u::u::u::u::u::u::u::u::u::u::u::u::u::u::u::u::u::u::u::u::u::u::u::u::u::u::u::u::u::u::u::u::u::u::u::u::u::u::u::u::u::u::u::u::u::u::u::u::u::u::u::u::u::u::u::u::u::u::u::u::u::u::u::u::u::u::u::u::u::u::u::u::u::u::u::u::u::u::u::u::u::u::u::u::u::u::u::u::u::u::u::u::u::u::u::u::u::u::u::u::u::u::u::u::u::u::u::u::u::u::u::[])∧ay H (F)) (fun O8 G6=> ?_) (fun s H hq=> ?_)
    ·refine B5 fun Mk Gk=> ?_;refine B_ ?_;simp only [W];refine Cl h (fun hc h=> ?_) (fun hc h=> ?_)
     ·refine B5 fun Rw JM=> ?_;refine B5 fun NZ IC=> ?_;refine Cm gC ?_;try simp only [W,Nat.reduceAdd]
      refine Cb IC ?_;refine B_ ?_;simp only [W];refine Cl h (fun hc h=> ?_) (fun hc h=> ?_)
      ·refine B5 fun N0 Ie=> ?_;refine Cm gC ?_;try simp only [W,Nat.reduceAdd]
       refine Cb Ie ?_;refine B8 ?_;refine Cc JM ?_;refine Cc Gk ?_;try obtain rfl:=Option.some.inj h
       obtain rfl:=Option.some.inj Kr;have h:(some false:Option (Bool))=some false:=rfl;refine CJ G6 ?_;refine Cc Gm ?_;refine Cj En rfl ?_;try obtain rfl:=Option.some.inj h
       exact hP _ (hS.C2 2 [] (by decide))
      ·refine B7 ?_;refine Cb JM ?_;refine B5 fun WH MV=> ?_;refine B5 fun UW Pr=> ?_;refine Cm gC ?_;try simp only [W,EE,Nat.reduceAdd]
       refine Cz 1 hS rfl Ig rfl ?_;try simp only [W]
       refine Cb Pr ?_;obtain ⟨X2,X3,Sn⟩:=Option.bind_eq_some_iff.1 h;refine CH gC (fun s H=>X2=LR.next ()∧s=(u:: .fz (a1.map (AV.int .u8))::u::u::u::u::v9::v17::u::u::u::u::u::u::u::u::u::u::u::u::u::u::u::u::u::u::u::u::u::u::u::u::u::u::u::u::u::u::u::u::u::u::u::u::u::u::u::u::u::u::u::u::u::u::u::u::u::u::u::u::u::u::u::u::u::u::u::u::u::u::u::u::u::u::u::u::u::u::u::u::u::u::u::u::u::u::u::u::u::u::u::u::u::u::u::u::u::u::u::u::u::u::u::u::u::u::u::u::u::u::u::u::u::u::u::u::u::u::u::u::u::u::u::u::u::u::u::u::u::u::u::u::u::u::u::u::u::u::u::u::u::u::u::u::u::u::u::u::u::u::u::u::u::u::u::u::u::u::[])∧ay H (⟨v9,1,EP.map (AV.int .i64)⟩::⟨v17,1,Fv.map (AV.int .i64)⟩::F)) (fun UY N3=> ?_) (fun s H hq=> ?_)
       ·refine B6 fun K59 Sp=> ?_;refine CD gC X3 (fun x s H=>s=(u:: .fz (a1.map (AV.int .u8))::u::u::u::u::v9::v17::u::u::u:: .int .i64 FH::u::u::u::u::u::u::u::u::u::u::u::u::u::u::u::u::u::u::u::u::u::u::u::u::u::u::u::u::u::u::u::u::u::u::u::u::u::u::u::u::u::u::u::u::u::u::u::u::u::u::u::u::u::u::u::u::u::u::u::u::u::u::u::u::u::u::u::u::u::u::u::v17:: .int .i64 (Fv.length:Int):: .int .i64 x::u::u::u::u::u::u::u::u::u::u::u::u::u::u::u::u::u::u::u::u::u::u::u::u::u::u::u::u::u::u::u::u::u::u::u::u::u::u::u::u::u::u::u::u::u::u::u::u::u::u::u::u::u::u::u::u::u::u::u::u::u::u::u::u::u::u::u::u::u::u::u::u::[])∧ay H (⟨v9,1,EP.map (AV.int .i64)⟩::⟨v17,1,Fv.map (AV.int .i64)⟩::F)) ⟨rfl,hS⟩ (fun JD y62 s H h Sq hi Wq KE=> ?_)
        skip
        try dsimp only at hi
        obtain ⟨rfl,hS⟩:=hi;simp only [L_] at h;refine B5 fun R3 MT=> ?_;refine Cm gC ?_;try simp only [W,EE,Nat.reduceAdd]
        refine Cb MT ?_;refine B5 fun Ry JN=> ?_;refine B_ ?_;simp only [W];refine Cl h (fun hc h=> ?_) (fun hc h=> ?_)
        ·refine B7 ?_;refine Cb JN ?_;refine B5 fun VL MN=> ?_;refine B6 fun K67 Sr=> ?_;refine B5 fun RZ KD=> ?_;refine Cm gC ?_;try simp only [W,EE,Nat.reduceAdd]
         refine Cw 1 hS rfl rfl rfl rfl rfl h (fun OZ acB acC acD X4 h X5=> ?_) Ig.ne;obtain ⟨acE,X6,X7⟩:=hS.elem 1 rfl X5 X4;try simp only [W,EE,X6,X7]
         refine Cb KD ?_;refine B5 fun Rg Mm=> ?_;obtain ⟨X8,h,X9⟩:=Option.bind_eq_some_iff.1 h;refine CH gC (fun s H=> ∃Ma:Bool,X8=(Ma)∧s=(u:: .fz (a1.map (AV.int .u8))::u::u::u::u::v9::v17::u::u::u:: .int .i64 FH::u::u::u::u::u::u::u::u::u::u::u::u::u::u::u::u::u::u::u::u::u::u::u::u::u::u::u::u::u::u::u::u::u::u::u::u::u::u::u::u::u::u::u::u::u::u::u::u::u::u::u::u::u::u::u::u::u::u::u::u::u::u::u::u::u::u::u::u::u::u::u::v17:: .int .i64 (Fv.length:Int):: .int .i64 JD::u::u::u::u::u::u::u::u::u:: .bool Ma::u::u::u::u::u::u::u::u::u::u::u::u::u::u::u::u::u::u::u::u::u::u::u::u::u::u::u::u::u::u::u::u::u::u::u::u::u::u::u::u::u::u::u::u::u::u::u::u::u::u::u::u::u::u::u::u::u::u::u::u::u::u::[])∧ay H (⟨v9,1,EP.map (AV.int .i64)⟩::⟨v17,1,Fv.map (AV.int .i64)⟩::F)) (fun Xk Ot=> ?_) (fun s H hq=> ?_)
         ·refine B5 fun Wi Og=> ?_;refine Cm gC ?_;try simp only [W,EE,Nat.reduceAdd]
          refine C6 h (fun hc h=> ?_) (fun hc h=> ?_)
          ·try simp only [W,hc]
           refine Du (b6:=[[.sc]]) (ys:=[.fz (EP.map (AV.int .i64)),.int .i64 OZ]) h rfl (Dh (De hS 0 rfl Ji (fun _=>rfl)) (Dh rfl Dg)) fun Jv PN h=>⟨.bool Jv,P8 PN (ay.nil _) fun H hS=>Dm rfl (Dj rfl (Di rfl)),⟨rfl,rfl,fun _=>rfl⟩,?_⟩;try simp only [W,reduceIte]
           refine Cb Og ?_;refine DR (s' :=(u:: .fz (a1.map (AV.int .u8))::u::u::u::u::v9::v17::u::u::u:: .int .i64 FH::u::u::u::u::u::u::u::u::u::u::u::u::u::u::u::u::u::u::u::u::u::u::u::u::u::u::u::u::u::u::u::u::u::u::u::u::u::u::u::u::u::u::u::u::u::u::u::u::u::u::u::u::u::u::u::u::u::u::u::u::u::u::u::u::u::u::u::u::u::u::u::v17:: .int .i64 (Fv.length:Int):: .int .i64 JD::u::u::u::u::u::u::u::u::u:: .bool Jv::u::u::u::u::u::u::u::u::u::u::u::u::u::u::u::u::u::u::u::u::u::u::u::u::u::u::u::u::u::u::u::u::u::u::u::u::u::u::u::u::u::u::u::u::u::u::u::u::u::u::u::u::u::u::u::u::u::u::u::u::u::u::[])) rfl ?_
           exact CI Ot ⟨_,(Option.some.inj h).symm,rfl,hS⟩
          ·try simp only [W,hc]
           refine Cb Og ?_;refine DR (s' :=(u:: .fz (a1.map (AV.int .u8))::u::u::u::u::v9::v17::u::u::u:: .int .i64 FH::u::u::u::u::u::u::u::u::u::u::u::u::u::u::u::u::u::u::u::u::u::u::u::u::u::u::u::u::u::u::u::u::u::u::u::u::u::u::u::u::u::u::u::u::u::u::u::u::u::u::u::u::u::u::u::u::u::u::u::u::u::u::u::u::u::u::u::u::u::u::u::v17:: .int .i64 (Fv.length:Int):: .int .i64 JD::u::u::u::u::u::u::u::u::u:: .bool false::u::u::u::u::u::u::u::u::u::u::u::u::u::u::u::u::u::u::u::u::u::u::u::u::u::u::u::u::u::u::u::u::u::u::u::u::u::u::u::u::u::u::u::u::u::u::u::u::u::u::u::u::u::u::u::u::u::u::u::u::u::u::[])) rfl ?_
           exact CI Ot ⟨_,(Option.some.inj h).symm,rfl,hS⟩
         ·obtain ⟨Ma,Eo,rfl,hS⟩:=hq;obtain rfl:=Eo.symm;replace h:=X9;try dsimp only at h
          refine Cb Mm ?_;refine B_ ?_;simp only [W];refine Cl h (fun hc h=> ?_) (fun hc h=> ?_)
          ·refine B5 fun TQ Pb=> ?_;refine Cm gC ?_;try simp only [W,Nat.reduceAdd]
           refine Cb Pb ?_;refine B8 ?_;refine Ch Sr ?_;refine Cc MN ?_;try obtain rfl:=Option.some.inj h
           obtain rfl:=Sq _ rfl;have h:(some (LR.done (LR.done false)):Option (LR Unit (LR Unit (Bool))))=some (LR.done (LR.done false)):=rfl;refine CG KE ?_;refine Ch Sp ?_;try obtain rfl:=Option.some.inj h
           obtain rfl:=Option.some.inj Sn;have h:(some (LR.done false):Option (LR Unit (Bool)))=some (LR.done false):=rfl;refine CJ N3 ?_;refine Cc MV ?_;refine Cc Gk ?_;try obtain rfl:=Option.some.inj h
           obtain rfl:=Option.some.inj Kr;have h:(some false:Option (Bool))=some false:=rfl;refine CJ G6 ?_;refine Cc Gm ?_;refine Cj En rfl ?_;try obtain rfl:=Option.some.inj h
           exact hP _ (hS.C2 2 [] (by decide))
          ·refine B7 ?_;refine Cf Sr ?_;refine Cb MN ?_;refine Cm gC ?_;try simp only [W,EE,Nat.reduceAdd]
           exact CE KE h ⟨rfl,hS⟩
        ·refine B9 ?_;refine Cd JN ?_;try obtain rfl:=Option.some.inj h
         obtain rfl:=Sq _ rfl;have h:(some (LR.next ()):Option (LR Unit (LR Unit (Bool))))=some (LR.next ()):=rfl
         refine CF KE ?_;refine Cg Sp ?_;exact CI N3 ⟨(Option.some.inj h).symm,rfl,hS⟩
       ·obtain ⟨rfl,rfl,hS⟩:=hq;replace h:=Sn;try dsimp only at h
        refine Cb MV ?_;refine B5 fun R5 MW=> ?_;refine Cm gC ?_;try simp only [W,Nat.reduceAdd]
        refine Cb MW ?_;refine B5 fun R6 MX=> ?_;refine B5 fun R7 JU=> ?_;refine Cm gC ?_;try simp only [W,EE,Nat.reduceAdd]
        refine Cz 0 hS rfl Ji rfl ?_;try simp only [W]
        refine Cb JU ?_;obtain ⟨X_,Ya,Yb⟩:=Option.bind_eq_some_iff.1 h;refine CH gC (fun s H=> ∃Hh:Int,X_=(Hh)∧s=(u:: .fz (a1.map (AV.int .u8))::u::u::u::u::v9::v17::u::u::u::u::u::u::u::u::u:: .int .i64 Hh::u::u::u::u::u::u::u::u::u::u::u::u::u::u::u::u::u::u::u::u::u::u::u::u::u::u::u::u::u::u::u::u::u::u::u::u::u::u::u::u::u::u::u::u::u::u::u::u::u::u::u::u::u::u::u::u::u::u::u::u::u::u::u::u::u::u::u::u::u::u::u::u::u::u::u::u::u::u::u::u::u::u::u::u::u::u::u::u::u::u::u::u::u::u::u::u::u::u::u::u::u::u::u::u::u::u::u::u::u::u::u::u::u::u::u::u::u::u::u::u::u::u::u::u::u::u::u::u::u::u::u::u::u::u::u::u::u::u::u::u::[])∧ay H (⟨v9,1,EP.map (AV.int .i64)⟩::⟨v17,1,Fv.map (AV.int .i64)⟩::F)) (fun NN Ix=> ?_) (fun s H hq=> ?_)
        ·refine B6 fun R9 KI=> ?_;refine CD gC Ya (fun x s H=>match x with|(Iu,H4)=>s=(u:: .fz (a1.map (AV.int .u8))::u::u::u::u::v9::v17::u::u::u::u::u::u::u::u::u:: .int .i64 Iu::u::u::u::u::u::u::u::u::u::u::u::u::u::u::u::u::u::u::u::u::u::u::u::u::u::u::u::u::u::u::u::u::u::u::u::u::u::u::u::u::u::u::u::u::u::u::u::u::u::u::u::u::u::u::u::u::u::u::u::u::u::u::u::u::u::u::u::u::u::u::u::u::u::u::u::u::u::u::u::v9:: .int .i64 (EP.length:Int):: .int .i64 H4::u::u::u::u::u::u::u::u::u::u::u::u::u::u::u::u::u::u::u::u::u::u::u::u::u::u::u::u::u::u::u::u::u::u::u::u::u::u::u::u::u::u::u::u::u::u::u::u::u::u::u::u::u::u::u::u::u::u::[])∧ay H (⟨v9,1,EP.map (AV.int .i64)⟩::⟨v17,1,Fv.map (AV.int .i64)⟩::F)) ⟨rfl,hS⟩ (fun x y99 s H h Yc hi Xn Ou=> ?_)
         obtain ⟨Iu,H4⟩:=x;try dsimp only at hi
         obtain ⟨rfl,hS⟩:=hi;simp only [Mb] at h;refine B5 fun acF Yd=> ?_;refine Cm gC ?_;try simp only [W,EE,Nat.reduceAdd]
         refine Cb Yd ?_;refine B5 fun acG Ss=> ?_;refine B_ ?_;simp only [W];refine Cl h (fun hc h=> ?_) (fun hc h=> ?_)
         ·refine B7 ?_;refine Cb Ss ?_;refine B5 fun acH Ye=> ?_;obtain ⟨PF,h,Yf⟩:=Option.bind_eq_some_iff.1 h;refine CH gC (fun s H=> ∃Mc:Int,PF=(Mc)∧s=(u:: .fz (a1.map (AV.int .u8))::u::u::u::u::v9::v17::u::u::u::u::u::u::u::u::u:: .int .i64 Mc::u::u::u::u::u::u::u::u::u::u::u::u::u::u::u::u::u::u::u::u::u::u::u::u::u::u::u::u::u::u::u::u::u::u::u::u::u::u::u::u::u::u::u::u::u::u::u::u::u::u::u::u::u::u::u::u::u::u::u::u::u::u::u::u::u::u::u::u::u::u::u::u::u::u::u::u::u::u::u::v9:: .int .i64 (EP.length:Int):: .int .i64 H4::u::u::u::u::u::u::u::u::u::u::u::u::u::u::u::u::u::u::u::u::u::u::u::u::u::u::u::u::u::u::u::u::u::u::u::u::u::u::u::u::u::u::u::u::u::u::u::u::u::u::u::u::u::u::u::u::u::u::[])∧ay H (⟨v9,1,EP.map (AV.int .i64)⟩::⟨v17,1,Fv.map (AV.int .i64)⟩::F)) (fun Pf JI=> ?_) (fun s H hq=> ?_)
          ·refine B6 fun acI Yg=> ?_;refine B5 fun RQ MP=> ?_;refine Cm gC ?_;try simp only [W,EE,Nat.reduceAdd]
           refine Cw 0 hS rfl rfl rfl rfl rfl h (fun Jz acJ acK acL PZ h Yh=> ?_) Ji.ne;obtain ⟨acM,Yi,Yj⟩:=hS.elem 0 rfl Yh PZ;try simp only [W,EE,Yi,Yj]
           refine Cb MP ?_;refine B5 fun WX P0=> ?_;refine Cm gC ?_;try simp only [W,EE,Nat.reduceAdd]
           refine Cb P0 ?_;obtain ⟨Yk,h,Yl⟩:=Option.bind_eq_some_iff.1 h;refine CH gC (fun s H=> ∃F5:Int,Yk=(F5)∧s=(u:: .fz (a1.map (AV.int .u8))::u::u::u::u::v9::v17::u::u::u::u::u::u::u::u::u:: .int .i64 F5::u::u::u::u::u::u::u::u::u::u::u::u::u::u::u::u::u::u::u::u::u::u::u::u::u::u::u::u::u::u::u::u::u::u::u::u::u::u::u::u::u::u::u::u::u::u::u::u::u::u::u::u::u::u::u::u::u::u::u::u::u::u::u::u::u::u::u::u::u::u::u::u::u::u::u::u::u::u::u::v9:: .int .i64 (EP.length:Int):: .int .i64 H4::u::u::u::u::u::u::u::u::u::u::u::u::u::u::u::u::u::u::u::u::u::u::u::u::u::u::u::u::u::u::u::u::u::u::u::u::u::u::u::u::u::u::u::u::u::u::u::u::u::u::u::u::u::u::u::u::u::u::[])∧ay H (⟨v9,1,EP.map (AV.int .i64)⟩::⟨v17,1,Fv.map (AV.int .i64)⟩::F)) (fun Rq JJ=> ?_) (fun s H hq=> ?_)
           ·refine B5 fun PG IG=> ?_;refine B_ ?_;simp only [W];refine Cl h (fun hc h=> ?_) (fun hc h=> ?_)
            ·refine Cm gC ?_;try simp only [W,Nat.reduceAdd]
             refine Cb IG ?_;refine DR (s' :=(u:: .fz (a1.map (AV.int .u8))::u::u::u::u::v9::v17::u::u::u::u::u::u::u::u::u:: .int .i64 Jz::u::u::u::u::u::u::u::u::u::u::u::u::u::u::u::u::u::u::u::u::u::u::u::u::u::u::u::u::u::u::u::u::u::u::u::u::u::u::u::u::u::u::u::u::u::u::u::u::u::u::u::u::u::u::u::u::u::u::u::u::u::u::u::u::u::u::u::u::u::u::u::u::u::u::u::u::u::u::u::v9:: .int .i64 (EP.length:Int):: .int .i64 H4::u::u::u::u::u::u::u::u::u::u::u::u::u::u::u::u::u::u::u::u::u::u::u::u::u::u::u::u::u::u::u::u::u::u::u::u::u::u::u::u::u::u::u::u::u::u::u::u::u::u::u::u::u::u::u::u::u::u::[])) rfl ?_
             exact CI JJ ⟨_,(Option.some.inj h).symm,rfl,hS⟩
            ·refine B7 ?_;refine Cb IG ?_;refine DR (s' :=(u:: .fz (a1.map (AV.int .u8))::u::u::u::u::v9::v17::u::u::u::u::u::u::u::u::u:: .int .i64 Iu::u::u::u::u::u::u::u::u::u::u::u::u::u::u::u::u::u::u::u::u::u::u::u::u::u::u::u::u::u::u::u::u::u::u::u::u::u::u::u::u::u::u::u::u::u::u::u::u::u::u::u::u::u::u::u::u::u::u::u::u::u::u::u::u::u::u::u::u::u::u::u::u::u::u::u::u::u::u::u::v9:: .int .i64 (EP.length:Int):: .int .i64 H4::u::u::u::u::u::u::u::u::u::u::u::u::u::u::u::u::u::u::u::u::u::u::u::u::u::u::u::u::u::u::u::u::u::u::u::u::u::u::u::u::u::u::u::u::u::u::u::u::u::u::u::u::u::u::u::u::u::u::[])) rfl ?_
             exact CI JJ ⟨_,(Option.some.inj h).symm,rfl,hS⟩
           ·obtain ⟨F5,Eo,rfl,hS⟩:=hq;obtain rfl:=Eo.symm;replace h:=Yl;try dsimp only at h
            refine Ce Yg ?_;exact CI JI ⟨_,(Option.some.inj h).symm,rfl,hS⟩
          ·obtain ⟨Mc,Eo,rfl,hS⟩:=hq;obtain rfl:=Eo.symm;replace h:=Yf;try dsimp only at h
           refine Cb Ye ?_;refine Cm gC ?_;try simp only [W,EE,Nat.reduceAdd]
           exact CE Ou h ⟨rfl,hS⟩
         ·refine B9 ?_;refine Cd Ss ?_;try obtain rfl:=Option.some.inj h
          obtain rfl:=Yc _ rfl;have h:(some (Iu):Option (Int))=some (Iu):=rfl;refine CF Ou ?_;refine Cg KI ?_;exact CI Ix ⟨_,(Option.some.inj h).symm,rfl,hS⟩
        ·obtain ⟨Hh,Eo,rfl,hS⟩:=hq;obtain rfl:=Eo.symm;replace h:=Yb;try dsimp only at h
         refine Cb MX ?_;refine B5 fun acN Ym=> ?_;refine Cm gC ?_;try simp only [W,Nat.reduceAdd]
         refine Cb Ym ?_;obtain ⟨P2,Yn,Su⟩:=Option.bind_eq_some_iff.1 h;refine CH gC (fun s H=>P2=LR.next ()∧s=(u:: .fz (a1.map (AV.int .u8))::u::u::u::u::u::u::u::u::u::u::u::u::u::u::u::u::u::u::u::u::u::u::u::u::u::u::u::u::u::u::u::u::u::u::u::u::u::u::u::u::u::u::u::u::u::u::u::u::u::u::u::u::u::u::u::u::u::u::u::u::u::u::u::u::u::u::u::u::u::u::u::u::u::u::u::u::u::u::u::u::u::u::u::u::u::u::u::u::u::u::u::u::u::u::u::u::u::u::u::u::u::u::u::u::u::u::u::u::u::u::u::u::u::u::u::u::u::u::u::u::u::u::u::u::u::u::u::u::u::u::u::u::u::u::u::u::u::u::u::u::u::u::u::u::u::u::u::u::u::u::u::u::u::u::u::u::[])∧ay H (F)) (fun R_ Jg=> ?_) (fun s H hq=> ?_)
         ·refine B6 fun Sa JV=> ?_;refine CD gC Yn (fun x s H=>s=(u:: .fz (a1.map (AV.int .u8))::u::u::u::u::v9::v17::u::u::u::u::u::u::u::u::u:: .int .i64 Hh::u::u:: .int .i64 x::u::u::u::u::u::u::u::u::u::u::u::u::u::u::u::u::u::u::u::u::u::u::u::u::u::u::u::u::u::u::u::u::u::u::u::u::u::u::u::u::u::u::u::u::u::u::u::u::u::u::u::u::u::u::u::u::u::u::u::u::u::u::u::u::u::u::u::u::u::u::u::u::u::u::u::u::u::u::u::u::u::u::u::u::u::u::u::u::u::u::u::u::u::u::u::u::u::u::u::u::u::u::u::u::u::u::u::u::u::u::u::u::u::u::u::u::u::u::u::u::u::u::u::u::u::u::u::u::u::u::u::u::u::u::u::u::u::[])∧ay H (⟨v9,1,EP.map (AV.int .i64)⟩::⟨v17,1,Fv.map (AV.int .i64)⟩::F)) ⟨rfl,hS⟩ (fun Gs acO s H h Sv hi Pg Ia=> ?_)
          skip
          try dsimp only at hi
          obtain ⟨rfl,hS⟩:=hi;simp only [Md] at h;refine B5 fun acP Sw=> ?_;refine B5 fun Sc MY=> ?_;refine Cm gC ?_;try simp only [W,EE,Nat.reduceAdd]
          refine Cb MY ?_;refine B_ ?_;simp only [W];refine Cl h (fun hc h=> ?_) (fun hc h=> ?_)
          ·refine B7 ?_;refine Cb Sw ?_;refine B5 fun RS JS=> ?_;refine B6 fun V7 MR=> ?_;refine B5 fun acQ Yo=> ?_;obtain ⟨Yp,h,Yq⟩:=Option.bind_eq_some_iff.1 h;refine CH gC (fun s H=> ∃Me:Bool,Yp=(Me)∧s=(u:: .fz (a1.map (AV.int .u8))::u::u::u::u::v9::v17::u::u::u::u::u::u::u::u::u:: .int .i64 Hh::u::u:: .int .i64 Gs::u::u::u::u::u::u::u::u::u::u::u::u::u::u::u::u::u::u::u::u::u::u::u::u::u::u::u::u::u::u::u::u::u::u::u::u::u::u::u::u::u::u::u::u::u::u::u::u::u::u::u::u::u::u::u::u::u::u::u::u::u::u::u::u::u::u::u::u::u::u::u::u::u::u::u::u::u::u::u::u::u::u::u::u::u::u::u::u::u::u::u::u::u::u::u::u::u::u::u::u::u::u:: .bool Me::u::u::u::u::u::u::u::u::u::u::u::u::u::u::u::u::u::u::u::u::u::u::u::u::u::u::u::u::u::u::u::u::u::u::[])∧ay H (⟨v9,1,EP.map (AV.int .i64)⟩::⟨v17,1,Fv.map (AV.int .i64)⟩::F)) (fun acR Sx=> ?_) (fun s H hq=> ?_)
           ·refine B5 fun acS Sy=> ?_;refine Cm gC ?_;try simp only [W,Nat.reduceAdd]
            refine Du (b6:=[[.sc]]) (ys:=[.fz (EP.map (AV.int .i64)),.int .i64 Gs]) h rfl (Dh (De hS 0 rfl Ji (fun _=>rfl)) (Dh rfl Dg)) fun O0 Yr h=>⟨.bool O0,P8 Yr (ay.nil _) fun H hS=>Dm rfl (Dj rfl (Di rfl)),⟨rfl,rfl,fun _=>rfl⟩,?_⟩;try simp only [W]
            refine C6 h (fun hc h=> ?_) (fun hc h=> ?_)
            ·try simp only [W,hc]
             refine Du (b6:=[[.sc]]) (ys:=[.fz (Fv.map (AV.int .i64)),.int .i64 Gs]) h rfl (Dh (De hS 1 rfl Ig (fun _=>rfl)) (Dh rfl Dg)) fun NH Ys h=>⟨.bool NH,P8 Ys (ay.nil _) fun H hS=>Dm rfl (Dj rfl (Di rfl)),⟨rfl,rfl,fun _=>rfl⟩,?_⟩;try simp only [W,reduceIte]
             refine Cb Sy ?_;refine DR (s' :=(u:: .fz (a1.map (AV.int .u8))::u::u::u::u::v9::v17::u::u::u::u::u::u::u::u::u:: .int .i64 Hh::u::u:: .int .i64 Gs::u::u::u::u::u::u::u::u::u::u::u::u::u::u::u::u::u::u::u::u::u::u::u::u::u::u::u::u::u::u::u::u::u::u::u::u::u::u::u::u::u::u::u::u::u::u::u::u::u::u::u::u::u::u::u::u::u::u::u::u::u::u::u::u::u::u::u::u::u::u::u::u::u::u::u::u::u::u::u::u::u::u::u::u::u::u::u::u::u::u::u::u::u::u::u::u::u::u::u::u::u::u:: .bool (!NH)::u::u::u::u::u::u::u::u::u::u::u::u::u::u::u::u::u::u::u::u::u::u::u::u::u::u::u::u::u::u::u::u::u::u::[])) rfl ?_
             exact CI Sx ⟨_,(Option.some.inj h).symm,rfl,hS⟩
            ·try simp only [W,hc]
             refine Cb Sy ?_;refine DR (s' :=(u:: .fz (a1.map (AV.int .u8))::u::u::u::u::v9::v17::u::u::u::u::u::u::u::u::u:: .int .i64 Hh::u::u:: .int .i64 Gs::u::u::u::u::u::u::u::u::u::u::u::u::u::u::u::u::u::u::u::u::u::u::u::u::u::u::u::u::u::u::u::u::u::u::u::u::u::u::u::u::u::u::u::u::u::u::u::u::u::u::u::u::u::u::u::u::u::u::u::u::u::u::u::u::u::u::u::u::u::u::u::u::u::u::u::u::u::u::u::u::u::u::u::u::u::u::u::u::u::u::u::u::u::u::u::u::u::u::u::u::u::u:: .bool false::u::u::u::u::u::u::u::u::u::u::u::u::u::u::u::u::u::u::u::u::u::u::u::u::u::u::u::u::u::u::u::u::u::u::[])) rfl ?_
             exact CI Sx ⟨_,(Option.some.inj h).symm,rfl,hS⟩
           ·obtain ⟨Me,Eo,rfl,hS⟩:=hq;obtain rfl:=Eo.symm;replace h:=Yq;try dsimp only at h
            refine Cb Yo ?_;refine B_ ?_;simp only [W];refine Cl h (fun hc h=> ?_) (fun hc h=> ?_)
            ·refine B5 fun Se JW=> ?_;refine Cm gC ?_;try simp only [W,Nat.reduceAdd]
             refine Cb JW ?_;refine B8 ?_;refine Ch MR ?_;refine Cc JS ?_;try obtain rfl:=Option.some.inj h
             obtain rfl:=Sv _ rfl;have h:(some (LR.done (LR.done false)):Option (LR Unit (LR Unit (Bool))))=some (LR.done (LR.done false)):=rfl;refine CG Ia ?_;refine Ch JV ?_;try obtain rfl:=Option.some.inj h
             obtain rfl:=Option.some.inj Su;have h:(some (LR.done false):Option (LR Unit (Bool)))=some (LR.done false):=rfl;refine CJ Jg ?_;refine Cc Gk ?_;try obtain rfl:=Option.some.inj h
             obtain rfl:=Option.some.inj Kr;have h:(some false:Option (Bool))=some false:=rfl;refine CJ G6 ?_;refine Cc Gm ?_;refine Cj En rfl ?_;try obtain rfl:=Option.some.inj h
             exact hP _ (hS.C2 2 [] (by decide))
            ·refine B7 ?_;refine Cf MR ?_;refine Cb JS ?_;refine Cm gC ?_;try simp only [W,EE,Nat.reduceAdd]
             exact CE Ia h ⟨rfl,hS⟩
          ·refine B9 ?_;refine Cd Sw ?_;try obtain rfl:=Option.some.inj h
           obtain rfl:=Sv _ rfl;have h:(some (LR.next ()):Option (LR Unit (LR Unit (Bool))))=some (LR.next ()):=rfl
           refine CF Ia ?_;refine Cg JV ?_;exact CI Jg ⟨(Option.some.inj h).symm,rfl,(hS.C2 2 [] (by decide))⟩
         ·obtain ⟨rfl,rfl,hS⟩:=hq;replace h:=Su;try dsimp only at h
          refine Cb Gk ?_;refine DR (s' :=(u:: .fz (a1.map (AV.int .u8))::u::u::u::u::u::u::u::u::u::u::u::u::u::u::u::u::u::u::u::u::u::u::u::u::u::u::u::u::u::u::u::u::u::u::u::u::u::u::u::u::u::u::u::u::u::u::u::u::u::u::u::u::u::u::u::u::u::u::u::u::u::u::u::u::u::u::u::u::u::u::u::u::u::u::u::u::u::u::u::u::u::u::u::u::u::u::u::u::u::u::u::u::u::u::u::u::u::u::u::u::u::u::u::u::u::u::u::u::u::u::u::u::u::u::u::u::u::u::u::u::u::u::u::u::u::u::u::u::u::u::u::u::u::u::u::u::u::u::u::u::u::u::u::u::u::u::u::u::u::u::u::u::u::u::u::u::[])) rfl ?_
          exact CI G6 ⟨(Option.some.inj h).symm,rfl,hS⟩
     ·refine B7 ?_;refine Cb Gk ?_;refine DR (s' :=(u:: .fz (a1.map (AV.int .u8))::u::u::u::u::u::u::u::u::u::u::u::u::u::u::u::u::u::u::u::u::u::u::u::u::u::u::u::u::u::u::u::u::u::u::u::u::u::u::u::u::u::u::u::u::u::u::u::u::u::u::u::u::u::u::u::u::u::u::u::u::u::u::u::u::u::u::u::u::u::u::u::u::u::u::u::u::u::u::u::u::u::u::u::u::u::u::u::u::u::u::u::u::u::u::u::u::u::u::u::u::u::u::u::u::u::u::u::u::u::u::u::u::u::u::u::u::u::u::u::u::u::u::u::u::u::u::u::u::u::u::u::u::u::u::u::u::u::u::u::u::u::u::u::u::u::u::u::u::u::u::u::u::u::u::u::u::[])) rfl ?_
      exact CI G6 ⟨(Option.some.inj h).symm,rfl,(hS.C2 2 [] (by decide))⟩
    ·obtain ⟨rfl,rfl,hS⟩:=hq;replace h:=Kr;try dsimp only at h
     refine Cb Gm ?_;refine B5 fun Xc P3=> ?_;refine Cm gC ?_;try simp only [W,Nat.reduceAdd]
     refine CC h fun JE Yt h=> ?_;refine XP Yt hS fun acT Yu H hS=> ?_;try simp only [W]
     refine Cb P3 ?_;refine B5 fun acU Yv=> ?_;refine Cn (fz:=[(1,[([127,21,125],[.sl [.sc]])])]) gC ?_;try simp only [W,Nat.reduceAdd,Nat.reduceBEq]
     refine CT 0 hS rfl Yu rfl (fun _ _=>by simp [aY,aO,dp]) (fun _=>rfl) fun H r6 hS=> ?_
     simp only [W,r6,if_true];try simp only [W,EE,EN,reduceIte,Nat.reduceAdd,Nat.reduceLeDiff,Nat.reduceBEq,Nat.reduceMul,Bool.false_eq_true]
     refine CC h fun Yw Yx h=> ?_;obtain ⟨Kp,Kq⟩:=Yw;try dsimp only at h
     refine XT Yx hS fun H hS=> ?_;try simp only [W,Nat.reduceAdd,Nat.reduceBEq]
     refine Cb Yv ?_;refine B5 fun acV Yy=> ?_;refine Cm gC ?_;try simp only [W,Nat.reduceAdd]
     refine CC h fun Yz YA h=> ?_;obtain ⟨QR,QS⟩:=Yz;try dsimp only at h
     refine XX YA hS fun H hS=> ?_;try simp only [W]
     refine Cb Yy ?_;refine B5 fun acW Sz=> ?_;refine B5 fun acX YB=> ?_;obtain ⟨YC,h,YD⟩:=Option.bind_eq_some_iff.1 h;refine CH gC (fun s H=> ∃Mg:Bool,YC=(Mg)∧s=(u::u::u::u::u::u::u::u::u::u::u::u::u::u::u::u::u::u::u::u::u:: .fz (JE.map (AV.int .i64)):: .fz (Kp.map El):: .bool Kq::u::u::u::u::u::u::u::u::u::u::u::u::u::u::u::u::u::u::u::u::u::u::u::u::u::u::u::u::u::u::u::u::u::u::u::u::u::u::u::u::u::u::u::u::u::u::u::u::u::u::u::u::u::u::u::u::u::u::u::u::u::u::u::u::u::u::u::u::u::u::u::u::u::u::u::u::u::u::u::u::u::u::u::u::u::u::u::u::u::u::u::u::u::u::u::u::u::u::u::u::u::u::u::u::u::u::u::u::u::u::u::u::u::u::u::u::u::u::u::u:: .bool Mg::u::u::u::u::u::u::u::u::u::u::u::u::u::[])∧ay H (F)) (fun acY SA=> ?_) (fun s H hq=> ?_)
     ·refine B5 fun acZ SB=> ?_;refine Cm gC ?_;try simp only [W,EE,Nat.reduceAdd]
      rw [Cq _ _ _ _ (h:=rfl) rfl,tv];try simp only [W]
      refine C6 h (fun hc h=> ?_) (fun hc h=> ?_)
      ·try simp only [W,hc]
       refine Cb SB ?_;refine DR (s' :=(u::u::u::u::u::u::u::u::u::u::u::u::u::u::u::u::u::u::u::u::u:: .fz (JE.map (AV.int .i64)):: .fz (Kp.map El):: .bool Kq::u::u::u::u::u::u::u::u::u::u::u::u::u::u::u::u::u::u::u::u::u::u::u::u::u::u::u::u::u::u::u::u::u::u::u::u::u::u::u::u::u::u::u::u::u::u::u::u::u::u::u::u::u::u::u::u::u::u::u::u::u::u::u::u::u::u::u::u::u::u::u::u::u::u::u::u::u::u::u::u::u::u::u::u::u::u::u::u::u::u::u::u::u::u::u::u::u::u::u::u::u::u::u::u::u::u::u::u::u::u::u::u::u::u::u::u::u::u::u::u:: .bool true::u::u::u::u::u::u::u::u::u::u::u::u::u::[])) rfl ?_
       exact CI SA ⟨_,(Option.some.inj h).symm,rfl,hS⟩
      ·try simp only [W,hc]
       refine CC h fun O1 YE h=> ?_;refine XY YE hS fun H hS=> ?_;try simp only [W,reduceIte,Bool.false_eq_true]
       refine Cb SB ?_;refine DR (s' :=(u::u::u::u::u::u::u::u::u::u::u::u::u::u::u::u::u::u::u::u::u:: .fz (JE.map (AV.int .i64)):: .fz (Kp.map El):: .bool Kq::u::u::u::u::u::u::u::u::u::u::u::u::u::u::u::u::u::u::u::u::u::u::u::u::u::u::u::u::u::u::u::u::u::u::u::u::u::u::u::u::u::u::u::u::u::u::u::u::u::u::u::u::u::u::u::u::u::u::u::u::u::u::u::u::u::u::u::u::u::u::u::u::u::u::u::u::u::u::u::u::u::u::u::u::u::u::u::u::u::u::u::u::u::u::u::u::u::u::u::u::u::u::u::u::u::u::u::u::u::u::u::u::u::u::u::u::u::u::u::u:: .bool (!O1)::u::u::u::u::u::u::u::u::u::u::u::u::u::[])) rfl ?_
       exact CI SA ⟨_,(Option.some.inj h).symm,rfl,hS⟩
     ·obtain ⟨Mg,Eo,rfl,hS⟩:=hq;obtain rfl:=Eo.symm;replace h:=YD;try dsimp only at h
      refine Cb YB ?_;refine B_ ?_;simp only [W];refine Cl h (fun hc h=> ?_) (fun hc h=> ?_)
      ·refine B5 fun ac0 YF=> ?_;refine Cm gC ?_;try simp only [W,Nat.reduceAdd]
       refine Cb YF ?_;refine B8 ?_;refine Cc Sz ?_;refine Cj En rfl ?_;try obtain rfl:=Option.some.inj h
       exact hP _ hS
      ·refine B7 ?_;refine Cb Sz ?_;refine B5 fun ac1 P_=> ?_;refine B5 fun ac2 YG=> ?_;refine Cm gC ?_;try simp only [W,Nat.reduceAdd]
       refine Cb YG ?_;refine B_ ?_;simp only [W];refine Cl h (fun hc h=> ?_) (fun hc h=> ?_)
       ·refine B5 fun ac3 YH=> ?_;refine Cm gC ?_;try simp only [W,Nat.reduceAdd]
        refine CC h fun YI YJ h=> ?_;obtain ⟨QT,QU⟩:=YI;try dsimp only at h
        refine X0 YJ hS fun H hS=> ?_;try simp only [W]
        refine Cb YH ?_;refine B5 fun ac4 SC=> ?_;refine Cm gC ?_;try simp only [W,Nat.reduceAdd]
        refine C6 h (fun hc h=> ?_) (fun hc h=> ?_)
        ·try simp only [W,EE,reduceIte,hc]
         refine Cb SC ?_;refine B8 ?_;refine Cc P_ ?_;refine Cj En rfl ?_;try obtain rfl:=Option.some.inj h
         exact hP _ hS
        ·try simp only [W,hc]
         refine Cb SC ?_;refine B8 ?_;refine Cc P_ ?_;refine Cj En rfl ?_;try obtain rfl:=Option.some.inj h
         exact hP _ hS
       ·refine B7 ?_;refine Cb P_ ?_;refine B5 fun ac5 YK=> ?_;refine Cm gC ?_;try simp only [W,Nat.reduceAdd]
        refine Cb YK ?_;refine B8 ?_;refine Cj En rfl ?_;try obtain rfl:=Option.some.inj h
        exact hP _ hS
end Go.GB
