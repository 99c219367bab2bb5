import Derived.Test.YtmbfhipfcjmhmaaGreatVgG2
import Derived.Test.YtmbfhipfcjmhmaaGreatProg
import Derived.Test.YtmbfhipfcjmhmaaGreatVaG
import Derived.KernelRfl
open Go Go.VS
set_option maxRecDepth 8000
set_option maxHeartbeats 4000000
namespace Go.JN
theorem acD {a0:Hj} {r:(Bool)} (h:QQ a0=some r) {F:List It} {H:J} (hS:aA H (F)) {P:AV→J→Prop} (hP: ∀H',aA H' (F)→P (.bool r) H'):aq C 72 [.agg [.int .i64 a0.Id,.int .i64 a0.Hh,.str a0.Text,.fz (a0.Has.map Hl)]] H P:=by
 refine EO gC (res:=[.tmp 2]) (n:=44) rfl rfl rfl rfl fun K0 Hi=> ?_;simp only [W,Nat.reduceSub,Nat.reduceAdd,List.replicate];unfold QQ at h;refine Er fun K1 Hq=> ?_;refine EL gC ?_;try simp only [W,Nat.reduceAdd]
 refine ES hS rfl rfl rfl rfl fun Hm Hn H hS=> ?_;try simp only [W]
 refine Ez Hq ?_;refine Er fun K4 Hv=> ?_;refine Er fun K5 H9=> ?_;obtain ⟨MC,h,g8⟩:=Option.bind_eq_some_iff.1 h;refine E9 gC (fun s H=> ∃HG:Bool,MC=(HG)∧s=[u,.ptr Hm Hn 0 0,u,u,u,u,u,u,u,u,u,u,u,u,u,u,u,u,u,u,u,u,u,u,u,.bool HG,u,u,u,u,u,u,u,u,u,u,u,u,u,u,u,u,u,u]∧aA H (⟨.ptr Hm Hn 0 0,4,[.agg [.int .i64 a0.Id,.int .i64 a0.Hh,.str a0.Text,.fz (a0.Has.map Hl)]]⟩::F)) (fun K9 HC=> ?_) (fun s H hq=> ?_)
 ·refine Er fun J4 H_=> ?_;refine EL gC ?_;try simp only [W,Hf,Nat.reduceAdd,Nat.reduceBEq,hS.var 0 rfl]
  refine E4 h fun If MD h=> ?_;refine TE MD hS fun H hS=> ?_;try simp only [W]
  refine FD h (fun hc h=> ?_) (fun hc h=> ?_)
  ·try simp only [W,hc]
   refine Ez H_ ?_;refine Ey ?_;exact E_ HC ⟨_,(Option.some.inj h).symm,rfl,hS⟩
  ·try simp only [W,Hf,reduceIte,Nat.reduceAdd,Nat.reduceBEq,Bool.false_eq_true,hS.var 0 rfl,hc]
   refine FD h (fun hc h=> ?_) (fun hc h=> ?_)
   ·try simp only [W,hc]
    refine Ez H_ ?_;refine Ey ?_;exact E_ HC ⟨_,(Option.some.inj h).symm,rfl,hS⟩
   ·try simp only [W,Hf,Nat.reduceAdd,Nat.reduceBEq,hS.var 0 rfl,hc]
    refine E4 h fun Iw Q6 h=> ?_;refine acC Q6 hS fun H hS=> ?_;try simp only [W,reduceIte,Bool.false_eq_true]
    refine Ez H_ ?_;refine Ey ?_;exact E_ HC ⟨_,(Option.some.inj h).symm,rfl,hS⟩
 ·obtain ⟨HG,Hr,rfl,hS⟩:=hq;obtain rfl:=Hr.symm;replace h:=g8;try dsimp only at h
  refine Ez H9 ?_;refine Ew ?_;simp only [W];refine EK h (fun hc h=> ?_) (fun hc h=> ?_)
  ·refine Er fun JS Ig=> ?_;refine EL gC ?_;try simp only [W,Nat.reduceAdd]
   refine Ez Ig ?_;refine Eu ?_;refine EA Hv ?_;refine EH Hi rfl ?_;try obtain rfl:=Option.some.inj h
   exact hP _ (hS.Fz 1 [] (by decide))
  ·refine Et ?_;refine Ez Hv ?_;refine Er fun J3 HZ=> ?_;refine Er fun LJ IF=> ?_;refine EL gC ?_;try simp only [W,Nat.reduceAdd]
   refine Ez IF ?_;obtain ⟨N6,T1,g24⟩:=Option.bind_eq_some_iff.1 h;refine E9 gC (fun s H=>N6=LR.next ()∧s=[u,u,u,u,u,u,u,u,u,u,u,u,u,u,u,u,u,u,u,u,u,u,u,u,u,u,u,u,u,u,u,u,u,u,u,u,u,u,u,u,u,u,u,u]∧aA H (F)) (fun JA HR=> ?_) (fun s H hq=> ?_)
   ·refine Es fun J5 Ii=> ?_;refine E5 gC T1 (fun x s H=>s=[u,.ptr Hm Hn 0 0,u,.int .i64 x,u,u,u,u,u,u,u,u,u,u,u,u,u,u,u,u,u,u,u,u,u,u,u,u,u,u,u,u,u,u,u,u,u,u,u,u,u,u,u,u]∧aA H (⟨.ptr Hm Hn 0 0,4,[.agg [.int .i64 a0.Id,.int .i64 a0.Hh,.str a0.Text,.fz (a0.Has.map Hl)]]⟩::F)) ⟨rfl,hS⟩ (fun HN Q7 s H h Q8 hi Nl Jl=> ?_)
    skip
    try dsimp only at hi
    obtain ⟨rfl,hS⟩:=hi;simp only [QP] at h;refine Er fun Ky Il=> ?_;refine Er fun Kg Ik=> ?_;refine EL gC ?_;try simp only [W,Hf,Nat.reduceAdd,Nat.reduceBEq,hS.var 0 rfl]
    refine Ez Ik ?_;refine Ew ?_;simp only [W];refine EK h (fun hc h=> ?_) (fun hc h=> ?_)
    ·refine Et ?_;refine Ez Il ?_;refine Er fun KP Im=> ?_;refine Es fun LL Ir=> ?_;refine Er fun L7 IP=> ?_;obtain ⟨Uo,h,Uq⟩:=Option.bind_eq_some_iff.1 h;refine E9 gC (fun s H=> ∃Nb:Bool,Uo=(Nb)∧s=[u,.ptr Hm Hn 0 0,u,.int .i64 HN,u,u,u,u,u,u,u,u,u,u,u,u,u,u,u,u,u,u,u,u,u,u,u,u,u,u,u,u,u,u,u,u,u,u,u,u,u,u,u,.bool Nb]∧aA H (⟨.ptr Hm Hn 0 0,4,[.agg [.int .i64 a0.Id,.int .i64 a0.Hh,.str a0.Text,.fz (a0.Has.map Hl)]]⟩::F)) (fun MJ I6=> ?_) (fun s H hq=> ?_)
     ·refine Er fun N9 JC=> ?_;refine EL gC ?_;try simp only [W,Hf,Nat.reduceAdd,Nat.reduceBEq,hS.var 0 rfl]
      refine EW h fun Ix Sv h=> ?_;try simp only [W,Hf]
      refine FD h (fun hc h=> ?_) (fun hc h=> ?_)
      ·try simp only [W,Hf,Nat.reduceAdd,Nat.reduceBEq,hS.var 0 rfl,hc]
       refine E4 h fun NM R9 h=> ?_;refine Xz R9 hS fun H hS=> ?_;try simp only [W,reduceIte]
       refine Ez JC ?_;refine Ey ?_;exact E_ I6 ⟨_,(Option.some.inj h).symm,rfl,hS⟩
      ·try simp only [W,hc]
       refine Ez JC ?_;refine Ey ?_;exact E_ I6 ⟨_,(Option.some.inj h).symm,rfl,hS⟩
     ·obtain ⟨Nb,Hr,rfl,hS⟩:=hq;obtain rfl:=Hr.symm;replace h:=Uq;try dsimp only at h
      refine Ez IP ?_;refine Ew ?_;simp only [W];refine EK h (fun hc h=> ?_) (fun hc h=> ?_)
      ·refine Er fun PG J8=> ?_;refine EL gC ?_;try simp only [W,Nat.reduceAdd]
       refine Ez J8 ?_;refine Eu ?_;refine EF Ir ?_;refine EA Im ?_;try obtain rfl:=Option.some.inj h
       obtain rfl:=Q8 _ rfl;have h:(some (LR.done false):Option (LR Unit (Bool)))=some (LR.done false):=rfl;refine E8 Jl ?_;refine EF Ii ?_;try obtain rfl:=Option.some.inj h
       obtain rfl:=Option.some.inj g24;have h:(some false:Option (Bool))=some false:=rfl;refine Fa HR ?_;refine EA HZ ?_;refine EH Hi rfl ?_;try obtain rfl:=Option.some.inj h
       exact hP _ (hS.Fz 1 [] (by decide))
      ·refine Et ?_;refine ED Ir ?_;refine Ez Im ?_;refine EL gC ?_;try simp only [W,Hf,Nat.reduceAdd]
       exact E6 Jl h ⟨rfl,hS⟩
    ·refine Ev ?_;refine EB Il ?_;try obtain rfl:=Option.some.inj h
     obtain rfl:=Q8 _ rfl;have h:(some (LR.next ()):Option (LR Unit (Bool)))=some (LR.next ()):=rfl
     refine E7 Jl ?_;refine EE Ii ?_;exact E_ HR ⟨(Option.some.inj h).symm,rfl,(hS.Fz 1 [] (by decide))⟩
   ·obtain ⟨rfl,rfl,hS⟩:=hq;replace h:=g24;try dsimp only at h
    refine Ez HZ ?_;refine Er fun XC PN=> ?_;refine EL gC ?_;try simp only [W,Nat.reduceAdd]
    refine Ez PN ?_;refine Eu ?_;refine EH Hi rfl ?_;try obtain rfl:=Option.some.inj h
    exact hP _ hS
theorem acE {a0:List Int} {a1:Int} {r:(Bool)} (h:QR a0 a1=some r) {F:List It} {H:J} (hS:aA H (F)) {P:AV→J→Prop} (hP: ∀H',aA H' (F)→P (.bool r) H'):aq C 75 [.fz (a0.map (AV.int .i64)),.int .i64 a1] H P:=by
 refine EO gC (res:=[.tmp 4]) (n:=33) rfl rfl rfl rfl fun K0 Hi=> ?_;simp only [W,Nat.reduceSub,Nat.reduceAdd,List.replicate];unfold QR at h;refine Er fun K1 Hq=> ?_;refine EL gC ?_;try simp only [W,Nat.reduceAdd]
 refine Ez Hq ?_;refine Er fun K2 Cu=> ?_;refine Er fun K3 HY=> ?_;refine EL gC ?_;try simp only [W,Hf,Nat.reduceAdd]
 refine Ez HY ?_;obtain ⟨LM,LN,g12⟩:=Option.bind_eq_some_iff.1 h;refine E9 gC (fun s H=>LM=LR.next ()∧s=[u,u,u,u,u,u,u,u,u,u,u,u,u,u,u,u,u,u,u,u,u,u,u,u,u,u,u,u,u,u,u,u,u]∧aA H (F)) (fun K7 IJ=> ?_) (fun s H hq=> ?_)
 ·refine Es fun K8 HS=> ?_;refine E5 gC LN (fun x s H=>s=[.fz (a0.map (AV.int .i64)),.int .i64 a1,u,u,u,u,u,.fz (a0.map (AV.int .i64)),.int .i64 (a0.length:Int),.int .i64 x,u,u,u,u,u,u,u,u,u,u,u,u,u,u,u,u,u,u,u,u,u,u,u]∧aA H (F)) ⟨rfl,hS⟩ (fun HK LO s H h JV hi K9 HC=> ?_)
  skip
  try dsimp only at hi
  obtain ⟨rfl,hS⟩:=hi;simp only [R3] at h;refine Er fun JS Ig=> ?_;refine EL gC ?_;try simp only [W,Hf,Nat.reduceAdd]
  refine Ez Ig ?_;refine Er fun J3 HZ=> ?_;refine Ew ?_;simp only [W];refine EK h (fun hc h=> ?_) (fun hc h=> ?_)
  ·refine Et ?_;refine Ez HZ ?_;refine Er fun LJ IF=> ?_;refine Es fun JT Ie=> ?_;refine Er fun Jb HJ=> ?_;refine EL gC ?_;try simp only [W,Hf,Nat.reduceAdd]
   refine EX rfl rfl rfl (fun _=>rfl) h fun Ja US h=> ?_;try simp only [W,Hf]
   refine Ez HJ ?_;refine Er fun JA HR=> ?_;obtain ⟨Nh,h,g22⟩:=Option.bind_eq_some_iff.1 h;refine E9 gC (fun s H=> ∃IW:Bool,Nh=(IW)∧s=[.fz (a0.map (AV.int .i64)),.int .i64 a1,u,u,u,u,u,.fz (a0.map (AV.int .i64)),.int .i64 (a0.length:Int),.int .i64 HK,u,u,u,u,u,u,u,u,u,u,u,u,u,u,u,u,u,u,u,u,u,.bool IW,u]∧aA H (F)) (fun L8 I1=> ?_) (fun s H hq=> ?_)
   ·refine Er fun Kf Iq=> ?_;refine EL gC ?_;try simp only [W,Hf,Nat.reduceAdd]
    refine E4 h fun Kr acF h=> ?_;refine QZ acF hS fun H hS=> ?_;try simp only [W]
    refine FD h (fun hc h=> ?_) (fun hc h=> ?_)
    ·try simp only [W,hc]
     refine Ez Iq ?_;refine Ey ?_;exact E_ I1 ⟨_,(Option.some.inj h).symm,rfl,hS⟩
    ·try simp only [W,Hf,hc]
     refine FD h (fun hc h=> ?_) (fun hc h=> ?_)
     ·try simp only [W,Hf,hc]
      refine EX rfl rfl rfl (fun _=>rfl) h fun Lw aaT h=> ?_;try simp only [W,Hf,reduceIte,Bool.false_eq_true]
      refine Ez Iq ?_;refine Ey ?_;exact E_ I1 ⟨_,(Option.some.inj h).symm,rfl,hS⟩
     ·try simp only [W,reduceIte,Bool.false_eq_true,hc]
      refine Ez Iq ?_;refine Ey ?_;exact E_ I1 ⟨_,(Option.some.inj h).symm,rfl,hS⟩
   ·obtain ⟨IW,Hr,rfl,hS⟩:=hq;obtain rfl:=Hr.symm;replace h:=g22;try dsimp only at h
    refine Ez HR ?_;refine Ew ?_;simp only [W];refine EK h (fun hc h=> ?_) (fun hc h=> ?_)
    ·refine Er fun KP Im=> ?_;refine EL gC ?_;try simp only [W,Nat.reduceAdd]
     refine Ez Im ?_;refine Eu ?_;refine EF Ie ?_;refine EA IF ?_;try obtain rfl:=Option.some.inj h
     obtain rfl:=JV _ rfl;have h:(some (LR.done false):Option (LR Unit (Bool)))=some (LR.done false):=rfl;refine E8 HC ?_;refine EF HS ?_;try obtain rfl:=Option.some.inj h
     obtain rfl:=Option.some.inj g12;have h:(some false:Option (Bool))=some false:=rfl;refine Fa IJ ?_;refine EA Cu ?_;refine EH Hi rfl ?_;try obtain rfl:=Option.some.inj h
     exact hP _ hS
    ·refine Et ?_;refine ED Ie ?_;refine Ez IF ?_;refine EL gC ?_;try simp only [W,Hf,Nat.reduceAdd]
     exact E6 HC h ⟨rfl,hS⟩
  ·refine Ev ?_;refine EB HZ ?_;try obtain rfl:=Option.some.inj h
   obtain rfl:=JV _ rfl;have h:(some (LR.next ()):Option (LR Unit (Bool)))=some (LR.next ()):=rfl
   refine E7 HC ?_;refine EE HS ?_;exact E_ IJ ⟨(Option.some.inj h).symm,rfl,hS⟩
 ·obtain ⟨rfl,rfl,hS⟩:=hq;replace h:=g12;try dsimp only at h
  refine Ez Cu ?_;refine Er fun N9 JC=> ?_;refine EL gC ?_;try simp only [W,Nat.reduceAdd]
  refine Ez JC ?_;refine Eu ?_;refine EH Hi rfl ?_;try obtain rfl:=Option.some.inj h
  exact hP _ hS
theorem XT {a0:Ho} {r:(Bool)} (h:Nc a0=some r) {F:List It} {H:J} (hS:aA H (F)) {P:AV→J→Prop} (hP: ∀H',aA H' (F)→P (.bool r) H'):aq C 19 [.agg [.fz (a0.Hg.map Hp),.fz (a0.Told.map (AV.int .i64))]] H P:=by
 refine EO gC (res:=[.tmp 2]) (n:=59) rfl rfl rfl rfl fun K0 Hi=> ?_;simp only [W,Nat.reduceSub,Nat.reduceAdd,List.replicate];unfold Nc at h;refine Er fun K1 Hq=> ?_;refine EL gC ?_;try simp only [W,Nat.reduceAdd]
 refine ES hS rfl rfl rfl rfl fun Hm Hn H hS=> ?_;try simp only [W]
 refine Ez Hq ?_;refine Er fun K4 Hv=> ?_;refine Er fun K5 H9=> ?_;refine EL gC ?_;try simp only [W,Hf,Nat.reduceAdd,Nat.reduceBEq,hS.var 0 rfl]
 refine Ez H9 ?_;obtain ⟨MC,hw8,g14⟩:=Option.bind_eq_some_iff.1 h;refine E9 gC (fun s H=>MC=LR.next ()∧s=[u,.ptr Hm Hn 0 0,u,u,u,u,u,u,u,u,u,u,u,u,u,u,u,u,u,u,u,u,u,u,u,u,u,u,u,u,u,u,u,u,u,u,u,u,u,u,u,u,u,u,u,u,u,u,u,u,u,u,u,u,u,u,u,u,u]∧aA H (⟨.ptr Hm Hn 0 0,2,[.agg [.fz (a0.Hg.map Hp),.fz (a0.Told.map (AV.int .i64))]]⟩::F)) (fun K9 HC=> ?_) (fun s H hq=> ?_)
 ·refine Es fun J4 H_=> ?_;refine E5 gC hw8 (fun x s H=>s=[u,.ptr Hm Hn 0 0,u,u,u,u,.fz (a0.Hg.map Hp),.int .i64 (a0.Hg.length:Int),.int .i64 x,u,u,u,u,u,u,u,u,u,u,u,u,u,u,u,u,u,u,u,u,u,u,u,u,u,u,u,u,u,u,u,u,u,u,u,u,u,u,u,u,u,u,u,u,u,u,u,u,u,u]∧aA H (⟨.ptr Hm Hn 0 0,2,[.agg [.fz (a0.Hg.map Hp),.fz (a0.Told.map (AV.int .i64))]]⟩::F)) ⟨rfl,hS⟩ (fun HG y13 s H h XU hi Kx Iu=> ?_)
  skip
  try dsimp only at hi
  obtain ⟨rfl,hS⟩:=hi;simp only [Pn] at h;refine Er fun LJ IF=> ?_;refine EL gC ?_;try simp only [W,Hf,Nat.reduceAdd]
  refine Ez IF ?_;refine Er fun JT Ie=> ?_;refine Ew ?_;simp only [W];refine EK h (fun hc h=> ?_) (fun hc h=> ?_)
  ·refine Et ?_;refine Ez Ie ?_;refine Er fun Jb HJ=> ?_;refine Es fun Jp HQ=> ?_;refine Er fun JA HR=> ?_;refine EL gC ?_;try simp only [W,Hf,Nat.reduceAdd]
   refine EX rfl rfl rfl (fun _=>rfl) h fun Io Si h=> ?_;try simp only [W,Hf,HL,reduceIte,Nat.reduceAdd,Nat.reduceLeDiff]
   refine ET hS rfl rfl fun agT agU H hS=> ?_;try simp only [W]
   refine EU (a:= .agg [.int .i64 Io.Id,.int .i64 Io.Hh,.str Io.Text,.fz (Io.Has.map Hl)]) (y' := .agg [.int .i64 Io.Id,.int .i64 Io.Hh,.str Io.Text,.fz (Io.Has.map Hl)]) 0 hS rfl rfl rfl rfl rfl rfl rfl rfl fun H hS=> ?_
   try simp only [W]
   refine Ez HR ?_;refine Er fun L8 I1=> ?_;obtain ⟨UT,h,UU⟩:=Option.bind_eq_some_iff.1 h;refine E9 gC (fun s H=> ∃I_:Bool,UT=(I_)∧s=[u,.ptr Hm Hn 0 0,u,u,u,u,.fz (a0.Hg.map Hp),.int .i64 (a0.Hg.length:Int),.int .i64 HG,u,u,u,u,u,u,u,u,u,u,u,u,u,u,u,u,u,u,u,u,u,u,u,u,u,u,u,u,u,u,u,u,u,.bool I_,u,u,u,u,u,u,u,u,u,u,u,u,u,u,u,u]∧aA H (⟨.ptr Hm Hn 0 0,2,[.agg [.fz (a0.Hg.map Hp),.fz (a0.Told.map (AV.int .i64))]]⟩::F)) (fun KP Im=> ?_) (fun s H hq=> ?_)
   ·refine Er fun LL Ir=> ?_;refine EN gC (by kernel_rfl) ?_
    try simp only [W,Hf,reduceIte,Nat.reduceAdd,Nat.reduceLeDiff,hS.var 0 rfl]
    refine F6 (bS:=[[.sc]]) (ys:=[.agg [.int .i64 Io.Id,.int .i64 Io.Hh,.str Io.Text,.fz (Io.Has.map Hl)]]) h rfl (by rfl) fun II Md h=>⟨.bool II,acD Md (aA.nil _) fun H hS=>F2 rfl (FY rfl (FX rfl)),⟨rfl,rfl,fun _=>rfl⟩,?_⟩
    try simp only [W]
    refine FD h (fun hc h=> ?_) (fun hc h=> ?_)
    ·try simp only [W,hc]
     refine Ez Ir ?_;refine Ey ?_;exact E_ Im ⟨_,(Option.some.inj h).symm,rfl,(hS.Fz 2 [1] (by decide))⟩
    ·try simp only [W,Hf,reduceIte,Nat.reduceAdd,Nat.reduceLeDiff,hS.var 0 rfl,hc]
     refine F6 (bS:=[[.sc]]) (ys:=[.agg [.int .i64 Io.Id,.int .i64 Io.Hh,.str Io.Text,.fz (Io.Has.map Hl)]]) h rfl (by rfl) fun Lb TY h=>⟨.bool Lb,XD TY (aA.nil _) fun H hS=>F2 rfl (FY rfl (FX rfl)),⟨rfl,rfl,fun _=>rfl⟩,?_⟩
     try simp only [W,reduceIte,Bool.false_eq_true]
     refine FD h (fun hc h=> ?_) (fun hc h=> ?_)
     ·try simp only [W,hc]
      refine Ez Ir ?_;refine Ey ?_;exact E_ Im ⟨_,(Option.some.inj h).symm,rfl,(hS.Fz 2 [1] (by decide))⟩
     ·try simp only [W,Hf,Nat.reduceAdd,Nat.reduceBEq,hS.var 0 rfl,hS.var 1 rfl,hc]
      refine F6 (bS:=[[.sc]]) (ys:=[.fz (a0.Told.map (AV.int .i64)),.int .i64 Io.Id]) h rfl (by rfl) fun Lc TZ h=>⟨.bool Lc,Xy TZ (aA.nil _) fun H hS=>F2 rfl (FY rfl (FX rfl)),⟨rfl,rfl,fun _=>rfl⟩,?_⟩
      try simp only [W,reduceIte,Bool.false_eq_true]
      refine FD h (fun hc h=> ?_) (fun hc h=> ?_)
      ·try simp only [W,hc]
       refine Ez Ir ?_;refine Ey ?_;exact E_ Im ⟨_,(Option.some.inj h).symm,rfl,(hS.Fz 2 [1] (by decide))⟩
      ·try simp only [W,Hf,hc]
       refine FD h (fun hc h=> ?_) (fun hc h=> ?_)
       ·try simp only [W,Hf,Nat.reduceAdd,Nat.reduceBEq,hS.var 1 rfl,hc]
        refine EX rfl rfl rfl (fun _=>rfl) h fun KL XA h=> ?_;try simp only [W,Hf,HL,reduceIte,Nat.reduceAdd,Nat.reduceBEq,Bool.false_eq_true,hS.var 0 rfl]
        refine Ez Ir ?_;refine Ey ?_;exact E_ Im ⟨_,(Option.some.inj h).symm,rfl,(hS.Fz 2 [1] (by decide))⟩
       ·try simp only [W,reduceIte,Bool.false_eq_true,hc]
        refine Ez Ir ?_;refine Ey ?_;exact E_ Im ⟨_,(Option.some.inj h).symm,rfl,(hS.Fz 2 [1] (by decide))⟩
   ·obtain ⟨I_,Hr,rfl,hS⟩:=hq;obtain rfl:=Hr.symm;replace h:=UU;try dsimp only at h
    refine Ez I1 ?_;refine Ew ?_;simp only [W];refine EK h (fun hc h=> ?_) (fun hc h=> ?_)
    ·refine Er fun MJ I6=> ?_;refine EL gC ?_;try simp only [W,Nat.reduceAdd]
     refine Ez I6 ?_;refine Eu ?_;refine EF HQ ?_;refine EA HJ ?_;try obtain rfl:=Option.some.inj h
     obtain rfl:=XU _ rfl;have h:(some (LR.done false):Option (LR Unit (Bool)))=some (LR.done false):=rfl;refine E8 Iu ?_;refine EF H_ ?_;try obtain rfl:=Option.some.inj h
     obtain rfl:=Option.some.inj g14;have h:(some false:Option (Bool))=some false:=rfl;refine Fa HC ?_;refine EA Hv ?_;refine EH Hi rfl ?_;try obtain rfl:=Option.some.inj h
     exact hP _ (hS.Fz 1 [] (by decide))
    ·refine Et ?_;refine ED HQ ?_;refine Ez HJ ?_;refine EL gC ?_;try simp only [W,Hf,Nat.reduceAdd]
     exact E6 Iu h ⟨rfl,hS⟩
  ·refine Ev ?_;refine EB Ie ?_;try obtain rfl:=Option.some.inj h
   obtain rfl:=XU _ rfl;have h:(some (LR.next ()):Option (LR Unit (Bool)))=some (LR.next ()):=rfl
   refine E7 Iu ?_;refine EE H_ ?_;exact E_ HC ⟨(Option.some.inj h).symm,rfl,hS⟩
 ·obtain ⟨rfl,rfl,hS⟩:=hq;replace h:=g14;try dsimp only at h
  refine Ez Hv ?_;refine Er fun Rb J7=> ?_;refine EL gC ?_;try simp only [W,Hf,Nat.reduceAdd,Nat.reduceBEq,hS.var 0 rfl]
  refine FD h (fun hc h=> ?_) (fun hc h=> ?_)
  ·try simp only [W,Hf,reduceIte,Nat.reduceAdd,Nat.reduceBEq,hS.var 0 rfl,hc]
   refine FD h (fun hc h=> ?_) (fun hc h=> ?_)
   ·try simp only [W,Hf,Nat.reduceAdd,Nat.reduceBEq,hS.var 0 rfl,hc]
    refine E4 h fun Jh N_ h=> ?_;refine acE N_ hS fun H hS=> ?_;try simp only [W,reduceIte]
    refine Ez J7 ?_;refine Eu ?_;refine EH Hi rfl ?_;try obtain rfl:=Option.some.inj h
    exact hP _ (hS.Fz 1 [] (by decide))
   ·try simp only [W,hc]
    refine Ez J7 ?_;refine Eu ?_;refine EH Hi rfl ?_;try obtain rfl:=Option.some.inj h
    exact hP _ (hS.Fz 1 [] (by decide))
  ·try simp only [W,hc]
   refine Ez J7 ?_;refine Eu ?_;refine EH Hi rfl ?_;try obtain rfl:=Option.some.inj h
   exact hP _ (hS.Fz 1 [] (by decide))
theorem acG {a0:Ho} {a1:Part} {r:(Ho×List UInt8×Bool×Bool)} (h:NW a0 a1=some r) {F:List It} {H:J} (hS:aA H (F)) {P:AV→J→Prop} (hP: ∀Vb:AV,bj Vb→ ∀v40:AV,bj v40→ ∀H',aA H' (⟨Vb,4,r.1.Hg.map Hp⟩::⟨v40,1,r.1.Told.map (AV.int .i64)⟩::F)→P (.aD [.agg [Vb,v40],.str r.2.1,.bool r.2.2.1,.bool r.2.2.2]) H'):aq C 18 [.agg [.fz (a0.Hg.map Hp),.fz (a0.Told.map (AV.int .i64))],.agg [.int .i64 a1.Id,.int .i64 a1.At,.int .i64 a1.Hh,.str a1.Text]] H P:=by
 refine EO gC (res:=[.cell 4 28,.tmp 5,.tmp 6,.tmp 7]) (n:=37) rfl rfl rfl rfl fun K0 Hi=> ?_;simp only [W,Nat.reduceSub,Nat.reduceAdd,List.replicate];unfold NW at h;refine Er fun K1 Hq=> ?_;refine EL gC ?_;try simp only [W,Nat.reduceAdd]
 refine ES hS rfl rfl rfl rfl fun Hm Hn H hS=> ?_;try simp only [W]
 refine ES hS rfl rfl rfl rfl fun Hw Hy H hS=> ?_;try simp only [W]
 refine ET hS rfl rfl fun Hz HA H hS=> ?_;try simp only [W]
 refine Ez Hq ?_;refine Er fun K8 HS=> ?_;refine Er fun K9 HC=> ?_;obtain ⟨LO,h,g12⟩:=Option.bind_eq_some_iff.1 h;refine E9 gC (fun s H=> ∃HO:Bool,LO=(HO)∧s=[u,u,.ptr Hm Hn 0 0,.ptr Hw Hy 0 0,.ptr Hz HA 0 0,u,u,u,u,u,u,u,u,u,u,u,u,u,u,.bool HO,u,u,u,u,u,u,u,u,u,u,u,u,u,u,u,u,u]∧aA H (⟨.ptr Hm Hn 0 0,2,[.agg [.fz (a0.Hg.map Hp),.fz (a0.Told.map (AV.int .i64))]]⟩::⟨.ptr Hw Hy 0 0,4,[.agg [.int .i64 a1.Id,.int .i64 a1.At,.int .i64 a1.Hh,.str a1.Text]]⟩::⟨.ptr Hz HA 0 0,2,[.agg [.nil,.nil]]⟩::F)) (fun JS Ig=> ?_) (fun s H hq=> ?_)
 ·refine Er fun J3 HZ=> ?_;refine EL gC ?_;try simp only [W,Hf,reduceIte,Nat.reduceAdd,Nat.reduceLeDiff,hS.var 2 rfl]
  refine E4 h fun KJ Og h=> ?_;refine XT Og hS fun H hS=> ?_;try simp only [W]
  refine FD h (fun hc h=> ?_) (fun hc h=> ?_)
  ·try simp only [W,hc]
   refine Ez HZ ?_;refine Ey ?_;exact E_ Ig ⟨_,(Option.some.inj h).symm,rfl,(hS.Fz 3 [2,1,0] (by decide))⟩
  ·try simp only [W,Hf,reduceIte,Nat.reduceAdd,Nat.reduceLeDiff,hS.var 1 rfl,hc]
   refine E4 h fun Ms Rc h=> ?_;refine Xx Rc hS fun H hS=> ?_;try simp only [W,reduceIte,Bool.false_eq_true]
   refine Ez HZ ?_;refine Ey ?_;exact E_ Ig ⟨_,(Option.some.inj h).symm,rfl,(hS.Fz 3 [2,1,0] (by decide))⟩
 ·obtain ⟨HO,Hr,rfl,hS⟩:=hq;obtain rfl:=Hr.symm;replace h:=g12;try dsimp only at h
  refine Ez HC ?_;refine Ew ?_;simp only [W];refine EK h (fun hc h=> ?_) (fun hc h=> ?_)
  ·refine Er fun Jb HJ=> ?_;refine EL gC ?_;try simp only [W,Hf,Nat.reduceAdd]
   refine FE rfl rfl rfl rfl rfl ?_;try simp only [W]
   refine EU (a:= .agg [.nil,.nil]) (y' := .agg [.nil,.nil]) 2 hS rfl rfl rfl rfl rfl rfl rfl rfl fun H hS=> ?_
   try simp only [W]
   refine Ez HJ ?_;refine Eu ?_;refine EA HS ?_;refine EG Hi (FB rfl rfl (hS.var 2 rfl) rfl (FC rfl (FC rfl (FC rfl rfl)))) ?_;try obtain rfl:=Option.some.inj h
   exact hP _ rL _ rL _ (((hS.Fl 1).Fl 4).Fz 5 [0,1] (by decide))
  ·refine Et ?_;refine Ez HS ?_;refine Er fun Jp HQ=> ?_;refine FF gC [(10,[6,7,8])] (by kernel_rfl) rfl (by kernel_rfl) ?_
   try simp only [W,Hf,reduceIte,Nat.reduceAdd,Nat.reduceLeDiff,hS.var 0 rfl,jT,mV,Nat.reduceEqDiff]
   refine F8 (bS:=[[.sl [.sc,.sc,.sc,.sl [.sc,.sc]],.sl [.sc]]]) (ys:=[.agg [.fz (a0.Hg.map Hp),.fz (a0.Told.map (AV.int .i64))]]) h rfl (by rfl) fun IE Mu h=>⟨.agg [.own 4 (IE.Hg.map Hp),.own 1 (IE.Told.map (AV.int .i64))],U5 Mu (aA.nil _) fun v20 Kk v21 QY H hS=>F2 rfl (F1 (Fu 0 hS rfl Kk (fun _ _=>by simp [a8,aT,cE,dT,Hp]) fun H hS=>Fu 0 hS rfl QY (fun _ _=>by simp [a8,aT,dT]) fun H hS=>Fp (FX rfl))),?_⟩
   simp only [W,xn (c:=(AV.int .i64)) (fun _=>rfl),xn (c:=Hp) (fun _=>rfl)];try simp only [W,Hf,reduceIte,Nat.reduceAdd,Nat.reduceLeDiff,hS.var 1 rfl]
   refine F8 (bS:=[[.sl [.sc,.sc,.sc,.sl [.sc,.sc]],.sl [.sc]],[.sc],[.sc],[.sc]]) (ys:=[.agg [.fz (IE.Hg.map Hp),.fz (IE.Told.map (AV.int .i64))],.agg [.int .i64 a1.Id,.int .i64 a1.At,.int .i64 a1.Hh,.str a1.Text]]) h rfl (by rfl) fun Ju SU h=>⟨.aD [.agg [.fz (Ju.1.Hg.map Hp),.fz (Ju.1.Told.map (AV.int .i64))],.str Ju.2.1,.bool Ju.2.2.1,.bool Ju.2.2.2],XE SU (aA.nil _) fun H hS=>F2 rfl (F1 (Fs (Fs (Fp (FY rfl (FY rfl (FY rfl (FX rfl)))))))),?_⟩
   simp only [W];obtain ⟨Jx,Kq,Kr,Lw⟩:=Ju;try dsimp only at h
   try simp only
   refine ET hS rfl rfl fun agV agW H hS=> ?_;try simp only [W]
   refine EU (a:= .agg [.fz (Jx.Hg.map Hp),.fz (Jx.Told.map (AV.int .i64))]) (y' := .agg [.fz (Jx.Hg.map Hp),.fz (Jx.Told.map (AV.int .i64))]) 0 hS rfl rfl rfl rfl rfl rfl rfl rfl fun H hS=> ?_
   refine FG ?_;refine FH (by first|rfl|(simp [fJ,aQ,cS,lenOf,W,Hf,HL,bY,kR,aB,AV.cells,hS.var 0 rfl,hS.var 1 rfl,hS.var 2 rfl,hS.var 3 rfl];done)) ?_
   refine FH (by first|rfl|(simp [fJ,aQ,cS,lenOf,W,Hf,HL,bY,kR,aB,AV.cells,hS.var 0 rfl,hS.var 1 rfl,hS.var 2 rfl,hS.var 3 rfl];done)) ?_
   refine FH (by first|rfl|(simp [fJ,aQ,cS,lenOf,W,Hf,HL,bY,kR,aB,AV.cells,hS.var 0 rfl,hS.var 1 rfl,hS.var 2 rfl,hS.var 3 rfl];done)) ?_
   refine FI ?_;try simp only [W]
   refine Ez HQ ?_;refine Er fun L7 IP=> ?_;refine Er fun L_ I2=> ?_;refine EL gC ?_;try simp only [W,Nat.reduceAdd]
   refine Ez I2 ?_;refine Ew ?_;simp only [W];refine EK h (fun hc h=> ?_) (fun hc h=> ?_)
   ·refine Er fun Lf IQ=> ?_;refine EL gC ?_;try simp only [W,Hf,Nat.reduceAdd]
    refine FE rfl rfl rfl rfl rfl ?_;try simp only [W]
    refine EU (a:= .agg [.nil,.nil]) (y' := .agg [.nil,.nil]) 3 hS rfl rfl rfl rfl rfl rfl rfl rfl fun H hS=> ?_
    try simp only [W]
    refine Ez IQ ?_;refine Eu ?_;refine EA IP ?_;refine EG Hi (FB rfl rfl (hS.var 3 rfl) rfl (FC rfl (FC rfl (FC rfl rfl)))) ?_;try obtain rfl:=Option.some.inj h
    exact hP _ rL _ rL _ (((hS.Fl 1).Fl 4).Fz 6 [0,1] (by decide))
   ·refine Et ?_;refine Ez IP ?_;refine Er fun Ma I3=> ?_;refine EL gC ?_;try simp only [W,Hf,reduceIte,Nat.reduceAdd,Nat.reduceLeDiff,hS.var 0 rfl]
    refine E4 h fun LF R8 h=> ?_;refine U5 R8 hS fun Rj Ov Oq SL H hS=> ?_;try simp only [W]
    refine EU (a:= .agg [Rj,Oq]) (y' := .agg [Rj,Oq]) 5 hS rfl rfl rfl rfl rfl (by simp only [en,List.all_cons,List.all_nil,Ov.sw,SL.sw];rfl) rfl rfl fun H hS=> ?_
    try simp only [W]
    refine Ez I3 ?_;refine Eu ?_;refine EG Hi (FB rfl rfl (hS.var 5 rfl) rfl (FC rfl (FC rfl (FC rfl rfl)))) ?_;try obtain rfl:=Option.some.inj h
    exact hP _ Ov _ SL _ (hS.Fz 6 [0,1] (by decide))
theorem acH {a0:List Int} {a1:List Int} {r:(Bool)} (h:QT a0 a1=some r) {F:List It} {H:J} (hS:aA H (F)) {P:AV→J→Prop} (hP: ∀H',aA H' (F)→P (.bool r) H'):aq C 3 [.fz (a0.map (AV.int .u8)),.fz (a1.map (AV.int .u8))] H P:=by
 refine EO gC (res:=[.tmp 4]) (n:=238) rfl rfl rfl rfl fun K0 Hi=> ?_;simp only [W,Nat.reduceSub,Nat.reduceAdd,List.replicate];unfold QT at h;refine Er fun K1 Hq=> ?_;refine EL gC ?_;try simp only [W,Nat.reduceAdd]
 refine Ez Hq ?_;refine Er fun K2 Cu=> ?_;refine Er fun K3 HY=> ?_;refine EL gC ?_;try simp only [W,Hf,Nat.reduceAdd]
 refine Ez HY ?_;refine Ew ?_;simp only [W];refine EK h (fun hc h=> ?_) (fun hc h=> ?_)
 ·refine Er fun K4 Hv=> ?_;refine EL gC ?_;try simp only [W,Nat.reduceAdd]
  refine Ez Hv ?_;refine Eu ?_;refine EA Cu ?_;refine EH Hi rfl ?_;try obtain rfl:=Option.some.inj h
  exact hP _ hS
 ·refine Et ?_;refine Ez Cu ?_;refine Er fun K5 H9=> ?_;refine EL gC ?_;try simp only [W,Nat.reduceAdd]
  refine E4 h fun Ip LK h=> ?_;refine aay LK hS fun agX qv7 H hS=> ?_;try simp only [W]
  refine Ez H9 ?_;refine Er fun K9 HC=> ?_;refine EM (fz:=[(1,[([45,5,43],[.sl [.sc,.sc,.sc,.sc]])])]) gC ?_;try simp only [W,Nat.reduceAdd,Nat.reduceBEq]
  refine Fo 0 hS rfl qv7 rfl (fun _ _=>by simp [a8,aT,cE,dT,HP]) (fun _=>rfl) fun H uq hS=> ?_
  simp only [W,uq,if_true];try simp only [W,Hf,HL,reduceIte,Nat.reduceAdd,Nat.reduceLeDiff,Nat.reduceBEq,Nat.reduceMul,Bool.false_eq_true]
  refine E4 h fun Jm L5 h=> ?_;obtain ⟨If,Iw,Kw⟩:=Jm;try dsimp only at h
  refine UJ L5 hS fun IX J6 IZ Jk Li Np H hS=> ?_;try simp only [W,Nat.reduceAdd,Nat.reduceBEq]
  refine ET hS rfl rfl fun Me Mf H hS=> ?_;try simp only [W,Nat.reduceAdd,Nat.reduceBEq]
  refine EU (a:= .agg [IX,IZ]) (y' := .agg [IX,IZ]) 0 hS rfl rfl rfl rfl rfl (by simp only [en,List.all_cons,List.all_nil,J6.sw,Jk.sw];rfl) rfl rfl fun H hS=> ?_
  try simp only [W,Nat.reduceAdd,Nat.reduceBEq]
  refine Ez HC ?_;refine Er fun N5 JH=> ?_;refine EL gC ?_;try simp only [W,Nat.reduceAdd]
  refine E4 h fun Jx Pt h=> ?_;obtain ⟨Kq,Kr,Lw⟩:=Jx;try dsimp only at h
  refine XK Pt hS fun Mc Oh Mw Ni v31 PF H hS=> ?_;try simp only [W]
  refine ET hS rfl rfl fun agY agZ H hS=> ?_;try simp only [W]
  refine EU (a:= .agg [Mc,Mw]) (y' := .agg [Mc,Mw]) 0 hS rfl rfl rfl rfl rfl (by simp only [en,List.all_cons,List.all_nil,Oh.sw,Ni.sw];rfl) rfl rfl fun H hS=> ?_
  try simp only [W]
  refine Ez JH ?_;refine Er fun Nn I5=> ?_;refine Er fun Mx IY=> ?_;obtain ⟨y38,h,g39⟩:=Option.bind_eq_some_iff.1 h;refine E9 gC (fun s H=> ∃QU:Bool,y38=(QU)∧s=(.fz (a0.map (AV.int .u8)):: .fz (a1.map (AV.int .u8))::u::u::u:: .fz (Ip.map HP):: .ptr Me Mf 0 0::Li:: .bool Kw::u::u::u::u::u::u::u::u::u::u::u::u::u::u::u::u::u::u::u::u::u::u::u::u::u::u::u::u::u::u::u::u::u::u::u::u::u::u::u::u::u::u::u::u::u::u::u::u::u::u::u::u::u::u::u::u::u::u::u::u::u:: .bool QU::u::u::u::u::u::u::u::u::u::u::u::u::u::u::u::u::u::u::u::u::u::u::u::u::u::u::u::u::u::u::u::u::u::u::u::u::u::u::u::u::u::u::u::u::u::u::u::u::u::u::u::u::u::u::u::u::u::u::u::u::u::u::u::u::u::u::u::u::u::u::u::u::u::u::u::u::u::u::u::u::u::u::u::u::u::u::u::u::u::u::u::u::u::u::u::u::u::u::u::u::u::u::u::u::u::u::u::u::u::u::u::u::u::u::u::u::u::u::u::u::u::u::u::u::u::u::u::u::u::u::u::u::u::u::u::u::u::u::u::u::u::u::u::u::u::u::u::u::u::u::u::u::u::u::u::u::u::u::u::u::u::u::u::u::u::u::u::[])∧aA H (⟨Li,1,Iw.map AV.str⟩::⟨IX,4,If.Hg.map Hp⟩::⟨IZ,1,If.Told.map (AV.int .i64)⟩::⟨.ptr Me Mf 0 0,2,[.agg [IX,IZ]]⟩::F)) (fun Rb J7=> ?_) (fun s H hq=> ?_)
  ·refine Er fun Ur Mb=> ?_;refine EL gC ?_;try simp only [W,Hf,Nat.reduceAdd]
   rw [ER _ _ _ _ (h:=rfl) rfl,vK];try simp only [W]
   refine FD h (fun hc h=> ?_) (fun hc h=> ?_)
   ·try simp only [W,hc]
    refine Ez Mb ?_;refine Gw (s' :=(.fz (a0.map (AV.int .u8)):: .fz (a1.map (AV.int .u8))::u::u::u:: .fz (Ip.map HP):: .ptr Me Mf 0 0::Li:: .bool Kw::u::u::u::u::u::u::u::u::u::u::u::u::u::u::u::u::u::u::u::u::u::u::u::u::u::u::u::u::u::u::u::u::u::u::u::u::u::u::u::u::u::u::u::u::u::u::u::u::u::u::u::u::u::u::u::u::u::u::u::u::u:: .bool true::u::u::u::u::u::u::u::u::u::u::u::u::u::u::u::u::u::u::u::u::u::u::u::u::u::u::u::u::u::u::u::u::u::u::u::u::u::u::u::u::u::u::u::u::u::u::u::u::u::u::u::u::u::u::u::u::u::u::u::u::u::u::u::u::u::u::u::u::u::u::u::u::u::u::u::u::u::u::u::u::u::u::u::u::u::u::u::u::u::u::u::u::u::u::u::u::u::u::u::u::u::u::u::u::u::u::u::u::u::u::u::u::u::u::u::u::u::u::u::u::u::u::u::u::u::u::u::u::u::u::u::u::u::u::u::u::u::u::u::u::u::u::u::u::u::u::u::u::u::u::u::u::u::u::u::u::u::u::u::u::u::u::u::u::u::u::u::[])) rfl ?_
    exact E_ J7 ⟨_,(Option.some.inj h).symm,rfl,(hS.Fz 8 [7,5,6,4] (by decide))⟩
   ·try simp only [W,hc]
    refine F6 (bS:=[[.sc]]) (ys:=[.fz (Iw.map AV.str),.fz (Kr.map AV.str)]) h rfl (FW (FQ hS 7 rfl Np (fun _=>rfl)) (FW (FQ hS 3 rfl PF (fun _=>rfl)) FU)) fun Tw acI h=>⟨.bool Tw,XP acI (aA.nil _) fun H hS=>F2 rfl (FY rfl (FX rfl)),⟨rfl,rfl,fun _=>rfl⟩,?_⟩;try simp only [W,reduceIte,Bool.false_eq_true]
    refine FD h (fun hc h=> ?_) (fun hc h=> ?_)
    ·try simp only [W,hc]
     refine Ez Mb ?_;refine Gw (s' :=(.fz (a0.map (AV.int .u8)):: .fz (a1.map (AV.int .u8))::u::u::u:: .fz (Ip.map HP):: .ptr Me Mf 0 0::Li:: .bool Kw::u::u::u::u::u::u::u::u::u::u::u::u::u::u::u::u::u::u::u::u::u::u::u::u::u::u::u::u::u::u::u::u::u::u::u::u::u::u::u::u::u::u::u::u::u::u::u::u::u::u::u::u::u::u::u::u::u::u::u::u::u:: .bool true::u::u::u::u::u::u::u::u::u::u::u::u::u::u::u::u::u::u::u::u::u::u::u::u::u::u::u::u::u::u::u::u::u::u::u::u::u::u::u::u::u::u::u::u::u::u::u::u::u::u::u::u::u::u::u::u::u::u::u::u::u::u::u::u::u::u::u::u::u::u::u::u::u::u::u::u::u::u::u::u::u::u::u::u::u::u::u::u::u::u::u::u::u::u::u::u::u::u::u::u::u::u::u::u::u::u::u::u::u::u::u::u::u::u::u::u::u::u::u::u::u::u::u::u::u::u::u::u::u::u::u::u::u::u::u::u::u::u::u::u::u::u::u::u::u::u::u::u::u::u::u::u::u::u::u::u::u::u::u::u::u::u::u::u::u::u::u::[])) rfl ?_
     exact E_ J7 ⟨_,(Option.some.inj h).symm,rfl,(hS.Fz 8 [7,5,6,4] (by decide))⟩
    ·try simp only [W,Hf,reduceIte,Nat.reduceAdd,Nat.reduceLeDiff,hS.var 4 rfl,hS.var 0 rfl,hc]
     refine F6 (bS:=[[.sc]]) (ys:=[.agg [.fz (If.Hg.map Hp),.fz (If.Told.map (AV.int .i64))],.agg [.fz (Kq.Hg.map Hp),.fz (Kq.Told.map (AV.int .i64))]]) h rfl (FW (FP (CX (FQ hS 5 rfl J6 (fun _=>rfl)) (CX (FQ hS 6 rfl Jk (fun _=>rfl)) (FO _)))) (FW (FP (CX (FQ hS 1 rfl Oh (fun _=>rfl)) (CX (FQ hS 2 rfl Ni (fun _=>rfl)) (FO _)))) FU)) fun JF UX h=>⟨.bool JF,XQ UX (aA.nil _) fun H hS=>F2 rfl (FY rfl (FX rfl)),⟨rfl,rfl,fun _=>rfl⟩,?_⟩;try simp only [W,reduceIte,Bool.false_eq_true]
     refine Ez Mb ?_;refine Gw (s' :=(.fz (a0.map (AV.int .u8)):: .fz (a1.map (AV.int .u8))::u::u::u:: .fz (Ip.map HP):: .ptr Me Mf 0 0::Li:: .bool Kw::u::u::u::u::u::u::u::u::u::u::u::u::u::u::u::u::u::u::u::u::u::u::u::u::u::u::u::u::u::u::u::u::u::u::u::u::u::u::u::u::u::u::u::u::u::u::u::u::u::u::u::u::u::u::u::u::u::u::u::u::u:: .bool (!JF)::u::u::u::u::u::u::u::u::u::u::u::u::u::u::u::u::u::u::u::u::u::u::u::u::u::u::u::u::u::u::u::u::u::u::u::u::u::u::u::u::u::u::u::u::u::u::u::u::u::u::u::u::u::u::u::u::u::u::u::u::u::u::u::u::u::u::u::u::u::u::u::u::u::u::u::u::u::u::u::u::u::u::u::u::u::u::u::u::u::u::u::u::u::u::u::u::u::u::u::u::u::u::u::u::u::u::u::u::u::u::u::u::u::u::u::u::u::u::u::u::u::u::u::u::u::u::u::u::u::u::u::u::u::u::u::u::u::u::u::u::u::u::u::u::u::u::u::u::u::u::u::u::u::u::u::u::u::u::u::u::u::u::u::u::u::u::u::[])) rfl ?_
     exact E_ J7 ⟨_,(Option.some.inj h).symm,rfl,(hS.Fz 8 [7,5,6,4] (by decide))⟩
  ·obtain ⟨QU,Hr,rfl,hS⟩:=hq;obtain rfl:=Hr.symm;replace h:=g39;try dsimp only at h
   refine Ez IY ?_;refine Ew ?_;simp only [W];refine EK h (fun hc h=> ?_) (fun hc h=> ?_)
   ·refine Er fun XC PN=> ?_;refine EL gC ?_;try simp only [W,Nat.reduceAdd]
    refine Ez PN ?_;refine Eu ?_;refine EA I5 ?_;refine EH Hi rfl ?_;try obtain rfl:=Option.some.inj h
    exact hP _ (hS.Fz 4 [] (by decide))
   ·refine Et ?_;refine Ez I5 ?_;refine Er fun Q9 Kz=> ?_;refine Er fun Xa Oe=> ?_;refine EL gC ?_;try simp only [W,Nat.reduceAdd]
    refine Ez Oe ?_;obtain ⟨Oi,h,Oj⟩:=Option.bind_eq_some_iff.1 h;refine E9 gC (fun s H=>Oi=LR.next ()∧s=(.fz (a0.map (AV.int .u8)):: .fz (a1.map (AV.int .u8))::u::u::u::u::u::u::u::u::u::u::u::u::u::u::u::u::u::u::u::u::u::u::u::u::u::u::u::u::u::u::u::u::u::u::u::u::u::u::u::u::u::u::u::u::u::u::u::u::u::u::u::u::u::u::u::u::u::u::u::u::u::u::u::u::u::u::u::u::u::u::u::u::u::u::u::u::u::u::u::u::u::u::u::u::u::u::u::u::u::u::u::u::u::u::u::u::u::u::u::u::u::u::u::u::u::u::u::u::u::u::u::u::u::u::u::u::u::u::u::u::u::u::u::u::u::u::u::u::u::u::u::u::u::u::u::u::u::u::u::u::u::u::u::u::u::u::u::u::u::u::u::u::u::u::u::u::u::u::u::u::u::u::u::u::u::u::u::u::u::u::u::u::u::u::u::u::u::u::u::u::u::u::u::u::u::u::u::u::u::u::u::u::u::u::u::u::u::u::u::u::u::u::u::u::u::u::u::u::u::u::u::u::u::u::u::u::u::u::u::u::u::u::u::u::u::u::u::u::u::u::u::u::u::u::u::u::[])∧aA H (F)) (fun My I4=> ?_) (fun s H hq=> ?_)
    ·refine Er fun Pw JJ=> ?_;refine Ew ?_;simp only [W];refine EK h (fun hc h=> ?_) (fun hc h=> ?_)
     ·refine Er fun XB Ot=> ?_;refine Er fun K52 Uw=> ?_;obtain ⟨UY,h,UZ⟩:=Option.bind_eq_some_iff.1 h;refine E9 gC (fun s H=> ∃LC:Bool,UY=(LC)∧s=(.fz (a0.map (AV.int .u8)):: .fz (a1.map (AV.int .u8))::u::u::u:: .fz (Ip.map HP)::u::Li::u::u::u::u::u::u::u::u::u::u::u::u::u::u::u::u::u::u::u::u::u::u::u::u::u::u::u::u::u::u::u::u::u::u::u::u::u::u::u::u::u::u::u::u::u::u::u::u::u::u::u::u::u::u::u::u::u::u::u::u::u::u::u::u::u::u::u::u::u::u::u::u::u::u:: .bool LC::u::u::u::u::u::u::u::u::u::u::u::u::u::u::u::u::u::u::u::u::u::u::u::u::u::u::u::u::u::u::u::u::u::u::u::u::u::u::u::u::u::u::u::u::u::u::u::u::u::u::u::u::u::u::u::u::u::u::u::u::u::u::u::u::u::u::u::u::u::u::u::u::u::u::u::u::u::u::u::u::u::u::u::u::u::u::u::u::u::u::u::u::u::u::u::u::u::u::u::u::u::u::u::u::u::u::u::u::u::u::u::u::u::u::u::u::u::u::u::u::u::u::u::u::u::u::u::u::u::u::u::u::u::u::u::u::u::u::u::u::u::u::u::u::u::u::u::u::u::u::u::u::u::u::u::[])∧aA H (⟨Li,1,Iw.map AV.str⟩::F)) (fun T8 LS=> ?_) (fun s H hq=> ?_)
      ·refine Er fun XG Ou=> ?_;refine EL gC ?_;try simp only [W,Hf,reduceIte,Nat.reduceAdd,Nat.reduceLeDiff,hS.var 3 rfl]
       refine F6 (bS:=[[.sc]]) (ys:=[.agg [.fz (If.Hg.map Hp),.fz (If.Told.map (AV.int .i64))]]) h rfl (FW (FP (CX (FQ hS 1 rfl J6 (fun _=>rfl)) (CX (FQ hS 2 rfl Jk (fun _=>rfl)) (FO _)))) FU) fun IN SO h=>⟨.bool IN,PB SO (aA.nil _) fun H hS=>F2 rfl (FY rfl (FX rfl)),⟨rfl,rfl,fun _=>rfl⟩,?_⟩;try simp only [W]
       refine FD h (fun hc h=> ?_) (fun hc h=> ?_)
       ·try simp only [W,hc]
        refine Ez Ou ?_;refine Gw (s' :=(.fz (a0.map (AV.int .u8)):: .fz (a1.map (AV.int .u8))::u::u::u:: .fz (Ip.map HP)::u::Li::u::u::u::u::u::u::u::u::u::u::u::u::u::u::u::u::u::u::u::u::u::u::u::u::u::u::u::u::u::u::u::u::u::u::u::u::u::u::u::u::u::u::u::u::u::u::u::u::u::u::u::u::u::u::u::u::u::u::u::u::u::u::u::u::u::u::u::u::u::u::u::u::u::u:: .bool true::u::u::u::u::u::u::u::u::u::u::u::u::u::u::u::u::u::u::u::u::u::u::u::u::u::u::u::u::u::u::u::u::u::u::u::u::u::u::u::u::u::u::u::u::u::u::u::u::u::u::u::u::u::u::u::u::u::u::u::u::u::u::u::u::u::u::u::u::u::u::u::u::u::u::u::u::u::u::u::u::u::u::u::u::u::u::u::u::u::u::u::u::u::u::u::u::u::u::u::u::u::u::u::u::u::u::u::u::u::u::u::u::u::u::u::u::u::u::u::u::u::u::u::u::u::u::u::u::u::u::u::u::u::u::u::u::u::u::u::u::u::u::u::u::u::u::u::u::u::u::u::u::u::u::u::[])) rfl ?_
        exact E_ LS ⟨_,(Option.some.inj h).symm,rfl,(hS.Fz 4 [0] (by decide))⟩
       ·try simp only [W,Hf,Nat.reduceAdd,Nat.reduceBEq,hS.var 3 rfl,hc]
        refine E1 2 hS rfl Jk rfl ?_;try simp only [W,Hf]
        refine E1 0 hS rfl Np rfl ?_;try simp only [W,Hf,reduceIte,Bool.false_eq_true]
        refine Ez Ou ?_;refine Gw (s' :=(.fz (a0.map (AV.int .u8)):: .fz (a1.map (AV.int .u8))::u::u::u:: .fz (Ip.map HP)::u::Li::u::u::u::u::u::u::u::u::u::u::u::u::u::u::u::u::u::u::u::u::u::u::u::u::u::u::u::u::u::u::u::u::u::u::u::u::u::u::u::u::u::u::u::u::u::u::u::u::u::u::u::u::u::u::u::u::u::u::u::u::u::u::u::u::u::u::u::u::u::u::u::u::u::u:: .bool ((If.Told.length:Int) !=(Iw.length:Int))::u::u::u::u::u::u::u::u::u::u::u::u::u::u::u::u::u::u::u::u::u::u::u::u::u::u::u::u::u::u::u::u::u::u::u::u::u::u::u::u::u::u::u::u::u::u::u::u::u::u::u::u::u::u::u::u::u::u::u::u::u::u::u::u::u::u::u::u::u::u::u::u::u::u::u::u::u::u::u::u::u::u::u::u::u::u::u::u::u::u::u::u::u::u::u::u::u::u::u::u::u::u::u::u::u::u::u::u::u::u::u::u::u::u::u::u::u::u::u::u::u::u::u::u::u::u::u::u::u::u::u::u::u::u::u::u::u::u::u::u::u::u::u::u::u::u::u::u::u::u::u::u::u::u::u::[])) rfl ?_
        exact E_ LS ⟨_,(Option.some.inj h).symm,rfl,(hS.Fz 4 [0] (by decide))⟩
      ·obtain ⟨LC,Hr,rfl,hS⟩:=hq;obtain rfl:=Hr.symm;replace h:=UZ;try dsimp only at h
       refine Ez Uw ?_;refine Ew ?_;simp only [W];refine EK h (fun hc h=> ?_) (fun hc h=> ?_)
       ·refine Er fun UA MO=> ?_;refine EL gC ?_;try simp only [W,Nat.reduceAdd]
        refine Ez MO ?_;refine Eu ?_;refine EA Ot ?_;refine EA JJ ?_;try obtain rfl:=Option.some.inj h
        obtain rfl:=Option.some.inj Oj;have h:(some false:Option (Bool))=some false:=rfl;refine Fa I4 ?_;refine EA Kz ?_;refine EH Hi rfl ?_;try obtain rfl:=Option.some.inj h
        exact hP _ (hS.Fz 1 [] (by decide))
       ·refine Et ?_;refine Ez Ot ?_;refine Er fun W5 PC=> ?_;refine EM (fz:=[(5,[([88],[.sl [.sc,.sc,.sc,.sc]])])]) gC ?_;try simp only [W,Nat.reduceAdd,Nat.reduceBEq]
        refine E2 rfl rfl ?_;try simp only [W,Hf,Nat.reduceAdd,Nat.reduceBEq]
        have hS:=hS.CS 4;refine Fk (l:=([]:List Part)) (c:=HP) 0 hS rfl oR rfl rfl rfl rfl (fun _=>rfl) rfl h fun v65 H Tx UF hm h hS=> ?_;try simp only [W,Hf,Nat.reduceAdd,Nat.reduceBEq]
        refine Fk (l:=Tx) (c:=HP) 0 hS rfl UF rfl rfl rfl rfl (fun _=>rfl) rfl h fun v68 H M5 acJ hm h hS=> ?_;try simp only [W,Nat.reduceAdd]
        refine Fo 0 hS rfl acJ rfl (fun _ _=>by simp [a8,aT,cE,dT,HP]) (fun _=>rfl) fun H uq hS=> ?_
        try simp only [W]
        refine E4 h fun b70 acK h=> ?_;obtain ⟨R4,NP,O2⟩:=b70;try dsimp only at h
        refine UJ acK hS fun XV XW v76 XX v78 KT H hS=> ?_;try simp only [W,Nat.reduceAdd,Nat.reduceBEq]
        refine ET hS rfl rfl fun ag0 ag1 H hS=> ?_;try simp only [W,Nat.reduceAdd,Nat.reduceBEq]
        refine EU (a:= .agg [XV,v76]) (y' := .agg [XV,v76]) 0 hS rfl rfl rfl rfl rfl (by simp only [en,List.all_cons,List.all_nil,XW.sw,XX.sw];rfl) rfl rfl fun H hS=> ?_
        try simp only [W,Nat.reduceAdd,Nat.reduceBEq]
        refine Ez PC ?_;refine Er fun UO MQ=> ?_;obtain ⟨y84,h,g85⟩:=Option.bind_eq_some_iff.1 h;refine E9 gC (fun s H=> ∃QV:Bool,y84=(QV)∧s=(.fz (a0.map (AV.int .u8)):: .fz (a1.map (AV.int .u8))::u::u::u::u::u::u::u::u::u::u::u::u::u::u::u::u::u::u::u::u::u::u::u::u::u::u::u::u::u::u::u::u::u::u::u::u::u::u::u::u::u::u::u::u::u::u::u::u::u::u::u::u::u::u::u::u::u::u::u::u::u::u::u::u::u::u::u::u::u::u::u::u::u::u::u::u::u::u::u::u::u::u::u::u::u::u::u::u::u::u::u::u::u::u::u::u::u::u::u::u::u::u::u::u::u::u::u::u::u::u::u::u:: .bool QV::u::u::u::u::u::u::u::u::u::u::u::u::u::u::u::u::u::u::u::u::u::u::u::u::u::u::u::u::u::u::u::u::u::u::u::u::u::u::u::u::u::u::u::u::u::u::u::u::u::u::u::u::u::u::u::u::u::u::u::u::u::u::u::u::u::u::u::u::u::u::u::u::u::u::u::u::u::u::u::u::u::u::u::u::u::u::u::u::u::u::u::u::u::u::u::u::u::u::u::u::u::u::u::u::u::u::u::u::u::u::u::u::u::u::u::u::u::u::u::u::u::u::u::[])∧aA H (F)) (fun K86 Om=> ?_) (fun s H hq=> ?_)
        ·refine Er fun Xs MP=> ?_;refine EL gC ?_;try simp only [W,Nat.reduceAdd]
         refine FD h (fun hc h=> ?_) (fun hc h=> ?_)
         ·try simp only [W,Hf,hc]
          refine E1 3 hS rfl KT rfl ?_;try simp only [W,Hf]
          refine E1 4 hS rfl Np rfl ?_;try simp only [W,Hf]
          refine FD h (fun hc h=> ?_) (fun hc h=> ?_)
          ·try simp only [W,reduceIte,hc]
           refine Ez MP ?_;refine Gw (s' :=(.fz (a0.map (AV.int .u8)):: .fz (a1.map (AV.int .u8))::u::u::u::u::u::u::u::u::u::u::u::u::u::u::u::u::u::u::u::u::u::u::u::u::u::u::u::u::u::u::u::u::u::u::u::u::u::u::u::u::u::u::u::u::u::u::u::u::u::u::u::u::u::u::u::u::u::u::u::u::u::u::u::u::u::u::u::u::u::u::u::u::u::u::u::u::u::u::u::u::u::u::u::u::u::u::u::u::u::u::u::u::u::u::u::u::u::u::u::u::u::u::u::u::u::u::u::u::u::u::u::u:: .bool true::u::u::u::u::u::u::u::u::u::u::u::u::u::u::u::u::u::u::u::u::u::u::u::u::u::u::u::u::u::u::u::u::u::u::u::u::u::u::u::u::u::u::u::u::u::u::u::u::u::u::u::u::u::u::u::u::u::u::u::u::u::u::u::u::u::u::u::u::u::u::u::u::u::u::u::u::u::u::u::u::u::u::u::u::u::u::u::u::u::u::u::u::u::u::u::u::u::u::u::u::u::u::u::u::u::u::u::u::u::u::u::u::u::u::u::u::u::u::u::u::u::u::u::[])) rfl ?_
           exact E_ Om ⟨_,(Option.some.inj h).symm,rfl,(hS.Fz 5 [] (by decide))⟩
          ·try simp only [W,Hf,hc]
           refine E1 4 hS rfl Np rfl ?_;try simp only [W,Hf]
           refine Fi 3 hS rfl KT rfl rfl rfl h fun SH Ty PJ ag2 h hS=> ?_;try simp only [W]
           refine F6 (bS:=[[.sc]]) (ys:=[.fz (Ty.map AV.str),.fz (Iw.map AV.str)]) h rfl (FW (FQ hS 3 rfl PJ (fun _=>rfl)) (FW (FQ hS 4 rfl Np (fun _=>rfl)) FU)) fun Pg Va h=>⟨.bool Pg,XP Va (aA.nil _) fun H hS=>F2 rfl (FY rfl (FX rfl)),⟨rfl,rfl,fun _=>rfl⟩,?_⟩;try simp only [W,reduceIte,Bool.false_eq_true]
           refine FD h (fun hc h=> ?_) (fun hc h=> ?_)
           ·try simp only [W,reduceIte,hc]
            refine Ez MP ?_;refine Gw (s' :=(.fz (a0.map (AV.int .u8)):: .fz (a1.map (AV.int .u8))::u::u::u::u::u::u::u::u::u::u::u::u::u::u::u::u::u::u::u::u::u::u::u::u::u::u::u::u::u::u::u::u::u::u::u::u::u::u::u::u::u::u::u::u::u::u::u::u::u::u::u::u::u::u::u::u::u::u::u::u::u::u::u::u::u::u::u::u::u::u::u::u::u::u::u::u::u::u::u::u::u::u::u::u::u::u::u::u::u::u::u::u::u::u::u::u::u::u::u::u::u::u::u::u::u::u::u::u::u::u::u::u:: .bool true::u::u::u::u::u::u::u::u::u::u::u::u::u::u::u::u::u::u::u::u::u::u::u::u::u::u::u::u::u::u::u::u::u::u::u::u::u::u::u::u::u::u::u::u::u::u::u::u::u::u::u::u::u::u::u::u::u::u::u::u::u::u::u::u::u::u::u::u::u::u::u::u::u::u::u::u::u::u::u::u::u::u::u::u::u::u::u::u::u::u::u::u::u::u::u::u::u::u::u::u::u::u::u::u::u::u::u::u::u::u::u::u::u::u::u::u::u::u::u::u::u::u::u::[])) rfl ?_
            exact E_ Om ⟨_,(Option.some.inj h).symm,rfl,(hS.Fz 5 [] (by decide))⟩
           ·try simp only [W,Hf,reduceIte,Nat.reduceAdd,Nat.reduceLeDiff,hS.var 0 rfl,hc]
            refine F6 (bS:=[[.sc]]) (ys:=[.agg [.fz (R4.Hg.map Hp),.fz (R4.Told.map (AV.int .i64))]]) h rfl (FW (FP (CX (FQ hS 1 rfl XW (fun _=>rfl)) (CX (FQ hS 2 rfl XX (fun _=>rfl)) (FO _)))) FU) fun NT U0 h=>⟨.bool NT,PB U0 (aA.nil _) fun H hS=>F2 rfl (FY rfl (FX rfl)),⟨rfl,rfl,fun _=>rfl⟩,?_⟩;try simp only [W,reduceIte,Bool.false_eq_true]
            refine Ez MP ?_;refine Gw (s' :=(.fz (a0.map (AV.int .u8)):: .fz (a1.map (AV.int .u8))::u::u::u::u::u::u::u::u::u::u::u::u::u::u::u::u::u::u::u::u::u::u::u::u::u::u::u::u::u::u::u::u::u::u::u::u::u::u::u::u::u::u::u::u::u::u::u::u::u::u::u::u::u::u::u::u::u::u::u::u::u::u::u::u::u::u::u::u::u::u::u::u::u::u::u::u::u::u::u::u::u::u::u::u::u::u::u::u::u::u::u::u::u::u::u::u::u::u::u::u::u::u::u::u::u::u::u::u::u::u::u::u:: .bool (!NT)::u::u::u::u::u::u::u::u::u::u::u::u::u::u::u::u::u::u::u::u::u::u::u::u::u::u::u::u::u::u::u::u::u::u::u::u::u::u::u::u::u::u::u::u::u::u::u::u::u::u::u::u::u::u::u::u::u::u::u::u::u::u::u::u::u::u::u::u::u::u::u::u::u::u::u::u::u::u::u::u::u::u::u::u::u::u::u::u::u::u::u::u::u::u::u::u::u::u::u::u::u::u::u::u::u::u::u::u::u::u::u::u::u::u::u::u::u::u::u::u::u::u::u::[])) rfl ?_
            exact E_ Om ⟨_,(Option.some.inj h).symm,rfl,(hS.Fz 5 [] (by decide))⟩
         ·try simp only [W,hc]
          refine Ez MP ?_;refine Gw (s' :=(.fz (a0.map (AV.int .u8)):: .fz (a1.map (AV.int .u8))::u::u::u::u::u::u::u::u::u::u::u::u::u::u::u::u::u::u::u::u::u::u::u::u::u::u::u::u::u::u::u::u::u::u::u::u::u::u::u::u::u::u::u::u::u::u::u::u::u::u::u::u::u::u::u::u::u::u::u::u::u::u::u::u::u::u::u::u::u::u::u::u::u::u::u::u::u::u::u::u::u::u::u::u::u::u::u::u::u::u::u::u::u::u::u::u::u::u::u::u::u::u::u::u::u::u::u::u::u::u::u::u:: .bool false::u::u::u::u::u::u::u::u::u::u::u::u::u::u::u::u::u::u::u::u::u::u::u::u::u::u::u::u::u::u::u::u::u::u::u::u::u::u::u::u::u::u::u::u::u::u::u::u::u::u::u::u::u::u::u::u::u::u::u::u::u::u::u::u::u::u::u::u::u::u::u::u::u::u::u::u::u::u::u::u::u::u::u::u::u::u::u::u::u::u::u::u::u::u::u::u::u::u::u::u::u::u::u::u::u::u::u::u::u::u::u::u::u::u::u::u::u::u::u::u::u::u::u::[])) rfl ?_
          exact E_ Om ⟨_,(Option.some.inj h).symm,rfl,(hS.Fz 5 [] (by decide))⟩
        ·obtain ⟨QV,Hr,rfl,hS⟩:=hq;obtain rfl:=Hr.symm;replace h:=g85;try dsimp only at h
         refine Ez MQ ?_;refine Ew ?_;simp only [W];refine EK h (fun hc h=> ?_) (fun hc h=> ?_)
         ·refine Er fun WA Py=> ?_;refine EL gC ?_;try simp only [W,Nat.reduceAdd]
          refine Ez Py ?_;refine Eu ?_;refine EA JJ ?_;try obtain rfl:=Option.some.inj h
          obtain rfl:=Option.some.inj Oj;have h:(some false:Option (Bool))=some false:=rfl;refine Fa I4 ?_;refine EA Kz ?_;refine EH Hi rfl ?_;try obtain rfl:=Option.some.inj h
          exact hP _ hS
         ·refine Et ?_;refine Ez JJ ?_;refine Gw (s' :=(.fz (a0.map (AV.int .u8)):: .fz (a1.map (AV.int .u8))::u::u::u::u::u::u::u::u::u::u::u::u::u::u::u::u::u::u::u::u::u::u::u::u::u::u::u::u::u::u::u::u::u::u::u::u::u::u::u::u::u::u::u::u::u::u::u::u::u::u::u::u::u::u::u::u::u::u::u::u::u::u::u::u::u::u::u::u::u::u::u::u::u::u::u::u::u::u::u::u::u::u::u::u::u::u::u::u::u::u::u::u::u::u::u::u::u::u::u::u::u::u::u::u::u::u::u::u::u::u::u::u::u::u::u::u::u::u::u::u::u::u::u::u::u::u::u::u::u::u::u::u::u::u::u::u::u::u::u::u::u::u::u::u::u::u::u::u::u::u::u::u::u::u::u::u::u::u::u::u::u::u::u::u::u::u::u::u::u::u::u::u::u::u::u::u::u::u::u::u::u::u::u::u::u::u::u::u::u::u::u::u::u::u::u::u::u::u::u::u::u::u::u::u::u::u::u::u::u::u::u::u::u::u::u::u::u::u::u::u::u::u::u::u::u::u::u::u::u::u::u::u::u::u::u::u::[])) rfl ?_
          exact E_ I4 ⟨(Option.some.inj h).symm,rfl,hS⟩
     ·refine Et ?_;refine Ez JJ ?_;refine Gw (s' :=(.fz (a0.map (AV.int .u8)):: .fz (a1.map (AV.int .u8))::u::u::u::u::u::u::u::u::u::u::u::u::u::u::u::u::u::u::u::u::u::u::u::u::u::u::u::u::u::u::u::u::u::u::u::u::u::u::u::u::u::u::u::u::u::u::u::u::u::u::u::u::u::u::u::u::u::u::u::u::u::u::u::u::u::u::u::u::u::u::u::u::u::u::u::u::u::u::u::u::u::u::u::u::u::u::u::u::u::u::u::u::u::u::u::u::u::u::u::u::u::u::u::u::u::u::u::u::u::u::u::u::u::u::u::u::u::u::u::u::u::u::u::u::u::u::u::u::u::u::u::u::u::u::u::u::u::u::u::u::u::u::u::u::u::u::u::u::u::u::u::u::u::u::u::u::u::u::u::u::u::u::u::u::u::u::u::u::u::u::u::u::u::u::u::u::u::u::u::u::u::u::u::u::u::u::u::u::u::u::u::u::u::u::u::u::u::u::u::u::u::u::u::u::u::u::u::u::u::u::u::u::u::u::u::u::u::u::u::u::u::u::u::u::u::u::u::u::u::u::u::u::u::u::u::u::[])) rfl ?_
      exact E_ I4 ⟨(Option.some.inj h).symm,rfl,(hS.Fz 4 [] (by decide))⟩
    ·obtain ⟨rfl,rfl,hS⟩:=hq;replace h:=Oj;try dsimp only at h
     refine Ez Kz ?_;refine Er fun K96 U1=> ?_;refine EL gC ?_;try simp only [W,Nat.reduceAdd]
     refine E4 h fun O8 UI h=> ?_;obtain ⟨QW,Nd⟩:=O8;try dsimp only at h
     refine acs UI hS fun H hS=> ?_;try simp only [W]
     refine Ez U1 ?_;refine Er fun ag3 acL=> ?_;refine EL gC ?_;try simp only [W,Nat.reduceAdd]
     refine E4 h fun NU U2 h=> ?_;obtain ⟨Le,R5⟩:=NU;try dsimp only at h
     refine acu U2 hS fun U3 Ln H hS=> ?_;try simp only [W]
     refine Ez acL ?_;refine Er fun abD SJ=> ?_;refine Er fun ag4 acM=> ?_;refine EL gC ?_;try simp only [W,Nat.reduceAdd]
     refine Ez acM ?_;obtain ⟨TQ,h,Se⟩:=Option.bind_eq_some_iff.1 h;refine E9 gC (fun s H=>TQ=LR.next ()∧s=(u:: .fz (a1.map (AV.int .u8))::u::u::u::u::u::u::u::u::u::u::u::u::u::u::u::u::u::u::u::u::u::u::u::u::u::u::u::u::u::u::u::u::u::u::u::u::u::u::u::u::u::u::u::u::u::u::u::u::u::u::u::u::u::u::u::u::u::u::u::u::u::u::u::u::u::u::u::u::u::u::u::u::u::u::u::u::u::u::u::u::u::u::u::u::u::u::u::u::u::u::u::u::u::u::u::u::u::u::u::u::u::u::u::u::u::u::u::u::u::u::u::u::u::u::u::u::u::u::u::u::u::u::u::u::u::u::u::u::u::u::u::u::u::u::u::u::u::u::u::u::u::u::u::u::u::u::u::u::u::u::u::u::u::u::u::u::u::u::u::u::u::u::u::u::u::u::u::u::u::u::u::u::u::u::u::u::u::u::u::u::u::u::u::u::u::u::u::u::u::u::u::u::u::u::u::u::u::u::u::u::u::u::u::u::u::u::u::u::u::u::u::u::u::u::u::u::u::u::u::u::u::u::u::u::u::u::u::u::u::u::u::u::u::u::u::u::[])∧aA H (F)) (fun WH Nj=> ?_) (fun s H hq=> ?_)
     ·refine Er fun ZV Pz=> ?_;refine Ew ?_;simp only [W];refine EK h (fun hc h=> ?_) (fun hc h=> ?_)
      ·refine Er fun ag5 acN=> ?_;refine EL gC ?_;try simp only [W,Nat.reduceAdd]
       refine E4 h fun M3 acO h=> ?_;refine acv acO hS fun H hS=> ?_;try simp only [W,Hf]
       refine E1 0 hS rfl Ln rfl ?_;try simp only [W,Hf]
       refine w_num _ h fun NX ag6 h=> ?_;try simp only [W]
       refine Ez acN ?_;refine Er fun ag7 acP=> ?_;refine EL gC ?_;try simp only [W,Nat.reduceAdd]
       refine Ez acP ?_;refine Er fun acf U4=> ?_;refine Er fun ag8 acQ=> ?_;refine EL gC ?_;try simp only [W,Hf,Nat.reduceAdd]
       refine E1 0 hS rfl Ln rfl ?_;try simp only [W]
       refine Ez acQ ?_;obtain ⟨acR,acS,acT⟩:=Option.bind_eq_some_iff.1 h;refine E9 gC (fun s H=> ∃NY:List Part,acR=(NY)∧ ∃SV:AV,bj SV∧s=(u:: .fz (a1.map (AV.int .u8))::u::u::u::u::u::u::u::u::u::u::u::u::u::u:: .str Nd::u::u::u::SV::u::u::u::u::u::u::u::u::u::u::u::u::u::u::u::u::u::u::u::u::u::u::u::u::u::u::u::u::u::u::u::u::u::u::u::u::u::u::u::u::u::u::u::u::u::u::u::u::u::u::u::u::u::u::u::u::u::u::u::u::u::u::u::u::u::u::u::u::u::u::u::u::u::u::u::u::u::u::u::u::u::u::u::u::u::u::u::u::u::u::u::u::u::u::u::u::u::u::u::u::u::u::u::u::u::u::u::u::u::u::u::u::u::u::u::u::u::u::u::u::u::u::u::u::u::u::u::u::u::u::u::u::u::u::u::u::u::u::u::u::u::u::u::u::u::u::u::u::u::u::u::u::u::u::u::u::u::u::u::u::u::u::u::u::u::u::u::u::u::u::u::u::u::u::u::u::u::u::u::u::u::u::u::u::u::u::u::u::u::u::u::u::u::u::u::u::u::u::u::u::u::u::u::u::u::u::u::u::u::u::u::u::u::u::u::u::u::[])∧aA H (⟨SV,4,NY.map HP⟩::F)) (fun ag9 acU=> ?_) (fun s H hq=> ?_)
       ·refine Es fun ag_ acV=> ?_;refine E5 gC acS (fun x s H=>match x with|(Kb,Po)=> ∃SX:AV,bj SX∧s=(u:: .fz (a1.map (AV.int .u8))::u::u::u::u::u::u::u::u::u::u::u::u::u::u:: .str Nd::U3::u:: .int .i64 NX::SX::u::u::u::u::u::u::u::u::u::u::u::u::u::u::u::u::u::u::u::u::u::u::u::u::u::u::u::u::u::u::u::u::u::u::u::u::u::u::u::u::u::u::u::u::u::u::u::u::u::u::u::u::u::u::u::u::u::u::u::u::u::u::u::u::u::u::u::u::u::u::u::u::u::u::u::u::u::u::u::u::u::u::u::u::u::u::u::u::u::u::u::u::u::u::u::u::u::u::u::u::u::u::u::u::u::u::u::u::u::u::u::u:: .int .i64 (Le.length:Int):: .int .i64 Po::u::u::u::u::u::u::u::u::u::u::u::u::u::u::u::u::u::u::u::u::u::u::u::u::u::u::u::u::u::u::u::u::u::u::u::u::u::u::u::u::u::u::u::u::u::u::u::u::u::u::u::u::u::u::u::u::u::u::u::u::u::u::u::u::u::u::u::u::u::u::u::u::u::u::u::u::u::u::u::u::u::u::u::u::u::u::u::u::u::u::u::u::u::u::u::u::u::u::u::u::u::u::u::[])∧aA H (⟨U3,4,Le.map HP⟩::⟨SX,4,Kb.map HP⟩::F)) ⟨_,rL,rfl,((hS.Fl 4).Fz 2 [1,0] (by decide))⟩ (fun x aha s H h acW hi ahb XY=> ?_)
        obtain ⟨Kb,Po⟩:=x;try dsimp only at hi
        obtain ⟨SX,XZ,rfl,hS⟩:=hi;simp only [QS] at h;refine Er fun ahc acX=> ?_;refine EL gC ?_;try simp only [W,Hf,Nat.reduceAdd]
        refine Ez acX ?_;refine Er fun ahd X0=> ?_;refine Ew ?_;simp only [W];refine EK h (fun hc h=> ?_) (fun hc h=> ?_)
        ·refine Et ?_;refine Ez X0 ?_;refine Er fun ahe acY=> ?_;refine Es fun Z9 TS=> ?_;refine Er fun Z_ TT=> ?_;refine EL gC ?_;try simp only [W,Nat.reduceAdd]
         refine Ez TT ?_;refine Er fun ahf acZ=> ?_;refine EL gC ?_;try simp only [W,Hf,Nat.reduceAdd]
         refine E1 0 hS rfl Ln rfl ?_;try simp only [W,Hf]
         refine w_num _ h fun L4 ahg h=> ?_;try simp only [W,Hf]
         refine EY 0 hS rfl rfl rfl rfl rfl h (fun KM ahh ahi ahj ac0 h ac1=> ?_) Ln.ne;obtain ⟨ahk,ac2,ac3⟩:=hS.elem 0 rfl ac1 ac0;try simp only [W,Hf,HL,reduceIte,Nat.reduceAdd,Nat.reduceLeDiff,ac2,ac3]
         refine ET hS rfl rfl fun ahl ahm H hS=> ?_;try simp only [W]
         refine EU (a:= .agg [.int .i64 KM.Id,.int .i64 KM.At,.int .i64 KM.Hh,.str KM.Text]) (y' := .agg [.int .i64 KM.Id,.int .i64 KM.At,.int .i64 KM.Hh,.str KM.Text]) 0 hS rfl rfl rfl rfl rfl rfl rfl rfl fun H hS=> ?_
         try simp only [W]
         refine Ez acZ ?_;refine EL gC ?_;try simp only [W,Hf,reduceIte,Nat.reduceAdd,Nat.reduceLeDiff,hS.var 0 rfl]
         refine E3 (el:=([KM,KM]:List Part).map HP) hS rfl rfl rfl rfl rfl rfl rfl fun v143 H ac4 hS=> ?_;try simp only [W,Hf]
         refine Fk (l:=Kb) (c:=HP) 3 hS rfl XZ rfl rfl rfl (hS.jl 0 rfl ac4) (fun _=>rfl) rfl h fun v146 H V2 ac5 hm h hS=> ?_;try simp only [W]
         refine ED TS ?_;refine Ez acY ?_;refine EL gC ?_;try simp only [W,Hf,Nat.reduceAdd]
         exact E6 XY h ⟨_,ac5,rfl,(hS.Fz 4 [2,3] (by decide))⟩
        ·refine Ev ?_;refine EB X0 ?_;try obtain rfl:=Option.some.inj h
         obtain rfl:=acW _ rfl;have h:(some (Kb):Option ((List Part)))=some (Kb):=rfl;refine E7 XY ?_;refine EE acV ?_;exact E_ acU ⟨_,(Option.some.inj h).symm,_,XZ,rfl,(hS.Fz 2 [1] (by decide))⟩
       ·obtain ⟨NY,Hr,SV,ac6,rfl,hS⟩:=hq;obtain rfl:=Hr.symm;replace h:=acT;try dsimp only at h
        refine Ez U4 ?_;refine Er fun ahn ac7=> ?_;refine EM (fz:=[(1,[([153,20],[.sl [.sc,.sc,.sc,.sc]])])]) gC ?_;try simp only [W,Nat.reduceAdd,Nat.reduceBEq]
        refine Fo 0 hS rfl ac6 rfl (fun _ _=>by simp [a8,aT,cE,dT,HP]) (fun _=>rfl) fun H uq hS=> ?_
        simp only [W,uq,if_true];try simp only [W,Hf,HL,reduceIte,Nat.reduceAdd,Nat.reduceLeDiff,Nat.reduceBEq,Nat.reduceMul,Bool.false_eq_true]
        refine E4 h fun ac8 ac9 h=> ?_;obtain ⟨NZ,Pp,R6⟩:=ac8;try dsimp only at h
        refine UJ ac9 hS fun X1 X2 v157 X3 v159 X4 H hS=> ?_;try simp only [W,Nat.reduceAdd,Nat.reduceBEq]
        refine ET hS rfl rfl fun aho ahp H hS=> ?_;try simp only [W,Nat.reduceAdd,Nat.reduceBEq]
        refine EU (a:= .agg [X1,v157]) (y' := .agg [X1,v157]) 0 hS rfl rfl rfl rfl rfl (by simp only [en,List.all_cons,List.all_nil,X2.sw,X3.sw];rfl) rfl rfl fun H hS=> ?_
        try simp only [W,Nat.reduceAdd,Nat.reduceBEq]
        refine Ez ac7 ?_;refine Er fun ahq ac_=> ?_;obtain ⟨ada,h,adb⟩:=Option.bind_eq_some_iff.1 h;refine E9 gC (fun s H=> ∃N0:Bool,ada=(N0)∧s=(u:: .fz (a1.map (AV.int .u8))::u::u::u::u::u::u::u::u::u::u::u::u::u::u::u::u::u::u::u::u::u::u::u::u::u::u::u::u::u::u::u::u::u::u::u::u::u::u::u::u::u::u::u::u::u::u::u::u::u::u::u::u::u::u::u::u::u::u::u::u::u::u::u::u::u::u::u::u::u::u::u::u::u::u::u::u::u::u::u::u::u::u::u::u::u::u::u::u::u::u::u::u::u::u::u::u::u::u::u::u::u::u::u::u::u::u::u::u::u::u::u::u::u::u::u::u::u::u::u::u::u::u::u::u::u::u::u::u::u::u::u::u::u::u::u::u::u::u::u::u::u::u::u::u::u::u::u::u::u::u::u::u::u::u::u::u::u::u::u::u::u::u::u::u::u::u::u::u::u::u::u::u::u::u::u::u::u::u::u::u::u:: .bool N0::u::u::u::u::u::u::u::u::u::u::u::u::u::u::u::u::u::u::u::u::u::u::u::u::u::u::u::u::u::u::u::u::u::u::u::u::u::u::u::u::u::u::u::u::u::u::u::u::u::u::u::u::u::u::[])∧aA H (F)) (fun aao Nk=> ?_) (fun s H hq=> ?_)
        ·refine Er fun ahr Rk=> ?_;refine EL gC ?_;try simp only [W,Nat.reduceAdd]
         refine FD h (fun hc h=> ?_) (fun hc h=> ?_)
         ·try simp only [W,hc]
          refine Ez Rk ?_;refine Gw (s' :=(u:: .fz (a1.map (AV.int .u8))::u::u::u::u::u::u::u::u::u::u::u::u::u::u::u::u::u::u::u::u::u::u::u::u::u::u::u::u::u::u::u::u::u::u::u::u::u::u::u::u::u::u::u::u::u::u::u::u::u::u::u::u::u::u::u::u::u::u::u::u::u::u::u::u::u::u::u::u::u::u::u::u::u::u::u::u::u::u::u::u::u::u::u::u::u::u::u::u::u::u::u::u::u::u::u::u::u::u::u::u::u::u::u::u::u::u::u::u::u::u::u::u::u::u::u::u::u::u::u::u::u::u::u::u::u::u::u::u::u::u::u::u::u::u::u::u::u::u::u::u::u::u::u::u::u::u::u::u::u::u::u::u::u::u::u::u::u::u::u::u::u::u::u::u::u::u::u::u::u::u::u::u::u::u::u::u::u::u::u::u::u:: .bool true::u::u::u::u::u::u::u::u::u::u::u::u::u::u::u::u::u::u::u::u::u::u::u::u::u::u::u::u::u::u::u::u::u::u::u::u::u::u::u::u::u::u::u::u::u::u::u::u::u::u::u::u::u::u::[])) rfl ?_
          exact E_ Nk ⟨_,(Option.some.inj h).symm,rfl,(hS.Fz 4 [] (by decide))⟩
         ·try simp only [W,Hf,hc]
          refine E1 3 hS rfl X4 rfl ?_;try simp only [W,Hf,reduceIte,Bool.false_eq_true]
          refine FD h (fun hc h=> ?_) (fun hc h=> ?_)
          ·try simp only [W,hc]
           refine Ez Rk ?_;refine Gw (s' :=(u:: .fz (a1.map (AV.int .u8))::u::u::u::u::u::u::u::u::u::u::u::u::u::u::u::u::u::u::u::u::u::u::u::u::u::u::u::u::u::u::u::u::u::u::u::u::u::u::u::u::u::u::u::u::u::u::u::u::u::u::u::u::u::u::u::u::u::u::u::u::u::u::u::u::u::u::u::u::u::u::u::u::u::u::u::u::u::u::u::u::u::u::u::u::u::u::u::u::u::u::u::u::u::u::u::u::u::u::u::u::u::u::u::u::u::u::u::u::u::u::u::u::u::u::u::u::u::u::u::u::u::u::u::u::u::u::u::u::u::u::u::u::u::u::u::u::u::u::u::u::u::u::u::u::u::u::u::u::u::u::u::u::u::u::u::u::u::u::u::u::u::u::u::u::u::u::u::u::u::u::u::u::u::u::u::u::u::u::u::u::u:: .bool true::u::u::u::u::u::u::u::u::u::u::u::u::u::u::u::u::u::u::u::u::u::u::u::u::u::u::u::u::u::u::u::u::u::u::u::u::u::u::u::u::u::u::u::u::u::u::u::u::u::u::u::u::u::u::[])) rfl ?_
           exact E_ Nk ⟨_,(Option.some.inj h).symm,rfl,(hS.Fz 4 [] (by decide))⟩
          ·try simp only [W,Hf,hc]
           refine EY 3 hS rfl rfl rfl rfl rfl h (fun M4 ahs aht ahu ade h adf=> ?_) X4.ne;obtain ⟨ahv,adg,adh⟩:=hS.elem 3 rfl adf ade;try simp only [W,Hf,reduceIte,Bool.false_eq_true,adg,adh]
           refine FD h (fun hc h=> ?_) (fun hc h=> ?_)
           ·try simp only [W,hc]
            refine Ez Rk ?_;refine Gw (s' :=(u:: .fz (a1.map (AV.int .u8))::u::u::u::u::u::u::u::u::u::u::u::u::u::u::u::u::u::u::u::u::u::u::u::u::u::u::u::u::u::u::u::u::u::u::u::u::u::u::u::u::u::u::u::u::u::u::u::u::u::u::u::u::u::u::u::u::u::u::u::u::u::u::u::u::u::u::u::u::u::u::u::u::u::u::u::u::u::u::u::u::u::u::u::u::u::u::u::u::u::u::u::u::u::u::u::u::u::u::u::u::u::u::u::u::u::u::u::u::u::u::u::u::u::u::u::u::u::u::u::u::u::u::u::u::u::u::u::u::u::u::u::u::u::u::u::u::u::u::u::u::u::u::u::u::u::u::u::u::u::u::u::u::u::u::u::u::u::u::u::u::u::u::u::u::u::u::u::u::u::u::u::u::u::u::u::u::u::u::u::u::u:: .bool true::u::u::u::u::u::u::u::u::u::u::u::u::u::u::u::u::u::u::u::u::u::u::u::u::u::u::u::u::u::u::u::u::u::u::u::u::u::u::u::u::u::u::u::u::u::u::u::u::u::u::u::u::u::u::[])) rfl ?_
            exact E_ Nk ⟨_,(Option.some.inj h).symm,rfl,(hS.Fz 4 [] (by decide))⟩
           ·try simp only [W,Hf,Nat.reduceAdd,Nat.reduceBEq,hS.var 0 rfl,hc]
            refine E1 1 hS rfl X2 rfl ?_;try simp only [W,Hf,reduceIte,Bool.false_eq_true]
            refine FD h (fun hc h=> ?_) (fun hc h=> ?_)
            ·try simp only [W,hc]
             refine Ez Rk ?_;refine Gw (s' :=(u:: .fz (a1.map (AV.int .u8))::u::u::u::u::u::u::u::u::u::u::u::u::u::u::u::u::u::u::u::u::u::u::u::u::u::u::u::u::u::u::u::u::u::u::u::u::u::u::u::u::u::u::u::u::u::u::u::u::u::u::u::u::u::u::u::u::u::u::u::u::u::u::u::u::u::u::u::u::u::u::u::u::u::u::u::u::u::u::u::u::u::u::u::u::u::u::u::u::u::u::u::u::u::u::u::u::u::u::u::u::u::u::u::u::u::u::u::u::u::u::u::u::u::u::u::u::u::u::u::u::u::u::u::u::u::u::u::u::u::u::u::u::u::u::u::u::u::u::u::u::u::u::u::u::u::u::u::u::u::u::u::u::u::u::u::u::u::u::u::u::u::u::u::u::u::u::u::u::u::u::u::u::u::u::u::u::u::u::u::u::u:: .bool true::u::u::u::u::u::u::u::u::u::u::u::u::u::u::u::u::u::u::u::u::u::u::u::u::u::u::u::u::u::u::u::u::u::u::u::u::u::u::u::u::u::u::u::u::u::u::u::u::u::u::u::u::u::u::[])) rfl ?_
             exact E_ Nk ⟨_,(Option.some.inj h).symm,rfl,(hS.Fz 4 [] (by decide))⟩
            ·try simp only [W,Hf,Nat.reduceAdd,Nat.reduceBEq,hS.var 0 rfl,hc]
             refine E1 2 hS rfl X3 rfl ?_;try simp only [W,Hf,reduceIte,Bool.false_eq_true]
             refine Ez Rk ?_;refine Gw (s' :=(u:: .fz (a1.map (AV.int .u8))::u::u::u::u::u::u::u::u::u::u::u::u::u::u::u::u::u::u::u::u::u::u::u::u::u::u::u::u::u::u::u::u::u::u::u::u::u::u::u::u::u::u::u::u::u::u::u::u::u::u::u::u::u::u::u::u::u::u::u::u::u::u::u::u::u::u::u::u::u::u::u::u::u::u::u::u::u::u::u::u::u::u::u::u::u::u::u::u::u::u::u::u::u::u::u::u::u::u::u::u::u::u::u::u::u::u::u::u::u::u::u::u::u::u::u::u::u::u::u::u::u::u::u::u::u::u::u::u::u::u::u::u::u::u::u::u::u::u::u::u::u::u::u::u::u::u::u::u::u::u::u::u::u::u::u::u::u::u::u::u::u::u::u::u::u::u::u::u::u::u::u::u::u::u::u::u::u::u::u::u::u:: .bool ((NZ.Told.length:Int) !=1)::u::u::u::u::u::u::u::u::u::u::u::u::u::u::u::u::u::u::u::u::u::u::u::u::u::u::u::u::u::u::u::u::u::u::u::u::u::u::u::u::u::u::u::u::u::u::u::u::u::u::u::u::u::u::[])) rfl ?_
             exact E_ Nk ⟨_,(Option.some.inj h).symm,rfl,(hS.Fz 4 [] (by decide))⟩
        ·obtain ⟨N0,Hr,rfl,hS⟩:=hq;obtain rfl:=Hr.symm;replace h:=adb;try dsimp only at h
         refine Ez ac_ ?_;refine Ew ?_;simp only [W];refine EK h (fun hc h=> ?_) (fun hc h=> ?_)
         ·refine Er fun ahw adi=> ?_;refine EL gC ?_;try simp only [W,Nat.reduceAdd]
          refine Ez adi ?_;refine Eu ?_;refine EA Pz ?_;try obtain rfl:=Option.some.inj h
          obtain rfl:=Option.some.inj Se;have h:(some false:Option (Bool))=some false:=rfl;refine Fa Nj ?_;refine EA SJ ?_;refine EH Hi rfl ?_;try obtain rfl:=Option.some.inj h
          exact hP _ hS
         ·refine Et ?_;refine Ez Pz ?_;refine Gw (s' :=(u:: .fz (a1.map (AV.int .u8))::u::u::u::u::u::u::u::u::u::u::u::u::u::u::u::u::u::u::u::u::u::u::u::u::u::u::u::u::u::u::u::u::u::u::u::u::u::u::u::u::u::u::u::u::u::u::u::u::u::u::u::u::u::u::u::u::u::u::u::u::u::u::u::u::u::u::u::u::u::u::u::u::u::u::u::u::u::u::u::u::u::u::u::u::u::u::u::u::u::u::u::u::u::u::u::u::u::u::u::u::u::u::u::u::u::u::u::u::u::u::u::u::u::u::u::u::u::u::u::u::u::u::u::u::u::u::u::u::u::u::u::u::u::u::u::u::u::u::u::u::u::u::u::u::u::u::u::u::u::u::u::u::u::u::u::u::u::u::u::u::u::u::u::u::u::u::u::u::u::u::u::u::u::u::u::u::u::u::u::u::u::u::u::u::u::u::u::u::u::u::u::u::u::u::u::u::u::u::u::u::u::u::u::u::u::u::u::u::u::u::u::u::u::u::u::u::u::u::u::u::u::u::u::u::u::u::u::u::u::u::u::u::u::u::u::u::[])) rfl ?_
          exact E_ Nj ⟨(Option.some.inj h).symm,rfl,hS⟩
      ·refine Et ?_;refine Ez Pz ?_;refine Gw (s' :=(u:: .fz (a1.map (AV.int .u8))::u::u::u::u::u::u::u::u::u::u::u::u::u::u::u::u::u::u::u::u::u::u::u::u::u::u::u::u::u::u::u::u::u::u::u::u::u::u::u::u::u::u::u::u::u::u::u::u::u::u::u::u::u::u::u::u::u::u::u::u::u::u::u::u::u::u::u::u::u::u::u::u::u::u::u::u::u::u::u::u::u::u::u::u::u::u::u::u::u::u::u::u::u::u::u::u::u::u::u::u::u::u::u::u::u::u::u::u::u::u::u::u::u::u::u::u::u::u::u::u::u::u::u::u::u::u::u::u::u::u::u::u::u::u::u::u::u::u::u::u::u::u::u::u::u::u::u::u::u::u::u::u::u::u::u::u::u::u::u::u::u::u::u::u::u::u::u::u::u::u::u::u::u::u::u::u::u::u::u::u::u::u::u::u::u::u::u::u::u::u::u::u::u::u::u::u::u::u::u::u::u::u::u::u::u::u::u::u::u::u::u::u::u::u::u::u::u::u::u::u::u::u::u::u::u::u::u::u::u::u::u::u::u::u::u::u::[])) rfl ?_
       exact E_ Nj ⟨(Option.some.inj h).symm,rfl,(hS.Fz 1 [] (by decide))⟩
     ·obtain ⟨rfl,rfl,hS⟩:=hq;replace h:=Se;try dsimp only at h
      refine Ez SJ ?_;refine Er fun ahx adk=> ?_;refine Er fun ahy adl=> ?_;refine EM (fz:=[(7,[([187],[.sl [.sc,.sc,.sc,.sl [.sc,.sc]],.sl [.sc]])])]) gC ?_;try simp only [W,Nat.reduceAdd,Nat.reduceBEq]
      refine E4 h fun PQ adn h=> ?_;obtain ⟨J2,LH⟩:=PQ;try dsimp only at h
      refine acx adn hS fun aat TW ahz ado H hS=> ?_;try simp only [W,Nat.reduceAdd,Nat.reduceBEq]
      refine ET hS rfl rfl fun ahA ahB H hS=> ?_;try simp only [W,Nat.reduceAdd,Nat.reduceBEq]
      refine ET hS rfl rfl fun ahC ahD H hS=> ?_;try simp only [W,Nat.reduceAdd]
      refine Fv rfl ?_;refine Fu 2 hS rfl TW (fun _ _=>by simp [a8,aT,cE,dT,Hp]) fun H hS=> ?_
      refine Fu 2 hS rfl ado (fun _ _=>by simp [a8,aT,dT]) fun H hS=> ?_
      refine Fp ?_;simp only [W,xn (c:=(AV.int .i64)) (fun _=>rfl),xn (c:=Hp) (fun _=>rfl)];try simp only [W,Hf,HL,reduceIte,Nat.reduceAdd,Nat.reduceLeDiff,Nat.reduceBEq,Nat.reduceMul,Bool.false_eq_true]
      refine EU (a:= .agg [.fz (J2.Hg.map Hp),.fz (J2.Told.map (AV.int .i64))]) (y' := .agg [.fz (J2.Hg.map Hp),.fz (J2.Told.map (AV.int .i64))]) 1 hS rfl rfl rfl rfl rfl rfl rfl rfl fun H hS=> ?_
      try simp only [W,Nat.reduceAdd,Nat.reduceBEq]
      refine EU (a:= .agg [.int .i64 LH.Id,.int .i64 LH.At,.int .i64 LH.Hh,.str LH.Text]) (y' := .agg [.int .i64 LH.Id,.int .i64 LH.At,.int .i64 LH.Hh,.str LH.Text]) 0 hS rfl rfl rfl rfl rfl rfl rfl rfl fun H hS=> ?_
      try simp only [W,Nat.reduceAdd]
      refine Ez adl ?_;refine Fy ?_;refine Fw 1 hS rfl rfl ?_;simp only [cw];refine Fs ?_;refine Fp ?_;simp only [W,eN];refine Fx 1 hS rfl rfl fun H hS=> ?_;try simp only [W]
      refine Ez adk ?_;refine Er fun ahE adp=> ?_;refine EL gC ?_;try simp only [W,Hf,reduceIte,Nat.reduceAdd,Nat.reduceLeDiff,hS.var 1 rfl,hS.var 0 rfl]
      refine E4 h fun Oy adq h=> ?_;obtain ⟨LI,Pq,Nf,Tz⟩:=Oy;try dsimp only at h
      refine Xk adq hS fun v193 Vc X5 Vd H hS=> ?_;try simp only [W]
      refine ET hS rfl rfl fun ahF ahG H hS=> ?_;try simp only [W]
      refine EU (a:= .agg [v193,X5]) (y' := .agg [v193,X5]) 0 hS rfl rfl rfl rfl rfl (by simp only [en,List.all_cons,List.all_nil,Vc.sw,Vd.sw];rfl) rfl rfl fun H hS=> ?_
      try simp only [W]
      refine Ez adp ?_;refine Er fun ahH adr=> ?_;refine EL gC ?_;try simp only [W,Hf,reduceIte,Nat.reduceAdd,Nat.reduceLeDiff,hS.var 4 rfl,hS.var 3 rfl]
      refine E4 h fun Rl ads h=> ?_;obtain ⟨Ng,Pr,Ps,V3⟩:=Rl;try dsimp only at h
      refine acG ads hS fun X6 X7 X8 X9 H hS=> ?_;try simp only [W]
      refine ET hS rfl rfl fun ahI ahJ H hS=> ?_;try simp only [W]
      refine EU (a:= .agg [X6,X8]) (y' := .agg [X6,X8]) 0 hS rfl rfl rfl rfl rfl (by simp only [en,List.all_cons,List.all_nil,X7.sw,X9.sw];rfl) rfl rfl fun H hS=> ?_
      try simp only [W]
      refine Ez adr ?_;refine Er fun ahK Oz=> ?_;refine EN gC (by kernel_rfl) ?_
      try simp only [W,Hf,Nat.reduceAdd]
      rw [EQ _ _ _ _ (h:=rfl) rfl,vK];try simp only [W]
      refine FD h (fun hc h=> ?_) (fun hc h=> ?_)
      ·try simp only [W,Hf,hc]
       rw [EQ _ _ _ _ (h:=rfl) rfl,vK];try simp only [W,reduceIte]
       refine FD h (fun hc h=> ?_) (fun hc h=> ?_)
       ·try simp only [W,Hf,reduceIte,hc]
        refine FD h (fun hc h=> ?_) (fun hc h=> ?_)
        ·try simp only [W,Hf,reduceIte,Nat.reduceAdd,Nat.reduceLeDiff,hS.var 3 rfl,hS.var 0 rfl,hc]
         refine F6 (bS:=[[.sc]]) (ys:=[.agg [.fz (LI.Hg.map Hp),.fz (LI.Told.map (AV.int .i64))],.agg [.fz (Ng.Hg.map Hp),.fz (Ng.Told.map (AV.int .i64))]]) h rfl (FW (FP (CX (FQ hS 4 rfl Vc (fun _=>rfl)) (CX (FQ hS 5 rfl Vd (fun _=>rfl)) (FO _)))) (FW (FP (CX (FQ hS 1 rfl X7 (fun _=>rfl)) (CX (FQ hS 2 rfl X9 (fun _=>rfl)) (FO _)))) FU)) fun N1 adt h=>⟨.bool N1,XQ adt (aA.nil _) fun H hS=>F2 rfl (FY rfl (FX rfl)),⟨rfl,rfl,fun _=>rfl⟩,?_⟩;try simp only [W,reduceIte]
         refine FD h (fun hc h=> ?_) (fun hc h=> ?_)
         ·try simp only [W,Hf,reduceIte,Nat.reduceAdd,Nat.reduceLeDiff,hS.var 7 rfl,hc]
          refine F6 (bS:=[[.sc]]) (ys:=[.agg [.fz (J2.Hg.map Hp),.fz (J2.Told.map (AV.int .i64))]]) h rfl (by rfl) fun N2 adu h=>⟨.bool N2,PB adu (aA.nil _) fun H hS=>F2 rfl (FY rfl (FX rfl)),⟨rfl,rfl,fun _=>rfl⟩,?_⟩
          try simp only [W,Hf,reduceIte,Nat.reduceAdd,Nat.reduceLeDiff,hS.var 7 rfl]
          refine F6 (bS:=[[.sc]]) (ys:=[.agg [.fz (J2.Hg.map Hp),.fz (J2.Told.map (AV.int .i64))]]) h rfl (by rfl) fun N3 adv h=>⟨.bool N3,XT adv (aA.nil _) fun H hS=>F2 rfl (FY rfl (FX rfl)),⟨rfl,rfl,fun _=>rfl⟩,?_⟩
          try simp only [W,Hf]
          rw [EQ _ _ _ _ (h:=rfl) rfl,vK];try simp only [W,reduceIte]
          refine FD h (fun hc h=> ?_) (fun hc h=> ?_)
          ·try simp only [W,hc]
           refine FD h (fun hc h=> ?_) (fun hc h=> ?_)
           ·try simp only [W,reduceIte,hc]
            refine Ez Oz ?_;refine Eu ?_;refine EH Hi rfl ?_;try obtain rfl:=Option.some.inj h
            exact hP _ (hS.Fz 8 [] (by decide))
           ·try simp only [W,Hf,reduceIte,Nat.reduceAdd,Nat.reduceLeDiff,hS.var 3 rfl,hc]
            refine F6 (bS:=[[.sc]]) (ys:=[.agg [.fz (LI.Hg.map Hp),.fz (LI.Told.map (AV.int .i64))]]) h rfl (FW (FP (CX (FQ hS 4 rfl Vc (fun _=>rfl)) (CX (FQ hS 5 rfl Vd (fun _=>rfl)) (FO _)))) FU) fun TA adw h=>⟨.bool TA,PB adw (aA.nil _) fun H hS=>F2 rfl (FY rfl (FX rfl)),⟨rfl,rfl,fun _=>rfl⟩,?_⟩;try simp only [W,reduceIte,Bool.false_eq_true]
            refine Ez Oz ?_;refine Eu ?_;refine EH Hi rfl ?_;try obtain rfl:=Option.some.inj h
            exact hP _ (hS.Fz 8 [] (by decide))
          ·try simp only [W,hc]
           refine Ez Oz ?_;refine Eu ?_;refine EH Hi rfl ?_;try obtain rfl:=Option.some.inj h
           exact hP _ (hS.Fz 8 [] (by decide))
         ·try simp only [W,hc]
          refine Ez Oz ?_;refine Eu ?_;refine EH Hi rfl ?_;try obtain rfl:=Option.some.inj h
          exact hP _ (hS.Fz 8 [] (by decide))
        ·try simp only [W,hc]
         refine Ez Oz ?_;refine Eu ?_;refine EH Hi rfl ?_;try obtain rfl:=Option.some.inj h
         exact hP _ (hS.Fz 8 [] (by decide))
       ·try simp only [W,hc]
        refine Ez Oz ?_;refine Eu ?_;refine EH Hi rfl ?_;try obtain rfl:=Option.some.inj h
        exact hP _ (hS.Fz 8 [] (by decide))
      ·try simp only [W,hc]
       refine Ez Oz ?_;refine Eu ?_;refine EH Hi rfl ?_;try obtain rfl:=Option.some.inj h
       exact hP _ (hS.Fz 8 [] (by decide))
end Go.JN
