import Derived.Test.YtmbfhipfcjmhmaaGreatVgG1
import Derived.Test.YtmbfhipfcjmhmaaGreatProg
import Derived.Test.YtmbfhipfcjmhmaaGreatVaG
import Derived.KernelRfl
open Go Go.VS
set_option maxRecDepth 8000
set_option maxHeartbeats 4000000
namespace Go.JN
theorem Xk {a0:Ho} {a1:Part} {r:(Ho×List UInt8×Bool×Bool)} (h:M7 a0 a1=some r) {F:List It} {H:J} (hS:aA H (F)) {P:AV→J→Prop} (hP: ∀v107:AV,bj v107→ ∀v109:AV,bj v109→ ∀H',aA H' (⟨v107,4,r.1.Hg.map Hp⟩::⟨v109,1,r.1.Told.map (AV.int .i64)⟩::F)→P (.aD [.agg [v107,v109],.str r.2.1,.bool r.2.2.1,.bool r.2.2.2]) H'):aq C 17 [.agg [.fz (a0.Hg.map Hp),.fz (a0.Told.map (AV.int .i64))],.agg [.int .i64 a1.Id,.int .i64 a1.At,.int .i64 a1.Hh,.str a1.Text]] H P:=by
 refine EO gC (res:=[.cell 4 28,.tmp 5,.tmp 6,.tmp 7]) (n:=112) rfl rfl rfl rfl fun K0 Hi=> ?_;simp only [W,Nat.reduceSub,Nat.reduceAdd,List.replicate];unfold M7 at h;refine Er fun K1 Hq=> ?_;refine EL gC ?_;try simp only [W,Nat.reduceAdd]
 refine ES hS rfl rfl rfl rfl fun Hm Hn H hS=> ?_;try simp only [W]
 refine ES hS rfl rfl rfl rfl fun Hw Hy H hS=> ?_;try simp only [W]
 refine ET hS rfl rfl fun Hz HA H hS=> ?_;try simp only [W]
 refine Ez Hq ?_;refine Er fun K8 HS=> ?_;refine Er fun K9 HC=> ?_;obtain ⟨LO,h,g12⟩:=Option.bind_eq_some_iff.1 h;refine E9 gC (fun s H=> ∃HO:Bool,LO=(HO)∧s=(u::u:: .ptr Hm Hn 0 0:: .ptr Hw Hy 0 0:: .ptr Hz HA 0 0::u::u::u::u::u::u::u::u::u::u::u::u::u::u::u::u:: .bool HO::u::u::u::u::u::u::u::u::u::u::u::u::u::u::u::u::u::u::u::u::u::u::u::u::u::u::u::u::u::u::u::u::u::u::u::u::u::u::u::u::u::u::u::u::u::u::u::u::u::u::u::u::u::u::u::u::u::u::u::u::u::u::u::u::u::u::u::u::u::u::u::u::u::u::u::u::u::u::u::u::u::u::u::u::u::u::u::u::u::u::[])∧aA H (⟨.ptr Hm Hn 0 0,2,[.agg [.fz (a0.Hg.map Hp),.fz (a0.Told.map (AV.int .i64))]]⟩::⟨.ptr Hw Hy 0 0,4,[.agg [.int .i64 a1.Id,.int .i64 a1.At,.int .i64 a1.Hh,.str a1.Text]]⟩::⟨.ptr Hz HA 0 0,2,[.agg [.nil,.nil]]⟩::F)) (fun JS Ig=> ?_) (fun s H hq=> ?_)
 ·refine Er fun J3 HZ=> ?_;refine EL gC ?_;try simp only [W,Hf,reduceIte,Nat.reduceAdd,Nat.reduceLeDiff,hS.var 2 rfl]
  refine E4 h fun KJ Og h=> ?_;refine PB Og hS fun H hS=> ?_;try simp only [W]
  refine FD h (fun hc h=> ?_) (fun hc h=> ?_)
  ·try simp only [W,hc]
   refine Ez HZ ?_;refine Gw (s' :=(u::u:: .ptr Hm Hn 0 0:: .ptr Hw Hy 0 0:: .ptr Hz HA 0 0::u::u::u::u::u::u::u::u::u::u::u::u::u::u::u::u:: .bool true::u::u::u::u::u::u::u::u::u::u::u::u::u::u::u::u::u::u::u::u::u::u::u::u::u::u::u::u::u::u::u::u::u::u::u::u::u::u::u::u::u::u::u::u::u::u::u::u::u::u::u::u::u::u::u::u::u::u::u::u::u::u::u::u::u::u::u::u::u::u::u::u::u::u::u::u::u::u::u::u::u::u::u::u::u::u::u::u::u::u::[])) rfl ?_
   exact E_ Ig ⟨_,(Option.some.inj h).symm,rfl,(hS.Fz 3 [2,1,0] (by decide))⟩
  ·try simp only [W,Hf,reduceIte,Nat.reduceAdd,Nat.reduceLeDiff,hS.var 1 rfl,hc]
   refine E4 h fun Ms Rc h=> ?_;refine W7 Rc hS fun H hS=> ?_;try simp only [W,reduceIte,Bool.false_eq_true]
   refine Ez HZ ?_;refine Gw (s' :=(u::u:: .ptr Hm Hn 0 0:: .ptr Hw Hy 0 0:: .ptr Hz HA 0 0::u::u::u::u::u::u::u::u::u::u::u::u::u::u::u::u:: .bool (!Ms)::u::u::u::u::u::u::u::u::u::u::u::u::u::u::u::u::u::u::u::u::u::u::u::u::u::u::u::u::u::u::u::u::u::u::u::u::u::u::u::u::u::u::u::u::u::u::u::u::u::u::u::u::u::u::u::u::u::u::u::u::u::u::u::u::u::u::u::u::u::u::u::u::u::u::u::u::u::u::u::u::u::u::u::u::u::u::u::u::u::u::[])) rfl ?_
   exact E_ Ig ⟨_,(Option.some.inj h).symm,rfl,(hS.Fz 3 [2,1,0] (by decide))⟩
 ·obtain ⟨HO,Hr,rfl,hS⟩:=hq;obtain rfl:=Hr.symm;replace h:=g12;try dsimp only at h
  refine Ez HC ?_;refine Ew ?_;simp only [W];refine EK h (fun hc h=> ?_) (fun hc h=> ?_)
  ·refine Er fun Jb HJ=> ?_;refine EL gC ?_;try simp only [W,Hf,Nat.reduceAdd]
   refine FE rfl rfl rfl rfl rfl ?_;try simp only [W]
   refine EU (a:= .agg [.nil,.nil]) (y' := .agg [.nil,.nil]) 2 hS rfl rfl rfl rfl rfl rfl rfl rfl fun H hS=> ?_
   try simp only [W]
   refine Ez HJ ?_;refine Eu ?_;refine EA HS ?_;refine EG Hi (FB rfl rfl (hS.var 2 rfl) rfl (FC rfl (FC rfl (FC rfl rfl)))) ?_;try obtain rfl:=Option.some.inj h
   exact hP _ rL _ rL _ (((hS.Fl 1).Fl 4).Fz 5 [0,1] (by decide))
  ·refine Et ?_;refine Ez HS ?_;refine Er fun Jp HQ=> ?_;refine EL gC ?_;try simp only [W,Hf,reduceIte,Nat.reduceAdd,Nat.reduceLeDiff,hS.var 0 rfl]
   refine E4 h fun IE Mu h=> ?_;refine aaK Mu hS fun v20 Kk v22 ML H hS=> ?_;try simp only [W]
   refine ET hS rfl rfl fun KR KS H hS=> ?_;try simp only [W]
   refine EU (a:= .agg [v20,v22]) (y' := .agg [v20,v22]) 0 hS rfl rfl rfl rfl rfl (by simp only [en,List.all_cons,List.all_nil,Kk.sw,ML.sw];rfl) rfl rfl fun H hS=> ?_
   try simp only [W]
   refine Ez HQ ?_;refine Er fun Kg Ik=> ?_;refine EL gC ?_;try simp only [W,Hf,Nat.reduceAdd,Nat.reduceBEq,hS.var 0 rfl,hS.var 4 rfl]
   refine F6 (bS:=[[.sc],[.sc]]) (ys:=[.fz (IE.Hg.map Hp),.int .i64 a1.Id,.fn 66 []]) h rfl (FW (FQ hS 1 rfl Kk (fun _=>rfl)) (FW rfl (FW rfl FU))) fun KH N7 h=>⟨.aD [.int .i64 KH.1,.bool KH.2],aaS N7 (fun h _ n hL _ hS _ hP=>aaU h hS hP) (aA.nil _) fun H hS=>F2 rfl (FY rfl (FY rfl (FX rfl))),⟨rfl,rfl,fun _=>rfl⟩,?_⟩;obtain ⟨H8,II⟩:=KH;try dsimp only at h
   try simp only [W]
   refine Ez Ik ?_;refine Er fun L_ I2=> ?_;refine Er fun Lf IQ=> ?_;obtain ⟨Xl,h,SB⟩:=Option.bind_eq_some_iff.1 h;refine E9 gC (fun s H=> ∃JP:Bool,∃Qm:Bool,Xl=(JP,Qm)∧s=(u::u::u:: .ptr Hw Hy 0 0:: .ptr Hz HA 0 0::u::u::u:: .ptr KR KS 0 0:: .int .i64 H8:: .bool JP::u::u::u::u::u::u::u::u::u::u::u::u::u::u::u::u::u::u::u::u::u::u::u::u::u::u::u::u::u::u::u::u::u::u::u::u::u::u::u::u:: .bool Qm::u::u::u::u::u::u::u::u::u::u::u::u::u::u::u::u::u::u::u::u::u::u::u::u::u::u::u::u::u::u::u::u::u::u::u::u::u::u::u::u::u::u::u::u::u::u::u::u::u::u::u::u::u::u::u::u::u::u::u::u::[])∧aA H (⟨v20,4,IE.Hg.map Hp⟩::⟨v22,1,IE.Told.map (AV.int .i64)⟩::⟨.ptr Hw Hy 0 0,4,[.agg [.int .i64 a1.Id,.int .i64 a1.At,.int .i64 a1.Hh,.str a1.Text]]⟩::⟨.ptr Hz HA 0 0,2,[.agg [.nil,.nil]]⟩::⟨.ptr KR KS 0 0,2,[.agg [v20,v22]]⟩::F)) (fun Mx IY=> ?_) (fun s H hq=> ?_)
   ·refine Er fun PG J8=> ?_;refine EN gC (by kernel_rfl) ?_
    try simp only [W,Hf,Nat.reduceAdd,Nat.reduceBEq,hS.var 3 rfl,hS.var 4 rfl]
    refine F6 (bS:=[[.sc]]) (ys:=[.fz (a0.Told.map (AV.int .i64)),.int .i64 a1.Id]) h rfl (by rfl) fun Jc LP h=>⟨.bool Jc,T4 LP (aA.nil _) fun H hS=>F2 rfl (FY rfl (FX rfl)),⟨rfl,rfl,fun _=>rfl⟩,?_⟩
    try simp only [W]
    refine FD h (fun hc h=> ?_) (fun hc h=> ?_)
    ·try simp only [W,hc]
     refine Ez J8 ?_;refine Gw (s' :=(u::u::u:: .ptr Hw Hy 0 0:: .ptr Hz HA 0 0::u::u::u:: .ptr KR KS 0 0:: .int .i64 H8:: .bool II::u::u::u::u::u::u::u::u::u::u::u::u::u::u::u::u::u::u::u::u::u::u::u::u::u::u::u::u::u::u::u::u::u::u::u::u::u::u::u::u:: .bool true::u::u::u::u::u::u::u::u::u::u::u::u::u::u::u::u::u::u::u::u::u::u::u::u::u::u::u::u::u::u::u::u::u::u::u::u::u::u::u::u::u::u::u::u::u::u::u::u::u::u::u::u::u::u::u::u::u::u::u::u::[])) rfl ?_
     exact E_ IY ⟨_,_,(Option.some.inj h).symm,rfl,(hS.Fz 6 [1,2,4,5,0] (by decide))⟩
    ·try simp only [W,hc]
     refine FD h (fun hc h=> ?_) (fun hc h=> ?_)
     ·try simp only [W,Hf,Nat.reduceAdd,Nat.reduceBEq,hS.var 0 rfl,hc]
      refine EY 1 hS rfl rfl rfl rfl rfl h (fun JO agc agd age Pv h abn=> ?_) Kk.ne;obtain ⟨agf,abo,abp⟩:=hS.elem 1 rfl abn Pv;try simp only [W,Hf,HL,reduceIte,Nat.reduceAdd,Nat.reduceBEq,Bool.false_eq_true,hS.var 4 rfl,abo,abp]
      refine Ez J8 ?_;refine Gw (s' :=(u::u::u:: .ptr Hw Hy 0 0:: .ptr Hz HA 0 0::u::u::u:: .ptr KR KS 0 0:: .int .i64 H8:: .bool true::u::u::u::u::u::u::u::u::u::u::u::u::u::u::u::u::u::u::u::u::u::u::u::u::u::u::u::u::u::u::u::u::u::u::u::u::u::u::u::u:: .bool (JO.Hh !=a1.Hh)::u::u::u::u::u::u::u::u::u::u::u::u::u::u::u::u::u::u::u::u::u::u::u::u::u::u::u::u::u::u::u::u::u::u::u::u::u::u::u::u::u::u::u::u::u::u::u::u::u::u::u::u::u::u::u::u::u::u::u::u::[])) rfl ?_
      exact E_ IY ⟨_,_,(Option.some.inj h).symm,rfl,(hS.Fz 6 [1,2,4,5,0] (by decide))⟩
     ·try simp only [W,reduceIte,Bool.false_eq_true,hc]
      refine Ez J8 ?_;refine Gw (s' :=(u::u::u:: .ptr Hw Hy 0 0:: .ptr Hz HA 0 0::u::u::u:: .ptr KR KS 0 0:: .int .i64 H8:: .bool false::u::u::u::u::u::u::u::u::u::u::u::u::u::u::u::u::u::u::u::u::u::u::u::u::u::u::u::u::u::u::u::u::u::u::u::u::u::u::u::u:: .bool false::u::u::u::u::u::u::u::u::u::u::u::u::u::u::u::u::u::u::u::u::u::u::u::u::u::u::u::u::u::u::u::u::u::u::u::u::u::u::u::u::u::u::u::u::u::u::u::u::u::u::u::u::u::u::u::u::u::u::u::u::[])) rfl ?_
      exact E_ IY ⟨_,_,(Option.some.inj h).symm,rfl,(hS.Fz 6 [1,2,4,5,0] (by decide))⟩
   ·obtain ⟨JP,Qm,rfl,rfl,hS⟩:=hq;replace h:=SB;try dsimp only at h
    refine Ez IQ ?_;refine Ew ?_;simp only [W];refine EK h (fun hc h=> ?_) (fun hc h=> ?_)
    ·refine Er fun Ur Mb=> ?_;refine EL gC ?_;try simp only [W,Hf,reduceIte,Nat.reduceAdd,Nat.reduceLeDiff,hS.var 4 rfl]
     refine EU (a:= .agg [v20,v22]) (y' := .agg [v20,v22]) 3 hS rfl rfl rfl rfl rfl (by simp only [en,List.all_cons,List.all_nil,Kk.sw,ML.sw];rfl) rfl rfl fun H hS=> ?_
     try simp only [W]
     refine Ez Mb ?_;refine Eu ?_;refine EA I2 ?_;refine EG Hi (FB rfl rfl (hS.var 3 rfl) rfl (FC rfl (FC rfl (FC rfl rfl)))) ?_;try obtain rfl:=Option.some.inj h
     exact hP _ Kk _ ML _ (hS.Fz 5 [0,1] (by decide))
    ·refine Et ?_;refine Ez I2 ?_;refine Er fun Sl LQ=> ?_;refine Er fun Xm PH=> ?_;refine EL gC ?_;try simp only [W,Nat.reduceAdd]
     refine Ez PH ?_;obtain ⟨Oi,h,Oj⟩:=Option.bind_eq_some_iff.1 h;refine E9 gC (fun s H=> ∃IA:List Hj,Oi=(IA)∧ ∃v45:AV,bj v45∧s=(u::u::u:: .ptr Hw Hy 0 0:: .ptr Hz HA 0 0::u::u::u:: .ptr KR KS 0 0:: .int .i64 H8::u::u::u::u::u::u::u::u::u::u::u::u::u::u::u::u::u::u::u::u::u::u::u::u::u::u::u::u::u::u::u::u::u::u::u::u::u::u::u::u::u::u::u::u::u::u::u::u::u::u::u::u::u::u::u::u::u::u::u::u::u::u::u::u::u::u::u::u::u::u::u::u::u::u::u::u::u::u::u::u::u::u::u::u::u::u::u::u::u::u::u::u::u::u::u::u::u::u::u::u::u::u::[])∧aA H (⟨v45,4,IA.map Hp⟩::⟨v22,1,IE.Told.map (AV.int .i64)⟩::⟨.ptr Hw Hy 0 0,4,[.agg [.int .i64 a1.Id,.int .i64 a1.At,.int .i64 a1.Hh,.str a1.Text]]⟩::⟨.ptr Hz HA 0 0,2,[.agg [.nil,.nil]]⟩::⟨.ptr KR KS 0 0,2,[.agg [v45,v22]]⟩::F)) (fun My I4=> ?_) (fun s H hq=> ?_)
     ·refine Er fun Pw JJ=> ?_;refine Ew ?_;simp only [W];refine EK h (fun hc h=> ?_) (fun hc h=> ?_)
      ·refine FF gC [(9,[]),(11,[])] (by kernel_rfl) rfl (by kernel_rfl) ?_
       try simp only [W,Hf,reduceIte,Nat.reduceAdd,Nat.reduceBEq,hS.var 4 rfl,hS.var 2 rfl,jT,mV,Nat.reduceEqDiff]
       refine F8 (bS:=[[.sc,.sc,.sc,.sl [.sc,.sc]]]) (ys:=[.int .i64 a1.Id,.int .i64 a1.Hh]) h rfl (by rfl) fun Lz Q3 h=>⟨.agg [.int .i64 Lz.Id,.int .i64 Lz.Hh,.str Lz.Text,.own 2 (Lz.Has.map Hl)],aaW Q3 (aA.nil _) fun SC abq H hS=>F2 rfl (F1 (Fq rfl (Fq rfl (Fq rfl (Fu 0 hS rfl abq (fun _ _=>by simp [a8,aT,cE,dT,Hl]) fun H hS=>Fp (FX rfl)))))),?_⟩
       simp only [W,xn (c:=Hl) (fun _=>rfl)];try simp only [W,Hf,HL,reduceIte,Nat.reduceAdd,Nat.reduceLeDiff,Nat.reduceBEq,Nat.reduceMul,Bool.false_eq_true,jT,mV,Nat.reduceEqDiff]
       refine E3 (el:=([Lz]:List Hj).map Hp) hS rfl rfl rfl rfl rfl rfl rfl fun v53 H Ol hS=> ?_;try simp only [W]
       refine E4 h fun Ly Uz h=> ?_;refine aaX Uz (hS.Fz 6 [1,0,2,3,4,5] (by decide)) Kk Ol fun PI SD H hS=> ?_
       try simp only [W,Hf,Nat.reduceAdd,Nat.reduceBEq,hS.var 4 rfl]
       refine EU (a:=PI) (y' := .agg [PI,v22]) 4 hS rfl rfl rfl rfl (by rw [SD.cells];rfl) SD.E0 (SD.wr _ _ (by simp)) rfl fun H hS=> ?_
       try simp only [W]
       refine Ez JJ ?_;refine Gw (s' :=(u::u::u:: .ptr Hw Hy 0 0:: .ptr Hz HA 0 0::u::u::u:: .ptr KR KS 0 0:: .int .i64 H8::u::u::u::u::u::u::u::u::u::u::u::u::u::u::u::u::u::u::u::u::u::u::u::u::u::u::u::u::u::u::u::u::u::u::u::u::u::u::u::u::u::u::u::u::u::u::u::u::u::u::u::u::u::u::u::u::u::u::u::u::u::u::u::u::u::u::u::u::u::u::u::u::u::u::u::u::u::u::u::u::u::u::u::u::u::u::u::u::u::u::u::u::u::u::u::u::u::u::u::u::u::u::[])) rfl ?_
       exact E_ I4 ⟨_,(Option.some.inj h).symm,_,SD,rfl,hS⟩
      ·refine Et ?_;refine Ez JJ ?_;refine Gw (s' :=(u::u::u:: .ptr Hw Hy 0 0:: .ptr Hz HA 0 0::u::u::u:: .ptr KR KS 0 0:: .int .i64 H8::u::u::u::u::u::u::u::u::u::u::u::u::u::u::u::u::u::u::u::u::u::u::u::u::u::u::u::u::u::u::u::u::u::u::u::u::u::u::u::u::u::u::u::u::u::u::u::u::u::u::u::u::u::u::u::u::u::u::u::u::u::u::u::u::u::u::u::u::u::u::u::u::u::u::u::u::u::u::u::u::u::u::u::u::u::u::u::u::u::u::u::u::u::u::u::u::u::u::u::u::u::u::[])) rfl ?_
       exact E_ I4 ⟨_,(Option.some.inj h).symm,_,Kk,rfl,hS⟩
     ·obtain ⟨IA,Hr,v45,JI,rfl,hS⟩:=hq;obtain rfl:=Hr.symm;replace h:=Oj;try dsimp only at h
      refine Ez LQ ?_;refine Er fun K58 abr=> ?_;refine FF gC [(12,[9,10])] (by kernel_rfl) rfl (by kernel_rfl) ?_
      try simp only [W,Hf,reduceIte,Nat.reduceAdd,Nat.reduceBEq,hS.var 4 rfl,jT,mV,Nat.reduceEqDiff]
      refine EY 0 hS rfl rfl rfl rfl rfl h (fun Ji agh agi agj Re h Rf=> ?_) JI.ne;obtain ⟨agk,abt,abu⟩:=hS.elem 0 rfl Rf Re;try simp only [W,Hf,HL,reduceIte,Nat.reduceAdd,Nat.reduceLeDiff,hS.var 2 rfl,abt,abu]
      refine F8 (bS:=[[.sc,.sc,.sc,.sl [.sc,.sc]],[.sc],[.sc]]) (ys:=[.agg [.int .i64 Ji.Id,.int .i64 Ji.Hh,.str Ji.Text,.fz (Ji.Has.map Hl)],.agg [.int .i64 a1.Id,.int .i64 a1.At,.int .i64 a1.Hh,.str a1.Text]]) h rfl (by rfl) fun Kd Xg h=>⟨.aD [.agg [.int .i64 Kd.1.Id,.int .i64 Kd.1.Hh,.str Kd.1.Text,.own 2 (Kd.1.Has.map Hl)],.int .i64 Kd.2.1,.bool Kd.2.2],abd Xg (aA.nil _) fun v65 UF H hS=>F2 rfl (F1 (Fq rfl (Fq rfl (Fq rfl (Fu 0 hS rfl UF (fun _ _=>by simp [a8,aT,cE,dT,Hl]) fun H hS=>Fp (FY rfl (FY rfl (FX rfl)))))))),?_⟩
      simp only [W,xn (c:=Hl) (fun _=>rfl)];obtain ⟨Ih,Xn,Jj⟩:=Kd;try dsimp only at h
      try simp only
      refine ET hS rfl rfl fun SE SG H hS=> ?_;try simp only [W]
      refine EU (a:= .agg [.int .i64 Ih.Id,.int .i64 Ih.Hh,.str Ih.Text,.fz (Ih.Has.map Hl)]) (y' := .agg [.int .i64 Ih.Id,.int .i64 Ih.Hh,.str Ih.Text,.fz (Ih.Has.map Hl)]) 0 hS rfl rfl rfl rfl rfl rfl rfl rfl fun H hS=> ?_
      refine FG ?_;refine FH (by first|rfl|(simp [fJ,aQ,cS,lenOf,W,Hf,HL,bY,kR,aB,AV.cells,hS.var 0 rfl,hS.var 3 rfl,hS.var 4 rfl,hS.var 5 rfl];done)|exact Ge 1 hS rfl JI rfl rfl rfl rfl|exact Ge 2 hS rfl ML rfl rfl rfl rfl|exact Gf 1 hS rfl rfl rfl rfl rfl Rf Re rfl rfl rfl|exact Gg 1 hS rfl rfl Rf Re rfl rfl) ?_
      refine FH (by first|rfl|(simp [fJ,aQ,cS,lenOf,W,Hf,HL,bY,kR,aB,AV.cells,hS.var 0 rfl,hS.var 3 rfl,hS.var 4 rfl,hS.var 5 rfl];done)|exact Ge 1 hS rfl JI rfl rfl rfl rfl|exact Ge 2 hS rfl ML rfl rfl rfl rfl|exact Gf 1 hS rfl rfl rfl rfl rfl Rf Re rfl rfl rfl|exact Gg 1 hS rfl rfl Rf Re rfl rfl) ?_
      refine FI ?_;try simp only [W]
      refine Ez abr ?_;refine Er fun K68 Xo=> ?_;refine Er fun K69 abv=> ?_;refine EL gC ?_;try simp only [W,Nat.reduceAdd]
      refine Ez abv ?_;refine Ew ?_;simp only [W];refine EK h (fun hc h=> ?_) (fun hc h=> ?_)
      ·refine Er fun K70 Q_=> ?_;refine EL gC ?_;try simp only [W,Hf,Nat.reduceAdd]
       refine FE rfl rfl rfl rfl rfl ?_;try simp only [W]
       refine EU (a:= .agg [.nil,.nil]) (y' := .agg [.nil,.nil]) 4 hS rfl rfl rfl rfl rfl rfl rfl rfl fun H hS=> ?_
       try simp only [W]
       refine Ez Q_ ?_;refine Eu ?_;refine EA Xo ?_;refine EG Hi (FB rfl rfl (hS.var 4 rfl) rfl (FC rfl (FC rfl (FC rfl rfl)))) ?_;try obtain rfl:=Option.some.inj h
       exact hP _ rL _ rL _ (((hS.Fl 1).Fl 4).Fz 8 [0,1] (by decide))
      ·refine Et ?_;refine Ez Xo ?_;refine Er fun Sa KO=> ?_;refine EL gC ?_;try simp only [W,Hf,reduceIte,Nat.reduceAdd,Nat.reduceLeDiff,Nat.reduceBEq,hS.var 5 rfl,hS.var 0 rfl]
       refine EY 1 hS rfl rfl rfl rfl rfl h (fun NP agl agm agn Sq h Xp=> ?_) JI.ne;obtain ⟨ago,agp,agq⟩:=hS.elem 1 rfl Xp Sq;try simp only [W]
       refine EZ (a:= .agg [.int .i64 Ih.Id,.int .i64 Ih.Hh,.str Ih.Text,.fz (Ih.Has.map Hl)]) (y' :=Ih) 1 hS rfl Xp Sq rfl rfl rfl rfl rfl rfl rfl fun H hS=> ?_
       try simp only [W]
       refine Ez KO ?_;refine Er fun Sr MH=> ?_;refine Er fun Xq Rg=> ?_;refine EL gC ?_;try simp only [W,Nat.reduceAdd]
       refine E4 h fun RN abw h=> ?_;refine W0 abw (List.mem_of_getElem? (i:=0) rfl) hS fun H hS=> ?_;try simp only [W]
       refine Ez Rg ?_;obtain ⟨y83,h,g84⟩:=Option.bind_eq_some_iff.1 h;refine E9 gC (fun s H=> ∃Jz:List Hj,∃Ld:List Int,y83=(Jz,Ld)∧ ∃v78:AV,bj v78∧ ∃Nr:AV,bj Nr∧s=(u::u::u::u:: .ptr Hz HA 0 0::u::u::u:: .ptr KR KS 0 0::u::u:: .ptr SE SG 0 0::u::u::u::u::u::u::u::u::u::u::u::u::u::u::u::u::u::u::u::u::u::u::u::u::u::u::u::u::u::u::u::u::u::u::u::u::u::u::u::u::u::u::u::u::u::u::u::u::u::u::u::u::u::u::u::u::u::u::u::u::u::u::u::u::u::u::u::u::u::u::u::u::u::u::u::u::u::u::u::u::u::u::u::u::u::u::u::u::u::u::u::u::u::u::u::u::u::u::u::u::[])∧aA H (⟨v78,4,Jz.map Hp⟩::⟨Nr,1,Ld.map (AV.int .i64)⟩::⟨.ptr Hz HA 0 0,2,[.agg [.nil,.nil]]⟩::⟨.ptr KR KS 0 0,2,[.agg [v78,Nr]]⟩::⟨.ptr SE SG 0 0,4,[.agg [.int .i64 Ih.Id,.int .i64 Ih.Hh,.str Ih.Text,.fz (Ih.Has.map Hl)]]⟩::F)) (fun K85 Xr=> ?_) (fun s H hq=> ?_)
       ·refine Er fun K86 Om=> ?_;refine Ew ?_;simp only [W];refine EK h (fun hc h=> ?_) (fun hc h=> ?_)
        ·refine Er fun Xs MP=> ?_;refine EL gC ?_;try simp only [W,Hf,Nat.reduceAdd,Nat.reduceBEq,hS.var 5 rfl]
         refine E4 h fun RO abx h=> ?_;refine abg abx (hS.Fz 6 [1,0,2,3,4,5] (by decide)) JI fun SH PJ H hS=> ?_
         try simp only [W,Hf,Nat.reduceAdd,Nat.reduceBEq,hS.var 5 rfl]
         refine EU (a:=SH) (y' := .agg [SH,v22]) 5 hS rfl rfl rfl rfl (by rw [PJ.cells];rfl) PJ.E0 (PJ.wr _ _ (by simp)) rfl fun H hS=> ?_
         try simp only [W]
         refine Ez MP ?_;refine Er fun K91 UG=> ?_;refine EL gC ?_;try simp only [W,Hf,Nat.reduceAdd,Nat.reduceBEq,hS.var 5 rfl,hS.var 1 rfl]
         refine E3 (el:=([Ih.Id]:List Int).map (AV.int .i64)) hS rfl rfl rfl rfl rfl rfl rfl fun UH H SI hS=> ?_;try simp only [W,Hf]
         refine Fk (l:=IE.Told) (c:=(AV.int .i64)) 3 hS rfl ML rfl rfl rfl (hS.jl 0 rfl SI) (fun _=>rfl) rfl h fun PK H RP Rh hm h hS=> ?_;try simp only [W,Hf,Nat.reduceAdd,Nat.reduceBEq,hS.var 6 rfl]
         refine EU (a:=PK) (y' := .agg [SH,PK]) 6 hS rfl rfl rfl rfl (by rw [Rh.cells];rfl) Rh.E0 (Rh.wr _ _ (by simp)) rfl fun H hS=> ?_
         try simp only [W]
         refine Ez UG ?_;refine EL gC ?_;try simp only [W,Hf,Nat.reduceAdd,Nat.reduceBEq,hS.var 6 rfl]
         refine E4 h fun O8 UI h=> ?_;refine abm UI (hS.Fz 7 [3,0,1,2,4,5,6] (by decide)) Rh fun H hS=> ?_
         try simp only [W]
         refine Ez Om ?_;refine Gw (s' :=(u::u::u::u:: .ptr Hz HA 0 0::u::u::u:: .ptr KR KS 0 0::u::u:: .ptr SE SG 0 0::u::u::u::u::u::u::u::u::u::u::u::u::u::u::u::u::u::u::u::u::u::u::u::u::u::u::u::u::u::u::u::u::u::u::u::u::u::u::u::u::u::u::u::u::u::u::u::u::u::u::u::u::u::u::u::u::u::u::u::u::u::u::u::u::u::u::u::u::u::u::u::u::u::u::u::u::u::u::u::u::u::u::u::u::u::u::u::u::u::u::u::u::u::u::u::u::u::u::u::u::[])) rfl ?_
         exact E_ Xr ⟨_,_,(Option.some.inj h).symm,_,PJ,_,Rh,rfl,(hS.Fz 7 [2,0,5,6,3] (by decide))⟩
        ·refine Et ?_;refine Ez Om ?_;refine Gw (s' :=(u::u::u::u:: .ptr Hz HA 0 0::u::u::u:: .ptr KR KS 0 0::u::u:: .ptr SE SG 0 0::u::u::u::u::u::u::u::u::u::u::u::u::u::u::u::u::u::u::u::u::u::u::u::u::u::u::u::u::u::u::u::u::u::u::u::u::u::u::u::u::u::u::u::u::u::u::u::u::u::u::u::u::u::u::u::u::u::u::u::u::u::u::u::u::u::u::u::u::u::u::u::u::u::u::u::u::u::u::u::u::u::u::u::u::u::u::u::u::u::u::u::u::u::u::u::u::u::u::u::u::[])) rfl ?_
         exact E_ Xr ⟨_,_,(Option.some.inj h).symm,_,JI,_,ML,rfl,(hS.Fz 6 [1,2,4,5,0] (by decide))⟩
       ·obtain ⟨Jz,Ld,rfl,v78,KT,Nr,On,rfl,hS⟩:=hq;replace h:=g84;try dsimp only at h
        refine Ez MH ?_;refine Er fun K98 Xt=> ?_;refine Er fun K99 aby=> ?_;refine EL gC ?_;try simp only [W,Hf,reduceIte,Nat.reduceAdd,Nat.reduceLeDiff,hS.var 3 rfl]
        refine F6 (bS:=[[.sc]]) (ys:=[.agg [.fz (Jz.map Hp),.fz (Ld.map (AV.int .i64))]]) h rfl (FW (FP (CX (FQ hS 0 rfl KT (fun _=>rfl)) (CX (FQ hS 1 rfl On (fun _=>rfl)) (FO _)))) FU) fun Qn abz h=>⟨.bool Qn,PB abz (aA.nil _) fun H hS=>F2 rfl (FY rfl (FX rfl)),⟨rfl,rfl,fun _=>rfl⟩,?_⟩;try simp only [W]
        refine Ez aby ?_;refine Ew ?_;simp only [W];refine EK h (fun hc h=> ?_) (fun hc h=> ?_)
        ·refine Er fun agr abA=> ?_;refine EL gC ?_;try simp only [W,Hf,Nat.reduceAdd]
         refine FE rfl rfl rfl rfl rfl ?_;try simp only [W]
         refine EU (a:= .agg [.nil,.nil]) (y' := .agg [.nil,.nil]) 2 hS rfl rfl rfl rfl rfl rfl rfl rfl fun H hS=> ?_
         try simp only [W]
         refine Ez abA ?_;refine Eu ?_;refine EA Xt ?_;refine EG Hi (FB rfl rfl (hS.var 2 rfl) rfl (FC rfl (FC rfl (FC rfl rfl)))) ?_;try obtain rfl:=Option.some.inj h
         exact hP _ rL _ rL _ (((hS.Fl 1).Fl 4).Fz 7 [0,1] (by decide))
        ·refine Et ?_;refine Ez Xt ?_;refine Er fun ZU Sd=> ?_;refine Er fun WG Q4=> ?_;refine EL gC ?_;try simp only [W,Nat.reduceAdd]
         refine E4 h fun RQ abB h=> ?_;refine W0 abB (List.mem_of_getElem? (i:=4) rfl) hS fun H hS=> ?_;try simp only [W]
         refine Ez Q4 ?_;refine Ew ?_;simp only [W];refine EK h (fun hc h=> ?_) (fun hc h=> ?_)
         ·refine Er fun ags abC=> ?_;refine FF gC [(3,[1,2])] (by kernel_rfl) rfl (by kernel_rfl) ?_
          try simp only [W,Hf,reduceIte,Nat.reduceAdd,Nat.reduceLeDiff,Nat.reduceBEq,hS.var 3 rfl,hS.var 4 rfl,jT,mV,Nat.reduceEqDiff]
          refine EU (a:= .agg [v78,Nr]) (y' := .agg [v78,Nr]) 2 hS rfl rfl rfl rfl rfl (by simp only [en,List.all_cons,List.all_nil,KT.sw,On.sw];rfl) rfl rfl fun H hS=> ?_
          refine FG ?_;refine FH (by first|rfl|(simp [fJ,aQ,W,Hf,hS.var 4 rfl];done)|exact Ge 0 hS rfl KT rfl rfl rfl rfl|exact Ge 1 hS rfl On rfl rfl rfl rfl) ?_
          refine FH (by first|rfl|(simp [fJ,aQ,W,Hf,bY,kR,aB,AV.cells,hS.var 4 rfl];done)|exact Ge 0 hS rfl KT rfl rfl rfl rfl|exact Ge 1 hS rfl On rfl rfl rfl rfl) ?_
          refine FI ?_;try simp only [W]
          refine Ez abC ?_;refine Eu ?_;refine EA Sd ?_;refine EG Hi (FB rfl rfl (hS.var 2 rfl) rfl (FC rfl (FC rfl (FC rfl rfl)))) ?_;try obtain rfl:=Option.some.inj h
          exact hP _ KT _ On _ (hS.Fz 5 [0,1] (by decide))
         ·refine Et ?_;refine Ez Sd ?_;refine Er fun abD SJ=> ?_;refine EL gC ?_;try simp only [W,Hf,reduceIte,Nat.reduceAdd,Nat.reduceLeDiff,hS.var 3 rfl]
          refine EU (a:= .agg [v78,Nr]) (y' := .agg [v78,Nr]) 2 hS rfl rfl rfl rfl rfl (by simp only [en,List.all_cons,List.all_nil,KT.sw,On.sw];rfl) rfl rfl fun H hS=> ?_
          try simp only [W]
          refine Ez SJ ?_;refine Eu ?_;refine EG Hi (FB rfl rfl (hS.var 2 rfl) rfl (FC rfl (FC rfl (FC rfl rfl)))) ?_;try obtain rfl:=Option.some.inj h
          exact hP _ KT _ On _ (hS.Fz 5 [0,1] (by decide))
theorem UJ {a0:List Part} {r:(Ho×List (List UInt8)×Bool)} (h:M8 a0=some r) {F:List It} {H:J} (hS:aA H (F)) {P:AV→J→Prop} (hP: ∀v91:AV,bj v91→ ∀v93:AV,bj v93→ ∀PK:AV,bj PK→ ∀H',aA H' (⟨v91,4,r.1.Hg.map Hp⟩::⟨v93,1,r.1.Told.map (AV.int .i64)⟩::⟨PK,1,r.2.1.map AV.str⟩::F)→P (.aD [.agg [v91,v93],PK,.bool r.2.2]) H'):aq C 8 [.fz (a0.map HP)] H P:=by
 refine EO gC (res:=[.cell 2 28,.tmp 3,.tmp 4]) (n:=45) rfl rfl rfl rfl fun K0 Hi=> ?_;simp only [W,Nat.reduceSub,Nat.reduceAdd,List.replicate];unfold M8 at h;refine Er fun K1 Hq=> ?_;refine EL gC ?_;try simp only [W,Nat.reduceAdd]
 refine ET hS rfl rfl fun Hm Hn H hS=> ?_;try simp only [W]
 refine Ez Hq ?_;refine Er fun K4 Hv=> ?_;refine EL gC ?_;try simp only [W,Hf,Nat.reduceAdd]
 refine FE rfl rfl rfl rfl rfl ?_;try simp only [W]
 refine E2 rfl rfl ?_;try simp only [W]
 refine ET hS rfl rfl fun Ns Nt H hS=> ?_;try simp only [W]
 refine EU (a:= .agg [.nil,.nil]) (y' := .agg [.nil,.nil]) 0 hS rfl rfl rfl rfl rfl rfl rfl rfl fun H hS=> ?_
 try simp only [W]
 refine Ez Hv ?_;refine Er fun K7 IJ=> ?_;refine Er fun K8 HS=> ?_;refine EL gC ?_;try simp only [W,Hf,Nat.reduceAdd]
 refine Ez HS ?_;refine Ew ?_;simp only [W];refine EK h (fun hc h=> ?_) (fun hc h=> ?_)
 ·refine Er fun K9 HC=> ?_;refine EL gC ?_;try simp only [W,Hf,Nat.reduceAdd]
  refine FE rfl rfl rfl rfl rfl ?_;try simp only [W]
  refine EU (a:= .agg [.nil,.nil]) (y' := .agg [.nil,.nil]) 1 hS rfl rfl rfl rfl rfl rfl rfl rfl fun H hS=> ?_
  try simp only [W]
  refine Ez HC ?_;refine Eu ?_;refine EA IJ ?_;refine EG Hi (FB rfl rfl (hS.var 1 rfl) rfl (FC rfl (FC rfl rfl))) ?_;try obtain rfl:=Option.some.inj h
  exact hP _ rL _ rL _ rL _ ((((hS.Fl 1).Fl 1).Fl 4).Fz 5 [0,1,2] (by decide))
 ·refine Et ?_;refine Ez IJ ?_;refine Er fun J4 H_=> ?_;refine Er fun Kx Iu=> ?_;refine EL gC ?_;try simp only [W,Hf,Nat.reduceAdd]
  refine Ez Iu ?_;obtain ⟨W8,abE,SB⟩:=Option.bind_eq_some_iff.1 h;refine E9 gC (fun s H=> ∃Je:List (List UInt8),∃I_:List Hj,∃Kv:List Int,W8=LR.next (Je,I_,Kv)∧ ∃v23:AV,bj v23∧ ∃v25:AV,bj v25∧ ∃Mc:AV,bj Mc∧s=[u,u,.ptr Hm Hn 0 0,u,u,.ptr Ns Nt 0 0,v23,u,u,u,u,u,u,u,u,u,u,u,u,u,u,u,u,u,u,u,u,u,u,u,u,u,u,u,u,u,u,u,u,u,u,u,u,u,u]∧aA H (⟨v23,1,Je.map AV.str⟩::⟨v25,4,I_.map Hp⟩::⟨Mc,1,Kv.map (AV.int .i64)⟩::⟨.ptr Hm Hn 0 0,2,[.agg [.nil,.nil]]⟩::⟨.ptr Ns Nt 0 0,2,[.agg [v25,Mc]]⟩::F)) (fun L_ I2=> ?_) (fun s H hq=> ?_)
  ·refine Es fun Lf IQ=> ?_;refine E5 gC abE (fun x s H=>match x with|(HX,HM,HN,HV)=> ∃Lk:AV,bj Lk∧ ∃v17:AV,bj v17∧ ∃v20:AV,bj v20∧s=[u,u,.ptr Hm Hn 0 0,u,u,.ptr Ns Nt 0 0,Lk,u,u,u,u,u,u,u,u,u,u,u,u,.fz (a0.map HP),.int .i64 (a0.length:Int),.int .i64 HM,u,u,u,u,u,u,u,u,u,u,u,u,u,u,u,u,u,u,u,u,u,u,u]∧aA H (⟨Lk,1,HX.map AV.str⟩::⟨v17,4,HN.map Hp⟩::⟨v20,1,HV.map (AV.int .i64)⟩::⟨.ptr Hm Hn 0 0,2,[.agg [.nil,.nil]]⟩::⟨.ptr Ns Nt 0 0,2,[.agg [v17,v20]]⟩::F)) ⟨_,oR,_,rL,_,rL,rfl,((((hS.Fl 1).Fl 4).CS 1).Fz 5 [0,1,2,4,3] (by decide))⟩ (fun x Xl s H h Xu hi Ma I3=> ?_)
   obtain ⟨HX,HM,HN,HV⟩:=x;try dsimp only at hi
   obtain ⟨Lk,KQ,v17,Ri,v20,Kk,rfl,hS⟩:=hi;simp only [RR] at h;refine Er fun Mx IY=> ?_;refine EL gC ?_;try simp only [W,Hf,Nat.reduceAdd]
   refine Ez IY ?_;refine Er fun PG J8=> ?_;refine Ew ?_;simp only [W];refine EK h (fun hc h=> ?_) (fun hc h=> ?_)
   ·refine Et ?_;refine Ez J8 ?_;refine Er fun K38 Sj=> ?_;obtain ⟨y46,h,Xv⟩:=Option.bind_eq_some_iff.1 h;refine E9 gC (fun s H=> ∃LB:List (List UInt8),∃IM:List Hj,∃IA:List Int,y46=LR.next (LB,IM,IA)∧ ∃v41:AV,bj v41∧ ∃SK:AV,bj SK∧ ∃v45:AV,bj v45∧s=[u,u,.ptr Hm Hn 0 0,u,u,.ptr Ns Nt 0 0,v41,u,u,u,u,u,u,u,u,u,u,u,u,.fz (a0.map HP),.int .i64 (a0.length:Int),.int .i64 HM,u,u,u,u,u,u,u,u,u,u,u,u,u,u,u,u,u,u,u,u,u,u,u]∧aA H (⟨v41,1,LB.map AV.str⟩::⟨SK,4,IM.map Hp⟩::⟨v45,1,IA.map (AV.int .i64)⟩::⟨.ptr Hm Hn 0 0,2,[.agg [.nil,.nil]]⟩::⟨.ptr Ns Nt 0 0,2,[.agg [SK,v45]]⟩::F)) (fun Ux Nq=> ?_) (fun s H hq=> ?_)
    ·refine Es fun Sg Lh=> ?_;refine Er fun My I4=> ?_;refine EL gC ?_;try simp only [W,Hf,Nat.reduceAdd]
     refine EX rfl rfl rfl (fun _=>rfl) h fun JE Xd h=> ?_;try simp only [W,Hf,HL,reduceIte,Nat.reduceAdd,Nat.reduceLeDiff]
     refine ET hS rfl rfl fun agt agu H hS=> ?_;try simp only [W]
     refine EU (a:= .agg [.int .i64 JE.Id,.int .i64 JE.At,.int .i64 JE.Hh,.str JE.Text]) (y' := .agg [.int .i64 JE.Id,.int .i64 JE.At,.int .i64 JE.Hh,.str JE.Text]) 0 hS rfl rfl rfl rfl rfl rfl rfl rfl fun H hS=> ?_
     try simp only [W]
     refine Ez I4 ?_;refine Er fun K53 Uy=> ?_;refine EM (fz:=[(2,[([26],[.sl [.sc,.sc,.sc,.sl [.sc,.sc]],.sl [.sc]])])]) gC ?_;try simp only [W,Hf,reduceIte,Nat.reduceAdd,Nat.reduceLeDiff,Nat.reduceBEq,hS.var 0 rfl,hS.var 5 rfl]
     refine Fv rfl ?_;refine Fu 2 hS rfl Ri (fun _ _=>by simp [a8,aT,cE,dT,Hp]) fun H hS=> ?_
     refine Fu 2 hS rfl Kk (fun _ _=>by simp [a8,aT,dT]) fun H hS=> ?_
     refine Fp ?_;simp only [W,xn (c:=(AV.int .i64)) (fun _=>rfl),xn (c:=Hp) (fun _=>rfl)];try simp only [W,Hf,HL,reduceIte,Nat.reduceAdd,Nat.reduceLeDiff,Nat.reduceBEq,Nat.reduceMul,Bool.false_eq_true]
     refine E4 h fun b54 abF h=> ?_;obtain ⟨Ly,Ts,VV,IN⟩:=b54;try dsimp only at h
     refine Xk abF hS fun v59 UK PM UL H hS=> ?_;try simp only [W,Nat.reduceAdd,Nat.reduceBEq]
     refine ET hS rfl rfl fun abG abH H hS=> ?_;try simp only [W,Nat.reduceAdd,Nat.reduceBEq]
     refine EU (a:= .agg [v59,PM]) (y' := .agg [v59,PM]) 0 hS rfl rfl rfl rfl rfl (by simp only [en,List.all_cons,List.all_nil,UK.sw,UL.sw];rfl) rfl rfl fun H hS=> ?_
     try simp only [W,Nat.reduceAdd,Nat.reduceBEq]
     refine Ez Uy ?_;refine Er fun Wx N8=> ?_;refine Er fun R_ Mz=> ?_;refine EL gC ?_;try simp only [W,Nat.reduceAdd]
     refine Ez Mz ?_;refine Ew ?_;simp only [W];refine EK h (fun hc h=> ?_) (fun hc h=> ?_)
     ·refine Er fun Wy Px=> ?_;refine EL gC ?_;try simp only [W,Hf,Nat.reduceAdd]
      refine FE rfl rfl rfl rfl rfl ?_;try simp only [W]
      refine EU (a:= .agg [.nil,.nil]) (y' := .agg [.nil,.nil]) 5 hS rfl rfl rfl rfl rfl rfl rfl rfl fun H hS=> ?_
      try simp only [W]
      refine Ez Px ?_;refine Eu ?_;refine EA N8 ?_;refine EF Lh ?_;try obtain rfl:=Option.some.inj h
      obtain rfl:=Option.some.inj Xv;have h:(some (LR.done (LR.done ((⟨[],[]⟩:Ho),[],false))):Option (LR ((List (List UInt8))×Int×(List Hj)×(List Int)) (LR ((List (List UInt8))×(List Hj)×(List Int)) (Ho×List (List UInt8)×Bool))))=some (LR.done (LR.done ((⟨[],[]⟩:Ho),[],false))):=rfl;refine Fa Nq ?_;refine EA Sj ?_;try obtain rfl:=Option.some.inj h
      obtain rfl:=Xu _ rfl;have h:(some (LR.done ((⟨[],[]⟩:Ho),[],false)):Option (LR ((List (List UInt8))×(List Hj)×(List Int)) (Ho×List (List UInt8)×Bool)))=some (LR.done ((⟨[],[]⟩:Ho),[],false)):=rfl;refine E8 I3 ?_;refine EF IQ ?_;try obtain rfl:=Option.some.inj h
      obtain rfl:=Option.some.inj SB;have h:(some ((⟨[],[]⟩:Ho),[],false):Option (Ho×List (List UInt8)×Bool))=some ((⟨[],[]⟩:Ho),[],false):=rfl;refine Fa I2 ?_;refine EA H_ ?_;refine EG Hi (FB rfl rfl (hS.var 5 rfl) rfl (FC rfl (FC rfl rfl))) ?_;try obtain rfl:=Option.some.inj h
      exact hP _ rL _ rL _ rL _ ((((hS.Fl 1).Fl 1).Fl 4).Fz 10 [0,1,2] (by decide))
     ·refine Et ?_;refine Ez N8 ?_;refine Er fun Sr MH=> ?_;refine EL gC ?_;try simp only [W,Hf,reduceIte,Nat.reduceAdd,Nat.reduceLeDiff,hS.var 0 rfl]
      refine EU (a:= .agg [v59,PM]) (y' := .agg [v59,PM]) 6 hS rfl rfl rfl rfl rfl (by simp only [en,List.all_cons,List.all_nil,UK.sw,UL.sw];rfl) rfl rfl fun H hS=> ?_
      try simp only [W]
      refine Ez MH ?_;refine Er fun Xq Rg=> ?_;refine EL gC ?_;try simp only [W,Nat.reduceAdd]
      refine Ez Rg ?_;obtain ⟨UM,h,UN⟩:=Option.bind_eq_some_iff.1 h;refine E9 gC (fun s H=> ∃LA:List (List UInt8),UM=(LA)∧ ∃v77:AV,bj v77∧s=[u,u,.ptr Hm Hn 0 0,u,u,.ptr Ns Nt 0 0,v77,u,u,u,u,u,u,u,u,u,u,u,u,.fz (a0.map HP),.int .i64 (a0.length:Int),.int .i64 HM,u,u,u,u,u,u,u,u,u,u,u,u,u,u,u,u,u,u,u,u,u,u,u]∧aA H (⟨v77,1,LA.map AV.str⟩::⟨v59,4,Ly.Hg.map Hp⟩::⟨PM,1,Ly.Told.map (AV.int .i64)⟩::⟨.ptr Hm Hn 0 0,2,[.agg [.nil,.nil]]⟩::⟨.ptr Ns Nt 0 0,2,[.agg [v59,PM]]⟩::F)) (fun W6 Ob=> ?_) (fun s H hq=> ?_)
      ·refine Er fun UO MQ=> ?_;refine Ew ?_;simp only [W];refine EK h (fun hc h=> ?_) (fun hc h=> ?_)
       ·refine EL gC ?_;try simp only [W,Nat.reduceAdd]
        refine E3 (el:=([Ts]:List (List UInt8)).map AV.str) hS rfl rfl rfl rfl rfl rfl rfl fun v83 H UP hS=> ?_;try simp only [W,Hf]
        refine Fk (l:=HX) (c:=AV.str) 5 hS rfl KQ rfl rfl rfl (hS.jl 0 rfl UP) (fun _=>rfl) rfl h fun v86 H Qo UQ hm h hS=> ?_;try simp only [W]
        refine Ez MQ ?_;refine Ey ?_;exact E_ Ob ⟨_,(Option.some.inj h).symm,_,UQ,rfl,(hS.Fz 8 [5,2,3,6,7] (by decide))⟩
       ·refine Et ?_;refine Ez MQ ?_;refine Ey ?_;exact E_ Ob ⟨_,(Option.some.inj h).symm,_,KQ,rfl,(hS.Fz 7 [4,1,2,5,6] (by decide))⟩
      ·obtain ⟨LA,Hr,v77,UR,rfl,hS⟩:=hq;obtain rfl:=Hr.symm;replace h:=UN;try dsimp only at h
       refine EC Lh ?_;exact E_ Nq ⟨_,_,_,(Option.some.inj h).symm,_,UR,_,UK,_,UL,rfl,hS⟩
    ·obtain ⟨LB,IM,IA,rfl,v41,abI,SK,abJ,v45,JI,rfl,hS⟩:=hq;replace h:=Xv;try dsimp only at h
     refine Ez Sj ?_;refine EL gC ?_;try simp only [W,Hf,Nat.reduceAdd]
     exact E6 I3 h ⟨_,abI,_,abJ,_,JI,rfl,hS⟩
   ·refine Ev ?_;refine EB J8 ?_;try obtain rfl:=Option.some.inj h
    obtain rfl:=Xu _ rfl;have h:(some (LR.next (HX,HN,HV)):Option (LR ((List (List UInt8))×(List Hj)×(List Int)) (Ho×List (List UInt8)×Bool)))=some (LR.next (HX,HN,HV)):=rfl
    refine E7 I3 ?_;refine EE IQ ?_;exact E_ I2 ⟨_,_,_,(Option.some.inj h).symm,_,KQ,_,Ri,_,Kk,rfl,hS⟩
  ·obtain ⟨Je,I_,Kv,rfl,v23,Lj,v25,MN,Mc,Oh,rfl,hS⟩:=hq;replace h:=SB;try dsimp only at h
   refine Ez H_ ?_;refine Er fun Xw Oo=> ?_;refine EL gC ?_;try simp only [W,Hf,reduceIte,Nat.reduceAdd,Nat.reduceLeDiff,hS.var 4 rfl]
   refine EU (a:= .agg [v25,Mc]) (y' := .agg [v25,Mc]) 3 hS rfl rfl rfl rfl rfl (by simp only [en,List.all_cons,List.all_nil,MN.sw,Oh.sw];rfl) rfl rfl fun H hS=> ?_
   try simp only [W]
   refine Ez Oo ?_;refine Eu ?_;refine EG Hi (FB rfl rfl (hS.var 3 rfl) rfl (FC rfl (FC rfl rfl))) ?_;try obtain rfl:=Option.some.inj h
   exact hP _ MN _ Oh _ Lj _ (hS.Fz 5 [1,2,0] (by decide))
theorem Xx {a0:Part} {r:(Bool)} (h:O9 a0=some r) {F:List It} {H:J} (hS:aA H (F)) {P:AV→J→Prop} (hP: ∀H',aA H' (F)→P (.bool r) H'):aq C 51 [.agg [.int .i64 a0.Id,.int .i64 a0.At,.int .i64 a0.Hh,.str a0.Text]] H P:=by
 refine EO gC (res:=[.tmp 2]) (n:=25) rfl rfl rfl rfl fun K0 Hi=> ?_;simp only [W,Nat.reduceSub,Nat.reduceAdd,List.replicate];unfold O9 at h;refine Er fun K1 Hq=> ?_;refine EL gC ?_;try simp only [W,Nat.reduceAdd]
 refine ES hS rfl rfl rfl rfl fun Hm Hn H hS=> ?_;try simp only [W]
 refine Ez Hq ?_;refine Er fun K4 Hv=> ?_;refine EL gC ?_;try simp only [W,Hf,Nat.reduceAdd,Nat.reduceBEq,hS.var 0 rfl]
 refine E4 h fun Iz Ke h=> ?_;refine TE Ke hS fun H hS=> ?_;try simp only [W]
 refine FD h (fun hc h=> ?_) (fun hc h=> ?_)
 ·try simp only [W,Hf,Nat.reduceAdd,Nat.reduceBEq,hS.var 0 rfl,hc]
  refine E4 h fun Ip LK h=> ?_;refine QZ LK hS fun H hS=> ?_;try simp only [W,reduceIte]
  refine FD h (fun hc h=> ?_) (fun hc h=> ?_)
  ·try simp only [W,Hf,Nat.reduceAdd,Nat.reduceBEq,hS.var 0 rfl,hc]
   refine E4 h fun HT MI h=> ?_;refine QZ MI hS fun H hS=> ?_;try simp only [W,reduceIte]
   refine Ez Hv ?_;refine Eu ?_;refine EH Hi rfl ?_;try obtain rfl:=Option.some.inj h
   exact hP _ (hS.Fz 1 [] (by decide))
  ·try simp only [W,hc]
   refine Ez Hv ?_;refine Eu ?_;refine EH Hi rfl ?_;try obtain rfl:=Option.some.inj h
   exact hP _ (hS.Fz 1 [] (by decide))
 ·try simp only [W,hc]
  refine Ez Hv ?_;refine Eu ?_;refine EH Hi rfl ?_;try obtain rfl:=Option.some.inj h
  exact hP _ (hS.Fz 1 [] (by decide))
theorem Xy {a0:List Int} {a1:Int} {r:(Bool)} (h:O_ a0 a1=some r) {F:List It} {H:J} (hS:aA H (F)) {P:AV→J→Prop} (hP: ∀H',aA H' (F)→P (.bool r) H'):aq C 74 [.fz (a0.map (AV.int .i64)),.int .i64 a1] H P:=by
 refine EO gC (res:=[.tmp 4]) (n:=17) rfl rfl rfl rfl fun K0 Hi=> ?_;simp only [W,Nat.reduceSub,Nat.reduceAdd,List.replicate];unfold O_ at h;refine Er fun K1 Hq=> ?_;refine EL gC ?_;try simp only [W,Nat.reduceAdd]
 refine Ez Hq ?_;refine Er fun K2 Cu=> ?_;refine Er fun K3 HY=> ?_;refine EL gC ?_;try simp only [W,Hf,Nat.reduceAdd]
 refine Ez HY ?_;obtain ⟨LM,LN,g12⟩:=Option.bind_eq_some_iff.1 h;refine E9 gC (fun s H=>LM=LR.next ()∧s=[u,u,u,u,u,u,u,u,u,u,u,u,u,u,u,u,u]∧aA H (F)) (fun K7 IJ=> ?_) (fun s H hq=> ?_)
 ·refine Es fun K8 HS=> ?_;refine E5 gC LN (fun x s H=>s=[u,.int .i64 a1,u,u,u,u,u,.fz (a0.map (AV.int .i64)),.int .i64 (a0.length:Int),.int .i64 x,u,u,u,u,u,u,u]∧aA H (F)) ⟨rfl,hS⟩ (fun HK LO s H h JV hi K9 HC=> ?_)
  skip
  try dsimp only at hi
  obtain ⟨rfl,hS⟩:=hi;simp only [RS] at h;refine Er fun JS Ig=> ?_;refine EL gC ?_;try simp only [W,Hf,Nat.reduceAdd]
  refine Ez Ig ?_;refine Er fun J3 HZ=> ?_;refine Ew ?_;simp only [W];refine EK h (fun hc h=> ?_) (fun hc h=> ?_)
  ·refine Et ?_;refine Ez HZ ?_;refine Er fun LJ IF=> ?_;refine Es fun JT Ie=> ?_;refine Er fun Jb HJ=> ?_;refine EL gC ?_;try simp only [W,Hf,Nat.reduceAdd]
   refine EX rfl rfl rfl (fun _=>rfl) h fun Ja US h=> ?_;try simp only [W,Hf]
   refine Ez HJ ?_;refine Er fun JA HR=> ?_;refine EL gC ?_;try simp only [W,Hf,Nat.reduceAdd]
   refine Ez HR ?_;refine Ew ?_;simp only [W];refine EK h (fun hc h=> ?_) (fun hc h=> ?_)
   ·refine Er fun J5 Ii=> ?_;refine EL gC ?_;try simp only [W,Nat.reduceAdd]
    refine Ez Ii ?_;refine Eu ?_;refine EF Ie ?_;refine EA IF ?_;try obtain rfl:=Option.some.inj h
    obtain rfl:=JV _ rfl;have h:(some (LR.done true):Option (LR Unit (Bool)))=some (LR.done true):=rfl;refine E8 HC ?_;refine EF HS ?_;try obtain rfl:=Option.some.inj h
    obtain rfl:=Option.some.inj g12;have h:(some true:Option (Bool))=some true:=rfl;refine Fa IJ ?_;refine EA Cu ?_;refine EH Hi rfl ?_;try obtain rfl:=Option.some.inj h
    exact hP _ hS
   ·refine Et ?_;refine ED Ie ?_;refine Ez IF ?_;refine EL gC ?_;try simp only [W,Hf,Nat.reduceAdd]
    exact E6 HC h ⟨rfl,hS⟩
  ·refine Ev ?_;refine EB HZ ?_;try obtain rfl:=Option.some.inj h
   obtain rfl:=JV _ rfl;have h:(some (LR.next ()):Option (LR Unit (Bool)))=some (LR.next ()):=rfl
   refine E7 HC ?_;refine EE HS ?_;exact E_ IJ ⟨(Option.some.inj h).symm,rfl,hS⟩
 ·obtain ⟨rfl,rfl,hS⟩:=hq;replace h:=g12;try dsimp only at h
  refine Ez Cu ?_;refine Er fun KP Im=> ?_;refine EL gC ?_;try simp only [W,Nat.reduceAdd]
  refine Ez Im ?_;refine Eu ?_;refine EH Hi rfl ?_;try obtain rfl:=Option.some.inj h
  exact hP _ hS
theorem abK {a0:Int} {a1:Int} {r:(Hj)} (h:Qp a0 a1=some r) {F:List It} {H:J} (hS:aA H (F)) {P:AV→J→Prop} (hP: ∀KA:AV,bj KA→ ∀H',aA H' (⟨KA,2,r.Has.map Hl⟩::F)→P (.agg [.int .i64 r.Id,.int .i64 r.Hh,.str r.Text,KA]) H'):aq C 101 [.int .i64 a0,.int .i64 a1] H P:=by
 refine EO gC (res:=[.cell 4 99]) (n:=11) rfl rfl rfl rfl fun K0 Hi=> ?_;simp only [W,Nat.reduceSub,Nat.reduceAdd,List.replicate];unfold Qp at h;refine Er fun K1 Hq=> ?_;refine EL gC ?_;try simp only [W,Nat.reduceAdd]
 refine ET hS rfl rfl fun Hm Hn H hS=> ?_;try simp only [W]
 refine Ez Hq ?_;refine Er fun K4 Hv=> ?_;refine EL gC ?_;try simp only [W,Nat.reduceAdd]
 refine Fj (c:=(AV.int .u8)) hS rfl rfl rfl rfl rfl rfl h fun v5 H HD qv5 hm h hS=> ?_;try simp only [W,Hf]
 refine Ff rfl rfl rfl rfl rfl rfl rfl (hS.jl 0 rfl qv5) (hS.CG 0 rfl) ?_;try simp only [W,Hf]
 refine FE rfl rfl rfl rfl rfl ?_;try simp only [W]
 refine EU (a:= .agg [.int .i64 a0,.int .i64 a1,.str (rQ HD),.nil]) (y' := .agg [.int .i64 a0,.int .i64 a1,.str (rQ HD),.nil]) 1 hS rfl rfl rfl rfl rfl rfl rfl rfl fun H hS=> ?_
 try simp only [W]
 refine Ez Hv ?_;refine Eu ?_;refine EG Hi (FB rfl rfl (hS.var 1 rfl) rfl rfl) ?_;try obtain rfl:=Option.some.inj h
 exact hP _ rL _ ((hS.Fl 2).Fz 3 [0] (by decide))
theorem Xz {a0:List Span} {a1:Int} {r:(Bool)} (h:Pa a0 a1=some r) {F:List It} {H:J} (hS:aA H (F)) {P:AV→J→Prop} (hP: ∀H',aA H' (F)→P (.bool r) H'):aq C 120 [.fz (a0.map Hl),.int .i64 a1] H P:=by
 refine EO gC (res:=[.tmp 4]) (n:=24) rfl rfl rfl rfl fun K0 Hi=> ?_;simp only [W,Nat.reduceSub,Nat.reduceAdd,List.replicate];unfold Pa at h;refine Er fun K1 Hq=> ?_;refine EL gC ?_;try simp only [W,Nat.reduceAdd]
 refine Ez Hq ?_;refine Er fun K2 Cu=> ?_;refine Er fun K3 HY=> ?_;refine EL gC ?_;try simp only [W,Hf,Nat.reduceAdd]
 refine Ez HY ?_;obtain ⟨LM,LN,g12⟩:=Option.bind_eq_some_iff.1 h;refine E9 gC (fun s H=>LM=LR.next ()∧s=[u,u,u,u,u,u,u,u,u,u,u,u,u,u,u,u,u,u,u,u,u,u,u,u]∧aA H (F)) (fun K7 IJ=> ?_) (fun s H hq=> ?_)
 ·refine Es fun K8 HS=> ?_;refine E5 gC LN (fun x s H=>s=[u,.int .i64 a1,u,u,u,u,u,.fz (a0.map Hl),.int .i64 (a0.length:Int),.int .i64 x,u,u,u,u,u,u,u,u,u,u,u,u,u,u]∧aA H (F)) ⟨rfl,hS⟩ (fun HK LO s H h JV hi K9 HC=> ?_)
  skip
  try dsimp only at hi
  obtain ⟨rfl,hS⟩:=hi;simp only [Qq] at h;refine Er fun JS Ig=> ?_;refine EL gC ?_;try simp only [W,Hf,Nat.reduceAdd]
  refine Ez Ig ?_;refine Er fun J3 HZ=> ?_;refine Ew ?_;simp only [W];refine EK h (fun hc h=> ?_) (fun hc h=> ?_)
  ·refine Et ?_;refine Ez HZ ?_;refine Er fun LJ IF=> ?_;refine Es fun JT Ie=> ?_;refine Er fun Jb HJ=> ?_;refine EL gC ?_;try simp only [W,Hf,Nat.reduceAdd]
   refine EX rfl rfl rfl (fun _=>rfl) h fun Ja US h=> ?_;try simp only [W,Hf,HL,reduceIte,Nat.reduceAdd,Nat.reduceLeDiff]
   refine ET hS rfl rfl fun abL abM H hS=> ?_;try simp only [W]
   refine EU (a:= .agg [.int .i64 Ja.Hk,.int .i64 Ja.To]) (y' := .agg [.int .i64 Ja.Hk,.int .i64 Ja.To]) 0 hS rfl rfl rfl rfl rfl rfl rfl rfl fun H hS=> ?_
   try simp only [W]
   refine Ez HJ ?_;refine Er fun Nl Jl=> ?_;obtain ⟨Q7,h,g24⟩:=Option.bind_eq_some_iff.1 h;refine E9 gC (fun s H=> ∃Je:Bool,Q7=(Je)∧s=[u,.int .i64 a1,u,u,u,u,u,.fz (a0.map Hl),.int .i64 (a0.length:Int),.int .i64 HK,u,u,u,u,u,u,u,u,u,u,u,u,.bool Je,u]∧aA H (F)) (fun Ky Il=> ?_) (fun s H hq=> ?_)
   ·refine Er fun Kg Ik=> ?_;refine EL gC ?_;try simp only [W,Hf,Nat.reduceAdd,Nat.reduceBEq,hS.var 0 rfl]
    refine FD h (fun hc h=> ?_) (fun hc h=> ?_)
    ·try simp only [W,Hf,reduceIte,Nat.reduceAdd,Nat.reduceBEq,hS.var 0 rfl,hc]
     refine Ez Ik ?_;refine Ey ?_;exact E_ Il ⟨_,(Option.some.inj h).symm,rfl,(hS.Fz 1 [] (by decide))⟩
    ·try simp only [W,hc]
     refine Ez Ik ?_;refine Ey ?_;exact E_ Il ⟨_,(Option.some.inj h).symm,rfl,(hS.Fz 1 [] (by decide))⟩
   ·obtain ⟨Je,Hr,rfl,hS⟩:=hq;obtain rfl:=Hr.symm;replace h:=g24;try dsimp only at h
    refine Ez Jl ?_;refine Ew ?_;simp only [W];refine EK h (fun hc h=> ?_) (fun hc h=> ?_)
    ·refine Er fun KP Im=> ?_;refine EL gC ?_;try simp only [W,Nat.reduceAdd]
     refine Ez Im ?_;refine Eu ?_;refine EF Ie ?_;refine EA IF ?_;try obtain rfl:=Option.some.inj h
     obtain rfl:=JV _ rfl;have h:(some (LR.done true):Option (LR Unit (Bool)))=some (LR.done true):=rfl;refine E8 HC ?_;refine EF HS ?_;try obtain rfl:=Option.some.inj h
     obtain rfl:=Option.some.inj g12;have h:(some true:Option (Bool))=some true:=rfl;refine Fa IJ ?_;refine EA Cu ?_;refine EH Hi rfl ?_;try obtain rfl:=Option.some.inj h
     exact hP _ hS
    ·refine Et ?_;refine ED Ie ?_;refine Ez IF ?_;refine EL gC ?_;try simp only [W,Hf,Nat.reduceAdd]
     exact E6 HC h ⟨rfl,hS⟩
  ·refine Ev ?_;refine EB HZ ?_;try obtain rfl:=Option.some.inj h
   obtain rfl:=JV _ rfl;have h:(some (LR.next ()):Option (LR Unit (Bool)))=some (LR.next ()):=rfl
   refine E7 HC ?_;refine EE HS ?_;exact E_ IJ ⟨(Option.some.inj h).symm,rfl,hS⟩
 ·obtain ⟨rfl,rfl,hS⟩:=hq;replace h:=g12;try dsimp only at h
  refine Ez Cu ?_;refine Er fun N9 JC=> ?_;refine EL gC ?_;try simp only [W,Nat.reduceAdd]
  refine Ez JC ?_;refine Eu ?_;refine EH Hi rfl ?_;try obtain rfl:=Option.some.inj h
  exact hP _ hS
theorem abN {a0:Int} {a1:Int} {r:(Int)} (h:Qr a0 a1=some r) {F:List It} {H:J} (hS:aA H (F)) {P:AV→J→Prop} (hP: ∀H',aA H' (F)→P (.int .i64 r) H'):aq C 169 [.int .i64 a0,.int .i64 a1] H P:=by
 refine EO gC (res:=[.tmp 4]) (n:=10) rfl rfl rfl rfl fun K0 Hi=> ?_;simp only [W,Nat.reduceSub,Nat.reduceAdd,List.replicate];unfold Qr at h;refine Er fun K1 Hq=> ?_;refine EL gC ?_;try simp only [W,Nat.reduceAdd]
 refine Ez Hq ?_;refine Er fun K2 Cu=> ?_;refine Er fun K3 HY=> ?_;refine EL gC ?_;try simp only [W,Hf,Nat.reduceAdd]
 refine Ez HY ?_;refine Ew ?_;simp only [W];refine EK h (fun hc h=> ?_) (fun hc h=> ?_)
 ·refine Er fun K4 Hv=> ?_;refine EL gC ?_;try simp only [W,Nat.reduceAdd]
  refine Ez Hv ?_;refine Eu ?_;refine EA Cu ?_;refine EH Hi rfl ?_;try obtain rfl:=Option.some.inj h
  exact hP _ hS
 ·refine Et ?_;refine Ez Cu ?_;refine Er fun K5 H9=> ?_;refine EL gC ?_;try simp only [W,Nat.reduceAdd]
  refine Ez H9 ?_;refine Eu ?_;refine EH Hi rfl ?_;try obtain rfl:=Option.some.inj h
  exact hP _ hS
theorem abO {a0:List Span} {a1:Span} {r:(List Span)} (h:Qv a0 a1=some r) {F:List It} {H:J} (hS:aA H (F)) {P:AV→J→Prop} (hP: ∀v82:AV,bj v82→ ∀H',aA H' (⟨v82,2,r.map Hl⟩::F)→P (v82) H'):aq C 140 [.fz (a0.map Hl),.agg [.int .i64 a1.Hk,.int .i64 a1.To]] H P:=by
 refine EO gC (res:=[.tmp 4]) (n:=72) rfl rfl rfl rfl fun K0 Hi=> ?_;simp only [W,Nat.reduceSub,Nat.reduceAdd,List.replicate];unfold Qv at h;refine Er fun K1 Hq=> ?_;refine EL gC ?_;try simp only [W,Nat.reduceAdd]
 refine ES hS rfl rfl rfl rfl fun Hm Hn H hS=> ?_;try simp only [W]
 refine Ez Hq ?_;refine Er fun K4 Hv=> ?_;refine EL gC ?_;try simp only [W,Nat.reduceAdd]
 refine Ez Hv ?_;refine Er fun K5 H9=> ?_;refine EL gC ?_;try simp only [W,Nat.reduceAdd]
 refine Ez H9 ?_;refine Er fun K6 ID=> ?_;obtain ⟨MB,abP,g21⟩:=Option.bind_eq_some_iff.1 h;refine E9 gC (fun s H=> ∃Jn:List Span,∃H7:Int,MB=(Jn,H7)∧ ∃v12:AV,bj v12∧s=(.fz (a0.map Hl)::u::u:: .ptr Hm Hn 0 0::u::v12:: .int .i64 H7::u::u::u::u::u::u::u::u::u::u::u::u::u::u::u::u::u::u::u::u::u::u::u::u::u::u::u::u::u::u::u::u::u::u::u::u::u::u::u::u::u::u::u::u::u::u::u::u::u::u::u::u::u::u::u::u::u::u::u::u::u::u::u::u::u::[])∧aA H (⟨v12,2,Jn.map Hl⟩::⟨.ptr Hm Hn 0 0,2,[.agg [.int .i64 a1.Hk,.int .i64 a1.To]]⟩::F)) (fun JT Ie=> ?_) (fun s H hq=> ?_)
 ·refine Es fun Jb HJ=> ?_;refine E5 gC abP (fun x s H=>match x with|(HD,HO)=> ∃KA:AV,bj KA∧s=(.fz (a0.map Hl)::u::u:: .ptr Hm Hn 0 0::u::KA:: .int .i64 HO::u::u::u::u::u::u::u::u::u::u::u::u::u::u::u::u::u::u::u::u::u::u::u::u::u::u::u::u::u::u::u::u::u::u::u::u::u::u::u::u::u::u::u::u::u::u::u::u::u::u::u::u::u::u::u::u::u::u::u::u::u::u::u::u::u::[])∧aA H (⟨KA,2,HD.map Hl⟩::⟨.ptr Hm Hn 0 0,2,[.agg [.int .i64 a1.Hk,.int .i64 a1.To]]⟩::F)) ⟨_,rL,rfl,(hS.Fl 2)⟩ (fun x R7 s H h abQ hi Jp HQ=> ?_)
  obtain ⟨HD,HO⟩:=x;try dsimp only at hi
  obtain ⟨KA,PD,rfl,hS⟩:=hi;simp only [Qs] at h;refine Er fun N5 JH=> ?_;refine Er fun L8 I1=> ?_;obtain ⟨UT,h,UU⟩:=Option.bind_eq_some_iff.1 h;refine E9 gC (fun s H=> ∃I_:Bool,UT=(I_)∧s=(.fz (a0.map Hl)::u::u:: .ptr Hm Hn 0 0::u::KA:: .int .i64 HO::u::u::u::u::u::u::u::u::u::u::u::u::u:: .bool I_::u::u::u::u::u::u::u::u::u::u::u::u::u::u::u::u::u::u::u::u::u::u::u::u::u::u::u::u::u::u::u::u::u::u::u::u::u::u::u::u::u::u::u::u::u::u::u::u::u::u::u::[])∧aA H (⟨KA,2,HD.map Hl⟩::⟨.ptr Hm Hn 0 0,2,[.agg [.int .i64 a1.Hk,.int .i64 a1.To]]⟩::F)) (fun KP Im=> ?_) (fun s H hq=> ?_)
  ·refine Er fun LL Ir=> ?_;refine EN gC (by kernel_rfl) ?_
   try simp only [W,Hf,Nat.reduceAdd]
   refine FD h (fun hc h=> ?_) (fun hc h=> ?_)
   ·try simp only [W,Hf,hc]
    refine EX rfl rfl rfl (fun _=>rfl) h fun II Md h=> ?_;try simp only [W,Hf,HL,reduceIte,Nat.reduceAdd,Nat.reduceBEq,hS.var 1 rfl]
    refine Ez Ir ?_;refine Gw (s' :=(.fz (a0.map Hl)::u::u:: .ptr Hm Hn 0 0::u::KA:: .int .i64 HO::u::u::u::u::u::u::u::u::u::u::u::u::u:: .bool (decide (II.To<a1.Hk))::u::u::u::u::u::u::u::u::u::u::u::u::u::u::u::u::u::u::u::u::u::u::u::u::u::u::u::u::u::u::u::u::u::u::u::u::u::u::u::u::u::u::u::u::u::u::u::u::u::u::u::[])) rfl ?_
    exact E_ Im ⟨_,(Option.some.inj h).symm,rfl,hS⟩
   ·try simp only [W,hc]
    refine Ez Ir ?_;refine Gw (s' :=(.fz (a0.map Hl)::u::u:: .ptr Hm Hn 0 0::u::KA:: .int .i64 HO::u::u::u::u::u::u::u::u::u::u::u::u::u:: .bool false::u::u::u::u::u::u::u::u::u::u::u::u::u::u::u::u::u::u::u::u::u::u::u::u::u::u::u::u::u::u::u::u::u::u::u::u::u::u::u::u::u::u::u::u::u::u::u::u::u::u::u::[])) rfl ?_
    exact E_ Im ⟨_,(Option.some.inj h).symm,rfl,hS⟩
  ·obtain ⟨I_,Hr,rfl,hS⟩:=hq;obtain rfl:=Hr.symm;replace h:=UU;try dsimp only at h
   refine Ez I1 ?_;refine Ew ?_;simp only [W];refine EK h (fun hc h=> ?_) (fun hc h=> ?_)
   ·refine Et ?_;refine Ez JH ?_;refine Es fun L_ I2=> ?_;refine Er fun Lf IQ=> ?_;refine EL gC ?_;try simp only [W,Hf,Nat.reduceAdd]
    refine EX rfl rfl rfl (fun _=>rfl) h fun KL XA h=> ?_;try simp only [W,Hf,HL,reduceIte,Nat.reduceAdd,Nat.reduceLeDiff]
    refine E3 (el:=([KL]:List Span).map Hl) hS rfl rfl rfl rfl rfl rfl rfl fun v33 H abR hS=> ?_;try simp only [W,Hf]
    refine Fk (l:=HD) (c:=Hl) 1 hS rfl PD rfl rfl rfl (hS.jl 0 rfl abR) (fun _=>rfl) rfl h fun Oq H J1 SL hm h hS=> ?_;try simp only [W]
    refine Ez IQ ?_;refine EL gC ?_;try simp only [W,Hf,Nat.reduceAdd]
    refine ED I2 ?_;exact E6 HQ h ⟨_,SL,rfl,(hS.Fz 3 [1,2] (by decide))⟩
   ·refine Ev ?_;refine EB JH ?_;try obtain rfl:=Option.some.inj h
    obtain rfl:=abQ _ rfl;have h:(some (HD,HO):Option ((List Span)×Int))=some (HD,HO):=rfl;refine E7 HQ ?_;refine EE HJ ?_;exact E_ Ie ⟨_,_,(Option.some.inj h).symm,_,PD,rfl,hS⟩
 ·obtain ⟨Jn,H7,rfl,v12,Ud,rfl,hS⟩:=hq;replace h:=g21;try dsimp only at h
  refine Ez ID ?_;refine Er fun Rb J7=> ?_;obtain ⟨Oi,abS,g54⟩:=Option.bind_eq_some_iff.1 h;refine E9 gC (fun s H=> ∃IA:Int,∃Pb:Int,∃Pc:Int,Oi=(IA,Pb,Pc)∧s=(.fz (a0.map Hl)::u::u:: .ptr Hm Hn 0 0::u::v12:: .int .i64 IA::u::u::u::u::u::u::u::u::u::u::u::u::u::u::u::u::u::u::u::u::u::u::u::u::u::u::u::u::u::u::u::u::u::u::u::u::u::u::u::u::u::u::u::u::u::u::u::u::u::u::u::u::u::u::u::u::u::u::u::u::u::u::u::u::u::[])∧aA H (⟨v12,2,Jn.map Hl⟩::⟨.ptr Hm Hn 0 0,2,[.agg [.int .i64 Pb,.int .i64 Pc]]⟩::F)) (fun My I4=> ?_) (fun s H hq=> ?_)
  ·refine Es fun Pw JJ=> ?_;refine E5 gC abS (fun x s H=>match x with|(Jv,IM,JR)=>s=(.fz (a0.map Hl)::u::u:: .ptr Hm Hn 0 0::u::v12:: .int .i64 Jv::u::u::u::u::u::u::u::u::u::u::u::u::u::u::u::u::u::u::u::u::u::u::u::u::u::u::u::u::u::u::u::u::u::u::u::u::u::u::u::u::u::u::u::u::u::u::u::u::u::u::u::u::u::u::u::u::u::u::u::u::u::u::u::u::u::[])∧aA H (⟨v12,2,Jn.map Hl⟩::⟨.ptr Hm Hn 0 0,2,[.agg [.int .i64 IM,.int .i64 JR]]⟩::F)) ⟨rfl,hS⟩ (fun x y53 s H h abT hi XB Ot=> ?_)
   obtain ⟨Jv,IM,JR⟩:=x;try dsimp only at hi
   obtain ⟨rfl,hS⟩:=hi;simp only [Qt] at h;refine Er fun W2 Oa=> ?_;refine Er fun T8 LS=> ?_;obtain ⟨W3,h,Sm⟩:=Option.bind_eq_some_iff.1 h;refine E9 gC (fun s H=> ∃Kt:Bool,W3=(Kt)∧s=(.fz (a0.map Hl)::u::u:: .ptr Hm Hn 0 0::u::v12:: .int .i64 Jv::u::u::u::u::u::u::u::u::u::u::u::u::u::u::u::u::u::u::u::u::u::u::u::u::u::u::u::u::u::u::u::u::u::u::u::u:: .bool Kt::u::u::u::u::u::u::u::u::u::u::u::u::u::u::u::u::u::u::u::u::u::u::u::u::u::u::u::u::[])∧aA H (⟨v12,2,Jn.map Hl⟩::⟨.ptr Hm Hn 0 0,2,[.agg [.int .i64 IM,.int .i64 JR]]⟩::F)) (fun T9 ME=> ?_) (fun s H hq=> ?_)
   ·refine Er fun T_ MF=> ?_;refine EN gC (by kernel_rfl) ?_
    try simp only [W,Hf,Nat.reduceAdd]
    refine FD h (fun hc h=> ?_) (fun hc h=> ?_)
    ·try simp only [W,Hf,hc]
     refine EX rfl rfl rfl (fun _=>rfl) h fun Ih UB h=> ?_;try simp only [W,Hf,HL,reduceIte,Nat.reduceAdd,Nat.reduceBEq,hS.var 1 rfl]
     refine Ez MF ?_;refine Gw (s' :=(.fz (a0.map Hl)::u::u:: .ptr Hm Hn 0 0::u::v12:: .int .i64 Jv::u::u::u::u::u::u::u::u::u::u::u::u::u::u::u::u::u::u::u::u::u::u::u::u::u::u::u::u::u::u::u::u::u::u::u::u:: .bool (decide (Ih.Hk≤JR))::u::u::u::u::u::u::u::u::u::u::u::u::u::u::u::u::u::u::u::u::u::u::u::u::u::u::u::u::[])) rfl ?_
     exact E_ ME ⟨_,(Option.some.inj h).symm,rfl,hS⟩
    ·try simp only [W,hc]
     refine Ez MF ?_;refine Gw (s' :=(.fz (a0.map Hl)::u::u:: .ptr Hm Hn 0 0::u::v12:: .int .i64 Jv::u::u::u::u::u::u::u::u::u::u::u::u::u::u::u::u::u::u::u::u::u::u::u::u::u::u::u::u::u::u::u::u::u::u::u::u:: .bool false::u::u::u::u::u::u::u::u::u::u::u::u::u::u::u::u::u::u::u::u::u::u::u::u::u::u::u::u::[])) rfl ?_
     exact E_ ME ⟨_,(Option.some.inj h).symm,rfl,hS⟩
   ·obtain ⟨Kt,Hr,rfl,hS⟩:=hq;obtain rfl:=Hr.symm;replace h:=Sm;try dsimp only at h
    refine Ez LS ?_;refine Ew ?_;simp only [W];refine EK h (fun hc h=> ?_) (fun hc h=> ?_)
    ·refine Et ?_;refine Ez Oa ?_;refine Es fun K63 Sp=> ?_;refine Er fun K64 Ua=> ?_;refine FF gC [(17,[])] (by kernel_rfl) rfl (by kernel_rfl) ?_
     try simp only [W,Hf,reduceIte,Nat.reduceAdd,Nat.reduceBEq,hS.var 1 rfl,jT,mV,Nat.reduceEqDiff]
     refine EX rfl rfl rfl (fun _=>rfl) h fun Mq aaH h=> ?_;try simp only [W,Hf,HL,Nat.reduceAdd,Nat.reduceBEq]
     refine F6 (bS:=[[.sc]]) (ys:=[.int .i64 IM,.int .i64 Mq.Hk]) h rfl (by rfl) fun M9 abU h=>⟨.int .i64 M9,Ww abU (aA.nil _) fun H hS=>F2 rfl (FY rfl (FX rfl)),⟨rfl,rfl,fun _=>rfl⟩,?_⟩
     try simp only [W,Hf,Nat.reduceAdd,Nat.reduceBEq,hS.var 1 rfl]
     refine EX rfl rfl rfl (fun _=>rfl) h fun Tt agv h=> ?_;try simp only [W,Hf,HL,Nat.reduceAdd,Nat.reduceBEq]
     refine F6 (bS:=[[.sc]]) (ys:=[.int .i64 JR,.int .i64 Tt.To]) h rfl (by rfl) fun Qu abV h=>⟨.int .i64 Qu,abN abV (aA.nil _) fun H hS=>F2 rfl (FY rfl (FX rfl)),⟨rfl,rfl,fun _=>rfl⟩,?_⟩
     try simp only [W,Hf]
     refine FE rfl rfl rfl rfl rfl ?_;try simp only [W]
     refine EU (a:= .agg [.int .i64 M9,.int .i64 Qu]) (y' := .agg [.int .i64 M9,.int .i64 Qu]) 1 hS rfl rfl rfl rfl rfl rfl rfl rfl fun H hS=> ?_
     try simp only [W]
     refine Ez Ua ?_;refine EL gC ?_;try simp only [W,Hf,Nat.reduceAdd]
     refine ED Sp ?_;exact E6 Ot h ⟨rfl,hS⟩
    ·refine Ev ?_;refine EB Oa ?_;try obtain rfl:=Option.some.inj h
     obtain rfl:=abT _ rfl;have h:(some (Jv,IM,JR):Option (Int×Int×Int))=some (Jv,IM,JR):=rfl;refine E7 Ot ?_;refine EE JJ ?_;exact E_ I4 ⟨_,_,_,(Option.some.inj h).symm,rfl,hS⟩
  ·obtain ⟨IA,Pb,Pc,rfl,rfl,hS⟩:=hq;replace h:=g54;try dsimp only at h
   refine Ez J7 ?_;refine Er fun Sa KO=> ?_;refine EL gC ?_;try simp only [W,Hf,reduceIte,Nat.reduceAdd,Nat.reduceLeDiff,hS.var 1 rfl]
   refine E3 (el:=([(⟨Pb,Pc⟩:Span)]:List Span).map Hl) hS rfl rfl rfl rfl rfl rfl rfl fun v72 H abW hS=> ?_;try simp only [W,Hf]
   refine Fk (l:=Jn) (c:=Hl) 1 hS rfl Ud rfl rfl rfl (hS.jl 0 rfl abW) (fun _=>rfl) rfl h fun v75 H Tu abX hm h hS=> ?_;try simp only [W]
   refine Ez KO ?_;refine Er fun ZB Sb=> ?_;refine EL gC ?_;try simp only [W,Hf,Nat.reduceAdd]
   refine Fh rfl rfl rfl (fun _=>rfl) h fun VW agw h=> ?_;try simp only [W,Hf]
   refine Fk (l:=Tu) (c:=Hl) 1 hS rfl abX rfl rfl rfl rfl (fun _=>rfl) rfl h fun v80 H VX abY hm h hS=> ?_;try simp only [W]
   refine Ez Sb ?_;refine Eu ?_;refine EH Hi rfl ?_;try obtain rfl:=Option.some.inj h
   exact hP _ abY _ (hS.Fz 3 [1] (by decide))
theorem abZ {a0:Hj} {a1:Part} {r:(Hj×Int×Bool)} (h:Qx a0 a1=some r) {F:List It} {H:J} (hS:aA H (F)) {P:AV→J→Prop} (hP: ∀PI:AV,bj PI→ ∀H',aA H' (⟨PI,2,r.1.Has.map Hl⟩::F)→P (.aD [.agg [.int .i64 r.1.Id,.int .i64 r.1.Hh,.str r.1.Text,PI],.int .i64 r.2.1,.bool r.2.2]) H'):aq C 102 [.agg [.int .i64 a0.Id,.int .i64 a0.Hh,.str a0.Text,.fz (a0.Has.map Hl)],.agg [.int .i64 a1.Id,.int .i64 a1.At,.int .i64 a1.Hh,.str a1.Text]] H P:=by
 refine EO gC (res:=[.cell 4 99,.tmp 5,.tmp 6]) (n:=64) rfl rfl rfl rfl fun K0 Hi=> ?_;simp only [W,Nat.reduceSub,Nat.reduceAdd,List.replicate];unfold Qx at h;refine Er fun K1 Hq=> ?_;refine EL gC ?_;try simp only [W,Nat.reduceAdd]
 refine ES hS rfl rfl rfl rfl fun Hm Hn H hS=> ?_;try simp only [W]
 refine ES hS rfl rfl rfl rfl fun Hw Hy H hS=> ?_;try simp only [W]
 refine ET hS rfl rfl fun Hz HA H hS=> ?_;try simp only [W]
 refine Ez Hq ?_;refine Er fun K8 HS=> ?_;refine EL gC ?_;try simp only [W,Hf,Nat.reduceAdd,Nat.reduceBEq,hS.var 2 rfl]
 refine Fe hS rfl rfl rfl rfl rfl rfl rfl h fun v10 H Js JU hb h hS=> ?_;try simp only [W]
 refine Ez HS ?_;refine Er fun KN Ic=> ?_;refine EL gC ?_;try simp only [W,Nat.reduceAdd]
 refine Ez Ic ?_;refine Er fun JS Ig=> ?_;refine Er fun J3 HZ=> ?_;refine EL gC ?_;simp only [List.dropLast];try simp only [W,Hf,Nat.reduceAdd,Nat.reduceBEq,hS.var 2 rfl]
 refine Ez HZ ?_;obtain ⟨R7,TK,Q1⟩:=Option.bind_eq_some_iff.1 h;refine E9 gC (fun s H=> ∃Jo:List Int,∃HV:Int,R7=(Jo,HV)∧s=(u::u:: .ptr Hm Hn 0 0:: .ptr Hw Hy 0 0:: .ptr Hz HA 0 0::u::u::v10:: .int .i64 HV::u::u::u::u::u::u::u::u::u::u::u::u::u::u::u::u::u::u::u::u::u::u::u::u::u::u::u::u::u::u::u::u::u::u::u::u::u::u::u::u::u::u::u::u::u::u::u::u::u::u::u::u::u::u::u::[])∧aA H (⟨v10,1,Jo.map (AV.int .u8)⟩::⟨.ptr Hm Hn 0 0,4,[.agg [.int .i64 a0.Id,.int .i64 a0.Hh,.str a0.Text,.fz (a0.Has.map Hl)]]⟩::⟨.ptr Hw Hy 0 0,4,[.agg [.int .i64 a1.Id,.int .i64 a1.At,.int .i64 a1.Hh,.str a1.Text]]⟩::⟨.ptr Hz HA 0 0,4,[.agg [.int .i64 0,.int .i64 0,.str ([]),.nil]]⟩::F)) (fun N5 JH=> ?_) (fun s H hq=> ?_)
 ·refine Es fun L8 I1=> ?_;refine Gz gC rfl rfl rfl (by simp) TK (fun x s H=>match x with|(HM,HN,IB)=>s=(u::u:: .ptr Hm Hn 0 0:: .ptr Hw Hy 0 0:: .ptr Hz HA 0 0::u::u::v10:: .int .i64 HN::u::u::u::u::u::u::u::u::u::u::u::u::u::u::u::u::u::u::u::u::u::u::u::u::u::u::u::u::u::u::u::u::u::u::u::u::u::u::u::u::u::u::u::u::u::u::u::u::u::u::u::u::u::u::u::[])∧aA H (⟨v10,1,HM.map (AV.int .u8)⟩::⟨.ptr Hm Hn 0 0,4,[.agg [.int .i64 a0.Id,.int .i64 a0.Hh,.str a0.Text,.fz (a0.Has.map Hl)]]⟩::⟨.ptr Hw Hy 0 0,4,[.agg [.int .i64 a1.Id,.int .i64 a1.At,.int .i64 a1.Hh,.str a1.Text]]⟩::⟨.ptr Hz HA 0 0,4,[.agg [.int .i64 0,.int .i64 0,.str ([]),.nil]]⟩::F)) (fun x=>match x with|(HM,HN,IB)=>IB) rfl ⟨rfl,(hS.Fz 4 [0,3,2,1] (by decide))⟩ (fun x TL s H h TM hi Kf Iq=> ?_)
  obtain ⟨HM,HN,IB⟩:=x;try dsimp only at hi
  obtain ⟨rfl,hS⟩:=hi;try dsimp only
  simp only [W];simp only [Qw] at h;refine Er fun LL Ir=> ?_;refine EL gC ?_;try simp only [W,Nat.reduceAdd,Gx]
  refine Ez Ir ?_;refine Er fun L7 IP=> ?_;refine Ew ?_;simp only [W];refine EK h (fun hc h=> ?_) (fun hc h=> ?_)
  ·refine Et ?_;refine Ez IP ?_;obtain ⟨T6,h,T7⟩:=Option.bind_eq_some_iff.1 h;refine E9 gC (fun s H=> ∃Ks:List Int,∃JP:Int,T6=(Ks,JP)∧s=(u::u:: .ptr Hm Hn 0 0:: .ptr Hw Hy 0 0:: .ptr Hz HA 0 0::u::u::v10:: .int .i64 JP::u::u::u::u::u::u::u::u::u::u::u::u::u::u::u::u::u::u::u::u::u::u::u::u::u::u::u::u::u::u::u::u::u::u::u::u::u::u::u::u::u::u::u::u::u::u::u::u::u::u::u::u::u::u::u::[])∧aA H (⟨v10,1,Ks.map (AV.int .u8)⟩::⟨.ptr Hm Hn 0 0,4,[.agg [.int .i64 a0.Id,.int .i64 a0.Hh,.str a0.Text,.fz (a0.Has.map Hl)]]⟩::⟨.ptr Hw Hy 0 0,4,[.agg [.int .i64 a1.Id,.int .i64 a1.At,.int .i64 a1.Hh,.str a1.Text]]⟩::⟨.ptr Hz HA 0 0,4,[.agg [.int .i64 0,.int .i64 0,.str ([]),.nil]]⟩::F)) (fun Nn I5=> ?_) (fun s H hq=> ?_)
   ·refine Es fun L_ I2=> ?_;refine Er fun Mx IY=> ?_;refine EL gC ?_;try simp only [W,Nat.reduceAdd,Gy (l:=a1.Text) (n:=IB) (by assumption)]
    refine Ez IY ?_;refine Er fun PG J8=> ?_;refine EL gC ?_;try simp only [W,Hf,Nat.reduceAdd,Nat.reduceBEq,hS.var 1 rfl,hS.var 2 rfl]
    refine E4 h fun Jc LP h=> ?_;refine Xz LP hS fun H hS=> ?_;try simp only [W]
    refine Ez J8 ?_;obtain ⟨y41,h,g42⟩:=Option.bind_eq_some_iff.1 h;refine E9 gC (fun s H=> ∃Jw:List Int,∃LB:Int,y41=(Jw,LB)∧s=(u::u:: .ptr Hm Hn 0 0:: .ptr Hw Hy 0 0:: .ptr Hz HA 0 0::u::u::v10:: .int .i64 LB::u::u::u::u::u::u::u::u::u::u::u::u::u::u::u::u::u::u::u::u::u::u::u::u::u::u::u::u::u::u::u::u::u::u::u::u::u::u::u::u::u::u::u::u::u::u::u::u::u::u::u::u::u::u::u::[])∧aA H (⟨v10,1,Jw.map (AV.int .u8)⟩::⟨.ptr Hm Hn 0 0,4,[.agg [.int .i64 a0.Id,.int .i64 a0.Hh,.str a0.Text,.fz (a0.Has.map Hl)]]⟩::⟨.ptr Hw Hy 0 0,4,[.agg [.int .i64 a1.Id,.int .i64 a1.At,.int .i64 a1.Hh,.str a1.Text]]⟩::⟨.ptr Hz HA 0 0,4,[.agg [.int .i64 0,.int .i64 0,.str ([]),.nil]]⟩::F)) (fun Xm PH=> ?_) (fun s H hq=> ?_)
    ·refine Er fun XC PN=> ?_;refine Ew ?_;simp only [W];refine EK h (fun hc h=> ?_) (fun hc h=> ?_)
     ·refine Er fun Q9 Kz=> ?_;refine FF gC [(10,[])] (by kernel_rfl) rfl (by kernel_rfl) ?_
      try simp only [W,Hf,reduceIte,Nat.reduceAdd,Nat.reduceBEq,hS.var 2 rfl,jT,mV,Nat.reduceEqDiff]
      refine EW h fun RT agx h=> ?_;try simp only [W,Hf]
      refine EY 0 hS rfl rfl rfl rfl rfl h (fun Tq aa0 aa1 aa2 Sx h Sy=> ?_) JU.ne;obtain ⟨aa3,Xb,Xc⟩:=hS.elem 0 rfl Sy Sx;try simp only [W]
      refine EZ (a:= .int .u8 (RT.toNat:Int)) (y' :=(RT.toNat:Int)) 0 hS rfl Sy Sx rfl rfl rfl rfl rfl rfl rfl fun H hS=> ?_
      try simp only [W]
      refine Ez Kz ?_;refine EL gC ?_;try simp only [W,Hf,Nat.reduceAdd]
      refine Ez PN ?_;refine Gw (s' :=(u::u:: .ptr Hm Hn 0 0:: .ptr Hw Hy 0 0:: .ptr Hz HA 0 0::u::u::v10:: .int .i64 (IntKind.i64.wrap (HN+1))::u::u::u::u::u::u::u::u::u::u::u::u::u::u::u::u::u::u::u::u::u::u::u::u::u::u::u::u::u::u::u::u::u::u::u::u::u::u::u::u::u::u::u::u::u::u::u::u::u::u::u::u::u::u::u::[])) rfl ?_
      exact E_ PH ⟨_,_,(Option.some.inj h).symm,rfl,hS⟩
     ·refine Et ?_;refine Ez PN ?_;refine Gw (s' :=(u::u:: .ptr Hm Hn 0 0:: .ptr Hw Hy 0 0:: .ptr Hz HA 0 0::u::u::v10:: .int .i64 HN::u::u::u::u::u::u::u::u::u::u::u::u::u::u::u::u::u::u::u::u::u::u::u::u::u::u::u::u::u::u::u::u::u::u::u::u::u::u::u::u::u::u::u::u::u::u::u::u::u::u::u::u::u::u::u::[])) rfl ?_
      exact E_ PH ⟨_,_,(Option.some.inj h).symm,rfl,hS⟩
    ·obtain ⟨Jw,LB,rfl,rfl,hS⟩:=hq;replace h:=g42;try dsimp only at h
     refine EC I2 ?_;exact E_ I5 ⟨_,_,(Option.some.inj h).symm,rfl,hS⟩
   ·obtain ⟨Ks,JP,rfl,rfl,hS⟩:=hq;replace h:=T7;try dsimp only at h
    exact GA Iq h ⟨rfl,hS⟩ rfl
  ·refine Ev ?_;refine EB IP ?_;try obtain rfl:=Option.some.inj h
   obtain rfl:=TM _ rfl;have h:(some (HM,HN):Option ((List Int)×Int))=some (HM,HN):=rfl;refine GB Iq ?_;refine EE I1 ?_;exact E_ JH ⟨_,_,(Option.some.inj h).symm,rfl,hS⟩
 ·obtain ⟨Jo,HV,rfl,rfl,hS⟩:=hq;replace h:=Q1;try dsimp only at h
  refine Ez Ig ?_;refine Er fun XB Ot=> ?_;refine EL gC ?_;try simp only [W,Hf,Nat.reduceAdd,Nat.reduceBEq,hS.var 1 rfl,hS.var 2 rfl]
  refine FE rfl rfl rfl rfl rfl ?_;try simp only [W]
  refine E4 h fun Ku Sz h=> ?_;refine abO Sz hS fun v53 Ol H hS=> ?_;try simp only [W]
  refine Ez Ot ?_;refine Er fun W2 Oa=> ?_;refine EL gC ?_;try simp only [W,Hf,Nat.reduceAdd,Nat.reduceBEq,hS.var 2 rfl]
  refine Ff rfl rfl rfl rfl rfl rfl rfl (hS.jl 1 rfl JU) (hS.CG 1 rfl) ?_;try simp only [W,Hf]
  refine FE rfl rfl rfl rfl (by simp only [gy,Ol.E0,Ol.cells];simp [E,splice,AV.cells,en,db]<;>rfl) ?_
  try simp only [W,Hf]
  refine E1 0 hS rfl Ol rfl ?_;try simp only [W,Hf]
  refine EU (a:= .agg [.int .i64 a0.Id,.int .i64 a0.Hh,.str (rQ Jo),v53]) (y' := .agg [.int .i64 a0.Id,.int .i64 a0.Hh,.str (rQ Jo),v53]) 4 hS rfl rfl rfl rfl rfl (by simp only [en,List.all_cons,List.all_nil,Ol.sw];rfl) rfl rfl fun H hS=> ?_
  try simp only [W]
  refine Ez Oa ?_;refine Eu ?_;refine EG Hi (FB rfl rfl (hS.var 4 rfl) rfl (FC rfl (FC rfl rfl))) ?_;try obtain rfl:=Option.some.inj h
  exact hP _ Ol _ (hS.Fz 5 [0] (by decide))
theorem ab0 {a0:List Span} {r:(Int)} (h:RU a0=some r) {F:List It} {H:J} (hS:aA H (F)) {P:AV→J→Prop} (hP: ∀H',aA H' (F)→P (.int .i64 r) H'):aq C 121 [.fz (a0.map Hl)] H P:=by
 refine EO gC (res:=[.tmp 2]) (n:=21) rfl rfl rfl rfl fun K0 Hi=> ?_;simp only [W,Nat.reduceSub,Nat.reduceAdd,List.replicate];unfold RU at h;refine Er fun K1 Hq=> ?_;refine EL gC ?_;try simp only [W,Nat.reduceAdd]
 refine Ez Hq ?_;refine Er fun K2 Cu=> ?_;refine EL gC ?_;try simp only [W,Nat.reduceAdd]
 refine Ez Cu ?_;refine Er fun K3 HY=> ?_;refine Er fun K4 Hv=> ?_;refine EL gC ?_;try simp only [W,Hf,Nat.reduceAdd]
 refine Ez Hv ?_;obtain ⟨Kh,Ki,g15⟩:=Option.bind_eq_some_iff.1 h;refine E9 gC (fun s H=> ∃HD:Int,Kh=(HD)∧s=[u,u,u,.int .i64 HD,u,u,u,u,u,u,u,u,u,u,u,u,u,u,u,u,u]∧aA H (F)) (fun J4 H_=> ?_) (fun s H hq=> ?_)
 ·refine Es fun Kx Iu=> ?_;refine E5 gC Ki (fun x s H=>match x with|(HI,HG)=>s=[u,u,u,.int .i64 HI,u,u,.fz (a0.map Hl),.int .i64 (a0.length:Int),.int .i64 HG,u,u,u,u,u,u,u,u,u,u,u,u]∧aA H (F)) ⟨rfl,hS⟩ (fun x MB s H h JB hi KN Ic=> ?_)
  obtain ⟨HI,HG⟩:=x;try dsimp only at hi
  obtain ⟨rfl,hS⟩:=hi;simp only [VY] at h;refine Er fun JT Ie=> ?_;refine EL gC ?_;try simp only [W,Hf,Nat.reduceAdd]
  refine Ez Ie ?_;refine Er fun Jb HJ=> ?_;refine Ew ?_;simp only [W];refine EK h (fun hc h=> ?_) (fun hc h=> ?_)
  ·refine Et ?_;refine Ez HJ ?_;refine Er fun Jp HQ=> ?_;refine Es fun JA HR=> ?_;refine Er fun J5 Ii=> ?_;refine EL gC ?_;try simp only [W,Hf,Nat.reduceAdd]
   refine EX rfl rfl rfl (fun _=>rfl) h fun HU Sf h=> ?_;try simp only [W,Hf,HL,reduceIte,Nat.reduceAdd,Nat.reduceLeDiff]
   refine ET hS rfl rfl fun WW WX H hS=> ?_;try simp only [W]
   refine EU (a:= .agg [.int .i64 HU.Hk,.int .i64 HU.To]) (y' := .agg [.int .i64 HU.Hk,.int .i64 HU.To]) 0 hS rfl rfl rfl rfl rfl rfl rfl rfl fun H hS=> ?_
   try simp only [W]
   refine Ez Ii ?_;refine EL gC ?_;try simp only [W,Hf,Nat.reduceAdd,Nat.reduceBEq,hS.var 0 rfl]
   refine ED HR ?_;refine Ez HQ ?_;refine EL gC ?_;try simp only [W,Hf,Nat.reduceAdd]
   exact E6 Ic h ⟨rfl,(hS.Fz 1 [] (by decide))⟩
  ·refine Ev ?_;refine EB HJ ?_;try obtain rfl:=Option.some.inj h
   obtain rfl:=JB _ rfl;have h:(some (HI):Option (Int))=some (HI):=rfl;refine E7 Ic ?_;refine EE Iu ?_;exact E_ H_ ⟨_,(Option.some.inj h).symm,rfl,hS⟩
 ·obtain ⟨HD,Hr,rfl,hS⟩:=hq;obtain rfl:=Hr.symm;replace h:=g15;try dsimp only at h
  refine Ez HY ?_;refine Er fun Kg Ik=> ?_;refine EL gC ?_;try simp only [W,Nat.reduceAdd]
  refine Ez Ik ?_;refine Eu ?_;refine EH Hi rfl ?_;try obtain rfl:=Option.some.inj h
  exact hP _ hS
theorem XD {a0:Hj} {r:(Bool)} (h:Pd a0=some r) {F:List It} {H:J} (hS:aA H (F)) {P:AV→J→Prop} (hP: ∀H',aA H' (F)→P (.bool r) H'):aq C 73 [.agg [.int .i64 a0.Id,.int .i64 a0.Hh,.str a0.Text,.fz (a0.Has.map Hl)]] H P:=by
 refine EO gC (res:=[.tmp 2]) (n:=9) rfl rfl rfl rfl fun K0 Hi=> ?_;simp only [W,Nat.reduceSub,Nat.reduceAdd,List.replicate];unfold Pd at h;refine Er fun K1 Hq=> ?_;refine EL gC ?_;try simp only [W,Nat.reduceAdd]
 refine ES hS rfl rfl rfl rfl fun Hm Hn H hS=> ?_;try simp only [W]
 refine Ez Hq ?_;refine Er fun K4 Hv=> ?_;refine EN gC (by kernel_rfl) ?_
 try simp only [W,Hf,Nat.reduceAdd,Nat.reduceBEq,hS.var 0 rfl]
 refine F6 (bS:=[[.sc]]) (ys:=[.fz (a0.Has.map Hl)]) h rfl (by rfl) fun Iz Ke h=>⟨.int .i64 Iz,ab0 Ke (aA.nil _) fun H hS=>F2 rfl (FY rfl (FX rfl)),⟨rfl,rfl,fun _=>rfl⟩,?_⟩
 try simp only [W,Hf,Nat.reduceAdd,Nat.reduceBEq,hS.var 0 rfl]
 refine Ez Hv ?_;refine Eu ?_;refine EH Hi rfl ?_;try obtain rfl:=Option.some.inj h
 exact hP _ (hS.Fz 1 [] (by decide))
theorem ab1 {a0:List Int} {a1:Int} {r:(List Int)} (h:Qy a0 a1=some r) {F:List It} {H:J} (hS:aA H (F)) {P:AV→J→Prop} (hP: ∀Q2:AV,bj Q2→ ∀H',aA H' (⟨Q2,1,r.map (AV.int .i64)⟩::F)→P (Q2) H'):aq C 103 [.fz (a0.map (AV.int .i64)),.int .i64 a1] H P:=by
 refine EO gC (res:=[.tmp 4]) (n:=35) rfl rfl rfl rfl fun K0 Hi=> ?_;simp only [W,Nat.reduceSub,Nat.reduceAdd,List.replicate];unfold Qy at h;refine Er fun K1 Hq=> ?_;refine EL gC ?_;try simp only [W,Nat.reduceAdd]
 refine Ez Hq ?_;refine Er fun K2 Cu=> ?_;refine EL gC ?_;try simp only [W,Nat.reduceAdd]
 refine Ez Cu ?_;refine Er fun K3 HY=> ?_;obtain ⟨TB,hw7,g13⟩:=Option.bind_eq_some_iff.1 h;refine E9 gC (fun s H=> ∃HI:Int,TB=(HI)∧s=[.fz (a0.map (AV.int .i64)),.int .i64 a1,u,u,u,.int .i64 HI,u,u,u,u,u,u,u,u,u,u,u,u,u,u,u,u,u,u,u,u,u,u,u,u,u,u,u,u,u]∧aA H (F)) (fun K8 HS=> ?_) (fun s H hq=> ?_)
 ·refine Es fun K9 HC=> ?_;refine E5 gC hw7 (fun x s H=>s=[.fz (a0.map (AV.int .i64)),.int .i64 a1,u,u,u,.int .i64 x,u,u,u,u,u,u,u,u,u,u,u,u,u,u,u,u,u,u,u,u,u,u,u,u,u,u,u,u,u]∧aA H (F)) ⟨rfl,hS⟩ (fun HK y12 s H h ab2 hi J4 H_=> ?_)
  skip
  try dsimp only at hi
  obtain ⟨rfl,hS⟩:=hi;simp only [RV] at h;refine Er fun J3 HZ=> ?_;refine Er fun LJ IF=> ?_;obtain ⟨N6,h,g18⟩:=Option.bind_eq_some_iff.1 h;refine E9 gC (fun s H=> ∃HN:Bool,N6=(HN)∧s=[.fz (a0.map (AV.int .i64)),.int .i64 a1,u,u,u,.int .i64 HK,u,u,u,u,u,u,u,u,u,u,u,u,.bool HN,u,u,u,u,u,u,u,u,u,u,u,u,u,u,u,u]∧aA H (F)) (fun JA HR=> ?_) (fun s H hq=> ?_)
  ·refine Er fun J5 Ii=> ?_;refine EL gC ?_;try simp only [W,Hf,Nat.reduceAdd]
   refine FD h (fun hc h=> ?_) (fun hc h=> ?_)
   ·try simp only [W,Hf,hc]
    refine EX rfl rfl rfl (fun _=>rfl) h fun HU Sf h=> ?_;try simp only [W,Hf,reduceIte]
    refine Ez Ii ?_;refine Ey ?_;exact E_ HR ⟨_,(Option.some.inj h).symm,rfl,hS⟩
   ·try simp only [W,hc]
    refine Ez Ii ?_;refine Ey ?_;exact E_ HR ⟨_,(Option.some.inj h).symm,rfl,hS⟩
  ·obtain ⟨HN,Hr,rfl,hS⟩:=hq;obtain rfl:=Hr.symm;replace h:=g18;try dsimp only at h
   refine Ez IF ?_;refine Ew ?_;simp only [W];refine EK h (fun hc h=> ?_) (fun hc h=> ?_)
   ·refine Et ?_;refine Ez HZ ?_;refine Es fun N5 JH=> ?_;refine EL gC ?_;try simp only [W,Hf,Nat.reduceAdd]
    refine ED JH ?_;exact E6 H_ h ⟨rfl,hS⟩
   ·refine Ev ?_;refine EB HZ ?_;try obtain rfl:=Option.some.inj h
    obtain rfl:=ab2 _ rfl;have h:(some (HK):Option (Int))=some (HK):=rfl;refine E7 H_ ?_;refine EE HC ?_;exact E_ HS ⟨_,(Option.some.inj h).symm,rfl,hS⟩
 ·obtain ⟨HI,Hr,rfl,hS⟩:=hq;obtain rfl:=Hr.symm;replace h:=g13;try dsimp only at h
  refine Ez HY ?_;refine Er fun Ky Il=> ?_;refine EL gC ?_;try simp only [W,Nat.reduceAdd]
  refine E2 rfl rfl ?_;try simp only [W,Hf]
  refine Fh rfl rfl rfl (fun _=>rfl) h fun Kv agy h=> ?_;try simp only [W,Hf]
  have hS:=hS.CS 1;refine Fk (l:=([]:List Int)) (c:=(AV.int .i64)) 0 hS rfl oR rfl rfl rfl rfl (fun _=>rfl) rfl h fun Mw H Jg Ni hm h hS=> ?_;try simp only [W]
  refine Ez Il ?_;refine Er fun Lf IQ=> ?_;refine EL gC ?_;try simp only [W,Nat.reduceAdd]
  refine E3 (el:=([a1]:List Int).map (AV.int .i64)) hS rfl rfl rfl rfl rfl rfl rfl fun v32 H TF hS=> ?_;try simp only [W,Hf]
  refine Fk (l:=Jg) (c:=(AV.int .i64)) 1 hS rfl Ni rfl rfl rfl (hS.jl 0 rfl TF) (fun _=>rfl) rfl h fun v35 H KK ab3 hm h hS=> ?_;try simp only [W]
  refine Ez IQ ?_;refine Er fun PG J8=> ?_;refine EL gC ?_;try simp only [W,Hf,Nat.reduceAdd]
  refine Fh rfl rfl rfl (fun _=>rfl) h fun M_ agz h=> ?_;try simp only [W,Hf]
  refine Fk (l:=KK) (c:=(AV.int .i64)) 1 hS rfl ab3 rfl rfl rfl rfl (fun _=>rfl) rfl h fun v40 H Jw Ra hm h hS=> ?_;try simp only [W]
  refine Ez J8 ?_;refine Eu ?_;refine EH Hi rfl ?_;try obtain rfl:=Option.some.inj h
  exact hP _ Ra _ (hS.Fz 2 [1] (by decide))
theorem XE {a0:Ho} {a1:Part} {r:(Ho×List UInt8×Bool×Bool)} (h:NS a0 a1=some r) {F:List It} {H:J} (hS:aA H (F)) {P:AV→J→Prop} (hP: ∀H',aA H' (F)→P (.aD [.agg [.fz (r.1.Hg.map Hp),.fz (r.1.Told.map (AV.int .i64))],.str r.2.1,.bool r.2.2.1,.bool r.2.2.2]) H'):aq C 52 [.agg [.fz (a0.Hg.map Hp),.fz (a0.Told.map (AV.int .i64))],.agg [.int .i64 a1.Id,.int .i64 a1.At,.int .i64 a1.Hh,.str a1.Text]] H P:=by
 refine EO gC (res:=[.cell 4 28,.tmp 5,.tmp 6,.tmp 7]) (n:=130) rfl rfl rfl rfl fun K0 Hi=> ?_;simp only [W,Nat.reduceSub,Nat.reduceAdd,List.replicate];unfold NS at h;refine Er fun K1 Hq=> ?_;refine EL gC ?_;try simp only [W,Nat.reduceAdd]
 refine ES hS rfl rfl rfl rfl fun Hm Hn H hS=> ?_;try simp only [W]
 refine ES hS rfl rfl rfl rfl fun Hw Hy H hS=> ?_;try simp only [W]
 refine ET hS rfl rfl fun Hz HA H hS=> ?_;try simp only [W]
 refine Ez Hq ?_;refine Er fun K8 HS=> ?_;refine Er fun K9 HC=> ?_;refine EL gC ?_;try simp only [W,Hf,Nat.reduceAdd,Nat.reduceBEq,hS.var 2 rfl,hS.var 1 rfl]
 refine E4 h fun Jm L5 h=> ?_;refine Xy L5 hS fun H hS=> ?_;try simp only [W]
 refine Ez HC ?_;refine Ew ?_;simp only [W];refine EK h (fun hc h=> ?_) (fun hc h=> ?_)
 ·refine Er fun Kx Iu=> ?_;refine EL gC ?_;try simp only [W,Hf,reduceIte,Nat.reduceAdd,Nat.reduceLeDiff,hS.var 2 rfl]
  refine EU (a:= .agg [.fz (a0.Hg.map Hp),.fz (a0.Told.map (AV.int .i64))]) (y' := .agg [.fz (a0.Hg.map Hp),.fz (a0.Told.map (AV.int .i64))]) 0 hS rfl rfl rfl rfl rfl rfl rfl rfl fun H hS=> ?_
  try simp only [W]
  refine Ez Iu ?_;refine Eu ?_;refine EA HS ?_;refine EG Hi (FB rfl rfl (hS.var 0 rfl) rfl (FC rfl (FC rfl (FC rfl rfl)))) ?_;try obtain rfl:=Option.some.inj h
  exact hP _ (hS.Fz 3 [] (by decide))
 ·refine Et ?_;refine Ez HS ?_;refine Er fun KN Ic=> ?_;refine EL gC ?_;try simp only [W,Nat.reduceAdd]
  refine Ez Ic ?_;refine Er fun JS Ig=> ?_;obtain ⟨Ul,Um,g23⟩:=Option.bind_eq_some_iff.1 h;refine E9 gC (fun s H=> ∃HM:Int,Ul=(HM)∧s=(u::u:: .ptr Hm Hn 0 0:: .ptr Hw Hy 0 0:: .ptr Hz HA 0 0::u::u::u:: .int .i64 HM::u::u::u::u::u::u::u::u::u::u::u::u::u::u::u::u::u::u::u::u::u::u::u::u::u::u::u::u::u::u::u::u::u::u::u::u::u::u::u::u::u::u::u::u::u::u::u::u::u::u::u::u::u::u::u::u::u::u::u::u::u::u::u::u::u::u::u::u::u::u::u::u::u::u::u::u::u::u::u::u::u::u::u::u::u::u::u::u::u::u::u::u::u::u::u::u::u::u::u::u::u::u::u::u::u::u::u::u::u::u::u::u::u::u::u::u::u::u::u::u::u::[])∧aA H (⟨.ptr Hm Hn 0 0,2,[.agg [.fz (a0.Hg.map Hp),.fz (a0.Told.map (AV.int .i64))]]⟩::⟨.ptr Hw Hy 0 0,4,[.agg [.int .i64 a1.Id,.int .i64 a1.At,.int .i64 a1.Hh,.str a1.Text]]⟩::⟨.ptr Hz HA 0 0,2,[.agg [.nil,.nil]]⟩::F)) (fun Jp HQ=> ?_) (fun s H hq=> ?_)
  ·refine Es fun JA HR=> ?_;refine E5 gC Um (fun x s H=>s=(u::u:: .ptr Hm Hn 0 0:: .ptr Hw Hy 0 0:: .ptr Hz HA 0 0::u::u::u:: .int .i64 x::u::u::u::u::u::u::u::u::u::u::u::u::u::u::u::u::u::u::u::u::u::u::u::u::u::u::u::u::u::u::u::u::u::u::u::u::u::u::u::u::u::u::u::u::u::u::u::u::u::u::u::u::u::u::u::u::u::u::u::u::u::u::u::u::u::u::u::u::u::u::u::u::u::u::u::u::u::u::u::u::u::u::u::u::u::u::u::u::u::u::u::u::u::u::u::u::u::u::u::u::u::u::u::u::u::u::u::u::u::u::u::u::u::u::u::u::u::u::u::u::u::[])∧aA H (⟨.ptr Hm Hn 0 0,2,[.agg [.fz (a0.Hg.map Hp),.fz (a0.Told.map (AV.int .i64))]]⟩::⟨.ptr Hw Hy 0 0,4,[.agg [.int .i64 a1.Id,.int .i64 a1.At,.int .i64 a1.Hh,.str a1.Text]]⟩::⟨.ptr Hz HA 0 0,2,[.agg [.nil,.nil]]⟩::F)) ⟨rfl,(hS.Fz 3 [2,1,0] (by decide))⟩ (fun HF Ue s H h Un hi J5 Ii=> ?_)
   skip
   try dsimp only at hi
   obtain ⟨rfl,hS⟩:=hi;simp only [RW] at h;refine Er fun Kf Iq=> ?_;refine Er fun Ky Il=> ?_;obtain ⟨XF,h,UW⟩:=Option.bind_eq_some_iff.1 h;refine E9 gC (fun s H=> ∃Kv:Bool,XF=(Kv)∧s=(u::u:: .ptr Hm Hn 0 0:: .ptr Hw Hy 0 0:: .ptr Hz HA 0 0::u::u::u:: .int .i64 HF::u::u::u::u::u::u::u::u::u::u::u::u::u::u::u::u::u::u::u::u::u::u::u::u::u::u::u::u::u:: .bool Kv::u::u::u::u::u::u::u::u::u::u::u::u::u::u::u::u::u::u::u::u::u::u::u::u::u::u::u::u::u::u::u::u::u::u::u::u::u::u::u::u::u::u::u::u::u::u::u::u::u::u::u::u::u::u::u::u::u::u::u::u::u::u::u::u::u::u::u::u::u::u::u::u::u::u::u::u::u::u::u::u::u::u::u::u::u::u::u::u::u::u::u::[])∧aA H (⟨.ptr Hm Hn 0 0,2,[.agg [.fz (a0.Hg.map Hp),.fz (a0.Told.map (AV.int .i64))]]⟩::⟨.ptr Hw Hy 0 0,4,[.agg [.int .i64 a1.Id,.int .i64 a1.At,.int .i64 a1.Hh,.str a1.Text]]⟩::⟨.ptr Hz HA 0 0,2,[.agg [.nil,.nil]]⟩::F)) (fun L7 IP=> ?_) (fun s H hq=> ?_)
   ·refine Er fun L_ I2=> ?_;refine EN gC (by kernel_rfl) ?_
    try simp only [W,Hf,Nat.reduceAdd,Nat.reduceBEq,hS.var 0 rfl]
    refine FD h (fun hc h=> ?_) (fun hc h=> ?_)
    ·try simp only [W,Hf,Nat.reduceAdd,Nat.reduceBEq,hS.var 0 rfl,hc]
     refine EX rfl rfl rfl (fun _=>rfl) h fun Lc TZ h=> ?_;try simp only [W,Hf,HL,reduceIte,Nat.reduceAdd,Nat.reduceBEq,hS.var 1 rfl]
     refine Ez I2 ?_;refine Gw (s' :=(u::u:: .ptr Hm Hn 0 0:: .ptr Hw Hy 0 0:: .ptr Hz HA 0 0::u::u::u:: .int .i64 HF::u::u::u::u::u::u::u::u::u::u::u::u::u::u::u::u::u::u::u::u::u::u::u::u::u::u::u::u::u:: .bool (decide (Lc.Id<a1.Id))::u::u::u::u::u::u::u::u::u::u::u::u::u::u::u::u::u::u::u::u::u::u::u::u::u::u::u::u::u::u::u::u::u::u::u::u::u::u::u::u::u::u::u::u::u::u::u::u::u::u::u::u::u::u::u::u::u::u::u::u::u::u::u::u::u::u::u::u::u::u::u::u::u::u::u::u::u::u::u::u::u::u::u::u::u::u::u::u::u::u::u::[])) rfl ?_
     exact E_ IP ⟨_,(Option.some.inj h).symm,rfl,hS⟩
    ·try simp only [W,hc]
     refine Ez I2 ?_;refine Gw (s' :=(u::u:: .ptr Hm Hn 0 0:: .ptr Hw Hy 0 0:: .ptr Hz HA 0 0::u::u::u:: .int .i64 HF::u::u::u::u::u::u::u::u::u::u::u::u::u::u::u::u::u::u::u::u::u::u::u::u::u::u::u::u::u:: .bool false::u::u::u::u::u::u::u::u::u::u::u::u::u::u::u::u::u::u::u::u::u::u::u::u::u::u::u::u::u::u::u::u::u::u::u::u::u::u::u::u::u::u::u::u::u::u::u::u::u::u::u::u::u::u::u::u::u::u::u::u::u::u::u::u::u::u::u::u::u::u::u::u::u::u::u::u::u::u::u::u::u::u::u::u::u::u::u::u::u::u::u::[])) rfl ?_
     exact E_ IP ⟨_,(Option.some.inj h).symm,rfl,hS⟩
   ·obtain ⟨Kv,Hr,rfl,hS⟩:=hq;obtain rfl:=Hr.symm;replace h:=UW;try dsimp only at h
    refine Ez Il ?_;refine Ew ?_;simp only [W];refine EK h (fun hc h=> ?_) (fun hc h=> ?_)
    ·refine Et ?_;refine Ez Iq ?_;refine Es fun Ma I3=> ?_;refine EL gC ?_;try simp only [W,Hf,Nat.reduceAdd]
     refine ED I3 ?_;exact E6 Ii h ⟨rfl,hS⟩
    ·refine Ev ?_;refine EB Iq ?_;try obtain rfl:=Option.some.inj h
     obtain rfl:=Un _ rfl;have h:(some (HF):Option (Int))=some (HF):=rfl;refine E7 Ii ?_;refine EE HR ?_;exact E_ HQ ⟨_,(Option.some.inj h).symm,rfl,hS⟩
  ·obtain ⟨HM,Hr,rfl,hS⟩:=hq;obtain rfl:=Hr.symm;replace h:=g23;try dsimp only at h
   refine Ez Ig ?_;refine Er fun Nn I5=> ?_;obtain ⟨Uv,h,g38⟩:=Option.bind_eq_some_iff.1 h;refine E9 gC (fun s H=> ∃Jd:Bool,Uv=(Jd)∧s=(u::u:: .ptr Hm Hn 0 0:: .ptr Hw Hy 0 0:: .ptr Hz HA 0 0::u::u::u:: .int .i64 HM:: .bool Jd::u::u::u::u::u::u::u::u::u::u::u::u::u::u::u::u::u::u::u::u::u::u::u::u::u::u::u::u::u::u::u::u::u::u::u::u::u::u::u::u::u::u::u::u::u::u::u::u::u::u::u::u::u::u::u::u::u::u::u::u::u::u::u::u::u::u::u::u::u::u::u::u::u::u::u::u::u::u::u::u::u::u::u::u::u::u::u::u::u::u::u::u::u::u::u::u::u::u::u::u::u::u::u::u::u::u::u::u::u::u::u::u::u::u::u::u::u::u::u::u::[])∧aA H (⟨.ptr Hm Hn 0 0,2,[.agg [.fz (a0.Hg.map Hp),.fz (a0.Told.map (AV.int .i64))]]⟩::⟨.ptr Hw Hy 0 0,4,[.agg [.int .i64 a1.Id,.int .i64 a1.At,.int .i64 a1.Hh,.str a1.Text]]⟩::⟨.ptr Hz HA 0 0,2,[.agg [.nil,.nil]]⟩::F)) (fun Sg Lh=> ?_) (fun s H hq=> ?_)
   ·refine Er fun Rb J7=> ?_;refine EN gC (by kernel_rfl) ?_
    try simp only [W,Hf,Nat.reduceAdd,Nat.reduceBEq,hS.var 0 rfl]
    refine FD h (fun hc h=> ?_) (fun hc h=> ?_)
    ·try simp only [W,Hf,Nat.reduceAdd,Nat.reduceBEq,hS.var 0 rfl,hc]
     refine EX rfl rfl rfl (fun _=>rfl) h fun Jh N_ h=> ?_;try simp only [W,Hf,HL,reduceIte,Nat.reduceAdd,Nat.reduceBEq,hS.var 1 rfl]
     refine Ez J7 ?_;refine Gw (s' :=(u::u:: .ptr Hm Hn 0 0:: .ptr Hw Hy 0 0:: .ptr Hz HA 0 0::u::u::u:: .int .i64 HM:: .bool (Jh.Id==a1.Id)::u::u::u::u::u::u::u::u::u::u::u::u::u::u::u::u::u::u::u::u::u::u::u::u::u::u::u::u::u::u::u::u::u::u::u::u::u::u::u::u::u::u::u::u::u::u::u::u::u::u::u::u::u::u::u::u::u::u::u::u::u::u::u::u::u::u::u::u::u::u::u::u::u::u::u::u::u::u::u::u::u::u::u::u::u::u::u::u::u::u::u::u::u::u::u::u::u::u::u::u::u::u::u::u::u::u::u::u::u::u::u::u::u::u::u::u::u::u::u::u::[])) rfl ?_
     exact E_ Lh ⟨_,(Option.some.inj h).symm,rfl,hS⟩
    ·try simp only [W,hc]
     refine Ez J7 ?_;refine Gw (s' :=(u::u:: .ptr Hm Hn 0 0:: .ptr Hw Hy 0 0:: .ptr Hz HA 0 0::u::u::u:: .int .i64 HM:: .bool false::u::u::u::u::u::u::u::u::u::u::u::u::u::u::u::u::u::u::u::u::u::u::u::u::u::u::u::u::u::u::u::u::u::u::u::u::u::u::u::u::u::u::u::u::u::u::u::u::u::u::u::u::u::u::u::u::u::u::u::u::u::u::u::u::u::u::u::u::u::u::u::u::u::u::u::u::u::u::u::u::u::u::u::u::u::u::u::u::u::u::u::u::u::u::u::u::u::u::u::u::u::u::u::u::u::u::u::u::u::u::u::u::u::u::u::u::u::u::u::u::[])) rfl ?_
     exact E_ Lh ⟨_,(Option.some.inj h).symm,rfl,hS⟩
   ·obtain ⟨Jd,Hr,rfl,hS⟩:=hq;obtain rfl:=Hr.symm;replace h:=g38;try dsimp only at h
    refine Ez I5 ?_;refine Er fun Sl LQ=> ?_;refine EM (fz:=[(6,[([61],[.sc,.sc,.sc,.sl [.sc,.sc]])])]) gC ?_;try simp only [W,Hf,Nat.reduceAdd,Nat.reduceBEq,hS.var 1 rfl]
    refine E4 h fun JF UX h=> ?_;refine abK UX hS fun v44 ab4 H hS=> ?_;try simp only [W,Nat.reduceAdd,Nat.reduceBEq]
    refine ET hS rfl rfl fun SM SN H hS=> ?_;try simp only [W,Nat.reduceAdd]
    refine Fv rfl ?_;refine Fq rfl ?_;refine Fq rfl ?_;refine Fq rfl ?_;refine Fu 1 hS rfl ab4 (fun _ _=>by simp [a8,aT,cE,dT,Hl]) fun H hS=> ?_
    refine Fp ?_;simp only [W,xn (c:=Hl) (fun _=>rfl)];try simp only [W,Hf,HL,reduceIte,Nat.reduceAdd,Nat.reduceLeDiff,Nat.reduceBEq,Nat.reduceMul,Bool.false_eq_true]
    refine EU (a:= .agg [.int .i64 JF.Id,.int .i64 JF.Hh,.str JF.Text,.fz (JF.Has.map Hl)]) (y' := .agg [.int .i64 JF.Id,.int .i64 JF.Hh,.str JF.Text,.fz (JF.Has.map Hl)]) 0 hS rfl rfl rfl rfl rfl rfl rfl rfl fun H hS=> ?_
    try simp only [W,Nat.reduceAdd]
    refine Ez LQ ?_;refine Er fun Ux Nq=> ?_;refine Er fun My I4=> ?_;refine EL gC ?_;try simp only [W,Nat.reduceAdd]
    refine Ez I4 ?_;obtain ⟨UY,h,UZ⟩:=Option.bind_eq_some_iff.1 h;refine E9 gC (fun s H=> ∃Qz:Int,∃JQ:Int,∃QA:List UInt8,∃LC:List Span,UY=(Qz,JQ,QA,LC)∧s=(u::u:: .ptr Hm Hn 0 0:: .ptr Hw Hy 0 0:: .ptr Hz HA 0 0::u::u::u:: .int .i64 HM:: .bool Jd:: .ptr SM SN 0 0::u::u::u::u::u::u::u::u::u::u::u::u::u::u::u::u::u::u::u::u::u::u::u::u::u::u::u::u::u::u::u::u::u::u::u::u::u::u::u::u::u::u::u::u::u::u::u::u::u::u::u::u::u::u::u::u::u::u::u::u::u::u::u::u::u::u::u::u::u::u::u::u::u::u::u::u::u::u::u::u::u::u::u::u::u::u::u::u::u::u::u::u::u::u::u::u::u::u::u::u::u::u::u::u::u::u::u::u::u::u::u::u::u::u::u::u::u::u::u::[])∧aA H (⟨.ptr Hm Hn 0 0,2,[.agg [.fz (a0.Hg.map Hp),.fz (a0.Told.map (AV.int .i64))]]⟩::⟨.ptr Hw Hy 0 0,4,[.agg [.int .i64 a1.Id,.int .i64 a1.At,.int .i64 a1.Hh,.str a1.Text]]⟩::⟨.ptr Hz HA 0 0,2,[.agg [.nil,.nil]]⟩::⟨.ptr SM SN 0 0,4,[.agg [.int .i64 Qz,.int .i64 JQ,.str QA,.fz (LC.map Hl)]]⟩::F)) (fun T8 LS=> ?_) (fun s H hq=> ?_)
    ·refine Er fun XG Ou=> ?_;refine Ew ?_;simp only [W];refine EK h (fun hc h=> ?_) (fun hc h=> ?_)
     ·refine EL gC ?_;try simp only [W,Hf,Nat.reduceAdd,Nat.reduceBEq,hS.var 1 rfl]
      refine EX rfl rfl rfl (fun _=>rfl) h fun IN SO h=> ?_;try simp only [W,Hf,HL,reduceIte,Nat.reduceAdd,Nat.reduceLeDiff]
      refine EU (a:= .agg [.int .i64 IN.Id,.int .i64 IN.Hh,.str IN.Text,.fz (IN.Has.map Hl)]) (y' := .agg [.int .i64 IN.Id,.int .i64 IN.Hh,.str IN.Text,.fz (IN.Has.map Hl)]) 0 hS rfl rfl rfl rfl rfl rfl rfl rfl fun H hS=> ?_
      try simp only [W]
      refine Ez Ou ?_;refine Gw (s' :=(u::u:: .ptr Hm Hn 0 0:: .ptr Hw Hy 0 0:: .ptr Hz HA 0 0::u::u::u:: .int .i64 HM:: .bool Jd:: .ptr SM SN 0 0::u::u::u::u::u::u::u::u::u::u::u::u::u::u::u::u::u::u::u::u::u::u::u::u::u::u::u::u::u::u::u::u::u::u::u::u::u::u::u::u::u::u::u::u::u::u::u::u::u::u::u::u::u::u::u::u::u::u::u::u::u::u::u::u::u::u::u::u::u::u::u::u::u::u::u::u::u::u::u::u::u::u::u::u::u::u::u::u::u::u::u::u::u::u::u::u::u::u::u::u::u::u::u::u::u::u::u::u::u::u::u::u::u::u::u::u::u::u::u::[])) rfl ?_
      exact E_ LS ⟨_,_,_,_,(Option.some.inj h).symm,rfl,(hS.Fz 4 [1,2,3,0] (by decide))⟩
     ·refine Et ?_;refine Ez Ou ?_;refine Gw (s' :=(u::u:: .ptr Hm Hn 0 0:: .ptr Hw Hy 0 0:: .ptr Hz HA 0 0::u::u::u:: .int .i64 HM:: .bool Jd:: .ptr SM SN 0 0::u::u::u::u::u::u::u::u::u::u::u::u::u::u::u::u::u::u::u::u::u::u::u::u::u::u::u::u::u::u::u::u::u::u::u::u::u::u::u::u::u::u::u::u::u::u::u::u::u::u::u::u::u::u::u::u::u::u::u::u::u::u::u::u::u::u::u::u::u::u::u::u::u::u::u::u::u::u::u::u::u::u::u::u::u::u::u::u::u::u::u::u::u::u::u::u::u::u::u::u::u::u::u::u::u::u::u::u::u::u::u::u::u::u::u::u::u::u::u::[])) rfl ?_
      exact E_ LS ⟨_,_,_,_,(Option.some.inj h).symm,rfl,(hS.Fz 4 [1,2,3,0] (by decide))⟩
    ·obtain ⟨Qz,JQ,QA,LC,rfl,rfl,hS⟩:=hq;replace h:=UZ;try dsimp only at h
     refine Ez Nq ?_;refine Er fun UA MO=> ?_;refine Er fun T9 ME=> ?_;refine EL gC ?_;try simp only [W,Hf,Nat.reduceAdd,Nat.reduceBEq,hS.var 3 rfl,hS.var 1 rfl]
     refine Ez ME ?_;refine Ew ?_;simp only [W];refine EK h (fun hc h=> ?_) (fun hc h=> ?_)
     ·refine Er fun T_ MF=> ?_;refine EL gC ?_;try simp only [W,Hf,reduceIte,Nat.reduceAdd,Nat.reduceLeDiff,hS.var 0 rfl]
      refine EU (a:= .agg [.fz (a0.Hg.map Hp),.fz (a0.Told.map (AV.int .i64))]) (y' := .agg [.fz (a0.Hg.map Hp),.fz (a0.Told.map (AV.int .i64))]) 2 hS rfl rfl rfl rfl rfl rfl rfl rfl fun H hS=> ?_
      try simp only [W]
      refine Ez MF ?_;refine Eu ?_;refine EA MO ?_;refine EG Hi (FB rfl rfl (hS.var 2 rfl) rfl (FC rfl (FC rfl (FC rfl rfl)))) ?_;try obtain rfl:=Option.some.inj h
      exact hP _ (hS.Fz 4 [] (by decide))
     ·refine Et ?_;refine Ez MO ?_;refine Er fun W5 PC=> ?_;refine EM (fz:=[(8,[([78],[.sc,.sc,.sc,.sl [.sc,.sc]])])]) gC ?_;try simp only [W,Hf,reduceIte,Nat.reduceAdd,Nat.reduceLeDiff,Nat.reduceBEq,hS.var 3 rfl,hS.var 1 rfl]
      refine E4 h fun Xn ab5 h=> ?_;obtain ⟨Jj,Mq,M9⟩:=Xn;try dsimp only at h
      refine abZ ab5 hS fun v67 ab6 H hS=> ?_;try simp only [W,Nat.reduceAdd,Nat.reduceBEq]
      refine ET hS rfl rfl fun SP SQ H hS=> ?_;try simp only [W,Nat.reduceAdd]
      refine Fv rfl ?_;refine Fq rfl ?_;refine Fq rfl ?_;refine Fq rfl ?_;refine Fu 1 hS rfl ab6 (fun _ _=>by simp [a8,aT,cE,dT,Hl]) fun H hS=> ?_
      refine Fp ?_;simp only [W,xn (c:=Hl) (fun _=>rfl)];try simp only [W,Hf,HL,reduceIte,Nat.reduceAdd,Nat.reduceLeDiff,Nat.reduceBEq,Nat.reduceMul,Bool.false_eq_true]
      refine EU (a:= .agg [.int .i64 Jj.Id,.int .i64 Jj.Hh,.str Jj.Text,.fz (Jj.Has.map Hl)]) (y' := .agg [.int .i64 Jj.Id,.int .i64 Jj.Hh,.str Jj.Text,.fz (Jj.Has.map Hl)]) 0 hS rfl rfl rfl rfl rfl rfl rfl rfl fun H hS=> ?_
      try simp only [W,Nat.reduceAdd,Nat.reduceBEq]
      refine Ez PC ?_;refine Er fun Sa KO=> ?_;refine Er fun Zy TO=> ?_;refine EL gC ?_;try simp only [W,Nat.reduceAdd]
      refine Ez TO ?_;refine Ew ?_;simp only [W];refine EK h (fun hc h=> ?_) (fun hc h=> ?_)
      ·refine Er fun K73 ab7=> ?_;refine EL gC ?_;try simp only [W,Hf,reduceIte,Nat.reduceAdd,Nat.reduceLeDiff,hS.var 1 rfl]
       refine EU (a:= .agg [.fz (a0.Hg.map Hp),.fz (a0.Told.map (AV.int .i64))]) (y' := .agg [.fz (a0.Hg.map Hp),.fz (a0.Told.map (AV.int .i64))]) 3 hS rfl rfl rfl rfl rfl rfl rfl rfl fun H hS=> ?_
       try simp only [W]
       refine Ez ab7 ?_;refine Eu ?_;refine EA KO ?_;refine EG Hi (FB rfl rfl (hS.var 3 rfl) rfl (FC rfl (FC rfl (FC rfl rfl)))) ?_;try obtain rfl:=Option.some.inj h
       exact hP _ (hS.Fz 5 [] (by decide))
      ·refine Et ?_;refine Ez KO ?_;refine Er fun Sr MH=> ?_;refine EL gC ?_;try simp only [W,Nat.reduceAdd]
       refine E2 rfl rfl ?_;try simp only [W,Hf,Nat.reduceAdd,Nat.reduceBEq,hS.var 1 rfl]
       refine Fh rfl rfl rfl (fun _=>rfl) h fun VZ agA h=> ?_;try simp only [W,Hf]
       have hS:=hS.CS 4;refine Fk (l:=([]:List Hj)) (c:=Hp) 0 hS rfl oR rfl rfl rfl rfl (fun _=>rfl) rfl h fun v78 H Jz KT hm h hS=> ?_;try simp only [W]
       refine Ez MH ?_;refine Er fun ZE TP=> ?_;refine EL gC ?_;try simp only [W,Hf,Nat.reduceAdd,Nat.reduceBEq,hS.var 2 rfl]
       refine Fh rfl rfl rfl (fun _=>rfl) h fun Mt agB h=> ?_;try simp only [W]
       refine Ez TP ?_;refine Er fun UO MQ=> ?_;refine Er fun K83 ab8=> ?_;refine EL gC ?_;try simp only [W,Nat.reduceAdd]
       refine Ez ab8 ?_;obtain ⟨y85,h,g86⟩:=Option.bind_eq_some_iff.1 h;refine E9 gC (fun s H=> ∃Pe:List Hj,y85=(Pe)∧s=(u::u:: .ptr Hm Hn 0 0:: .ptr Hw Hy 0 0:: .ptr Hz HA 0 0::u::u::u::u::u::u:: .ptr SP SQ 0 0::u::u::v78:: .fz (Pe.map Hp)::u::u::u::u::u::u::u::u::u::u::u::u::u::u::u::u::u::u::u::u::u::u::u::u::u::u::u::u::u::u::u::u::u::u::u::u::u::u::u::u::u::u::u::u::u::u::u::u::u::u::u::u::u::u::u::u::u::u::u::u::u::u::u::u::u::u::u::u::u::u::u::u::u::u::u::u::u::u::u::u::u::u::u::u::u::u::u::u::u::u::u::u::u::u::u::u::u::u::u::u::u::u::u::u::u::u::u::u::u::u::u::u::u::u::[])∧aA H (⟨v78,4,Jz.map Hp⟩::⟨.ptr Hm Hn 0 0,2,[.agg [.fz (a0.Hg.map Hp),.fz (a0.Told.map (AV.int .i64))]]⟩::⟨.ptr Hw Hy 0 0,4,[.agg [.int .i64 a1.Id,.int .i64 a1.At,.int .i64 a1.Hh,.str a1.Text]]⟩::⟨.ptr Hz HA 0 0,2,[.agg [.nil,.nil]]⟩::⟨.ptr SP SQ 0 0,4,[.agg [.int .i64 Jj.Id,.int .i64 Jj.Hh,.str Jj.Text,.fz (Jj.Has.map Hl)]]⟩::F)) (fun Xs MP=> ?_) (fun s H hq=> ?_)
       ·refine Er fun ZK Sc=> ?_;refine Ew ?_;simp only [W];refine EK h (fun hc h=> ?_) (fun hc h=> ?_)
        ·refine EL gC ?_;try simp only [W,Hf,Nat.reduceAdd]
         refine Fh rfl rfl rfl (fun _=>rfl) h fun QB agC h=> ?_;try simp only [W]
         refine Ez Sc ?_;refine Gw (s' :=(u::u:: .ptr Hm Hn 0 0:: .ptr Hw Hy 0 0:: .ptr Hz HA 0 0::u::u::u::u::u::u:: .ptr SP SQ 0 0::u::u::v78:: .fz (QB.map Hp)::u::u::u::u::u::u::u::u::u::u::u::u::u::u::u::u::u::u::u::u::u::u::u::u::u::u::u::u::u::u::u::u::u::u::u::u::u::u::u::u::u::u::u::u::u::u::u::u::u::u::u::u::u::u::u::u::u::u::u::u::u::u::u::u::u::u::u::u::u::u::u::u::u::u::u::u::u::u::u::u::u::u::u::u::u::u::u::u::u::u::u::u::u::u::u::u::u::u::u::u::u::u::u::u::u::u::u::u::u::u::u::u::u::u::[])) rfl ?_
         exact E_ MP ⟨_,(Option.some.inj h).symm,rfl,(hS.Fz 6 [0,2,3,4,1] (by decide))⟩
        ·refine Et ?_;refine Ez Sc ?_;refine Gw (s' :=(u::u:: .ptr Hm Hn 0 0:: .ptr Hw Hy 0 0:: .ptr Hz HA 0 0::u::u::u::u::u::u:: .ptr SP SQ 0 0::u::u::v78:: .fz (Mt.map Hp)::u::u::u::u::u::u::u::u::u::u::u::u::u::u::u::u::u::u::u::u::u::u::u::u::u::u::u::u::u::u::u::u::u::u::u::u::u::u::u::u::u::u::u::u::u::u::u::u::u::u::u::u::u::u::u::u::u::u::u::u::u::u::u::u::u::u::u::u::u::u::u::u::u::u::u::u::u::u::u::u::u::u::u::u::u::u::u::u::u::u::u::u::u::u::u::u::u::u::u::u::u::u::u::u::u::u::u::u::u::u::u::u::u::u::[])) rfl ?_
         exact E_ MP ⟨_,(Option.some.inj h).symm,rfl,(hS.Fz 6 [0,2,3,4,1] (by decide))⟩
       ·obtain ⟨Pe,Hr,rfl,hS⟩:=hq;obtain rfl:=Hr.symm;replace h:=g86;try dsimp only at h
        refine Ez MQ ?_;refine Er fun Xw Oo=> ?_;refine Er fun K91 UG=> ?_;refine EL gC ?_;try simp only [W,Hf,reduceIte,Nat.reduceAdd,Nat.reduceLeDiff,hS.var 4 rfl]
        refine E4 h fun NT U0 h=> ?_;refine XD U0 hS fun H hS=> ?_;try simp only [W]
        refine Ez UG ?_;refine Ew ?_;simp only [W];refine EK h (fun hc h=> ?_) (fun hc h=> ?_)
        ·refine Er fun WA Py=> ?_;refine Er fun K94 ab9=> ?_;refine EL gC ?_;try simp only [W,Hf,Nat.reduceAdd,Nat.reduceBEq,hS.var 1 rfl]
         refine Ez ab9 ?_;refine Ew ?_;simp only [W];refine EK h (fun hc h=> ?_) (fun hc h=> ?_)
         ·refine Er fun K95 ab_=> ?_;refine EL gC ?_;try simp only [W,Hf,reduceIte,Nat.reduceAdd,Nat.reduceLeDiff,hS.var 1 rfl]
          refine EU (a:= .agg [.fz (a0.Hg.map Hp),.fz (a0.Told.map (AV.int .i64))]) (y' := .agg [.fz (a0.Hg.map Hp),.fz (a0.Told.map (AV.int .i64))]) 3 hS rfl rfl rfl rfl rfl rfl rfl rfl fun H hS=> ?_
          try simp only [W]
          refine Ez ab_ ?_;refine Eu ?_;refine EA Py ?_;refine EA Oo ?_;refine EG Hi (FB rfl rfl (hS.var 3 rfl) rfl (FC rfl (FC rfl (FC rfl rfl)))) ?_;try obtain rfl:=Option.some.inj h
          exact hP _ (hS.Fz 5 [] (by decide))
         ·refine Et ?_;refine Ez Py ?_;refine Er fun K96 U1=> ?_;refine Er fun K97 aca=> ?_;refine FF gC [(8,[2,3,4,5,6,7]),(11,[6,7])] (by kernel_rfl) rfl (by kernel_rfl) ?_
          try simp only [W,Hf,reduceIte,Nat.reduceAdd,Nat.reduceBEq,hS.var 1 rfl,hS.var 2 rfl,hS.var 4 rfl,jT,mV,Nat.reduceEqDiff,FJ,FK,FL,FM,FN,Nat.reduceEqDiff]
          refine Fk (l:=Jz) (c:=Hp) 0 hS rfl KT rfl rfl rfl rfl (fun _=>rfl) rfl h fun XH H V0 Ll hm h hS=> ?_;refine FG ?_;refine FH (by first|rfl|(simp [fJ,aQ,W,Hf,FL,hS.var 1 rfl];done)|exact Ge 0 hS rfl Ll rfl rfl rfl rfl) ?_
          refine FH (by first|rfl|(simp [fJ,aQ,W,Hf,bY,kR,aB,AV.cells,FL,hS.var 1 rfl];done)|exact Ge 0 hS rfl Ll rfl rfl rfl rfl) ?_
          refine FH (by first|rfl|(simp [fJ,aQ,W,Hf,FL,hS.var 2 rfl];done)|exact Ge 0 hS rfl Ll rfl rfl rfl rfl) ?_
          refine FH (by first|rfl|(simp [fJ,aQ,W,Hf,bY,kR,aB,AV.cells,FL,hS.var 2 rfl];done)|exact Ge 0 hS rfl Ll rfl rfl rfl rfl) ?_
          refine FH (by first|rfl|(simp [fJ,aQ,W,Hf,FL,hS.var 4 rfl];done)|exact Ge 0 hS rfl Ll rfl rfl rfl rfl) ?_
          refine FH (by first|rfl|(simp [fJ,aQ,W,Hf,bY,kR,aB,AV.cells,FL,hS.var 4 rfl];done)|exact Ge 0 hS rfl Ll rfl rfl rfl rfl) ?_
          refine FI ?_;try simp only [W]
          refine F8 (bS:=[[.sl [.sc]]]) (ys:=[.fz (a0.Told.map (AV.int .i64)),.int .i64 a1.Id]) h rfl (by rfl) fun NU U2 h=>⟨.own 1 (NU.map (AV.int .i64)),ab1 U2 (aA.nil _) fun agD acb H hS=>F2 rfl (F0 0 hS rfl acb (fun _ _=>by simp [a8,aT,dT]) fun H hS=>FX rfl),?_⟩
          simp only [W,xn (c:=(AV.int .i64)) (fun _=>rfl)];try simp only [Hf]
          refine FE rfl rfl rfl rfl (by simp only [gy,Ll.E0,Ll.cells];simp [E,splice,AV.cells,en,db]<;>rfl) ?_
          try simp only [W]
          refine EU (a:= .agg [XH,.fz (NU.map (AV.int .i64))]) (y' := .agg [XH,.fz (NU.map (AV.int .i64))]) 3 hS rfl rfl rfl rfl rfl (by simp only [en,List.all_cons,List.all_nil,Ll.sw];rfl) rfl rfl fun H hS=> ?_
          refine FG ?_;refine FH (by first|rfl|(simp [fJ,aQ,W,Hf,FL,hS.var 4 rfl];done)|exact Ge 0 hS rfl Ll rfl rfl rfl rfl) ?_
          refine FH (by first|rfl|(simp [fJ,aQ,W,Hf,bY,kR,aB,AV.cells,FL,hS.var 4 rfl];done)|exact Ge 0 hS rfl Ll rfl rfl rfl rfl) ?_
          refine FI ?_;try simp only [W]
          refine Ez aca ?_;refine Fy ?_;refine Fw 3 hS rfl rfl ?_;simp only [cw];refine Fu 0 hS rfl Ll (fun _ _=>by simp [a8,aT,cE,dT,Hp]) fun H hS=> ?_
          refine Fp ?_;simp only [W,eN,xn (c:=Hp) (fun _=>rfl)];refine Fx 2 hS rfl rfl fun H hS=> ?_;try simp only [W]
          refine Ez U1 ?_;refine Eu ?_;refine EA Oo ?_;refine EG Hi (FB rfl rfl (hS.var 2 rfl) rfl (FC rfl (FC rfl (FC rfl rfl)))) ?_;try obtain rfl:=Option.some.inj h
          exact hP _ (hS.Fz 4 [] (by decide))
        ·refine Et ?_;refine Ez Oo ?_;refine Er fun WG Q4=> ?_;refine EL gC ?_;try simp only [W,Hf,reduceIte,Nat.reduceAdd,Nat.reduceLeDiff,hS.var 4 rfl]
         refine E3 (el:=([Jj]:List Hj).map Hp) hS rfl rfl rfl rfl rfl rfl rfl fun U3 H Ln hS=> ?_;try simp only [W,Hf]
         refine Fk (l:=Jz) (c:=Hp) 1 hS rfl KT rfl rfl rfl (hS.jl 0 rfl Ln) (fun _=>rfl) rfl h fun v107 H L3 acd hm h hS=> ?_;try simp only [W]
         refine Ez Q4 ?_;refine Er fun agE ace=> ?_;refine Er fun WH Nj=> ?_;refine FF gC [(4,[2,3]),(7,[])] (by kernel_rfl) rfl (by kernel_rfl) ?_
         try simp only [W,Hf,reduceIte,Nat.reduceAdd,Nat.reduceBEq,hS.var 2 rfl,jT,mV,Nat.reduceEqDiff,FJ,FK,FL,FM,FN,Nat.reduceEqDiff]
         refine Fk (l:=L3) (c:=Hp) 1 hS rfl acd rfl rfl rfl rfl (fun _=>rfl) rfl h fun XI H QC PO hm h hS=> ?_;refine FG ?_;refine FH (by first|rfl|(simp [fJ,aQ,W,Hf,FL,hS.var 2 rfl];done)|exact Ge 0 hS rfl Ln rfl rfl rfl rfl|exact Ge 1 hS rfl PO rfl rfl rfl rfl) ?_
         refine FH (by first|rfl|(simp [fJ,aQ,W,Hf,bY,kR,aB,AV.cells,FL,hS.var 2 rfl];done)|exact Ge 0 hS rfl Ln rfl rfl rfl rfl|exact Ge 1 hS rfl PO rfl rfl rfl rfl) ?_
         refine FI ?_;try simp only [W,Hf]
         refine FE rfl rfl rfl rfl (by simp only [gy,PO.E0,PO.cells];simp [E,splice,AV.cells,en,db]<;>rfl) ?_
         try simp only [W]
         refine ET hS rfl rfl fun agF agG H hS=> ?_;try simp only [W]
         refine EU (a:= .agg [XI,.fz (a0.Told.map (AV.int .i64))]) (y' := .agg [XI,.fz (a0.Told.map (AV.int .i64))]) 0 hS rfl rfl rfl rfl rfl (by simp only [en,List.all_cons,List.all_nil,PO.sw];rfl) rfl rfl fun H hS=> ?_
         try simp only [W]
         refine Ez Nj ?_;refine Fy ?_;refine Fw 0 hS rfl rfl ?_;simp only [cw];refine Fu 2 hS rfl PO (fun _ _=>by simp [a8,aT,cE,dT,Hp]) fun H hS=> ?_
         refine Fp ?_;simp only [W,eN,xn (c:=Hp) (fun _=>rfl)];refine Fx 0 hS rfl rfl fun H hS=> ?_;try simp only [W]
         refine Ez ace ?_;refine Er fun acf U4=> ?_;refine FF gC [(5,[1,2,3,4])] (by kernel_rfl) rfl (by kernel_rfl) ?_
         try simp only [W,Hf,reduceIte,Nat.reduceAdd,Nat.reduceLeDiff,Nat.reduceBEq,hS.var 0 rfl,jT,mV,Nat.reduceEqDiff]
         refine EU (a:= .agg [.fz (QC.map Hp),.fz (a0.Told.map (AV.int .i64))]) (y' := .agg [.fz (QC.map Hp),.fz (a0.Told.map (AV.int .i64))]) 4 hS rfl rfl rfl rfl rfl rfl rfl rfl fun H hS=> ?_
         refine FG ?_;refine FH (by first|rfl|(simp [fJ,aQ,W,Hf,hS.var 0 rfl];done)|exact Ge 1 hS rfl Ln rfl rfl rfl rfl) ?_
         refine FH (by first|rfl|(simp [fJ,aQ,W,Hf,bY,kR,aB,AV.cells,hS.var 0 rfl];done)|exact Ge 1 hS rfl Ln rfl rfl rfl rfl) ?_
         refine FH (by first|rfl|(simp [fJ,cS,lenOf,W,Hf];done)|exact Ge 1 hS rfl Ln rfl rfl rfl rfl) ?_
         refine FH (by first|rfl|(simp [fJ,aQ,cS,lenOf,W,Hf,HL,bY,kR,aB,AV.cells,hS.var 0 rfl,hS.var 2 rfl,hS.var 3 rfl,hS.var 4 rfl,hS.var 5 rfl];done)|exact Ge 1 hS rfl Ln rfl rfl rfl rfl) ?_
         refine FI ?_;try simp only [W]
         refine Ez U4 ?_;refine Eu ?_;refine EG Hi (FB rfl rfl (hS.var 4 rfl) rfl (FC rfl (FC rfl (FC rfl rfl)))) ?_;try obtain rfl:=Option.some.inj h
         exact hP _ (hS.Fz 6 [] (by decide))
theorem U5 {a0:Ho} {r:(Ho)} (h:NV a0=some r) {F:List It} {H:J} (hS:aA H (F)) {P:AV→J→Prop} (hP: ∀v50:AV,bj v50→ ∀SC:AV,bj SC→ ∀H',aA H' (⟨v50,4,r.Hg.map Hp⟩::⟨SC,1,r.Told.map (AV.int .i64)⟩::F)→P (.agg [v50,SC]) H'):aq C 53 [.agg [.fz (a0.Hg.map Hp),.fz (a0.Told.map (AV.int .i64))]] H P:=by
 refine EO gC (res:=[.cell 2 28]) (n:=31) rfl rfl rfl rfl fun K0 Hi=> ?_;simp only [W,Nat.reduceSub,Nat.reduceAdd,List.replicate];unfold NV at h;refine Er fun K1 Hq=> ?_;refine EL gC ?_;try simp only [W,Nat.reduceAdd]
 refine ES hS rfl rfl rfl rfl fun Hm Hn H hS=> ?_;try simp only [W]
 refine ET hS rfl rfl fun Hw Hy H hS=> ?_;try simp only [W]
 refine Ez Hq ?_;refine Er fun K6 ID=> ?_;refine EL gC ?_;try simp only [W,Nat.reduceAdd]
 refine E2 rfl rfl ?_;try simp only [W,Hf,Nat.reduceAdd,Nat.reduceBEq,hS.var 1 rfl]
 have hS:=hS.CS 1;refine Fk (l:=([]:List Int)) (c:=(AV.int .i64)) 0 hS rfl oR rfl rfl rfl rfl (fun _=>rfl) rfl h fun v9 H Jy L9 hm h hS=> ?_;try simp only [W,Hf]
 refine FE rfl rfl rfl rfl (by simp only [gy,L9.E0,L9.cells];simp [E,splice]<;>rfl) ?_
 try simp only [W]
 refine ET hS rfl rfl fun SR SS H hS=> ?_;try simp only [W]
 refine EU (a:= .agg [.nil,v9]) (y' := .agg [.nil,v9]) 0 hS rfl rfl rfl rfl rfl (by simp only [en,List.all_cons,List.all_nil,L9.sw];rfl) rfl rfl fun H hS=> ?_
 try simp only [W]
 refine Ez ID ?_;refine Er fun JS Ig=> ?_;refine Er fun J3 HZ=> ?_;refine EL gC ?_;try simp only [W,Hf,Nat.reduceAdd,Nat.reduceBEq,hS.var 3 rfl]
 refine Ez HZ ?_;obtain ⟨Nh,acg,UW⟩:=Option.bind_eq_some_iff.1 h;refine E9 gC (fun s H=> ∃HV:List Hj,Nh=(HV)∧ ∃v20:AV,bj v20∧s=[u,u,.ptr Hw Hy 0 0,.ptr SR SS 0 0,u,u,u,u,u,u,u,u,u,u,u,u,u,u,u,u,u,u,u,u,u,u,u,u,u,u,u]∧aA H (⟨v20,4,HV.map Hp⟩::⟨v9,1,Jy.map (AV.int .i64)⟩::⟨.ptr Hw Hy 0 0,2,[.agg [.nil,.nil]]⟩::⟨.ptr SR SS 0 0,2,[.agg [v20,v9]]⟩::F)) (fun L8 I1=> ?_) (fun s H hq=> ?_)
 ·refine Es fun Kf Iq=> ?_;refine E5 gC acg (fun x s H=>match x with|(HM,HN)=> ∃v17:AV,bj v17∧s=[u,u,.ptr Hw Hy 0 0,.ptr SR SS 0 0,u,u,u,u,u,u,u,u,.fz (a0.Hg.map Hp),.int .i64 (a0.Hg.length:Int),.int .i64 HM,u,u,u,u,u,u,u,u,u,u,u,u,u,u,u,u]∧aA H (⟨v17,4,HN.map Hp⟩::⟨v9,1,Jy.map (AV.int .i64)⟩::⟨.ptr Hw Hy 0 0,2,[.agg [.nil,.nil]]⟩::⟨.ptr SR SS 0 0,2,[.agg [v17,v9]]⟩::F)) ⟨_,rL,rfl,((hS.Fl 4).Fz 5 [0,2,3,1] (by decide))⟩ (fun x XF s H h ach hi Ky Il=> ?_)
  obtain ⟨HM,HN⟩:=x;try dsimp only at hi
  obtain ⟨v17,Ri,rfl,hS⟩:=hi;simp only [RX] at h;refine Er fun L7 IP=> ?_;refine EL gC ?_;try simp only [W,Hf,Nat.reduceAdd]
  refine Ez IP ?_;refine Er fun L_ I2=> ?_;refine Ew ?_;simp only [W];refine EK h (fun hc h=> ?_) (fun hc h=> ?_)
  ·refine Et ?_;refine Ez I2 ?_;refine Er fun Lf IQ=> ?_;refine Es fun Ma I3=> ?_;refine Er fun MJ I6=> ?_;refine EL gC ?_;try simp only [W,Hf,Nat.reduceAdd]
   refine EX rfl rfl rfl (fun _=>rfl) h fun IV XJ h=> ?_;try simp only [W,Hf,HL,reduceIte,Nat.reduceAdd,Nat.reduceLeDiff]
   refine ET hS rfl rfl fun agH agI H hS=> ?_;try simp only [W]
   refine EU (a:= .agg [.int .i64 IV.Id,.int .i64 IV.Hh,.str IV.Text,.fz (IV.Has.map Hl)]) (y' := .agg [.int .i64 IV.Id,.int .i64 IV.Hh,.str IV.Text,.fz (IV.Has.map Hl)]) 0 hS rfl rfl rfl rfl rfl rfl rfl rfl fun H hS=> ?_
   try simp only [W]
   refine Ez I6 ?_;refine Er fun PG J8=> ?_;refine EM (fz:=[(5,[([21],[.sl [.sc,.sc]])])]) gC ?_;try simp only [W,Nat.reduceAdd,Nat.reduceBEq]
   refine E2 rfl rfl ?_;try simp only [W,Hf,Nat.reduceAdd,Nat.reduceBEq,hS.var 0 rfl]
   have hS:=hS.CS 2;refine Fk (l:=([]:List Span)) (c:=Hl) 0 hS rfl oR rfl rfl rfl rfl (fun _=>rfl) rfl h fun v40 H Jw Ra hm h hS=> ?_;try simp only [W,Hf,Nat.reduceAdd,Nat.reduceBEq,hS.var 1 rfl]
   refine Fo 0 hS rfl Ra rfl (fun _ _=>by simp [a8,aT,cE,dT,Hl]) (fun _=>rfl) fun H uq hS=> ?_
   try simp only [W]
   refine EU (a:= .fz (Jw.map Hl)) (y' := .agg [.int .i64 IV.Id,.int .i64 IV.Hh,.str IV.Text,.fz (Jw.map Hl)]) 0 hS rfl rfl rfl rfl rfl rfl rfl rfl fun H hS=> ?_
   try simp only [W,Nat.reduceAdd]
   refine Ez J8 ?_;refine EL gC ?_;try simp only [W,Hf,reduceIte,Nat.reduceAdd,Nat.reduceLeDiff,Nat.reduceBEq,hS.var 4 rfl,hS.var 0 rfl]
   refine E3 (el:=([(⟨IV.Id,IV.Hh,IV.Text,Jw⟩:Hj)]:List Hj).map Hp) hS rfl rfl rfl rfl rfl rfl rfl fun Q2 H TN hS=> ?_;try simp only [W,Hf]
   refine Fk (l:=HN) (c:=Hp) 2 hS rfl Ri rfl rfl rfl (hS.jl 0 rfl TN) (fun _=>rfl) rfl h fun v45 H IA JI hm h hS=> ?_;try simp only [W,Hf,Nat.reduceAdd,Nat.reduceBEq,hS.var 5 rfl]
   refine EU (a:=v45) (y' := .agg [v45,v9]) 5 hS rfl rfl rfl rfl (by rw [JI.cells];rfl) JI.E0 (JI.wr _ _ (by simp)) rfl fun H hS=> ?_
   try simp only [W]
   refine ED I3 ?_;refine Ez IQ ?_;refine EL gC ?_;try simp only [W,Hf,Nat.reduceAdd]
   exact E6 Il h ⟨_,JI,rfl,(hS.Fz 6 [2,3,4,5] (by decide))⟩
  ·refine Ev ?_;refine EB I2 ?_;try obtain rfl:=Option.some.inj h
   obtain rfl:=ach _ rfl;have h:(some (HN):Option ((List Hj)))=some (HN):=rfl;refine E7 Il ?_;refine EE Iq ?_;exact E_ I1 ⟨_,(Option.some.inj h).symm,_,Ri,rfl,hS⟩
 ·obtain ⟨HV,Hr,v20,Kk,rfl,hS⟩:=hq;obtain rfl:=Hr.symm;replace h:=UW;try dsimp only at h
  refine Ez Ig ?_;refine Er fun My I4=> ?_;refine EL gC ?_;try simp only [W,Hf,reduceIte,Nat.reduceAdd,Nat.reduceLeDiff,hS.var 3 rfl]
  refine EU (a:= .agg [v20,v9]) (y' := .agg [v20,v9]) 2 hS rfl rfl rfl rfl rfl (by simp only [en,List.all_cons,List.all_nil,Kk.sw,L9.sw];rfl) rfl rfl fun H hS=> ?_
  try simp only [W]
  refine Ez I4 ?_;refine Eu ?_;refine EG Hi (FB rfl rfl (hS.var 2 rfl) rfl rfl) ?_;try obtain rfl:=Option.some.inj h
  exact hP _ Kk _ L9 _ (hS.Fz 4 [0,1] (by decide))
theorem XK {a0:List Part} {r:(Ho×List (List UInt8)×Bool)} (h:Pf a0=some r) {F:List It} {H:J} (hS:aA H (F)) {P:AV→J→Prop} (hP: ∀U6:AV,bj U6→ ∀U7:AV,bj U7→ ∀U8:AV,bj U8→ ∀H',aA H' (⟨U6,4,r.1.Hg.map Hp⟩::⟨U7,1,r.1.Told.map (AV.int .i64)⟩::⟨U8,1,r.2.1.map AV.str⟩::F)→P (.aD [.agg [U6,U7],U8,.bool r.2.2]) H'):aq C 9 [.fz (a0.map HP)] H P:=by
 refine EO gC (res:=[.cell 2 28,.tmp 3,.tmp 4]) (n:=48) rfl rfl rfl rfl fun K0 Hi=> ?_;simp only [W,Nat.reduceSub,Nat.reduceAdd,List.replicate];unfold Pf at h;refine Er fun K1 Hq=> ?_;refine EL gC ?_;try simp only [W,Nat.reduceAdd]
 refine ET hS rfl rfl fun Hm Hn H hS=> ?_;try simp only [W]
 refine Ez Hq ?_;refine Er fun K4 Hv=> ?_;refine Er fun K5 H9=> ?_;refine EL gC ?_;try simp only [W,Nat.reduceAdd]
 refine ET hS rfl rfl fun Hz HA H hS=> ?_;try simp only [W]
 refine Ez H9 ?_;refine Fy ?_;refine Fw 0 hS rfl rfl ?_;simp only [cw];refine Ft ?_;refine Ft ?_;refine Fp ?_;simp only [W,eN];refine Fx 0 hS rfl rfl fun H hS=> ?_;try simp only [W]
 refine Ez Hv ?_;refine Er fun K8 HS=> ?_;refine EL gC ?_;try simp only [W,Nat.reduceAdd]
 refine Ez HS ?_;refine Er fun K9 HC=> ?_;refine Er fun J4 H_=> ?_;refine EL gC ?_;try simp only [W,Hf,Nat.reduceAdd]
 refine Ez H_ ?_;refine Ew ?_;simp only [W];refine EK h (fun hc h=> ?_) (fun hc h=> ?_)
 ·refine Er fun Kx Iu=> ?_;refine EL gC ?_;try simp only [W,Hf,Nat.reduceAdd]
  refine FE rfl rfl rfl rfl rfl ?_;try simp only [W]
  refine EU (a:= .agg [.nil,.nil]) (y' := .agg [.nil,.nil]) 1 hS rfl rfl rfl rfl rfl rfl rfl rfl fun H hS=> ?_
  try simp only [W]
  refine Ez Iu ?_;refine Eu ?_;refine EA HC ?_;refine EG Hi (FB rfl rfl (hS.var 1 rfl) rfl (FC rfl (FC rfl rfl))) ?_;try obtain rfl:=Option.some.inj h
  exact hP _ rL _ rL _ rL _ ((((hS.Fl 1).Fl 1).Fl 4).Fz 5 [0,1,2] (by decide))
 ·refine Et ?_;refine Ez HC ?_;refine Er fun KN Ic=> ?_;refine Er fun JS Ig=> ?_;refine EL gC ?_;try simp only [W,Hf,Nat.reduceAdd]
  refine Ez Ig ?_;obtain ⟨XL,aci,Oc⟩:=Option.bind_eq_some_iff.1 h;refine E9 gC (fun s H=> ∃IW:List (List UInt8),∃Je:List Hj,∃MY:List Int,XL=LR.next (IW,Je,MY)∧ ∃v21:AV,bj v21∧s=[u,u,.ptr Hm Hn 0 0,u,u,.ptr Hz HA 0 0,v21,u,u,u,u,u,u,u,u,u,u,u,u,u,u,u,u,u,u,u,u,u,u,u,u,u,u,u,u,u,u,u,u,u,u,u,u,u,u,u,u,u]∧aA H (⟨v21,1,IW.map AV.str⟩::⟨.ptr Hm Hn 0 0,2,[.agg [.nil,.nil]]⟩::⟨.ptr Hz HA 0 0,2,[.agg [.fz (Je.map Hp),.fz (MY.map (AV.int .i64))]]⟩::F)) (fun Kg Ik=> ?_) (fun s H hq=> ?_)
  ·refine Es fun KP Im=> ?_;refine E5 gC aci (fun x s H=>match x with|(HF,IB,Jo,HV)=> ∃JW:AV,bj JW∧s=[u,u,.ptr Hm Hn 0 0,u,u,.ptr Hz HA 0 0,JW,u,u,u,u,u,u,u,u,u,u,.fz (a0.map HP),.int .i64 (a0.length:Int),.int .i64 IB,u,u,u,u,u,u,u,u,u,u,u,u,u,u,u,u,u,u,u,u,u,u,u,u,u,u,u,u]∧aA H (⟨JW,1,HF.map AV.str⟩::⟨.ptr Hm Hn 0 0,2,[.agg [.nil,.nil]]⟩::⟨.ptr Hz HA 0 0,2,[.agg [.fz (Jo.map Hp),.fz (HV.map (AV.int .i64))]]⟩::F)) ⟨_,rL,rfl,((hS.Fl 1).Fz 3 [0,2,1] (by decide))⟩ (fun x Sw s H h U9 hi LL Ir=> ?_)
   obtain ⟨HF,IB,Jo,HV⟩:=x;try dsimp only at hi
   obtain ⟨JW,JX,rfl,hS⟩:=hi;simp only [RY] at h;refine Er fun Ma I3=> ?_;refine EL gC ?_;try simp only [W,Hf,Nat.reduceAdd]
   refine Ez I3 ?_;refine Er fun MJ I6=> ?_;refine Ew ?_;simp only [W];refine EK h (fun hc h=> ?_) (fun hc h=> ?_)
   ·refine Et ?_;refine Ez I6 ?_;refine Er fun N9 JC=> ?_;obtain ⟨y40,h,U_⟩:=Option.bind_eq_some_iff.1 h;refine E9 gC (fun s H=> ∃Jd:List (List UInt8),∃M_:List Hj,∃Jw:List Int,y40=LR.next (Jd,M_,Jw)∧ ∃v37:AV,bj v37∧s=[u,u,.ptr Hm Hn 0 0,u,u,.ptr Hz HA 0 0,v37,u,u,u,u,u,u,u,u,u,u,.fz (a0.map HP),.int .i64 (a0.length:Int),.int .i64 IB,u,u,u,u,u,u,u,u,u,u,u,u,u,u,u,u,u,u,u,u,u,u,u,u,u,u,u,u]∧aA H (⟨v37,1,Jd.map AV.str⟩::⟨.ptr Hm Hn 0 0,2,[.agg [.nil,.nil]]⟩::⟨.ptr Hz HA 0 0,2,[.agg [.fz (M_.map Hp),.fz (Jw.map (AV.int .i64))]]⟩::F)) (fun Sl LQ=> ?_) (fun s H hq=> ?_)
    ·refine Es fun Nn I5=> ?_;refine Er fun Xm PH=> ?_;refine EL gC ?_;try simp only [W,Hf,Nat.reduceAdd]
     refine EX rfl rfl rfl (fun _=>rfl) h fun LD agJ h=> ?_;try simp only [W,Hf,HL,reduceIte,Nat.reduceAdd,Nat.reduceLeDiff]
     refine ET hS rfl rfl fun agK agL H hS=> ?_;try simp only [W]
     refine EU (a:= .agg [.int .i64 LD.Id,.int .i64 LD.At,.int .i64 LD.Hh,.str LD.Text]) (y' := .agg [.int .i64 LD.Id,.int .i64 LD.At,.int .i64 LD.Hh,.str LD.Text]) 0 hS rfl rfl rfl rfl rfl rfl rfl rfl fun H hS=> ?_
     try simp only [W]
     refine Ez PH ?_;refine Er fun K47 SA=> ?_;refine Er fun Ux Nq=> ?_;refine EL gC ?_;try simp only [W,Hf,reduceIte,Nat.reduceAdd,Nat.reduceLeDiff,hS.var 0 rfl]
     refine E4 h fun V1 acj h=> ?_;refine Xx acj hS fun H hS=> ?_;try simp only [W]
     refine Ez Nq ?_;refine Ew ?_;simp only [W];refine EK h (fun hc h=> ?_) (fun hc h=> ?_)
     ·refine Er fun Pw JJ=> ?_;refine EL gC ?_;try simp only [W,Hf,Nat.reduceAdd]
      refine FE rfl rfl rfl rfl rfl ?_;try simp only [W]
      refine EU (a:= .agg [.nil,.nil]) (y' := .agg [.nil,.nil]) 2 hS rfl rfl rfl rfl rfl rfl rfl rfl fun H hS=> ?_
      try simp only [W]
      refine Ez JJ ?_;refine Eu ?_;refine EA SA ?_;refine EF I5 ?_;try obtain rfl:=Option.some.inj h
      obtain rfl:=Option.some.inj U_;have h:(some (LR.done (LR.done ((⟨[],[]⟩:Ho),[],false))):Option (LR ((List (List UInt8))×Int×(List Hj)×(List Int)) (LR ((List (List UInt8))×(List Hj)×(List Int)) (Ho×List (List UInt8)×Bool))))=some (LR.done (LR.done ((⟨[],[]⟩:Ho),[],false))):=rfl;refine Fa LQ ?_;refine EA JC ?_;try obtain rfl:=Option.some.inj h
      obtain rfl:=U9 _ rfl;have h:(some (LR.done ((⟨[],[]⟩:Ho),[],false)):Option (LR ((List (List UInt8))×(List Hj)×(List Int)) (Ho×List (List UInt8)×Bool)))=some (LR.done ((⟨[],[]⟩:Ho),[],false)):=rfl;refine E8 Ir ?_;refine EF Im ?_;try obtain rfl:=Option.some.inj h
      obtain rfl:=Option.some.inj Oc;have h:(some ((⟨[],[]⟩:Ho),[],false):Option (Ho×List (List UInt8)×Bool))=some ((⟨[],[]⟩:Ho),[],false):=rfl;refine Fa Ik ?_;refine EA Ic ?_;refine EG Hi (FB rfl rfl (hS.var 2 rfl) rfl (FC rfl (FC rfl rfl))) ?_;try obtain rfl:=Option.some.inj h
      exact hP _ rL _ rL _ rL _ ((((hS.Fl 1).Fl 1).Fl 4).Fz 7 [0,1,2] (by decide))
     ·refine Et ?_;refine Ez SA ?_;refine Er fun XG Ou=> ?_;refine EM (fz:=[(2,[([28],[.sl [.sc,.sc,.sc,.sl [.sc,.sc]],.sl [.sc]])])]) gC ?_;try simp only [W,Hf,reduceIte,Nat.reduceAdd,Nat.reduceLeDiff,Nat.reduceBEq,hS.var 0 rfl,hS.var 3 rfl]
      refine Fv rfl ?_;refine Fs ?_;refine Fs ?_;refine Fp ?_;simp only [W];try simp only [W,Hf,HL,reduceIte,Nat.reduceAdd,Nat.reduceLeDiff,Nat.reduceBEq,Nat.reduceMul,Bool.false_eq_true]
      refine E4 h fun IN SO h=> ?_;obtain ⟨Ji,Tv,Kd,Ih⟩:=IN;try dsimp only at h
      refine XE SO hS fun H hS=> ?_;try simp only [W,Nat.reduceAdd,Nat.reduceBEq]
      refine ET hS rfl rfl fun abG abH H hS=> ?_;try simp only [W,Nat.reduceAdd,Nat.reduceBEq]
      refine EU (a:= .agg [.fz (Ji.Hg.map Hp),.fz (Ji.Told.map (AV.int .i64))]) (y' := .agg [.fz (Ji.Hg.map Hp),.fz (Ji.Told.map (AV.int .i64))]) 0 hS rfl rfl rfl rfl rfl rfl rfl rfl fun H hS=> ?_
      try simp only [W,Nat.reduceAdd,Nat.reduceBEq]
      refine Ez Ou ?_;refine Er fun Wx N8=> ?_;refine Er fun R_ Mz=> ?_;refine EL gC ?_;try simp only [W,Nat.reduceAdd]
      refine Ez Mz ?_;refine Ew ?_;simp only [W];refine EK h (fun hc h=> ?_) (fun hc h=> ?_)
      ·refine Er fun Wy Px=> ?_;refine EL gC ?_;try simp only [W,Hf,Nat.reduceAdd]
       refine FE rfl rfl rfl rfl rfl ?_;try simp only [W]
       refine EU (a:= .agg [.nil,.nil]) (y' := .agg [.nil,.nil]) 3 hS rfl rfl rfl rfl rfl rfl rfl rfl fun H hS=> ?_
       try simp only [W]
       refine Ez Px ?_;refine Eu ?_;refine EA N8 ?_;refine EF I5 ?_;try obtain rfl:=Option.some.inj h
       obtain rfl:=Option.some.inj U_;have h:(some (LR.done (LR.done ((⟨[],[]⟩:Ho),[],false))):Option (LR ((List (List UInt8))×Int×(List Hj)×(List Int)) (LR ((List (List UInt8))×(List Hj)×(List Int)) (Ho×List (List UInt8)×Bool))))=some (LR.done (LR.done ((⟨[],[]⟩:Ho),[],false))):=rfl;refine Fa LQ ?_;refine EA JC ?_;try obtain rfl:=Option.some.inj h
       obtain rfl:=U9 _ rfl;have h:(some (LR.done ((⟨[],[]⟩:Ho),[],false)):Option (LR ((List (List UInt8))×(List Hj)×(List Int)) (Ho×List (List UInt8)×Bool)))=some (LR.done ((⟨[],[]⟩:Ho),[],false)):=rfl;refine E8 Ir ?_;refine EF Im ?_;try obtain rfl:=Option.some.inj h
       obtain rfl:=Option.some.inj Oc;have h:(some ((⟨[],[]⟩:Ho),[],false):Option (Ho×List (List UInt8)×Bool))=some ((⟨[],[]⟩:Ho),[],false):=rfl;refine Fa Ik ?_;refine EA Ic ?_;refine EG Hi (FB rfl rfl (hS.var 3 rfl) rfl (FC rfl (FC rfl rfl))) ?_;try obtain rfl:=Option.some.inj h
       exact hP _ rL _ rL _ rL _ ((((hS.Fl 1).Fl 1).Fl 4).Fz 8 [0,1,2] (by decide))
      ·refine Et ?_;refine Ez N8 ?_;refine Er fun Sr MH=> ?_;refine EL gC ?_;try simp only [W,Hf,reduceIte,Nat.reduceAdd,Nat.reduceLeDiff,hS.var 0 rfl]
       refine EU (a:= .agg [.fz (Ji.Hg.map Hp),.fz (Ji.Told.map (AV.int .i64))]) (y' := .agg [.fz (Ji.Hg.map Hp),.fz (Ji.Told.map (AV.int .i64))]) 4 hS rfl rfl rfl rfl rfl rfl rfl rfl fun H hS=> ?_
       try simp only [W]
       refine Ez MH ?_;refine Er fun Xq Rg=> ?_;refine EL gC ?_;try simp only [W,Nat.reduceAdd]
       refine Ez Rg ?_;obtain ⟨UM,h,UN⟩:=Option.bind_eq_some_iff.1 h;refine E9 gC (fun s H=> ∃LA:List (List UInt8),UM=(LA)∧ ∃v77:AV,bj v77∧s=[u,u,.ptr Hm Hn 0 0,u,u,.ptr Hz HA 0 0,v77,u,u,u,u,u,u,u,u,u,u,.fz (a0.map HP),.int .i64 (a0.length:Int),.int .i64 IB,u,u,u,u,u,u,u,u,u,u,u,u,u,u,u,u,u,u,u,u,u,u,u,u,u,u,u,u]∧aA H (⟨v77,1,LA.map AV.str⟩::⟨.ptr Hm Hn 0 0,2,[.agg [.nil,.nil]]⟩::⟨.ptr Hz HA 0 0,2,[.agg [.fz (Ji.Hg.map Hp),.fz (Ji.Told.map (AV.int .i64))]]⟩::F)) (fun W6 Ob=> ?_) (fun s H hq=> ?_)
       ·refine Er fun UO MQ=> ?_;refine Ew ?_;simp only [W];refine EK h (fun hc h=> ?_) (fun hc h=> ?_)
        ·refine EL gC ?_;try simp only [W,Nat.reduceAdd]
         refine E3 (el:=([Tv]:List (List UInt8)).map AV.str) hS rfl rfl rfl rfl rfl rfl rfl fun v83 H UP hS=> ?_;try simp only [W,Hf]
         refine Fk (l:=HF) (c:=AV.str) 3 hS rfl JX rfl rfl rfl (hS.jl 0 rfl UP) (fun _=>rfl) rfl h fun v86 H Qo UQ hm h hS=> ?_;try simp only [W]
         refine Ez MQ ?_;refine Ey ?_;exact E_ Ob ⟨_,(Option.some.inj h).symm,_,UQ,rfl,(hS.Fz 6 [3,4,5] (by decide))⟩
        ·refine Et ?_;refine Ez MQ ?_;refine Ey ?_;exact E_ Ob ⟨_,(Option.some.inj h).symm,_,JX,rfl,(hS.Fz 5 [2,3,4] (by decide))⟩
       ·obtain ⟨LA,Hr,v77,UR,rfl,hS⟩:=hq;obtain rfl:=Hr.symm;replace h:=UN;try dsimp only at h
        refine EC I5 ?_;exact E_ LQ ⟨_,_,_,(Option.some.inj h).symm,_,UR,rfl,hS⟩
    ·obtain ⟨Jd,M_,Jw,rfl,v37,ack,rfl,hS⟩:=hq;replace h:=U_;try dsimp only at h
     refine Ez JC ?_;refine EL gC ?_;try simp only [W,Hf,Nat.reduceAdd]
     exact E6 Ir h ⟨_,ack,rfl,hS⟩
   ·refine Ev ?_;refine EB I6 ?_;try obtain rfl:=Option.some.inj h
    obtain rfl:=U9 _ rfl;have h:(some (LR.next (HF,Jo,HV)):Option (LR ((List (List UInt8))×(List Hj)×(List Int)) (Ho×List (List UInt8)×Bool)))=some (LR.next (HF,Jo,HV)):=rfl
    refine E7 Ir ?_;refine EE Im ?_;exact E_ Ik ⟨_,_,_,(Option.some.inj h).symm,_,JX,rfl,hS⟩
  ·obtain ⟨IW,Je,MY,rfl,v21,QY,rfl,hS⟩:=hq;replace h:=Oc;try dsimp only at h
   refine Ez Ic ?_;refine Er fun Xw Oo=> ?_;refine EL gC ?_;try simp only [W,Hf,reduceIte,Nat.reduceAdd,Nat.reduceLeDiff,hS.var 2 rfl]
   refine E4 h fun Pg Va h=> ?_;refine U5 Va hS fun UH SI XM XO H hS=> ?_;try simp only [W]
   refine EU (a:= .agg [UH,XM]) (y' := .agg [UH,XM]) 3 hS rfl rfl rfl rfl rfl (by simp only [en,List.all_cons,List.all_nil,SI.sw,XO.sw];rfl) rfl rfl fun H hS=> ?_
   try simp only [W]
   refine Ez Oo ?_;refine Eu ?_;refine EG Hi (FB rfl rfl (hS.var 3 rfl) rfl (FC rfl (FC rfl rfl))) ?_;try obtain rfl:=Option.some.inj h
   exact hP _ SI _ XO _ QY _ (hS.Fz 5 [0,1,2] (by decide))
theorem XP {a0:List (List UInt8)} {a1:List (List UInt8)} {r:(Bool)} (h:Ph a0 a1=some r) {F:List It} {H:J} (hS:aA H (F)) {P:AV→J→Prop} (hP: ∀H',aA H' (F)→P (.bool r) H'):aq C 10 [.fz (a0.map AV.str),.fz (a1.map AV.str)] H P:=by
 refine EO gC (res:=[.tmp 4]) (n:=26) rfl rfl rfl rfl fun K0 Hi=> ?_;simp only [W,Nat.reduceSub,Nat.reduceAdd,List.replicate];unfold Ph at h;refine Er fun K1 Hq=> ?_;refine EL gC ?_;try simp only [W,Nat.reduceAdd]
 refine Ez Hq ?_;refine Er fun K2 Cu=> ?_;refine Er fun K3 HY=> ?_;refine EL gC ?_;try simp only [W,Hf,Nat.reduceAdd]
 refine Ez HY ?_;refine Ew ?_;simp only [W];refine EK h (fun hc h=> ?_) (fun hc h=> ?_)
 ·refine Er fun K4 Hv=> ?_;refine EL gC ?_;try simp only [W,Nat.reduceAdd]
  refine Ez Hv ?_;refine Eu ?_;refine EA Cu ?_;refine EH Hi rfl ?_;try obtain rfl:=Option.some.inj h
  exact hP _ hS
 ·refine Et ?_;refine Ez Cu ?_;refine Er fun K5 H9=> ?_;refine Er fun K6 ID=> ?_;refine EL gC ?_;try simp only [W,Hf,Nat.reduceAdd]
  refine Ez ID ?_;obtain ⟨Kh,Ki,g15⟩:=Option.bind_eq_some_iff.1 h;refine E9 gC (fun s H=>Kh=LR.next ()∧s=[u,u,u,u,u,u,u,u,u,u,u,u,u,u,u,u,u,u,u,u,u,u,u,u,u,u]∧aA H (F)) (fun J4 H_=> ?_) (fun s H hq=> ?_)
  ·refine Es fun Kx Iu=> ?_;refine E5 gC Ki (fun x s H=>s=[.fz (a0.map AV.str),.fz (a1.map AV.str),u,u,u,u,u,u,u,u,u,u,.int .i64 (a0.length:Int),.int .i64 x,u,u,u,u,u,u,u,u,u,u,u,u]∧aA H (F)) ⟨rfl,hS⟩ (fun HD MB s H h JB hi KN Ic=> ?_)
   skip
   try dsimp only at hi
   obtain ⟨rfl,hS⟩:=hi;simp only [QD] at h;refine Er fun JT Ie=> ?_;refine EL gC ?_;try simp only [W,Hf,Nat.reduceAdd]
   refine Ez Ie ?_;refine Er fun Jb HJ=> ?_;refine Ew ?_;simp only [W];refine EK h (fun hc h=> ?_) (fun hc h=> ?_)
   ·refine Et ?_;refine Ez HJ ?_;refine Er fun Jp HQ=> ?_;refine Es fun JA HR=> ?_;refine Er fun J5 Ii=> ?_;refine EL gC ?_;try simp only [W,Nat.reduceAdd]
    refine Ez Ii ?_;refine Er fun Nl Jl=> ?_;refine EN gC (by kernel_rfl) ?_
    try simp only [W,Hf,Nat.reduceAdd]
    refine EX rfl rfl rfl (fun _=>rfl) h fun Ju SU h=> ?_;try simp only [W,Hf]
    refine EX rfl rfl rfl (fun _=>rfl) h fun Jx Pt h=> ?_;try simp only [W,Hf]
    refine Ez Jl ?_;refine Ew ?_;simp only [W];refine EK h (fun hc h=> ?_) (fun hc h=> ?_)
    ·refine Er fun Kf Iq=> ?_;refine EL gC ?_;try simp only [W,Nat.reduceAdd]
     refine Ez Iq ?_;refine Eu ?_;refine EF HR ?_;refine EA HQ ?_;try obtain rfl:=Option.some.inj h
     obtain rfl:=JB _ rfl;have h:(some (LR.done false):Option (LR Unit (Bool)))=some (LR.done false):=rfl;refine E8 Ic ?_;refine EF Iu ?_;try obtain rfl:=Option.some.inj h
     obtain rfl:=Option.some.inj g15;have h:(some false:Option (Bool))=some false:=rfl;refine Fa H_ ?_;refine EA H9 ?_;refine EH Hi rfl ?_;try obtain rfl:=Option.some.inj h
     exact hP _ hS
    ·refine Et ?_;refine ED HR ?_;refine Ez HQ ?_;refine EL gC ?_;try simp only [W,Hf,Nat.reduceAdd]
     exact E6 Ic h ⟨rfl,hS⟩
   ·refine Ev ?_;refine EB HJ ?_;try obtain rfl:=Option.some.inj h
    obtain rfl:=JB _ rfl;have h:(some (LR.next ()):Option (LR Unit (Bool)))=some (LR.next ()):=rfl
    refine E7 Ic ?_;refine EE Iu ?_;exact E_ H_ ⟨(Option.some.inj h).symm,rfl,hS⟩
  ·obtain ⟨rfl,rfl,hS⟩:=hq;replace h:=g15;try dsimp only at h
   refine Ez H9 ?_;refine Er fun Lf IQ=> ?_;refine EL gC ?_;try simp only [W,Nat.reduceAdd]
   refine Ez IQ ?_;refine Eu ?_;refine EH Hi rfl ?_;try obtain rfl:=Option.some.inj h
   exact hP _ hS
theorem acm {a0:List Int} {a1:List Int} {r:(Bool)} (h:QF a0 a1=some r) {F:List It} {H:J} (hS:aA H (F)) {P:AV→J→Prop} (hP: ∀H',aA H' (F)→P (.bool r) H'):aq C 36 [.fz (a0.map (AV.int .i64)),.fz (a1.map (AV.int .i64))] H P:=by
 refine EO gC (res:=[.tmp 4]) (n:=26) rfl rfl rfl rfl fun K0 Hi=> ?_;simp only [W,Nat.reduceSub,Nat.reduceAdd,List.replicate];unfold QF at h;refine Er fun K1 Hq=> ?_;refine EL gC ?_;try simp only [W,Nat.reduceAdd]
 refine Ez Hq ?_;refine Er fun K2 Cu=> ?_;refine Er fun K3 HY=> ?_;refine EL gC ?_;try simp only [W,Hf,Nat.reduceAdd]
 refine Ez HY ?_;refine Ew ?_;simp only [W];refine EK h (fun hc h=> ?_) (fun hc h=> ?_)
 ·refine Er fun K4 Hv=> ?_;refine EL gC ?_;try simp only [W,Nat.reduceAdd]
  refine Ez Hv ?_;refine Eu ?_;refine EA Cu ?_;refine EH Hi rfl ?_;try obtain rfl:=Option.some.inj h
  exact hP _ hS
 ·refine Et ?_;refine Ez Cu ?_;refine Er fun K5 H9=> ?_;refine Er fun K6 ID=> ?_;refine EL gC ?_;try simp only [W,Hf,Nat.reduceAdd]
  refine Ez ID ?_;obtain ⟨Kh,Ki,g15⟩:=Option.bind_eq_some_iff.1 h;refine E9 gC (fun s H=>Kh=LR.next ()∧s=[u,u,u,u,u,u,u,u,u,u,u,u,u,u,u,u,u,u,u,u,u,u,u,u,u,u]∧aA H (F)) (fun J4 H_=> ?_) (fun s H hq=> ?_)
  ·refine Es fun Kx Iu=> ?_;refine E5 gC Ki (fun x s H=>s=[.fz (a0.map (AV.int .i64)),.fz (a1.map (AV.int .i64)),u,u,u,u,u,u,u,u,u,u,.int .i64 (a0.length:Int),.int .i64 x,u,u,u,u,u,u,u,u,u,u,u,u]∧aA H (F)) ⟨rfl,hS⟩ (fun HD MB s H h JB hi KN Ic=> ?_)
   skip
   try dsimp only at hi
   obtain ⟨rfl,hS⟩:=hi;simp only [QE] at h;refine Er fun JT Ie=> ?_;refine EL gC ?_;try simp only [W,Hf,Nat.reduceAdd]
   refine Ez Ie ?_;refine Er fun Jb HJ=> ?_;refine Ew ?_;simp only [W];refine EK h (fun hc h=> ?_) (fun hc h=> ?_)
   ·refine Et ?_;refine Ez HJ ?_;refine Er fun Jp HQ=> ?_;refine Es fun JA HR=> ?_;refine Er fun J5 Ii=> ?_;refine EL gC ?_;try simp only [W,Nat.reduceAdd]
    refine Ez Ii ?_;refine Er fun Nl Jl=> ?_;refine EN gC (by kernel_rfl) ?_
    try simp only [W,Hf,Nat.reduceAdd]
    refine EX rfl rfl rfl (fun _=>rfl) h fun Ju SU h=> ?_;try simp only [W,Hf]
    refine EX rfl rfl rfl (fun _=>rfl) h fun Jx Pt h=> ?_;try simp only [W,Hf]
    refine Ez Jl ?_;refine Ew ?_;simp only [W];refine EK h (fun hc h=> ?_) (fun hc h=> ?_)
    ·refine Er fun Kf Iq=> ?_;refine EL gC ?_;try simp only [W,Nat.reduceAdd]
     refine Ez Iq ?_;refine Eu ?_;refine EF HR ?_;refine EA HQ ?_;try obtain rfl:=Option.some.inj h
     obtain rfl:=JB _ rfl;have h:(some (LR.done false):Option (LR Unit (Bool)))=some (LR.done false):=rfl;refine E8 Ic ?_;refine EF Iu ?_;try obtain rfl:=Option.some.inj h
     obtain rfl:=Option.some.inj g15;have h:(some false:Option (Bool))=some false:=rfl;refine Fa H_ ?_;refine EA H9 ?_;refine EH Hi rfl ?_;try obtain rfl:=Option.some.inj h
     exact hP _ hS
    ·refine Et ?_;refine ED HR ?_;refine Ez HQ ?_;refine EL gC ?_;try simp only [W,Hf,Nat.reduceAdd]
     exact E6 Ic h ⟨rfl,hS⟩
   ·refine Ev ?_;refine EB HJ ?_;try obtain rfl:=Option.some.inj h
    obtain rfl:=JB _ rfl;have h:(some (LR.next ()):Option (LR Unit (Bool)))=some (LR.next ()):=rfl
    refine E7 Ic ?_;refine EE Iu ?_;exact E_ H_ ⟨(Option.some.inj h).symm,rfl,hS⟩
  ·obtain ⟨rfl,rfl,hS⟩:=hq;replace h:=g15;try dsimp only at h
   refine Ez H9 ?_;refine Er fun Lf IQ=> ?_;refine EL gC ?_;try simp only [W,Nat.reduceAdd]
   refine Ez IQ ?_;refine Eu ?_;refine EH Hi rfl ?_;try obtain rfl:=Option.some.inj h
   exact hP _ hS
theorem acn {a0:List Span} {a1:List Span} {r:(Bool)} (h:QI a0 a1=some r) {F:List It} {H:J} (hS:aA H (F)) {P:AV→J→Prop} (hP: ∀H',aA H' (F)→P (.bool r) H'):aq C 104 [.fz (a0.map Hl),.fz (a1.map Hl)] H P:=by
 refine EO gC (res:=[.tmp 4]) (n:=26) rfl rfl rfl rfl fun K0 Hi=> ?_;simp only [W,Nat.reduceSub,Nat.reduceAdd,List.replicate];unfold QI at h;refine Er fun K1 Hq=> ?_;refine EL gC ?_;try simp only [W,Nat.reduceAdd]
 refine Ez Hq ?_;refine Er fun K2 Cu=> ?_;refine Er fun K3 HY=> ?_;refine EL gC ?_;try simp only [W,Hf,Nat.reduceAdd]
 refine Ez HY ?_;refine Ew ?_;simp only [W];refine EK h (fun hc h=> ?_) (fun hc h=> ?_)
 ·refine Er fun K4 Hv=> ?_;refine EL gC ?_;try simp only [W,Nat.reduceAdd]
  refine Ez Hv ?_;refine Eu ?_;refine EA Cu ?_;refine EH Hi rfl ?_;try obtain rfl:=Option.some.inj h
  exact hP _ hS
 ·refine Et ?_;refine Ez Cu ?_;refine Er fun K5 H9=> ?_;refine Er fun K6 ID=> ?_;refine EL gC ?_;try simp only [W,Hf,Nat.reduceAdd]
  refine Ez ID ?_;obtain ⟨Kh,Ki,g15⟩:=Option.bind_eq_some_iff.1 h;refine E9 gC (fun s H=>Kh=LR.next ()∧s=[u,u,u,u,u,u,u,u,u,u,u,u,u,u,u,u,u,u,u,u,u,u,u,u,u,u]∧aA H (F)) (fun J4 H_=> ?_) (fun s H hq=> ?_)
  ·refine Es fun Kx Iu=> ?_;refine E5 gC Ki (fun x s H=>s=[.fz (a0.map Hl),.fz (a1.map Hl),u,u,u,u,u,u,u,u,u,u,.int .i64 (a0.length:Int),.int .i64 x,u,u,u,u,u,u,u,u,u,u,u,u]∧aA H (F)) ⟨rfl,hS⟩ (fun HD MB s H h JB hi KN Ic=> ?_)
   skip
   try dsimp only at hi
   obtain ⟨rfl,hS⟩:=hi;simp only [QH] at h;refine Er fun JT Ie=> ?_;refine EL gC ?_;try simp only [W,Hf,Nat.reduceAdd]
   refine Ez Ie ?_;refine Er fun Jb HJ=> ?_;refine Ew ?_;simp only [W];refine EK h (fun hc h=> ?_) (fun hc h=> ?_)
   ·refine Et ?_;refine Ez HJ ?_;refine Er fun Jp HQ=> ?_;refine Es fun JA HR=> ?_;refine Er fun J5 Ii=> ?_;refine EL gC ?_;try simp only [W,Nat.reduceAdd]
    refine Ez Ii ?_;refine Er fun Nl Jl=> ?_;refine EN gC (by kernel_rfl) ?_
    try simp only [W,Hf,Nat.reduceAdd]
    refine EX rfl rfl rfl (fun _=>rfl) h fun Ju SU h=> ?_;try simp only [W,Hf,HL,reduceIte,Nat.reduceAdd,Nat.reduceLeDiff]
    refine EX rfl rfl rfl (fun _=>rfl) h fun Jx Pt h=> ?_;try simp only [W,Hf,HL,reduceIte,Nat.reduceAdd,Nat.reduceLeDiff]
    refine Ez Jl ?_;refine Ew ?_;simp only [W];refine EK h (fun hc h=> ?_) (fun hc h=> ?_)
    ·refine Er fun Kf Iq=> ?_;refine EL gC ?_;try simp only [W,Nat.reduceAdd]
     refine Ez Iq ?_;refine Eu ?_;refine EF HR ?_;refine EA HQ ?_;try obtain rfl:=Option.some.inj h
     obtain rfl:=JB _ rfl;have h:(some (LR.done false):Option (LR Unit (Bool)))=some (LR.done false):=rfl;refine E8 Ic ?_;refine EF Iu ?_;try obtain rfl:=Option.some.inj h
     obtain rfl:=Option.some.inj g15;have h:(some false:Option (Bool))=some false:=rfl;refine Fa H_ ?_;refine EA H9 ?_;refine EH Hi rfl ?_;try obtain rfl:=Option.some.inj h
     exact hP _ hS
    ·refine Et ?_;refine ED HR ?_;refine Ez HQ ?_;refine EL gC ?_;try simp only [W,Hf,Nat.reduceAdd]
     exact E6 Ic h ⟨rfl,hS⟩
   ·refine Ev ?_;refine EB HJ ?_;try obtain rfl:=Option.some.inj h
    obtain rfl:=JB _ rfl;have h:(some (LR.next ()):Option (LR Unit (Bool)))=some (LR.next ()):=rfl
    refine E7 Ic ?_;refine EE Iu ?_;exact E_ H_ ⟨(Option.some.inj h).symm,rfl,hS⟩
  ·obtain ⟨rfl,rfl,hS⟩:=hq;replace h:=g15;try dsimp only at h
   refine Ez H9 ?_;refine Er fun Lf IQ=> ?_;refine EL gC ?_;try simp only [W,Nat.reduceAdd]
   refine Ez IQ ?_;refine Eu ?_;refine EH Hi rfl ?_;try obtain rfl:=Option.some.inj h
   exact hP _ hS
theorem aco {a0:Hj} {a1:Hj} {r:(Bool)} (h:QJ a0 a1=some r) {F:List It} {H:J} (hS:aA H (F)) {P:AV→J→Prop} (hP: ∀H',aA H' (F)→P (.bool r) H'):aq C 54 [.agg [.int .i64 a0.Id,.int .i64 a0.Hh,.str a0.Text,.fz (a0.Has.map Hl)],.agg [.int .i64 a1.Id,.int .i64 a1.Hh,.str a1.Text,.fz (a1.Has.map Hl)]] H P:=by
 refine EO gC (res:=[.tmp 4]) (n:=31) rfl rfl rfl rfl fun K0 Hi=> ?_;simp only [W,Nat.reduceSub,Nat.reduceAdd,List.replicate];unfold QJ at h;refine Er fun K1 Hq=> ?_;refine EL gC ?_;try simp only [W,Nat.reduceAdd]
 refine ES hS rfl rfl rfl rfl fun Hm Hn H hS=> ?_;try simp only [W]
 refine ES hS rfl rfl rfl rfl fun Hw Hy H hS=> ?_;try simp only [W]
 refine Ez Hq ?_;refine Er fun K6 ID=> ?_;refine EL gC ?_;try simp only [W,Hf,Nat.reduceAdd,Nat.reduceBEq,hS.var 1 rfl,hS.var 0 rfl]
 refine FD h (fun hc h=> ?_) (fun hc h=> ?_)
 ·try simp only [W,Hf,reduceIte,Nat.reduceAdd,Nat.reduceBEq,hS.var 1 rfl,hS.var 0 rfl,hc]
  refine FD h (fun hc h=> ?_) (fun hc h=> ?_)
  ·try simp only [W,Hf,reduceIte,Nat.reduceAdd,Nat.reduceBEq,hS.var 1 rfl,hS.var 0 rfl,hc]
   refine FD h (fun hc h=> ?_) (fun hc h=> ?_)
   ·try simp only [W,Hf,Nat.reduceAdd,Nat.reduceBEq,hS.var 1 rfl,hS.var 0 rfl,hc]
    refine E4 h fun HT MI h=> ?_;refine acn MI hS fun H hS=> ?_;try simp only [W,reduceIte]
    refine Ez ID ?_;refine Eu ?_;refine EH Hi rfl ?_;try obtain rfl:=Option.some.inj h
    exact hP _ (hS.Fz 2 [] (by decide))
   ·try simp only [W,hc]
    refine Ez ID ?_;refine Eu ?_;refine EH Hi rfl ?_;try obtain rfl:=Option.some.inj h
    exact hP _ (hS.Fz 2 [] (by decide))
  ·try simp only [W,hc]
   refine Ez ID ?_;refine Eu ?_;refine EH Hi rfl ?_;try obtain rfl:=Option.some.inj h
   exact hP _ (hS.Fz 2 [] (by decide))
 ·try simp only [W,hc]
  refine Ez ID ?_;refine Eu ?_;refine EH Hi rfl ?_;try obtain rfl:=Option.some.inj h
  exact hP _ (hS.Fz 2 [] (by decide))
theorem XQ {a0:Ho} {a1:Ho} {r:(Bool)} (h:Na a0 a1=some r) {F:List It} {H:J} (hS:aA H (F)) {P:AV→J→Prop} (hP: ∀H',aA H' (F)→P (.bool r) H'):aq C 11 [.agg [.fz (a0.Hg.map Hp),.fz (a0.Told.map (AV.int .i64))],.agg [.fz (a1.Hg.map Hp),.fz (a1.Told.map (AV.int .i64))]] H P:=by
 refine EO gC (res:=[.tmp 4]) (n:=40) rfl rfl rfl rfl fun K0 Hi=> ?_;simp only [W,Nat.reduceSub,Nat.reduceAdd,List.replicate];unfold Na at h;refine Er fun K1 Hq=> ?_;refine EL gC ?_;try simp only [W,Nat.reduceAdd]
 refine ES hS rfl rfl rfl rfl fun Hm Hn H hS=> ?_;try simp only [W]
 refine ES hS rfl rfl rfl rfl fun Hw Hy H hS=> ?_;try simp only [W]
 refine Ez Hq ?_;refine Er fun K6 ID=> ?_;refine Er fun K7 IJ=> ?_;obtain ⟨acp,h,g10⟩:=Option.bind_eq_some_iff.1 h;refine E9 gC (fun s H=> ∃Jy:Bool,acp=(Jy)∧s=[u,u,.ptr Hm Hn 0 0,.ptr Hw Hy 0 0,u,u,u,u,u,u,u,u,u,u,u,u,u,u,u,u,.bool Jy,u,u,u,u,u,u,u,u,u,u,u,u,u,u,u,u,u,u,u]∧aA H (⟨.ptr Hm Hn 0 0,2,[.agg [.fz (a0.Hg.map Hp),.fz (a0.Told.map (AV.int .i64))]]⟩::⟨.ptr Hw Hy 0 0,2,[.agg [.fz (a1.Hg.map Hp),.fz (a1.Told.map (AV.int .i64))]]⟩::F)) (fun Kx Iu=> ?_) (fun s H hq=> ?_)
 ·refine Er fun KN Ic=> ?_;refine EL gC ?_;try simp only [W,Hf,Nat.reduceAdd,Nat.reduceBEq,hS.var 1 rfl,hS.var 0 rfl]
  refine E4 h fun Kw acq h=> ?_;refine acm acq hS fun H hS=> ?_;try simp only [W]
  refine FD h (fun hc h=> ?_) (fun hc h=> ?_)
  ·try simp only [W,hc]
   refine Ez Ic ?_;refine Ey ?_;exact E_ Iu ⟨_,(Option.some.inj h).symm,rfl,(hS.Fz 2 [1,0] (by decide))⟩
  ·try simp only [W,Hf,reduceIte,Nat.reduceAdd,Nat.reduceBEq,Bool.false_eq_true,hS.var 1 rfl,hS.var 0 rfl,hc]
   refine Ez Ic ?_;refine Ey ?_;exact E_ Iu ⟨_,(Option.some.inj h).symm,rfl,(hS.Fz 2 [1,0] (by decide))⟩
 ·obtain ⟨Jy,Hr,rfl,hS⟩:=hq;obtain rfl:=Hr.symm;replace h:=g10;try dsimp only at h
  refine Ez IJ ?_;refine Ew ?_;simp only [W];refine EK h (fun hc h=> ?_) (fun hc h=> ?_)
  ·refine Er fun J3 HZ=> ?_;refine EL gC ?_;try simp only [W,Nat.reduceAdd]
   refine Ez HZ ?_;refine Eu ?_;refine EA ID ?_;refine EH Hi rfl ?_;try obtain rfl:=Option.some.inj h
   exact hP _ (hS.Fz 2 [] (by decide))
  ·refine Et ?_;refine Ez ID ?_;refine Er fun LJ IF=> ?_;refine Er fun JT Ie=> ?_;refine EL gC ?_;try simp only [W,Hf,Nat.reduceAdd,Nat.reduceBEq,hS.var 0 rfl]
   refine Ez Ie ?_;obtain ⟨y18,acr,XR⟩:=Option.bind_eq_some_iff.1 h;refine E9 gC (fun s H=>y18=LR.next ()∧s=[u,u,u,u,u,u,u,u,u,u,u,u,u,u,u,u,u,u,u,u,u,u,u,u,u,u,u,u,u,u,u,u,u,u,u,u,u,u,u,u]∧aA H (F)) (fun J5 Ii=> ?_) (fun s H hq=> ?_)
   ·refine Es fun Nl Jl=> ?_;refine E5 gC acr (fun x s H=>s=[u,u,.ptr Hm Hn 0 0,.ptr Hw Hy 0 0,u,u,u,u,u,u,u,u,u,u,u,u,u,u,u,u,u,u,u,.int .i64 (a0.Hg.length:Int),.int .i64 x,u,u,u,u,u,u,u,u,u,u,u,u,u,u,u]∧aA H (⟨.ptr Hm Hn 0 0,2,[.agg [.fz (a0.Hg.map Hp),.fz (a0.Told.map (AV.int .i64))]]⟩::⟨.ptr Hw Hy 0 0,2,[.agg [.fz (a1.Hg.map Hp),.fz (a1.Told.map (AV.int .i64))]]⟩::F)) ⟨rfl,hS⟩ (fun IB XL s H h XS hi N5 JH=> ?_)
    skip
    try dsimp only at hi
    obtain ⟨rfl,hS⟩:=hi;simp only [QK] at h;refine Er fun Kg Ik=> ?_;refine EL gC ?_;try simp only [W,Hf,Nat.reduceAdd]
    refine Ez Ik ?_;refine Er fun KP Im=> ?_;refine Ew ?_;simp only [W];refine EK h (fun hc h=> ?_) (fun hc h=> ?_)
    ·refine Et ?_;refine Ez Im ?_;refine Er fun LL Ir=> ?_;refine Es fun L7 IP=> ?_;refine Er fun L_ I2=> ?_;refine EL gC ?_;try simp only [W,Nat.reduceAdd]
     refine Ez I2 ?_;refine Er fun Lf IQ=> ?_;refine EN gC (by kernel_rfl) ?_
     try simp only [W,Hf,Nat.reduceAdd,Nat.reduceBEq,hS.var 0 rfl]
     refine EX rfl rfl rfl (fun _=>rfl) h fun KL XA h=> ?_;try simp only [W,Hf,HL,reduceIte,Nat.reduceAdd,Nat.reduceLeDiff,Nat.reduceBEq,hS.var 1 rfl]
     refine EX rfl rfl rfl (fun _=>rfl) h fun LF R8 h=> ?_;try simp only [W,Hf,HL,reduceIte,Nat.reduceAdd,Nat.reduceLeDiff]
     refine F6 (bS:=[[.sc]]) (ys:=[.agg [.int .i64 KL.Id,.int .i64 KL.Hh,.str KL.Text,.fz (KL.Has.map Hl)],.agg [.int .i64 LF.Id,.int .i64 LF.Hh,.str LF.Text,.fz (LF.Has.map Hl)]]) h rfl (by rfl) fun IV XJ h=>⟨.bool IV,aco XJ (aA.nil _) fun H hS=>F2 rfl (FY rfl (FX rfl)),⟨rfl,rfl,fun _=>rfl⟩,?_⟩
     try simp only [W]
     refine Ez IQ ?_;refine Ew ?_;simp only [W];refine EK h (fun hc h=> ?_) (fun hc h=> ?_)
     ·refine Er fun Nn I5=> ?_;refine EL gC ?_;try simp only [W,Nat.reduceAdd]
      refine Ez I5 ?_;refine Eu ?_;refine EF IP ?_;refine EA Ir ?_;try obtain rfl:=Option.some.inj h
      obtain rfl:=XS _ rfl;have h:(some (LR.done false):Option (LR Unit (Bool)))=some (LR.done false):=rfl;refine E8 JH ?_;refine EF Jl ?_;try obtain rfl:=Option.some.inj h
      obtain rfl:=Option.some.inj XR;have h:(some false:Option (Bool))=some false:=rfl;refine Fa Ii ?_;refine EA IF ?_;refine EH Hi rfl ?_;try obtain rfl:=Option.some.inj h
      exact hP _ (hS.Fz 2 [] (by decide))
     ·refine Et ?_;refine ED IP ?_;refine Ez Ir ?_;refine EL gC ?_;try simp only [W,Hf,Nat.reduceAdd]
      exact E6 JH h ⟨rfl,hS⟩
    ·refine Ev ?_;refine EB Im ?_;try obtain rfl:=Option.some.inj h
     obtain rfl:=XS _ rfl;have h:(some (LR.next ()):Option (LR Unit (Bool)))=some (LR.next ()):=rfl
     refine E7 JH ?_;refine EE Jl ?_;exact E_ Ii ⟨(Option.some.inj h).symm,rfl,(hS.Fz 2 [] (by decide))⟩
   ·obtain ⟨rfl,rfl,hS⟩:=hq;replace h:=XR;try dsimp only at h
    refine Ez IF ?_;refine Er fun Sl LQ=> ?_;refine EL gC ?_;try simp only [W,Nat.reduceAdd]
    refine Ez LQ ?_;refine Eu ?_;refine EH Hi rfl ?_;try obtain rfl:=Option.some.inj h
    exact hP _ hS
theorem acs {a0:List Int} {r:(Int×List UInt8)} (h:Pj a0=some r) {F:List It} {H:J} (hS:aA H (F)) {P:AV→J→Prop} (hP: ∀H',aA H' (F)→P (.aD [.int .i64 r.1,.str r.2]) H'):aq C 13 [.fz (a0.map (AV.int .u8))] H P:=by
 refine EO gC (res:=[.tmp 2,.tmp 3]) (n:=13) rfl rfl rfl rfl fun K0 Hi=> ?_;simp only [W,Nat.reduceSub,Nat.reduceAdd,List.replicate];unfold Pj at h;refine Er fun K1 Hq=> ?_;refine EL gC ?_;try simp only [W,Nat.reduceAdd]
 refine Ez Hq ?_;refine Er fun K2 Cu=> ?_;refine EL gC ?_;try simp only [W,Hf,Nat.reduceAdd]
 refine FE rfl rfl rfl rfl rfl ?_;try simp only [W]
 refine ES hS rfl rfl rfl rfl fun ip3 wp3 H hS=> ?_;try simp only [W]
 refine Ez Cu ?_;refine Er fun K5 H9=> ?_;refine EM (fz:=[(2,[([9],[.sl [.sc]])])]) gC ?_;try simp only [W,Nat.reduceAdd,Nat.reduceBEq]
 refine E3 (el:=([-1,0,7,1000,1001]:List Int).map (AV.int .i64)) hS rfl rfl rfl rfl rfl rfl rfl fun v6 H qv6 hS=> ?_;try simp only [W,Nat.reduceAdd]
 refine Fo 0 hS rfl qv6 rfl (fun _ _=>by simp [a8,aT,dT]) (fun _=>rfl) fun H uq hS=> ?_
 try simp only [W]
 refine E4 h fun MX hb8 h=> ?_;obtain ⟨RZ,Jm⟩:=MX;try dsimp only at h
 refine TD hb8 hS fun H hS=> ?_;try simp only [W,Nat.reduceAdd,Nat.reduceBEq]
 refine E4 h fun If MD h=> ?_;obtain ⟨Iw,Kw⟩:=If;try dsimp only at h
 refine Wv MD hS fun H hS=> ?_;try simp only [W,Nat.reduceAdd,Nat.reduceBEq]
 refine Ez H9 ?_;refine Eu ?_;refine EI Hi rfl rfl ?_;try obtain rfl:=Option.some.inj h
 exact hP _ (hS.Fz 1 [] (by decide))
theorem acu {a0:Int} {a1:List UInt8} {r:(List Part×Bool)} (h:Pk a0 a1=some r) {F:List It} {H:J} (hS:aA H (F)) {P:AV→J→Prop} (hP: ∀Oq:AV,bj Oq→ ∀H',aA H' (⟨Oq,4,r.1.map HP⟩::F)→P (.aD [Oq,.bool r.2]) H'):aq C 14 [.int .i64 a0,.str a1] H P:=by
 refine EO gC (res:=[.tmp 4,.tmp 5]) (n:=37) rfl rfl rfl rfl fun K0 Hi=> ?_;simp only [W,Nat.reduceSub,Nat.reduceAdd,List.replicate];unfold Pk at h;refine Er fun K1 Hq=> ?_;refine EL gC ?_;try simp only [W,Nat.reduceAdd]
 refine Ez Hq ?_;refine Er fun K2 Cu=> ?_;refine Er fun K3 HY=> ?_;refine EL gC ?_;try simp only [W,Hf,Nat.reduceAdd]
 refine E4 h fun IG hb4 h=> ?_;refine TX hb4 hS fun H hS=> ?_;try simp only [W]
 refine Ez HY ?_;refine Ew ?_;simp only [W];refine EK h (fun hc h=> ?_) (fun hc h=> ?_)
 ·refine Er fun K5 H9=> ?_;refine EL gC ?_;try simp only [W,Nat.reduceAdd]
  refine Ez H9 ?_;refine Eu ?_;refine EA Cu ?_;refine EI Hi rfl rfl ?_;try obtain rfl:=Option.some.inj h
  exact hP _ rL _ (hS.Fl 4)
 ·refine Et ?_;refine Ez Cu ?_;refine Er fun K6 ID=> ?_;refine EL gC ?_;try simp only [W,Nat.reduceAdd]
  refine E2 rfl rfl ?_;try simp only [W]
  refine Ez ID ?_;refine Er fun K7 IJ=> ?_;refine Er fun K8 HS=> ?_;refine EL gC ?_;try simp only [W,Nat.reduceAdd]
  refine Ez HS ?_;obtain ⟨N4,Q0,g22⟩:=Option.bind_eq_some_iff.1 h;refine E9 gC (fun s H=> ∃H7:List Part,N4=(H7)∧ ∃IX:AV,bj IX∧s=[u,u,u,u,u,u,IX,u,u,u,u,u,u,u,u,u,u,u,u,u,u,u,u,u,u,u,u,u,u,u,u,u,u,u,u,u,u]∧aA H (⟨IX,4,H7.map HP⟩::F)) (fun Jb HJ=> ?_) (fun s H hq=> ?_)
  ·refine Es fun Jp HQ=> ?_;refine E5 gC Q0 (fun x s H=>match x with|(Js,HX)=> ∃v10:AV,bj v10∧s=[.int .i64 a0,.str a1,u,u,u,u,v10,.int .i64 HX,u,u,u,u,u,u,u,u,u,u,u,u,u,u,u,u,u,u,u,u,u,u,u,u,u,u,u,u,u]∧aA H (⟨v10,4,Js.map HP⟩::F)) ⟨_,oR,rfl,(hS.CS 4)⟩ (fun x Nh s H h Pu hi JA HR=> ?_)
   obtain ⟨Js,HX⟩:=x;try dsimp only at hi
   obtain ⟨v10,JU,rfl,hS⟩:=hi;simp only [R0] at h;refine Er fun L8 I1=> ?_;refine Er fun Kf Iq=> ?_;refine EL gC ?_;try simp only [W,Hf,Nat.reduceAdd]
   refine Ez Iq ?_;refine Ew ?_;simp only [W];refine EK h (fun hc h=> ?_) (fun hc h=> ?_)
   ·refine Et ?_;refine Ez I1 ?_;refine Er fun Ky Il=> ?_;refine Es fun Kg Ik=> ?_;refine EL gC ?_;try simp only [W,Hf,Nat.reduceAdd]
    refine Fg rfl rfl h fun LG agM h=> ?_;try simp only [W,Hf]
    refine FE rfl rfl rfl rfl rfl ?_;try simp only [W]
    refine E3 (el:=([(⟨a0,HX,(a1.length:Int),LG⟩:Part)]:List Part).map HP) hS rfl rfl rfl rfl rfl rfl rfl fun v28 H PP hS=> ?_;try simp only [W,Hf]
    refine Fk (l:=Js) (c:=HP) 1 hS rfl JU rfl rfl rfl (hS.jl 0 rfl PP) (fun _=>rfl) rfl h fun v31 H Nb PF hm h hS=> ?_;try simp only [W]
    refine ED Ik ?_;refine Ez Il ?_;refine EL gC ?_;try simp only [W,Hf,Nat.reduceAdd]
    exact E6 HR h ⟨_,PF,rfl,(hS.Fz 2 [1] (by decide))⟩
   ·refine Ev ?_;refine EB I1 ?_;try obtain rfl:=Option.some.inj h
    obtain rfl:=Pu _ rfl;have h:(some (Js):Option ((List Part)))=some (Js):=rfl;refine E7 HR ?_;refine EE HQ ?_;exact E_ HJ ⟨_,(Option.some.inj h).symm,_,JU,rfl,hS⟩
  ·obtain ⟨H7,Hr,IX,J6,rfl,hS⟩:=hq;obtain rfl:=Hr.symm;replace h:=g22;try dsimp only at h
   refine Ez IJ ?_;refine Er fun Nn I5=> ?_;refine EL gC ?_;try simp only [W,Nat.reduceAdd]
   refine Ez I5 ?_;refine Eu ?_;refine EI Hi rfl rfl ?_;try obtain rfl:=Option.some.inj h
   exact hP _ J6 _ hS
theorem acv {a0:List Int} {r:(Int)} (h:Pl a0=some r) {F:List It} {H:J} (hS:aA H (F)) {P:AV→J→Prop} (hP: ∀H',aA H' (F)→P (.int .i64 r) H'):aq C 15 [.fz (a0.map (AV.int .u8))] H P:=by
 refine EO gC (res:=[.tmp 2]) (n:=20) rfl rfl rfl rfl fun K0 Hi=> ?_;simp only [W,Nat.reduceSub,Nat.reduceAdd,List.replicate];unfold Pl at h;refine Er fun K1 Hq=> ?_;refine EL gC ?_;try simp only [W,Nat.reduceAdd]
 refine Ez Hq ?_;refine Er fun K2 Cu=> ?_;refine EL gC ?_;try simp only [W,Nat.reduceAdd]
 refine Ez Cu ?_;refine Er fun K3 HY=> ?_;refine Er fun K4 Hv=> ?_;refine EL gC ?_;try simp only [W,Hf,Nat.reduceAdd]
 refine Ez Hv ?_;obtain ⟨Kh,Ki,g15⟩:=Option.bind_eq_some_iff.1 h;refine E9 gC (fun s H=> ∃HD:Int,Kh=(HD)∧s=[u,u,u,.int .i64 HD,u,u,u,u,u,u,u,u,u,u,u,u,u,u,u,u]∧aA H (F)) (fun J4 H_=> ?_) (fun s H hq=> ?_)
 ·refine Es fun Kx Iu=> ?_;refine E5 gC Ki (fun x s H=>match x with|(HI,HG)=>s=[u,u,u,.int .i64 HI,u,u,.fz (a0.map (AV.int .u8)),.int .i64 (a0.length:Int),.int .i64 HG,u,u,u,u,u,u,u,u,u,u,u]∧aA H (F)) ⟨rfl,hS⟩ (fun x MB s H h JB hi KN Ic=> ?_)
  obtain ⟨HI,HG⟩:=x;try dsimp only at hi
  obtain ⟨rfl,hS⟩:=hi;simp only [R1] at h;refine Er fun JT Ie=> ?_;refine EL gC ?_;try simp only [W,Hf,Nat.reduceAdd]
  refine Ez Ie ?_;refine Er fun Jb HJ=> ?_;refine Ew ?_;simp only [W];refine EK h (fun hc h=> ?_) (fun hc h=> ?_)
  ·refine Et ?_;refine Ez HJ ?_;refine Er fun Jp HQ=> ?_;refine Es fun JA HR=> ?_;refine Er fun J5 Ii=> ?_;refine EL gC ?_;try simp only [W,Hf,Nat.reduceAdd]
   refine EX rfl rfl rfl (fun _=>rfl) h fun HU Sf h=> ?_;try simp only [W,Hf]
   refine Ez Ii ?_;refine EL gC ?_;try simp only [W,Hf,Nat.reduceAdd]
   rw [EP _ _ rfl,Option.map_some,vK];try simp only [W]
   refine ED HR ?_;refine Ez HQ ?_;refine EL gC ?_;try simp only [W,Hf,Nat.reduceAdd]
   exact E6 Ic h ⟨rfl,hS⟩
  ·refine Ev ?_;refine EB HJ ?_;try obtain rfl:=Option.some.inj h
   obtain rfl:=JB _ rfl;have h:(some (HI):Option (Int))=some (HI):=rfl;refine E7 Ic ?_;refine EE Iu ?_;exact E_ H_ ⟨_,(Option.some.inj h).symm,rfl,hS⟩
 ·obtain ⟨HD,Hr,rfl,hS⟩:=hq;obtain rfl:=Hr.symm;replace h:=g15;try dsimp only at h
  refine Ez HY ?_;refine Er fun Kf Iq=> ?_;refine EL gC ?_;try simp only [W,Nat.reduceAdd]
  refine Ez Iq ?_;refine Eu ?_;refine EH Hi rfl ?_;try obtain rfl:=Option.some.inj h
  exact hP _ hS
theorem acw {a0:HE} {i0:Nat} {w0:Nat} {r:(Ho×HE)} (h:QL a0=some r) {F:List It} {H:J} (hS:aA H (⟨.ptr i0 w0 0 0,3,[.agg [.fz (a0.Code.map (AV.int .u8)),.int .i64 a0.At,.int .u64 a0.Ib]]⟩::F)) {P:AV→J→Prop} (hP: ∀v60:AV,bj v60→ ∀Od:AV,bj Od→ ∀H',aA H' (⟨v60,4,r.1.Hg.map Hp⟩::⟨Od,1,r.1.Told.map (AV.int .i64)⟩::⟨.ptr i0 w0 0 0,3,[.agg [.fz (r.2.Code.map (AV.int .u8)),.int .i64 r.2.At,.int .u64 r.2.Ib]]⟩::F)→P (.agg [v60,Od]) H'):aq C 62 [.ptr i0 w0 0 0] H P:=by
 refine EO gC (res:=[.cell 2 28]) (n:=27) rfl rfl rfl rfl fun K0 Hi=> ?_;simp only [W,Nat.reduceSub,Nat.reduceAdd,List.replicate];unfold QL at h;refine Er fun K1 Hq=> ?_;refine EL gC ?_;try simp only [W,Nat.reduceAdd]
 refine ET hS rfl rfl fun Hm Hn H hS=> ?_;try simp only [W]
 refine Ez Hq ?_;refine Er fun K4 Hv=> ?_;refine EM (fz:=[(2,[([8],[.sl [.sc,.sc,.sc,.sc]])])]) gC ?_;try simp only [W,Nat.reduceAdd,Nat.reduceBEq]
 refine E4 h fun Iz Ke h=> ?_;obtain ⟨Ip,HT⟩:=Iz;try dsimp only at h
 refine TG Ke (hS.Fz 2 [1,0] (by decide)) fun KA PD H hS=> ?_
 try simp only [W,Nat.reduceAdd]
 refine Fo 0 hS rfl PD rfl (fun _ _=>by simp [a8,aT,cE,dT,HP]) (fun _=>rfl) fun H uq hS=> ?_
 try simp only [W]
 refine E4 h fun Jm L5 h=> ?_;obtain ⟨If,Iw,Kw⟩:=Jm;try dsimp only at h
 refine XK L5 hS fun IX J6 IZ Jk Li Np H hS=> ?_;try simp only [W,Nat.reduceAdd,Nat.reduceBEq]
 refine ET hS rfl rfl fun Me Mf H hS=> ?_;try simp only [W,Nat.reduceAdd,Nat.reduceBEq]
 refine EU (a:= .agg [IX,IZ]) (y' := .agg [IX,IZ]) 0 hS rfl rfl rfl rfl rfl (by simp only [en,List.all_cons,List.all_nil,J6.sw,Jk.sw];rfl) rfl rfl fun H hS=> ?_
 try simp only [W,Nat.reduceAdd,Nat.reduceBEq]
 refine Ez Hv ?_;refine Er fun N5 JH=> ?_;refine Er fun L8 I1=> ?_;refine EL gC ?_;try simp only [W,Nat.reduceAdd]
 refine Ez I1 ?_;obtain ⟨Sw,h,Oc⟩:=Option.bind_eq_some_iff.1 h;refine E9 gC (fun s H=> ∃I_:List Hj,∃LG:List Int,Sw=(I_,LG)∧ ∃v25:AV,bj v25∧ ∃v28:AV,bj v28∧s=[.ptr i0 w0 0 0,u,.ptr Hm Hn 0 0,.ptr Me Mf 0 0,u,u,u,u,u,u,u,u,u,u,u,u,u,u,u,u,u,u,u,u,u,u,u]∧aA H (⟨v25,4,I_.map Hp⟩::⟨v28,1,LG.map (AV.int .i64)⟩::⟨.ptr i0 w0 0 0,3,[.agg [.fz (HT.Code.map (AV.int .u8)),.int .i64 HT.At,.int .u64 HT.Ib]]⟩::⟨.ptr Hm Hn 0 0,2,[.agg [.nil,.nil]]⟩::⟨.ptr Me Mf 0 0,2,[.agg [v25,v28]]⟩::F)) (fun Ma I3=> ?_) (fun s H hq=> ?_)
 ·refine Er fun MJ I6=> ?_;refine Ew ?_;simp only [W];refine EK h (fun hc h=> ?_) (fun hc h=> ?_)
  ·refine EL gC ?_;try simp only [W,Nat.reduceAdd]
   refine E3 (el:=([3]:List Int).map (AV.int .i64)) hS rfl rfl rfl rfl rfl rfl rfl fun Rj H Ov hS=> ?_;try simp only [W,Hf]
   refine FE rfl rfl rfl rfl (by simp only [gy,Ov.E0,Ov.cells];simp [E,splice]<;>rfl) ?_
   try simp only [W]
   refine EU (a:= .agg [.nil,Rj]) (y' := .agg [.nil,Rj]) 1 hS rfl rfl rfl rfl rfl (by simp only [en,List.all_cons,List.all_nil,Ov.sw];rfl) rfl rfl fun H hS=> ?_
   try simp only [W]
   refine Ez I6 ?_;refine Ey ?_;exact E_ I3 ⟨_,_,(Option.some.inj h).symm,_,rL,_,Ov,rfl,((hS.Fl 4).Fz 8 [0,1,6,7,2] (by decide))⟩
  ·refine Et ?_;refine Ez I6 ?_;refine Ey ?_;exact E_ I3 ⟨_,_,(Option.some.inj h).symm,_,J6,_,Jk,rfl,(hS.Fz 6 [1,2,4,5,0] (by decide))⟩
 ·obtain ⟨I_,LG,rfl,v25,MN,v28,PP,rfl,hS⟩:=hq;replace h:=Oc;try dsimp only at h
  refine Ez JH ?_;refine Er fun Mx IY=> ?_;refine Er fun PG J8=> ?_;refine EL gC ?_;try simp only [W,Nat.reduceAdd]
  refine E4 h fun Jc LP h=> ?_;obtain ⟨JO,KI⟩:=Jc;try dsimp only at h
  refine QX LP (hS.Fz 5 [2,0,1,3,4] (by decide)) fun H hS=> ?_
  try simp only [W]
  refine Ez J8 ?_;obtain ⟨Oi,h,Oj⟩:=Option.bind_eq_some_iff.1 h;refine E9 gC (fun s H=> ∃Jv:List Int,∃IM:Int,∃JR:Int,∃IA:List Int,Oi=(Jv,IM,JR,IA)∧ ∃v45:AV,bj v45∧s=[u,u,.ptr Hm Hn 0 0,.ptr Me Mf 0 0,u,u,u,u,u,u,u,u,u,u,u,u,u,u,u,u,u,u,u,u,u,u,u]∧aA H (⟨v25,4,I_.map Hp⟩::⟨v45,1,IA.map (AV.int .i64)⟩::⟨.ptr i0 w0 0 0,3,[.agg [.fz (Jv.map (AV.int .u8)),.int .i64 IM,.int .u64 JR]]⟩::⟨.ptr Hm Hn 0 0,2,[.agg [.nil,.nil]]⟩::⟨.ptr Me Mf 0 0,2,[.agg [v25,v45]]⟩::F)) (fun My I4=> ?_) (fun s H hq=> ?_)
  ·refine Er fun Pw JJ=> ?_;refine Ew ?_;simp only [W];refine EK h (fun hc h=> ?_) (fun hc h=> ?_)
   ·refine FF gC [(3,[0,1]),(5,[]),(7,[])] (by kernel_rfl) rfl (by kernel_rfl) ?_
    try simp only [W,Hf,reduceIte,Nat.reduceAdd,Nat.reduceBEq,hS.var 4 rfl,jT,mV,Nat.reduceEqDiff]
    refine E4 h fun Lz Q3 h=> ?_;obtain ⟨Ku,Mm⟩:=Lz;try dsimp only at h
    refine L6 Q3 hS fun H hS=> ?_;refine FG ?_;refine FH (by first|rfl|(simp [fJ,aQ,W,Hf,hS.var 4 rfl];done)|exact Ge 1 hS rfl MN rfl rfl rfl rfl|exact Ge 2 hS rfl PP rfl rfl rfl rfl) ?_
    refine FH (by first|rfl|(simp [fJ,aQ,W,Hf,bY,kR,aB,AV.cells,hS.var 4 rfl];done)|exact Ge 1 hS rfl MN rfl rfl rfl rfl|exact Ge 2 hS rfl PP rfl rfl rfl rfl) ?_
    refine FI ?_;try simp only [W]
    refine E3 (el:=([Ku]:List Int).map (AV.int .i64)) hS rfl rfl rfl rfl rfl rfl rfl fun v54 H Ut hS=> ?_;try simp only [W,Hf]
    refine Fk (l:=LG) (c:=(AV.int .i64)) 3 hS rfl PP rfl rfl rfl (hS.jl 0 rfl Ut) (fun _=>rfl) rfl h fun Uu H Jt PE hm h hS=> ?_;try simp only [W,Hf,Nat.reduceAdd,Nat.reduceBEq,hS.var 5 rfl]
    refine EU (a:=Uu) (y' := .agg [v25,Uu]) 5 hS rfl rfl rfl rfl (by rw [PE.cells];rfl) PE.E0 (PE.wr _ _ (by simp)) rfl fun H hS=> ?_
    try simp only [W]
    refine Ez JJ ?_;refine Ey ?_;exact E_ I4 ⟨_,_,_,_,(Option.some.inj h).symm,_,PE,rfl,(hS.Fz 6 [2,3,1,4,5] (by decide))⟩
   ·refine Et ?_;refine Ez JJ ?_;refine Ey ?_;exact E_ I4 ⟨_,_,_,_,(Option.some.inj h).symm,_,PP,rfl,(hS.Fz 5 [1,2,0,3,4] (by decide))⟩
  ·obtain ⟨Jv,IM,JR,IA,rfl,v45,JI,rfl,hS⟩:=hq;replace h:=Oj;try dsimp only at h
   refine Ez IY ?_;refine Er fun UA MO=> ?_;refine EL gC ?_;try simp only [W,Hf,reduceIte,Nat.reduceAdd,Nat.reduceLeDiff,hS.var 4 rfl]
   refine EU (a:= .agg [v25,v45]) (y' := .agg [v25,v45]) 3 hS rfl rfl rfl rfl rfl (by simp only [en,List.all_cons,List.all_nil,MN.sw,JI.sw];rfl) rfl rfl fun H hS=> ?_
   try simp only [W]
   refine Ez MO ?_;refine Eu ?_;refine EG Hi (FB rfl rfl (hS.var 3 rfl) rfl rfl) ?_;try obtain rfl:=Option.some.inj h
   exact hP _ MN _ JI _ (hS.Fz 5 [0,1,2] (by decide))
theorem acx {a0:List Int} {r:(Ho×Part)} (h:Pm a0=some r) {F:List It} {H:J} (hS:aA H (F)) {P:AV→J→Prop} (hP: ∀v31:AV,bj v31→ ∀v33:AV,bj v33→ ∀H',aA H' (⟨v31,4,r.1.Hg.map Hp⟩::⟨v33,1,r.1.Told.map (AV.int .i64)⟩::F)→P (.aD [.agg [v31,v33],.agg [.int .i64 r.2.Id,.int .i64 r.2.At,.int .i64 r.2.Hh,.str r.2.Text]]) H'):aq C 16 [.fz (a0.map (AV.int .u8))] H P:=by
 refine EO gC (res:=[.cell 2 28,.cell 3 41]) (n:=23) rfl rfl rfl rfl fun K0 Hi=> ?_;simp only [W,Nat.reduceSub,Nat.reduceAdd,List.replicate];unfold Pm at h;refine Er fun K1 Hq=> ?_;refine EL gC ?_;try simp only [W,Nat.reduceAdd]
 refine ET hS rfl rfl fun Hm Hn H hS=> ?_;try simp only [W]
 refine ET hS rfl rfl fun Hw Hy H hS=> ?_;try simp only [W]
 refine Ez Hq ?_;refine Er fun K6 ID=> ?_;refine EL gC ?_;try simp only [W,Hf,Nat.reduceAdd]
 refine FE rfl rfl rfl rfl rfl ?_;try simp only [W]
 refine ES hS rfl rfl rfl rfl fun ip7 wp7 H hS=> ?_;try simp only [W]
 refine Ez ID ?_;refine Er fun K9 HC=> ?_;refine EL gC ?_;try simp only [W,Nat.reduceAdd]
 refine E4 h fun Jm L5 h=> ?_;obtain ⟨If,Iw⟩:=Jm;try dsimp only at h
 refine acw L5 hS fun Lk KQ JW JX H hS=> ?_;try simp only [W]
 refine ET hS rfl rfl fun agN agO H hS=> ?_;try simp only [W]
 refine EU (a:= .agg [Lk,JW]) (y' := .agg [Lk,JW]) 0 hS rfl rfl rfl rfl rfl (by simp only [en,List.all_cons,List.all_nil,KQ.sw,JX.sw];rfl) rfl rfl fun H hS=> ?_
 try simp only [W]
 refine Ez HC ?_;refine Er fun JA HR=> ?_;refine EL gC ?_;try simp only [W,Nat.reduceAdd]
 refine E4 h fun Io Si h=> ?_;obtain ⟨HU,Ju⟩:=Io;try dsimp only at h
 refine TG Si (hS.Fz 6 [3,0,1,2,4,5] (by decide)) fun v23 Lj H hS=> ?_
 try simp only [W]
 refine Ez HR ?_;refine Er fun Ky Il=> ?_;refine Er fun Kg Ik=> ?_;refine EL gC ?_;try simp only [W,Hf,Nat.reduceAdd]
 refine E1 0 hS rfl Lj rfl ?_;try simp only [W,Hf]
 refine Ez Ik ?_;refine Ew ?_;simp only [W];refine EK h (fun hc h=> ?_) (fun hc h=> ?_)
 ·refine Er fun KP Im=> ?_;refine EL gC ?_;try simp only [W,Hf,reduceIte,Nat.reduceAdd,Nat.reduceLeDiff,hS.var 2 rfl]
  refine FE rfl rfl rfl rfl rfl ?_;try simp only [W]
  refine EU (a:= .agg [Lk,JW]) (y' := .agg [Lk,JW]) 6 hS rfl rfl rfl rfl rfl (by simp only [en,List.all_cons,List.all_nil,KQ.sw,JX.sw];rfl) rfl rfl fun H hS=> ?_
  try simp only [W]
  refine EU (a:= .agg [.int .i64 1,.int .i64 0,.int .i64 1,.str ([120])]) (y' := .agg [.int .i64 1,.int .i64 0,.int .i64 1,.str ([120])]) 5 hS rfl rfl rfl rfl rfl rfl rfl rfl fun H hS=> ?_
  try simp only [W]
  refine Ez Im ?_;refine Eu ?_;refine EA Il ?_;refine EG Hi (FB rfl rfl (hS.var 6 rfl) rfl (FB rfl rfl (hS.var 5 rfl) rfl rfl)) ?_;try obtain rfl:=Option.some.inj h
  exact hP _ KQ _ JX _ (hS.Fz 7 [3,4] (by decide))
 ·refine Et ?_;refine Ez Il ?_;refine Er fun LL Ir=> ?_;refine FF gC [(4,[1,2,3]),(5,[])] (by kernel_rfl) rfl (by kernel_rfl) ?_
  try simp only [W,Hf,reduceIte,Nat.reduceAdd,Nat.reduceLeDiff,hS.var 2 rfl,jT,mV,Nat.reduceEqDiff]
  refine EY 0 hS rfl rfl rfl rfl rfl h (fun II agP agQ agR Md h Ox=> ?_) Lj.ne;obtain ⟨agS,acy,acz⟩:=hS.elem 0 rfl Ox Md;try simp only [W,Hf,HL,reduceIte,Nat.reduceAdd,Nat.reduceLeDiff,acy,acz]
  refine EU (a:= .agg [Lk,JW]) (y' := .agg [Lk,JW]) 6 hS rfl rfl rfl rfl rfl (by simp only [en,List.all_cons,List.all_nil,KQ.sw,JX.sw];rfl) rfl rfl fun H hS=> ?_
  refine FG ?_;refine FH (by first|rfl|(simp [fJ,aQ,cS,lenOf,W,Hf,HL,bY,kR,aB,AV.cells,hS.var 1 rfl,hS.var 2 rfl,hS.var 5 rfl,hS.var 6 rfl];done)|exact Ge 0 hS rfl Lj rfl rfl rfl rfl|exact Ge 3 hS rfl KQ rfl rfl rfl rfl|exact Ge 4 hS rfl JX rfl rfl rfl rfl|exact Gf 0 hS rfl rfl rfl rfl rfl Ox Md rfl rfl rfl|exact Gg 0 hS rfl rfl Ox Md rfl rfl) ?_
  refine FH (by first|rfl|(simp [fJ,aQ,W,Hf,AV.cells];done)|exact Ge 0 hS rfl Lj rfl rfl rfl rfl|exact Ge 3 hS rfl KQ rfl rfl rfl rfl|exact Ge 4 hS rfl JX rfl rfl rfl rfl|exact Gf 0 hS rfl rfl rfl rfl rfl Ox Md rfl rfl rfl|exact Gg 0 hS rfl rfl Ox Md rfl rfl) ?_
  refine FH (by first|rfl|(simp [fJ,aQ,W,Hf,bY,kR,aB,AV.cells];done)|exact Ge 0 hS rfl Lj rfl rfl rfl rfl|exact Ge 3 hS rfl KQ rfl rfl rfl rfl|exact Ge 4 hS rfl JX rfl rfl rfl rfl|exact Gf 0 hS rfl rfl rfl rfl rfl Ox Md rfl rfl rfl|exact Gg 0 hS rfl rfl Ox Md rfl rfl) ?_
  refine FI ?_;try simp only [W]
  refine EU (a:= .agg [.int .i64 II.Id,.int .i64 II.At,.int .i64 II.Hh,.str II.Text]) (y' := .agg [.int .i64 II.Id,.int .i64 II.At,.int .i64 II.Hh,.str II.Text]) 5 hS rfl rfl rfl rfl rfl rfl rfl rfl fun H hS=> ?_
  try simp only [W]
  refine Ez Ir ?_;refine Eu ?_;refine EG Hi (FB rfl rfl (hS.var 6 rfl) rfl (FB rfl rfl (hS.var 5 rfl) rfl rfl)) ?_;try obtain rfl:=Option.some.inj h
  exact hP _ KQ _ JX _ (hS.Fz 7 [3,4] (by decide))
theorem acA {a0:Span} {r:(Bool)} (h:R2 a0=some r) {F:List It} {H:J} (hS:aA H (F)) {P:AV→J→Prop} (hP: ∀H',aA H' (F)→P (.bool r) H'):aq C 185 [.agg [.int .i64 a0.Hk,.int .i64 a0.To]] H P:=by
 refine EO gC (res:=[.tmp 2]) (n:=18) rfl rfl rfl rfl fun K0 Hi=> ?_;simp only [W,Nat.reduceSub,Nat.reduceAdd,List.replicate];unfold R2 at h;refine Er fun K1 Hq=> ?_;refine EL gC ?_;try simp only [W,Nat.reduceAdd]
 refine ES hS rfl rfl rfl rfl fun Hm Hn H hS=> ?_;try simp only [W]
 refine Ez Hq ?_;refine Er fun K4 Hv=> ?_;refine EL gC ?_;try simp only [W,Hf,Nat.reduceAdd,Nat.reduceBEq,hS.var 0 rfl]
 refine FD h (fun hc h=> ?_) (fun hc h=> ?_)
 ·try simp only [W,Hf,reduceIte,Nat.reduceAdd,Nat.reduceBEq,hS.var 0 rfl,hc]
  refine FD h (fun hc h=> ?_) (fun hc h=> ?_)
  ·try simp only [W,Hf,reduceIte,Nat.reduceAdd,Nat.reduceBEq,hS.var 0 rfl,hc]
   refine Ez Hv ?_;refine Eu ?_;refine EH Hi rfl ?_;try obtain rfl:=Option.some.inj h
   exact hP _ (hS.Fz 1 [] (by decide))
  ·try simp only [W,hc]
   refine Ez Hv ?_;refine Eu ?_;refine EH Hi rfl ?_;try obtain rfl:=Option.some.inj h
   exact hP _ (hS.Fz 1 [] (by decide))
 ·try simp only [W,hc]
  refine Ez Hv ?_;refine Eu ?_;refine EH Hi rfl ?_;try obtain rfl:=Option.some.inj h
  exact hP _ (hS.Fz 1 [] (by decide))
theorem acB {a0:List Span} {r:(Bool)} (h:QN a0=some r) {F:List It} {H:J} (hS:aA H (F)) {P:AV→J→Prop} (hP: ∀H',aA H' (F)→P (.bool r) H'):aq C 165 [.fz (a0.map Hl)] H P:=by
 refine EO gC (res:=[.tmp 2]) (n:=34) rfl rfl rfl rfl fun K0 Hi=> ?_;simp only [W,Nat.reduceSub,Nat.reduceAdd,List.replicate];unfold QN at h;refine Er fun K1 Hq=> ?_;refine EL gC ?_;try simp only [W,Nat.reduceAdd]
 refine Ez Hq ?_;refine Er fun K2 Cu=> ?_;refine Er fun K3 HY=> ?_;refine EL gC ?_;try simp only [W,Hf,Nat.reduceAdd]
 refine Ez HY ?_;obtain ⟨LM,LN,g12⟩:=Option.bind_eq_some_iff.1 h;refine E9 gC (fun s H=>LM=LR.next ()∧s=[.fz (a0.map Hl),u,u,u,u,u,u,u,u,u,u,u,u,u,u,u,u,u,u,u,u,u,u,u,u,u,u,u,u,u,u,u,u,u]∧aA H (F)) (fun K7 IJ=> ?_) (fun s H hq=> ?_)
 ·refine Es fun K8 HS=> ?_;refine E5 gC LN (fun x s H=>s=[.fz (a0.map Hl),u,u,u,u,.fz (a0.map Hl),.int .i64 (a0.length:Int),.int .i64 x,u,u,u,u,u,u,u,u,u,u,u,u,u,u,u,u,u,u,u,u,u,u,u,u,u,u]∧aA H (F)) ⟨rfl,hS⟩ (fun HK LO s H h JV hi K9 HC=> ?_)
  skip
  try dsimp only at hi
  obtain ⟨rfl,hS⟩:=hi;simp only [QM] at h;refine Er fun JS Ig=> ?_;refine EL gC ?_;try simp only [W,Hf,Nat.reduceAdd]
  refine Ez Ig ?_;refine Er fun J3 HZ=> ?_;refine Ew ?_;simp only [W];refine EK h (fun hc h=> ?_) (fun hc h=> ?_)
  ·refine Et ?_;refine Ez HZ ?_;refine Er fun LJ IF=> ?_;refine Es fun JT Ie=> ?_;refine Er fun Jb HJ=> ?_;refine EL gC ?_;try simp only [W,Hf,Nat.reduceAdd]
   refine EX rfl rfl rfl (fun _=>rfl) h fun Ja US h=> ?_;try simp only [W,Hf,HL,reduceIte,Nat.reduceAdd,Nat.reduceLeDiff]
   refine ET hS rfl rfl fun abL abM H hS=> ?_;try simp only [W]
   refine EU (a:= .agg [.int .i64 Ja.Hk,.int .i64 Ja.To]) (y' := .agg [.int .i64 Ja.Hk,.int .i64 Ja.To]) 0 hS rfl rfl rfl rfl rfl rfl rfl rfl fun H hS=> ?_
   try simp only [W]
   refine Ez HJ ?_;refine Er fun Nl Jl=> ?_;obtain ⟨Q7,h,g24⟩:=Option.bind_eq_some_iff.1 h;refine E9 gC (fun s H=> ∃Je:Bool,Q7=(Je)∧s=[.fz (a0.map Hl),u,u,u,u,.fz (a0.map Hl),.int .i64 (a0.length:Int),.int .i64 HK,u,u,u,u,u,u,u,u,u,u,u,u,u,u,u,u,u,u,u,u,u,.bool Je,u,u,u,u]∧aA H (F)) (fun Ky Il=> ?_) (fun s H hq=> ?_)
   ·refine Er fun Kg Ik=> ?_;refine EN gC (by kernel_rfl) ?_
    try simp only [W,Hf,reduceIte,Nat.reduceAdd,Nat.reduceLeDiff,hS.var 0 rfl]
    refine F6 (bS:=[[.sc]]) (ys:=[.agg [.int .i64 Ja.Hk,.int .i64 Ja.To]]) h rfl (by rfl) fun KH N7 h=>⟨.bool KH,acA N7 (aA.nil _) fun H hS=>F2 rfl (FY rfl (FX rfl)),⟨rfl,rfl,fun _=>rfl⟩,?_⟩
    try simp only [W]
    refine FD h (fun hc h=> ?_) (fun hc h=> ?_)
    ·try simp only [W,hc]
     refine Ez Ik ?_;refine Ey ?_;exact E_ Il ⟨_,(Option.some.inj h).symm,rfl,(hS.Fz 1 [] (by decide))⟩
    ·try simp only [W,Hf,hc]
     refine FD h (fun hc h=> ?_) (fun hc h=> ?_)
     ·try simp only [W,Hf,hc]
      refine EX rfl rfl rfl (fun _=>rfl) h fun H8 T5 h=> ?_;try simp only [W,Hf,HL,reduceIte,Nat.reduceAdd,Nat.reduceBEq,Bool.false_eq_true,hS.var 0 rfl]
      refine Ez Ik ?_;refine Ey ?_;exact E_ Il ⟨_,(Option.some.inj h).symm,rfl,(hS.Fz 1 [] (by decide))⟩
     ·try simp only [W,reduceIte,Bool.false_eq_true,hc]
      refine Ez Ik ?_;refine Ey ?_;exact E_ Il ⟨_,(Option.some.inj h).symm,rfl,(hS.Fz 1 [] (by decide))⟩
   ·obtain ⟨Je,Hr,rfl,hS⟩:=hq;obtain rfl:=Hr.symm;replace h:=g24;try dsimp only at h
    refine Ez Jl ?_;refine Ew ?_;simp only [W];refine EK h (fun hc h=> ?_) (fun hc h=> ?_)
    ·refine Er fun L7 IP=> ?_;refine EL gC ?_;try simp only [W,Nat.reduceAdd]
     refine Ez IP ?_;refine Eu ?_;refine EF Ie ?_;refine EA IF ?_;try obtain rfl:=Option.some.inj h
     obtain rfl:=JV _ rfl;have h:(some (LR.done false):Option (LR Unit (Bool)))=some (LR.done false):=rfl;refine E8 HC ?_;refine EF HS ?_;try obtain rfl:=Option.some.inj h
     obtain rfl:=Option.some.inj g12;have h:(some false:Option (Bool))=some false:=rfl;refine Fa IJ ?_;refine EA Cu ?_;refine EH Hi rfl ?_;try obtain rfl:=Option.some.inj h
     exact hP _ hS
    ·refine Et ?_;refine ED Ie ?_;refine Ez IF ?_;refine EL gC ?_;try simp only [W,Hf,Nat.reduceAdd]
     exact E6 HC h ⟨rfl,hS⟩
  ·refine Ev ?_;refine EB HZ ?_;try obtain rfl:=Option.some.inj h
   obtain rfl:=JV _ rfl;have h:(some (LR.next ()):Option (LR Unit (Bool)))=some (LR.next ()):=rfl
   refine E7 HC ?_;refine EE HS ?_;exact E_ IJ ⟨(Option.some.inj h).symm,rfl,hS⟩
 ·obtain ⟨rfl,rfl,hS⟩:=hq;replace h:=g12;try dsimp only at h
  refine Ez Cu ?_;refine Er fun Mx IY=> ?_;refine EL gC ?_;try simp only [W,Hf,Nat.reduceAdd]
  refine Ez IY ?_;refine Eu ?_;refine EH Hi rfl ?_;try obtain rfl:=Option.some.inj h
  exact hP _ hS
theorem acC {a0:List Span} {a1:Int} {r:(Bool)} (h:QO a0 a1=some r) {F:List It} {H:J} (hS:aA H (F)) {P:AV→J→Prop} (hP: ∀H',aA H' (F)→P (.bool r) H'):aq C 119 [.fz (a0.map Hl),.int .i64 a1] H P:=by
 refine EO gC (res:=[.tmp 4]) (n:=23) rfl rfl rfl rfl fun K0 Hi=> ?_;simp only [W,Nat.reduceSub,Nat.reduceAdd,List.replicate];unfold QO at h;refine Er fun K1 Hq=> ?_;refine EL gC ?_;try simp only [W,Nat.reduceAdd]
 refine Ez Hq ?_;refine Er fun K2 Cu=> ?_;refine EL gC ?_;try simp only [W,Nat.reduceAdd]
 refine E4 h fun b3 mc h=> ?_;refine acB mc hS fun H hS=> ?_;try simp only [W]
 refine FD h (fun hc h=> ?_) (fun hc h=> ?_)
 ·try simp only [W,Hf,hc]
  refine FD h (fun hc h=> ?_) (fun hc h=> ?_)
  ·try simp only [W,reduceIte,hc]
   refine Ez Cu ?_;refine Eu ?_;refine EH Hi rfl ?_;try obtain rfl:=Option.some.inj h
   exact hP _ hS
  ·try simp only [W,Hf,hc]
   refine EX rfl rfl rfl (fun _=>rfl) h fun IG hb4 h=> ?_;try simp only [W,Hf,HL,reduceIte,Nat.reduceAdd,Nat.reduceBEq,Bool.false_eq_true]
   refine Ez Cu ?_;refine Eu ?_;refine EH Hi rfl ?_;try obtain rfl:=Option.some.inj h
   exact hP _ hS
 ·try simp only [W,hc]
  refine Ez Cu ?_;refine Eu ?_;refine EH Hi rfl ?_;try obtain rfl:=Option.some.inj h
  exact hP _ hS
end Go.JN
