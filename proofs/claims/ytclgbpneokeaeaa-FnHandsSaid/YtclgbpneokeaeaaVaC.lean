import Derived.Test.YtclgbpneokeaeaaVaB
import Derived.Tactics
import Derived.Laws.Sem
namespace Go.VS
section bd
variable {w:World} {A:ah}
theorem qb {m:Mode} {sh:List Sh} {v:AV} {H:J} {y:AV} {H1:J} (h:eN m sh v H=some (y,H1)):bj H H1:=by
 cases m with
 |val=>simp only [eN,Option.some.injEq,Prod.mk.injEq] at h;obtain ⟨_,rfl⟩:=h;exact .refl _
 |ew=>exact e9 sh v H y H1 h
 |io=>
  cases v<;>simp only [eN] at h
  case nil=>simp only [Option.some.injEq,Prod.mk.injEq] at h;obtain ⟨_,rfl⟩:=h;exact .refl _
  case e0=>simp only [Option.some.injEq,Prod.mk.injEq] at h;obtain ⟨_,rfl⟩:=h;exact .refl _
  case ref=>
   split at h
   ·split at h
    ·simp only [Option.some.injEq,Prod.mk.injEq] at h;obtain ⟨_,rfl⟩:=h;exact .refl _
    ·split at h
     ·exact e9 _ _ H y H1 h
     ·simp at h
   ·simp at h
  case ptr=>exact e9 _ _ H y H1 h
  all_goals simp at h
theorem qc: ∀(ms:List Mode) (sh:List (List Sh)) (as:List AV) (H:J) (zs:List AV) (H1:J),fj ms sh as H=some (zs,H1)→bj H H1
 |[],sh,as,H,zs,H1,h=>by
  simp only [fj,Option.some.injEq,Prod.mk.injEq] at h;obtain ⟨_,rfl⟩:=h;exact .refl _
 |m::ms,sh,[],H,zs,H1,h=>by
  simp only [fj,Option.some.injEq,Prod.mk.injEq] at h;obtain ⟨_,rfl⟩:=h;exact .refl _
 |m::ms,sh,a::as,H,zs,H1,h=>by
  simp only [fj] at h;split at h
  ·rename_i y H' h1
   split at h
   ·rename_i ys hO h2
    simp only [Option.some.injEq,Prod.mk.injEq] at h;obtain ⟨_,rfl⟩:=h;exact (qb h1).trans (qc ms _ as H' ys _ h2)
   ·simp at h
  ·simp at h
def fZ (w:World) (A:ah) (B:ah) (L0:J) (az:ag) (bL:Bool) (vs:List AV) (us:List Value):Prop:=
 vs.length=us.length∧ ∀A0:ah,(∀c,A0 c→A c)→(bL=true→ ∀c,A0 c→B c)→ ∀(i:Nat) (x:AV) (u:Value),vs[i]? =some x→us[i]? =some u→R w L0 az A0 x u
theorem fZ.cons {B:ah} {L L0:J} {φL az:ag} {l1 l2:Bool} {x:AV} {u:Value} {vs:List AV} {us:List Value} (hx: ∀A0:ah,(∀c,A0 c→A c)→(l1=true→ ∀c,A0 c→B c)→R w L φL A0 x u)
 (he: ∀A0,bG w L φL A0 w L0 az A0) (h:fZ w A B L0 az l2 vs us):fZ w A B L0 az (l1||l2) (x::vs) (u::us):=by
 refine ⟨by simp [h.1],fun A0 h1 h2 i x' u' bq aJ=> ?_⟩
 cases i with
 |zero=>simp at bq aJ;subst bq;subst aJ;exact (hx A0 h1 (fun hl=>h2 (by simp [hl]))).mono (he A0)
 |succ i=>exact h.2 A0 h1 (fun hl=>h2 (by simp [hl])) i x' u' bq aJ
theorem bG.any {L L0:J} {φL az:ag} {A1:ah} (h:bG w L φL A1 w L0 az A1) (A0:ah):bG w L φL A0 w L0 az A0:=
 ⟨fun _c _a _t fr hc hn=>⟨⟨fr,hc⟩,hn⟩,h.st,h.ids,h.sz⟩
theorem qd {H:J} {φ :ag} {H1:J} {L:J} {φL:ag} (ae:St w H φ A) (hl:bj H H1) {a:AV} {u:Value} (ha:R w H φ A a u) {y:AV} (hs:aV 8 H1 a=some y):
 ∀A0:ah,(∀c,A0 c→A c)→(ey a=true→ ∀c,A0 c→fb (aB φ H1) A c)→R w L φL A0 y u:=by
 intro A0 h1 h2;obtain ⟨s1,s2,_⟩:=(p7 (dK ae hl) 8).1 a u y (ha.mono (cI hl)) hs;cases hle:ey a with
 |false=>exact .fr _ _ ((s2 hle).shrink h1)
 |true=>exact .fr _ _ (s1.shrink (h2 hle))
theorem lG: ∀(as:List AV) (ms:List Mode) (fi:List (List Sh)) (us:List Value) (H:J) (φ :ag) (zs:List AV) (H1:J) (ys:List AV) (bL:Bool) (L:J) (φL:ag) (vs:List AV) (L0:J),
 bP w H φ A L φL A→as.length=us.length→(∀(i:Nat) (x:AV) (u:Value),as[i]? =some x→us[i]? =some u→R w H φ A x u)→fj ms fi as H=some (zs,H1)→b4 ms zs H1=some (ys,bL)→b5 ms ys L=(vs,L0)→
 ∃az,bZ w H φ A L φL A H1 L0 az∧fZ w A (fb (aB φ H1) A) L0 az bL vs us∧bV H φ L0 az ms as vs
 |[],ms,fi,us,H,φ,zs,H1,ys,bL,L,φL,vs,L0,hd,hl,hr,h1,h2,h3=>by
  have gy:zs=[]∧H1=H:=by
   cases ms<;>simp only [fj,Option.some.injEq,Prod.mk.injEq] at h1<;>exact ⟨h1.1.symm,h1.2.symm⟩
  obtain ⟨rfl,rfl⟩:=gy;have cg:ys=[]∧bL=false:=by
   cases ms<;>simp only [b4,Option.some.injEq,Prod.mk.injEq] at h2<;>exact ⟨h2.1.symm,h2.2.symm⟩
  obtain ⟨rfl,rfl⟩:=cg;have dg:vs=[]∧L0=L:=by
   cases ms<;>simp only [b5,Prod.mk.injEq] at h3<;>exact ⟨h3.1.symm,h3.2.symm⟩
  obtain ⟨rfl,rfl⟩:=dg;refine ⟨φL,.refl hd,⟨by simpa using hl,by simp⟩,?_⟩
  cases ms with
  |nil=>simp [bV]
  |cons m ms=>cases m<;>simp [bV]
 |a::as,[],fi,us,H,φ,zs,H1,ys,bL,L,φL,vs,L0,hd,hl,hr,h1,h2,h3=>by
  match us,hl with
  |u::us,hl=>
  simp only [fj,Option.some.injEq,Prod.mk.injEq] at h1;obtain ⟨rfl,rfl⟩:=h1;simp only [b4] at h2;split at h2
  ·rename_i y hy;split at h2
   ·rename_i aQ b cg
    simp only [Option.some.injEq,Prod.mk.injEq] at h2;obtain ⟨rfl,rfl⟩:=h2;simp only [b5,lE _ _ _ _ hy,List.tail_nil,Prod.mk.injEq] at h3;obtain ⟨rfl,rfl⟩:=h3;obtain ⟨az,m,ci,_⟩:=lG as [] fi us H φ as H aQ b L φL _ _ hd (by simpa using hl) (fun i x u hx hu=>hr (i+1) x u hx hu) rfl cg rfl
    exact ⟨az,m,fZ.cons (qd (L:=L) (φL:= φL) hd.sl (.refl _) (hr 0 a u rfl rfl) hy) (fun A0=>m.eh.any A0) ci,by simp [bV]⟩
   ·simp at h2
  ·simp at h2
 |a::as,md::ms,fi,us,H,φ,zs,H1,ys,bL,L,φL,vs,L0,hd,hl,hr,h1,h2,h3=>by
  match us,hl with
  |u::us,hl=>
  simp only [fj] at h1;split at h1
  rotate_left
  ·simp at h1
  rename_i z H' hz
  split at h1
  rotate_left
  ·simp at h1
  rename_i f_ hO gy
  simp only [Option.some.injEq,Prod.mk.injEq] at h1;obtain ⟨rfl,rfl⟩:=h1;have dW:=qb hz;have cV:=qc _ _ _ _ _ _ gy;have ha:=hr 0 a u rfl rfl;have rest: ∀{aQ:List AV} {b:Bool} {L' :J} {ak:ag} (m1:bZ w H φ A L φL A H' L' ak) (cg:b4 ms f_ hO=some (aQ,b)),
   ∃az,bZ w H' (aB φ H') A L' ak A hO (b5 ms aQ L').2 az∧fZ w A (fb (aB φ hO) A) (b5 ms aQ L').2 az b (b5 ms aQ L').1 us∧bV H' (aB φ H') (b5 ms aQ L').2 az ms as (b5 ms aQ L').1:=by
   intro aQ b L' ak m1 cg
   obtain ⟨az,m,ci,dX⟩:=lG as ms fi.tail us H' (aB φ H') f_ hO aQ b L' ak _ _ m1.bd (by simpa using hl) (fun i x u hx hu=>(hr (i+1) x u hx hu).mono (cI dW)) gy cg rfl
   refine ⟨az,m,?_,dX⟩;rw [fA cV] at ci;exact ci
  cases md with
  |val=>
   simp only [eN,Option.some.injEq,Prod.mk.injEq] at hz;obtain ⟨rfl,rfl⟩:=hz;simp only [b4] at h2;split at h2
   rotate_left
   ·simp at h2
   rename_i y hy;split at h2
   rotate_left
   ·simp at h2
   rename_i aQ b cg
   simp only [Option.some.injEq,Prod.mk.injEq] at h2;obtain ⟨rfl,rfl⟩:=h2;have iJ:b5 (.val::ms) (y::aQ) L=(y::(b5 ms aQ L).1,(b5 ms aQ L).2):=by
    simp only [b5,lE _ _ _ _ hy,List.tail_cons]
   rw [iJ] at h3;simp only [Prod.mk.injEq] at h3;obtain ⟨rfl,rfl⟩:=h3;obtain ⟨az,m,ci,dX⟩:=rest (bZ.refl hd) cg;refine ⟨az,(bZ.refl hd).trans m,fZ.cons (L:=L) (φL:= φL) (fun A0 q1 q2=> ?_) (fun A0=>m.eh.any A0) ci,?_⟩
   ·exact qd (L:=L) (φL:= φL) hd.sl cV ha hy A0 q1 q2
   ·simp only [bV];exact bV.mono (.refl _) (fun _ _ h=>h) (fun _ _ h=>h) dX
  |ew=>
   have dr:aY (fi.headD []) a H=some (z,H'):=hz
   simp only [b4] at h2;split at h2
   rotate_left
   ·simp at h2
   rename_i aQ b cg
   simp only [Option.some.injEq,Prod.mk.injEq] at h2;obtain ⟨rfl,rfl⟩:=h2;have iJ:b5 (.ew::ms) (z::aQ) L=((aD z L).1::(b5 ms aQ (aD z L).2).1,(b5 ms aQ (aD z L).2).2):=by
    simp only [b5,List.tail_cons]
   rw [iJ] at h3;simp only [Prod.mk.injEq] at h3;obtain ⟨rfl,rfl⟩:=h3;obtain ⟨φ1,m1,r1⟩:=pW hd ha dr rfl (.inl fun _ h=>h)
   obtain ⟨az,m,ci,dX⟩:=rest m1 cg;have:=fZ.cons (l1:=false) (L:=(aD z L).2) (φL:= φ1) (x:=(aD z L).1) (u:=u) (fun A0 q1 _=>r1.lB q1) (fun A0=>m.eh.any A0) ci;refine ⟨az,m1.trans m,by simpa using this,?_⟩
   simp only [bV];exact bV.mono dW (fun _ _ h=>h) (fun _ _ h=>h) dX
  |io=>
   simp only [b4] at h2;split at h2
   rotate_left
   ·simp at h2
   rename_i aQ b cg
   simp only [Option.some.injEq,Prod.mk.injEq] at h2;obtain ⟨rfl,rfl⟩:=h2;rcases wY hd ha hz with ⟨sz,xs,φ1,rfl,m1,r1,ro⟩|⟨sz,x,φ1,rfl,m1,r1,ro⟩
   ·have iJ:b5 (.io::ms) (.own sz xs::aQ) L=(.ref (aE xs L).2.bs.length (aE xs L).2.st 0 (aE xs L).1.length::(b5 ms aQ ((aE xs L).2.new sz true (aE xs L).1)).1,(b5 ms aQ ((aE xs L).2.new sz true (aE xs L).1)).2):=by
     simp only [b5]
    rw [iJ] at h3;simp only [Prod.mk.injEq] at h3;obtain ⟨rfl,rfl⟩:=h3;obtain ⟨az,m,ci,dX⟩:=rest m1 cg;have:=fZ.cons (l1:=false) (φL:= φ1) (u:=u) (fun A0 q1 _=>r1.lB q1) (fun A0=>m.eh.any A0) ci;refine ⟨az,m1.trans m,by simpa using this,?_⟩
    simp only [bV];refine ⟨?_,bV.mono dW (fun _ _ h=>h) (fun _ _ h=>h) dX⟩;obtain ⟨k,kv,bk,e1,e2,⟨loc,gI⟩,e3,e4⟩:=ro;exact ⟨k,kv,bk,e1,nR m.br e2,⟨loc,m.bQ _ _ gI⟩,e3,fun id ad hr=>by obtain ⟨b,c,b0,q1,q2,q3,q4,q5⟩:=e4 id ad hr;exact ⟨b,c,b0,q1,q2,q3,q4,m.bQ _ _ q5⟩⟩
   ·have iJ:b5 (.io::ms) (.cY sz x::aQ) L=((aD (.cY sz x) L).1::(b5 ms aQ (aD (.cY sz x) L).2).1,(b5 ms aQ (aD (.cY sz x) L).2).2):=by
     simp only [b5,List.tail_cons]
    rw [iJ] at h3;simp only [Prod.mk.injEq] at h3;obtain ⟨rfl,rfl⟩:=h3;obtain ⟨az,m,ci,dX⟩:=rest m1 cg;have:=fZ.cons (l1:=false) (φL:= φ1) (u:=u) (fun A0 q1 _=>r1.lB q1) (fun A0=>m.eh.any A0) ci;refine ⟨az,m1.trans m,by simpa using this,?_⟩
    simp only [bV];refine ⟨?_,bV.mono dW (fun _ _ h=>h) (fun _ _ h=>h) dX⟩;obtain ⟨k,kv,bk,e1,e2,⟨loc,gI⟩,e3,e4⟩:=ro;exact ⟨k,kv,bk,e1,nR m.br e2,⟨loc,m.bQ _ _ gI⟩,e3,fun id ad hr=>by obtain ⟨b,c,b0,q1,q2,q3,q4,q5⟩:=e4 id ad hr;exact ⟨b,c,b0,q1,q2,q3,q4,m.bQ _ _ q5⟩⟩
end bd
end Go.VS
namespace Go.VS
def cB (L Lm:J):List Mode→List AV→List (List AV)→Prop
 | .io::ms,x::xs,l::ls=>(∃k kv b,jO x=some (k,kv)∧L.ap k kv=some b∧b.el=l∧Lm.get k=none)∧cB L Lm ms xs ls
 | .io::_,_::_,[]=>False
 | .val::ms,_::xs,ls=>cB L Lm ms xs ls
 | .ew::ms,_::xs,ls=>cB L Lm ms xs ls
 |_,_,_=>True
theorem cB.mono {L0 L Lm:J} (h:bj L0 L): ∀{ms:List Mode} {xs:List AV} {ls:List (List AV)},cB L Lm ms xs ls→cB L0 Lm ms xs ls
 |[],xs,ls,_=>by simp [cB]
 |m::ms,[],ls,_=>by cases m<;>simp [cB]
 | .val::ms,x::xs,ls,hr=>by simp only [cB] at hr⊢;exact hr.mono h
 | .ew::ms,x::xs,ls,hr=>by simp only [cB] at hr⊢;exact hr.mono h
 | .io::ms,x::xs,[],hr=>by simp only [cB] at hr
 | .io::ms,x::xs,l::ls,hr=>by
  simp only [cB] at hr⊢;obtain ⟨⟨k,kv,b,h1,h2,h3,h4⟩,h5⟩:=hr;exact ⟨⟨k,kv,b,h1,J.qa h h2,h3,h4⟩,h5.mono h⟩
theorem lH: ∀(ms:List Mode) (vs:List AV) (L:J) (ls:List (List AV)) (Lm:J),eT ms vs L=some (ls,Lm)→bj L Lm∧cB L Lm ms vs ls
 |[],vs,L,ls,Lm,h=>by
  simp only [eT,Option.some.injEq,Prod.mk.injEq] at h;obtain ⟨rfl,rfl⟩:=h;exact ⟨.refl _,by simp [cB]⟩
 |m::ms,[],L,ls,Lm,h=>by
  cases m<;>(simp only [eT,Option.some.injEq,Prod.mk.injEq] at h;obtain ⟨rfl,rfl⟩:=h;exact ⟨.refl _,by simp [cB]⟩)
 | .val::ms,x::xs,L,ls,Lm,h=>by simp only [eT] at h;simpa only [cB] using lH ms xs L ls Lm h
 | .ew::ms,x::xs,L,ls,Lm,h=>by simp only [eT] at h;simpa only [cB] using lH ms xs L ls Lm h
 | .io::ms,x::xs,L,ls,Lm,h=>by
  simp only [eT] at h;split at h
  ·rename_i id ad hk;split at h
   ·rename_i b hb;split at h
    ·rename_i r H' hr
     simp only [Option.some.injEq,Prod.mk.injEq] at h;obtain ⟨rfl,rfl⟩:=h;obtain ⟨h1,h2⟩:=lH ms xs _ _ _ hr;refine ⟨(bj.del L id).trans h1,?_⟩;simp only [cB];refine ⟨⟨id,ad,b,hk,hb,rfl,?_⟩,h2.mono (bj.del L id)⟩;cases hq:H'.get id with
     |none=>rfl
     |some b=>have:=h1.get _ _ hq;rw [J.hJ,if_pos rfl] at this;simp at this
    ·simp at h
   ·simp at h
  ·simp at h
def junk (b:bD):bD:={b with el:=b.el.map fun _=> .agg (List.replicate b.sz .undef)}
theorem w3 {H:J} {id k:Nat} {b b' :bD} (h:(H.bm id b).get k=some b'):(k=id∧b' =b)∨H.get k=some b' :=by
 unfold J.bm J.get at h;simp only [List.getElem?_set] at h;by_cases hk:id=k
 ·subst hk;simp only [if_true] at h;split at h
  ·simp at h;exact .inl ⟨rfl,h.symm⟩
  ·simp at h
 ·rw [if_neg hk] at h;exact .inr h
theorem w4 {H:J} {id:Nat} {b:bD} (h:id<H.bs.length) (k:Nat):(H.bm id b).get k=if k=id then some b else H.get k:=by
 unfold J.bm J.get;simp only [List.getElem?_set];by_cases hk:id=k
 ·subst hk;simp [h]
 ·rw [if_neg hk,if_neg (fun e=>hk e.symm)]
def ga (H0:J) (v:AV) (H:J):J:=
 match dn v with
 |some (id,ad)=>match H0.ap id ad with
  |some b=>H.bm id (junk b)
  |none=>H
 |none=>H
theorem w5 (H0:J) (v:AV) (H:J):(ga H0 v H).bs.length=H.bs.length∧(ga H0 v H).st=H.st:=by
 unfold ga;split
 ·split
  ·simp [J.bm]
  ·exact ⟨rfl,rfl⟩
 ·exact ⟨rfl,rfl⟩
theorem qe (H0:J) (ms:List Mode) (v:AV) (vs:List AV) (H:J):cm H0 (.io::ms) (v::vs) H=cm H0 ms vs (ga H0 v H):=rfl
theorem w6 {H0:J} {v:AV} {H:J} {k:Nat} {b' :bD} (h:(ga H0 v H).get k=some b'):H.get k=some b' ∨ ∃ad b,dn v=some (k,ad)∧H0.ap k ad=some b∧b' =junk b:=by
 unfold ga at h;split at h
 ·rename_i id ad hr;split at h
  ·rename_i b hb;rcases w3 h with ⟨rfl,rfl⟩|h
   ·exact .inr ⟨ad,b,hr,hb,rfl⟩
   ·exact .inl h
  ·exact .inl h
 ·exact .inl h
theorem lI (H0:J): ∀(ms:List Mode) (as:List AV) (H:J),(cm H0 ms as H).bs.length=H.bs.length∧(cm H0 ms as H).st=H.st
 |[],as,H=>by simp [cm]
 |m::ms,[],H=>by cases m<;>simp [cm]
 | .val::ms,a::as,H=>by simp only [cm];exact lI H0 ms as H
 | .ew::ms,a::as,H=>by simp only [cm];exact lI H0 ms as H
 | .io::ms,a::as,H=>by
  rw [qe];have:=lI H0 ms as (ga H0 a H);have h2:=w5 H0 a H;exact ⟨this.1.trans h2.1,this.2.trans h2.2⟩
theorem lJ (H0:J) {Lx Lm:J} {φ :ag} {L0:J} {az:ag}: ∀(ms:List Mode) (as vs:List AV) (ls:List (List AV)) (H:J) (k:Nat) (b' :bD),as.length=vs.length→bV H0 φ L0 az ms as vs→cB Lx Lm ms vs ls→
 (cm H0 ms as H).get k=some b' →H.get k=some b' ∨ ∃a x ad b kk kv bk,dn a=some (k,ad)∧H0.ap k ad=some b∧b' =junk b∧gH H0 φ L0 az a x∧jO x=some (kk,kv)∧Lx.ap kk kv=some bk∧Lm.get kk=none
 |[],as,vs,ls,H,k,b',_,_,_,h=>by simp only [cm] at h;exact .inl h
 |m::ms,[],vs,ls,H,k,b',_,_,_,h=>by cases m<;>(simp only [cm] at h;exact .inl h)
 |m::ms,a::as,[],ls,H,k,b',hl,_,_,h=>by simp at hl
 | .val::ms,a::as,x::vs,ls,H,k,b',hl,h1,h2,h=>by
  simp only [cm] at h;exact lJ H0 ms as vs ls H k b' (by simpa using hl) (by simpa only [bV] using h1) (by simpa only [cB] using h2) h
 | .ew::ms,a::as,x::vs,ls,H,k,b',hl,h1,h2,h=>by
  simp only [cm] at h;exact lJ H0 ms as vs ls H k b' (by simpa using hl) (by simpa only [bV] using h1) (by simpa only [cB] using h2) h
 | .io::ms,a::as,x::vs,[],H,k,b',hl,h1,h2,h=>by simp only [cB] at h2
 | .io::ms,a::as,x::vs,l::ls,H,k,b',hl,h1,h2,h=>by
  rw [qe] at h;simp only [bV] at h1;simp only [cB] at h2;rcases lJ H0 ms as vs ls _ k b' (by simpa using hl) h1.2 h2.2 h with h3|h3
  ·rcases w6 h3 with h4|⟨ad,b,q1,q2,q3⟩
   ·exact .inl h4
   ·obtain ⟨kk,kv,bk,p1,p2,_,p4⟩:=h2.1;exact .inr ⟨a,x,ad,b,kk,kv,bk,q1,q2,q3,h1.1,p1,p2,p4⟩
  ·exact .inr h3
def Has (Hx:J) (id ad:Nat) (b:bD):Prop:= ∃b',Hx.ap id ad=some b' ∧b'.sz=b.sz∧b'.el.length=b.el.length
theorem Has.ga {H0 Hx:J} {id ad:Nat} {b:bD} (h0:H0.ap id ad=some b) (h:Has Hx id ad b) (v:AV):Has (ga H0 v Hx) id ad b:=by
 obtain ⟨b',h1,h2,h3⟩:=h;unfold VS.ga;split
 ·rename_i lK zg hr;split
  ·rename_i b2 g_;have aw:id<Hx.bs.length:=J.gZ (J.bn h1).1;by_cases bT:lK=id
   ·subst bT;have g1:=J.bn h0;have g2:=J.bn g_;have:b2=b:=by have:=g1.1.symm.trans g2.1;simp only [Option.some.injEq] at this;exact this.symm
    subst this;refine ⟨junk b2,?_,rfl,by simp [junk]⟩
    have:=J.fQ (H:=Hx.bm lK (junk b2)) (id:=lK) (b:=junk b2) (by rw [w4 aw,if_pos rfl])
    rw [←g1.2];exact this
   ·refine ⟨b',?_,h2,h3⟩;have g:=J.bn h1;have:(Hx.bm lK (junk b2)).get id=some b' :=by
     unfold J.bm J.get;simp only [List.getElem?_set];rw [if_neg bT];exact g.1
    rw [←g.2];exact J.fQ this
  ·exact ⟨b',h1,h2,h3⟩
 ·exact ⟨b',h1,h2,h3⟩
structure nT (w:World) (A:ah) (az:ag) (w' :World) (ak:ag) (AH:ah):Prop where
 own: ∀c,A c→ ¬Ow az c→AH c
 dT: ∀c,Ow ak c→AH c
 b6: ∀c,AH c→c<w'.heap.size
 fz: ∀c arr T fr,w.heap[c]? =some (.cells arr T fr)→ ¬A c→(∃ez,w'.heap[c]? =some (.cells arr T ez))∧ ¬AH c
def w7 (w:World) (L:J) (φL:ag) (AL:ah) (H:J) (φ :ag) (a:AV) (l:List AV):Prop:=
 (dn a=none→l=[])∧ ∀id ad,dn a=some (id,ad)→ ∃c b0 b arr T fr,H.ap id ad=some b∧ φ id=some (.at_ c b0)∧w.heap[c]? =some (.cells arr T fr)∧l.length=b.el.length∧
  (∀(i:Nat) (x:AV),l[i]? =some x→x.cells.length=b.sz)∧ ∀(i:Nat) (x:AV) (j:Nat) (y:AV) (v:Value),l[i]? =some x→x.cells[j]? =some y→arr[b0+i*b.sz+j]? =some v→R w L φL AL y v
def dY (w:World) (L:J) (φL:ag) (AL:ah) (H:J) (φ :ag):List Mode→List AV→List (List AV)→Prop
 | .io::ms,a::as,l::ls=>w7 w L φL AL H φ a l∧dY w L φL AL H φ ms as ls
 | .val::ms,_::as,ls=>dY w L φL AL H φ ms as ls
 | .ew::ms,_::as,ls=>dY w L φL AL H φ ms as ls
 |_,_,_=>True
section back
variable {w w' :World} {A:ah} {H:J} {φ :ag} {H1 L0:J} {az:ag} {A0:ah} {L:J} {ak:ag} {A' AH:ah} {ms:List Mode} {as vs:List AV} {ls:List (List AV)} {Lm:J}
theorem nU (m:bZ w H φ A ⟨0,[]⟩ (fun _=>none) A H1 L0 az) (ho:Out w L0 az A0 w' L ak A') {a x:AV} (hr:gH H φ L0 az a x) {kk kv:Nat} {bk:bD} (hk:jO x=some (kk,kv)) (hb:L.ap kk kv=some bk):
 (dn a=none→bk.el=[])∧ ∀id ad,dn a=some (id,ad)→ ∃b c b0,H.ap id ad=some b∧bk.sz=b.sz∧bk.el.length=b.el.length∧ φ id=some (.at_ c b0)∧ak kk=some (.at_ c b0)∧o5 w' L ak A' bk (.at_ c b0):=by
 obtain ⟨k,zh,b1,e1,e2,⟨loc,gI⟩,e3,e4⟩:=hr;rw [hk] at e1;simp only [Option.some.injEq,Prod.mk.injEq] at e1;obtain ⟨rfl,rfl⟩:=e1;obtain ⟨g1,g2⟩:=J.bn hb;obtain ⟨f1,f2⟩:=J.bn e2;have aw:kv<L0.st:=by
  obtain ⟨bb,p1,p2⟩:=m.bd.sh.ap kk loc gI;rw [f1] at p1;simp only [Option.some.injEq] at p1;subst p1;rw [←f2];exact p2.ad
 ·obtain ⟨b2,i1,i2,i3,i4,i5,i6⟩:=ho.bX.ids kk bk g1 (by omega)
  rw [f1] at i1;simp only [Option.some.injEq] at i1;subst i1;refine ⟨fun h=>List.eq_nil_of_length_eq_zero (by rw [i5,e3 h];rfl),fun id ad h=> ?_⟩
  obtain ⟨b,c,b0,q1,q2,q3,q4,q5⟩:=e4 id ad h;have hp:=i6 _ q5;obtain ⟨bb,p1,p2⟩:=ho.st.ap kk _ hp;rw [g1] at p1;simp only [Option.some.injEq] at p1;subst p1;exact ⟨b,c,b0,q1,i3.trans q2,i5.trans q3,q4,hp,p2⟩
theorem qf (ae:St w H φ A) (m:bZ w H φ A ⟨0,[]⟩ (fun _=>none) A H1 L0 az) (hlen:as.length=vs.length) (dX:bV H φ L0 az ms as vs) (ho:Out w L0 az A0 w' L ak A') (ha:nT w A az w' ak AH) (ht:eT ms vs L=some (ls,Lm)):
 bP w' Lm (aB ak Lm) A' (cm H ms as H1) (aB φ (cm H ms as H1)) AH∧bG w H φ A w' (cm H ms as H1) (aB φ (cm H ms as H1)) AH:=by
 obtain ⟨dW,nV⟩:=lH _ _ _ _ _ ht;have a_: ∀c,Ow az c→Ow φ c:=fun c hc=>by
  rcases m.oh c hc with ⟨i,b,h⟩|h
  ·simp at h
  ·exact h.1
 have br:=fun k b' =>lJ H ms as vs ls H1 k b' hlen dX nV
 have nW:=(lI H ms as H1).2;have aW:bG w H φ A w' (cm H ms as H1) (aB φ (cm H ms as H1)) AH:=by
  refine ⟨ha.fz,by rw [nW,m.less.st];exact Nat.le_refl _,fun id b' ax _=> ?_,fun c hc=>ho.post.a5 c (Ow.lt ae hc)⟩
  have bQ: ∀loc,φ id=some loc→aB φ (cm H ms as H1) id=some loc:=fun loc h=>by simp [aB,ax,h]
  rcases br id b' ax with h|⟨a,x,ad,b,kk,kv,bk,q1,q2,rfl,q4,q5,q6,q7⟩
  ·exact ⟨b',m.less.get _ _ h,rfl,rfl,rfl,rfl,bQ⟩
  ·exact ⟨b,(J.bn q2).1,rfl,rfl,rfl,by simp [junk],bQ⟩
 refine ⟨⟨dK ho.st dW,⟨fun i i' c b b' h1 h2=>ae.inj _ _ _ _ _ (cW h1).1 (cW h2).1,fun c hc=> ?_,ha.b6,fun id loc hl=> ?_⟩,fun c hc hj=> ?_,fun c hc=>ha.dT c (bA hc)⟩,aW⟩
 ·obtain ⟨id,b0,h⟩:=hc;obtain ⟨h1,b',ax⟩:=cW h;rcases br id b' ax with h2|⟨a,x,ad,b,kk,kv,bk,q1,q2,rfl,q4,q5,q6,q7⟩
  ·refine ha.own c (ae.own c ⟨id,b0,h1⟩) (m.bd.bY c ⟨id,b0,?_⟩);simp [aB,h2,h1]
  ·obtain ⟨_,re⟩:=nU m ho q4 q5 q6;obtain ⟨b2,c2,nX,_,_,_,r4,r5,_⟩:=re id _ q1;rw [h1] at r4;simp only [Option.some.injEq,Loc.at_.injEq] at r4;obtain ⟨rfl,rfl⟩:=r4;exact ha.dT c ⟨kk,b0,r5⟩
 ·obtain ⟨h1,b',ax⟩:=cW hl;refine ⟨b',ax,?_⟩;rcases br id b' ax with h2|⟨a,x,ad,b,kk,kv,bk,q1,q2,rfl,q4,q5,q6,q7⟩
  ·obtain ⟨b2,g_,af⟩:=ae.ap id loc h1;rw [m.less.get _ _ h2] at g_;simp only [Option.some.injEq] at g_;subst g_;refine ⟨by rw [nW,m.less.st];exact af.ad,af.sized,af.aO,fun c b0 he=> ?_⟩
   subst he;obtain ⟨arr,T,fr,k1,k2,k3,k4⟩:=af.here c b0 rfl;have hn: ¬Ow az c:=m.bd.bY c ⟨id,b0,by simp [aB,h2,h1]⟩
   refine ⟨arr,T,fr,?_,k2,k3,fun i x j y v hx hy hv=>⟨(k4 i x j y v hx hy hv).1.mono aW,(k4 i x j y v hx hy hv).2⟩⟩;rw [ho.post.kept c (Ow.lt ae ⟨id,b0,h1⟩) hn];exact k1
  ·obtain ⟨_,re⟩:=nU m ho q4 q5 q6;obtain ⟨b2,c2,nX,r1,r2,r3,r4,r5,af⟩:=re id _ q1;rw [h1] at r4;simp only [Option.some.injEq] at r4;subst r4;rw [q2] at r1;simp only [Option.some.injEq] at r1;subst r1;obtain ⟨b3,j9,w8⟩:=ae.ap id _ h1;rw [(J.bn q2).1] at j9;simp only [Option.some.injEq] at j9;subst j9;have hcs: ∀(i:Nat) (x:AV),(junk b).el[i]? =some x→i<b.el.length∧x= .agg (List.replicate b.sz .undef):=by
    intro i x hx;simp only [junk,List.getElem?_map,Option.map_eq_some_iff] at hx;obtain ⟨z,hz,rfl⟩:=hx;exact ⟨(List.getElem?_eq_some_iff.1 hz).1,rfl⟩
   refine ⟨by rw [nW,m.less.st];exact w8.ad,fun i x hx=>by rw [(hcs i x hx).2];simp [AV.cells,junk],fun h=>by simp at h,fun c b0 he=> ?_⟩
   simp only [Loc.at_.injEq] at he;obtain ⟨rfl,rfl⟩:=he;obtain ⟨arr,T,fr,k1,k2,k3,k4⟩:=af.here c2 nX rfl;refine ⟨arr,T,fr,k1,k2,by simp only [junk,List.length_map];rw [←r3,←r2];exact k3,fun i x j y v hx hy hv=> ?_⟩
   obtain ⟨hi,rfl⟩:=hcs i x hx;have hj:j<b.sz:=by have:=(List.getElem?_eq_some_iff.1 hy).1;simpa [AV.cells] using this
   have w9:y= .undef:=by simp only [AV.cells] at hy;rw [List.getElem?_replicate,if_pos hj] at hy;simpa using hy.symm
   subst w9;refine ⟨.fr _ _ (.undef _),?_⟩;have qg:=List.getElem?_eq_getElem (show i<bk.el.length by omega)
   exact (k4 i _ j _ v qg (List.getElem?_eq_getElem (show j<_ by rw [af.sized _ _ qg,r2];exact hj)) (by rw [r2];exact hv)).2
 ·obtain ⟨id,b0,h⟩:=hj;obtain ⟨h1,b',ax⟩:=cW h;rcases br id b' ax with h2|⟨a,x,ad,b,kk,kv,bk,q1,q2,rfl,q4,q5,q6,q7⟩
  ·rcases ho.post.own c (bA hc) with h3|h3
   ·exact m.bd.bY c ⟨id,b0,by simp [aB,h2,h1]⟩ h3
   ·have:=Ow.lt ae ⟨id,b0,h1⟩;omega
  ·obtain ⟨_,re⟩:=nU m ho q4 q5 q6;obtain ⟨b2,c2,nX,_,_,_,r4,r5,_⟩:=re id _ q1;rw [h1] at r4;simp only [Option.some.injEq,Loc.at_.injEq] at r4;obtain ⟨rfl,rfl⟩:=r4;obtain ⟨i,bb,hi⟩:=hc;obtain ⟨e8,bx,qh⟩:=cW hi;have:=ho.st.inj _ _ _ _ _ e8 r5;subst this;rw [q7] at qh;simp at qh
end back
end Go.VS
namespace Go.VS
section back
variable {w:World} {AL AH:ah}
structure Mv (w:World) (L:J) (φL:ag) (AL:ah) (H:J) (φ :ag) (AH:ah) (L1 H1:J) (φ1:ag):Prop where
 less:bj L L1
 bd:bP w L1 (aB φL L1) AL H1 φ1 AH
 eh:bG w H φ AH w H1 φ1 AH
 oh: ∀c,Ow φ1 c→Ow φ c∨(Ow φL c∧ ¬Ow (aB φL L1) c)
 has: ∀id ad b,H.ap id ad=some b→ ∃b',H1.ap id ad=some b' ∧b'.sz=b.sz∧b'.el.length=b.el.length
 bQ: ∀id loc,φ id=some loc→ φ1 id=some loc
theorem Mv.trans {L L1 L2:J} {φL:ag} {H H1 H2:J} {φ φ1 a3:ag} (h:Mv w L φL AL H φ AH L1 H1 φ1) (k:Mv w L1 (aB φL L1) AL H1 φ1 AH L2 H2 a3):Mv w L φL AL H φ AH L2 H2 a3:=by
 have hr:=fA (φ := φL) k.less;refine ⟨h.less.trans k.less,by rw [←hr];exact k.bd,h.eh.trans k.eh (fun _ _=>rfl),fun c hc=> ?_,fun id ad b hb=> ?_,fun id loc hl=>k.bQ id loc (h.bQ id loc hl)⟩
 ·rcases k.oh c hc with h1|⟨h1,h2⟩
  ·rcases h.oh c h1 with h3|⟨h3,h4⟩
   ·exact .inl h3
   ·refine .inr ⟨h3,fun h5=>h4 ?_⟩;rw [←hr] at h5;exact bA h5
  ·rw [hr] at h2;exact .inr ⟨bA h1,h2⟩
 ·obtain ⟨b1,e1,e2,e3⟩:=h.has id ad b hb;obtain ⟨b2,f1,f2,f3⟩:=k.has id ad b1 e1;exact ⟨b2,f1,f2.trans e2,f3.trans e3⟩
theorem j_.refl {w:World} {c:Nat} {o:Obj} (h:w.heap[c]? =some o):j_ w c o w:=⟨h,fun _ _=>rfl,rfl,rfl,rfl,rfl⟩
theorem dY.mono {L L1:J} {φL:ag} {H H1:J} {φ φ1:ag} (hl:bj L L1) (has: ∀id ad b,H.ap id ad=some b→ ∃b',H1.ap id ad=some b' ∧b'.sz=b.sz∧b'.el.length=b.el.length) (bQ: ∀id loc,φ id=some loc→ φ1 id=some loc):
 ∀{ms:List Mode} {as:List AV} {ls:List (List AV)},dY w L φL AL H φ ms as ls→dY w L1 (aB φL L1) AL H1 φ1 ms as ls
 |[],as,ls,_=>by simp [dY]
 |m::ms,[],ls,_=>by cases m<;>simp [dY]
 | .val::ms,a::as,ls,h=>by simp only [dY] at h⊢;exact dY.mono hl has bQ h
 | .ew::ms,a::as,ls,h=>by simp only [dY] at h⊢;exact dY.mono hl has bQ h
 | .io::ms,a::as,[],h=>by simp [dY]
 | .io::ms,a::as,l::ls,h=>by
  simp only [dY] at h⊢;refine ⟨⟨h.1.1,fun id ad hr=> ?_⟩,dY.mono hl has bQ h.2⟩;obtain ⟨c,b0,b,arr,T,fr,k1,k2,k3,k4,k5,k6⟩:=h.1.2 id ad hr;obtain ⟨b',e1,e2,e3⟩:=has id ad b k1;exact ⟨c,b0,b',arr,T,fr,e1,bQ _ _ k2,k3,by rw [k4,e3],fun i x hx=>by rw [e2];exact k5 i x hx,fun i x j y v hx hy hv=>(k6 i x j y v hx hy (by rw [←e2];exact hv)).mono (cI hl)⟩
theorem qi: ∀(sh:List (List Sh)) (rs:List AV) (us:List Value) (L:J) (φL:ag) (H:J) (φ :ag) (ys:List AV) (L1:J),bP w L φL AL H φ AH→rs.length=us.length→
 (∀(i:Nat) (x:AV) (u:Value),rs[i]? =some x→us[i]? =some u→R w L φL AL x u)→cQ sh rs L=some (ys,L1)→dy AL AH ys→
 ∃ φ1,bZ w L φL AL H φ AH L1 (aE ys H).2 φ1∧(aE ys H).1.length=us.length∧ ∀(i:Nat) (x:AV) (u:Value),(aE ys H).1[i]? =some x→us[i]? =some u→R w (aE ys H).2 φ1 AH x u
 |sh,[],us,L,φL,H,φ,ys,L1,hd,hl,hr,ht,hk=>by
  simp only [cQ,Option.some.injEq,Prod.mk.injEq] at ht;obtain ⟨rfl,rfl⟩:=ht;exact ⟨φ,.refl hd,hl,by simp [aE]⟩
 |sh,x::rs,u::us,L,φL,H,φ,ys,L1,hd,hl,hr,ht,hk=>by
  simp only [cQ] at ht;split at ht
  rotate_left
  ·simp at ht
  rename_i y L' h1
  split at ht
  rotate_left
  ·simp at ht
  rename_i aQ cL h2
  simp only [Option.some.injEq,Prod.mk.injEq] at ht;obtain ⟨rfl,rfl⟩:=ht;obtain ⟨k1,k2⟩:=hk.cons;obtain ⟨φ1,m1,r1⟩:=pW hd (hr 0 x u rfl rfl) h1 rfl k1;obtain ⟨a3,m2,l2,r2⟩:=qi sh.tail rs us L' (aB φL L') (aD y H).2 φ1 aQ cL m1.bd (by simpa using hl) (fun i x u hx hu=>(hr (i+1) x u hx hu).mono (cI m1.less)) h2 k2
  refine ⟨a3,m1.trans m2,by simp [aE,l2],fun i x' u' hx hu=> ?_⟩
  cases i with
  |zero=>simp [aE] at hx hu;subst hx;subst hu;exact r1.mono m2.eh
  |succ i=>simp only [aE,List.getElem?_cons_succ] at hx hu;exact r2 i x' u' hx hu
 |sh,x::rs,[],L,φL,H,φ,ys,L1,hd,hl,hr,ht,hk=>by simp at hl
theorem qj: ∀(sh:List (List Sh)) (rs:List AV) (L:J) (ys:List AV) (L1:J),cQ sh rs L=some (ys,L1)→bj L L1
 |sh,[],L,ys,L1,ht=>by simp only [cQ,Option.some.injEq,Prod.mk.injEq] at ht;obtain ⟨rfl,rfl⟩:=ht;exact .refl _
 |sh,x::rs,L,ys,L1,ht=>by
  simp only [cQ] at ht;split at ht
  ·rename_i y L' h1
   split at ht
   ·rename_i aQ cL h2
    simp only [Option.some.injEq,Prod.mk.injEq] at ht;obtain ⟨rfl,rfl⟩:=ht;exact (e9 _ _ _ _ _ h1).trans (qj _ rs _ _ _ h2)
   ·simp at ht
  ·simp at ht
theorem qk {es:List Sh} {x:AV} {v:Value} {L:J} {φL:ag} {A' :ah} {y:AV} {L1:J} (ae:St w L φL AL) (hx:R w L φL AL x v) (ht:aY es x L=some (y,L1)) (hk: ∀c,A' c→gone φL AL L1 c):FR w A' (bh y) v:=by
 by_cases bO: ∃cs,x= .agg cs
 ·obtain ⟨cs,rfl⟩:=bO;obtain ⟨aS,hc,rfl⟩:=kj ht;obtain ⟨vs,rfl,hl,ho,hp⟩:=hx.fm;obtain ⟨l1,r1⟩:=nP es cs vs.toList L φL AL A' aS L1 ae (by simpa using hl) (fun j c u hj hu=>hp j c u hj (by simpa using hu)) hc hk
  exact .agg _ _ (by rw [l1,hl]) ho fun i x v hx hv=>r1 i x v hx (by simpa using hv)
 ·obtain ⟨e,rfl,cJ⟩:=iI (fun cs h=>bO ⟨cs,h⟩) ht;exact (lD e x v L φL AL A' y L1 ae hx cJ hk).1
theorem nY {A' :ah}: ∀(sh:List (List Sh)) (rs:List AV) (us:List Value) (L:J) (φL:ag) (ys:List AV) (L1:J),St w L φL AL→rs.length=us.length→
 (∀(i:Nat) (x:AV) (u:Value),rs[i]? =some x→us[i]? =some u→R w L φL AL x u)→cQ sh rs L=some (ys,L1)→(∀c,A' c→gone φL AL L1 c)→
 (bK ys).length=us.length∧ ∀(i:Nat) (x:AV) (u:Value),(bK ys)[i]? =some x→us[i]? =some u→FR w A' x u
 |sh,[],us,L,φL,ys,L1,hd,hl,hr,ht,hk=>by
  simp only [cQ,Option.some.injEq,Prod.mk.injEq] at ht;obtain ⟨rfl,rfl⟩:=ht;exact ⟨hl,by simp [bK]⟩
 |sh,x::rs,u::us,L,φL,ys,L1,hd,hl,hr,ht,hk=>by
  simp only [cQ] at ht;split at ht
  rotate_left
  ·simp at ht
  rename_i y L' h1
  split at ht
  rotate_left
  ·simp at ht
  rename_i aQ cL h2
  simp only [Option.some.injEq,Prod.mk.injEq] at ht;obtain ⟨rfl,rfl⟩:=ht;have dW:=e9 _ _ _ _ _ h1;have cV:=qj _ _ _ _ _ h2;have r1:=qk (A' :=A') hd (hr 0 x u rfl rfl) h1 (fun c hc=>nL cV (hk c hc))
  obtain ⟨l2,r2⟩:=nY sh.tail rs us L' (aB φL L') aQ cL (dK hd dW) (by simpa using hl) (fun i x u hx hu=>(hr (i+1) x u hx hu).mono (cI dW)) h2 (fun c hc=>by
   obtain ⟨k1,k2⟩:=hk c hc;exact ⟨k1,fun ho=>by rw [fA cV];exact k2 (bA ho)⟩)
  refine ⟨by simp [bK,l2],fun i x' u' hx hu=> ?_⟩
  cases i with
  |zero=>simp [bK] at hx hu;subst hx;subst hu;exact r1
  |succ i=>simp only [bK,List.getElem?_cons_succ] at hx hu;exact r2 i x' u' hx hu
 |sh,x::rs,[],L,φL,ys,L1,hd,hl,hr,ht,hk=>by simp at hl
end back
end Go.VS
namespace Go.VS
def hP:List Value→Value
 |[v]=>v
 |vs=> .tuple vs.toArray
def jv (P:Program) (f:FuncId):Prop:= ∃fn,P.funcs[f]? =some fn∧(fn.name== "runtime.NumGoroutine")=false∧fn.body.isNone=false
def iK (w:World) (H:J) (φ :ag) (A:ah) (K:AV→J→Prop) (e:Ending) (w' :World):Prop:=
 match e with
 | .returned v' => ∃x H' ak A',Out w H φ A w' H' ak A' ∧R w' H' ak A' x v' ∧K x H'
 |_=>False
theorem iK.mono {w:World} {H:J} {φ :ag} {A:ah} {K K' :AV→J→Prop} (h: ∀v H,K v H→K' v H) {e:Ending} {w' :World} (k:iK w H φ A K e w'):iK w H φ A K' e w' :=by
 cases e with
 |returned v' =>obtain ⟨x,H',ak,A',h1,h2,h3⟩:=k;exact ⟨x,H',ak,A',h1,h2,h _ _ h3⟩
 |panicked c=>exact k
 |outgrown=>exact k
def db (P:Program):bw:=fun f ys H K=>jv P f∧
 ∀(w:World) (A:ah) (φ :ag) (us:Array Value),St w H φ A→ys.length=us.size→
  (∀(i:Nat) (x:AV) (u:Value),ys[i]? =some x→us[i]? =some u→R w H φ A x u)→Calls P f us w (iK w H φ A K)
theorem db.mono {P:Program} {f:FuncId} {ys:List AV} {H:J} {K K' :AV→J→Prop} (h: ∀v H,K v H→K' v H) (k:db P f ys H K):db P f ys H K' :=
 ⟨k.1,fun w A φ us h1 h2 h3=>(k.2 w A φ us h1 h2 h3).mono fun _ _ he=>he.mono h⟩
def Exact (X:bw):Prop:= ∀f ys H K,X f ys H K→ ∃v H',X f ys H (fun v1 H1=>v1=v∧H1=H')∧K v H'
theorem St.shrink {w:World} {H:J} {φ :ag} {A A' :ah} (h:St w H φ A) (h1: ∀c,A' c→A c) (h2: ∀c,Ow φ c→A' c):St w H φ A' :=by
 refine ⟨h.inj,h2,fun c hc=>h.b6 c (h1 c hc),fun id loc hl=> ?_⟩;obtain ⟨b,hb,af⟩:=h.ap id loc hl;refine ⟨b,hb,af.ad,af.sized,af.aO,fun c b0 he=> ?_⟩;obtain ⟨arr,T,fr,k1,k2,k3,k4⟩:=af.here c b0 he;exact ⟨arr,T,fr,k1,k2,k3,fun i x j y v hx hy hv=>⟨(k4 i x j y v hx hy hv).1.lB h1,(k4 i x j y v hx hy hv).2⟩⟩
section
variable {w:World} {H:J} {φ :ag} {A:ah}
theorem nZ {xs:List AV} {us:List Value} (hl:xs.length=us.length) (h: ∀(i:Nat) (x:AV) (u:Value),xs[i]? =some x→us[i]? =some u→R w H φ A x u):R w H φ A (cd xs) (hP us):=by
 have key: ∀{xs:List AV} {us:List Value},xs.length=us.length→(∀(i:Nat) (x:AV) (u:Value),xs[i]? =some x→us[i]? =some u→R w H φ A x u)→R w H φ A (.aC xs) (.tuple us.toArray):=
  fun hl h=> .aC _ _ (by simpa using hl) fun i x v hx hv=>h i x v hx (by simpa using hv)
 match xs,us,hl with
 |[],[],hl=>exact key hl h
 |[x],[u],_=>exact h 0 x u rfl rfl
 |x::x' ::xs,u::u' ::us,hl=>exact key hl h
theorem ql {xs:List AV} {us:List Value} (hl:xs.length=us.length) (h: ∀(i:Nat) (x:AV) (u:Value),xs[i]? =some x→us[i]? =some u→FR w A x u):FR w A (cd xs) (hP us):=by
 have key: ∀{xs:List AV} {us:List Value},xs.length=us.length→(∀(i:Nat) (x:AV) (u:Value),xs[i]? =some x→us[i]? =some u→FR w A x u)→FR w A (.aC xs) (.tuple us.toArray):=
  fun hl h=> .aC _ _ (by simpa using hl) fun i x v hx hv=>h i x v hx (by simpa using hv)
 match xs,us,hl with
 |[],[],hl=>exact key hl h
 |[x],[u],_=>exact h 0 x u rfl rfl
 |x::x' ::xs,u::u' ::us,hl=>exact key hl h
end
theorem qm (zs:List AV) (H:J):aD (cd zs) H=(cd (aE zs H).1,(aE zs H).2):=by
 match zs with
 |[]=>rfl
 |[z]=>rfl
 |z::z' ::zs=>rfl
theorem qn (zs:List AV):bh (cd zs)=cd (bK zs):=by
 match zs with
 |[]=>rfl
 |[z]=>rfl
 |z::z' ::zs=>rfl
theorem qo (zs:List AV):cc (cd zs)=dO zs:=by
 match zs with
 |[]=>rfl
 |[z]=>simp [cd,dO]
 |z::z' ::zs=>rfl
theorem qp {xs:List AV} {v:Value} {w:World} {H:J} {φ :ag} {A:ah} (h:R w H φ A (cd xs) v): ∃us:List Value,v=hP us∧xs.length=us.length∧ ∀(i:Nat) (x:AV) (u:Value),xs[i]? =some x→us[i]? =some u→R w H φ A x u:=by
 have key: ∀{xs:List AV},xs.length≠1→R w H φ A (.aC xs) v→ ∃us:List Value,v=hP us∧xs.length=us.length∧ ∀(i:Nat) (x:AV) (u:Value),xs[i]? =some x→us[i]? =some u→R w H φ A x u:=by
  intro xs hl h;obtain ⟨vs,rfl,h1,h2⟩:=h.kX;refine ⟨vs.toList,?_,by simpa using h1,fun i x u hx hu=>h2 i x u hx (by simpa using hu)⟩
  have cS:vs.toList.length≠1:=by simp only [Array.length_toList];omega
  generalize hv:vs.toList=l at cS;have:Value.tuple vs= .tuple l.toArray:=by rw [←hv]
  rw [this]
  match l with
  |[]=>rfl
  |[u]=>exact absurd rfl cS
  |u::u' ::l=>rfl
 match xs with
 |[]=>exact key (by simp) h
 |[x]=>exact ⟨[v],rfl,rfl,fun i x' u hx hu=>by
  cases i with
  |zero=>simp at hx hu;subst hx;subst hu;exact h
  |succ i=>simp at hx⟩
 |x::x' ::xs=>exact key (by simp) h
def lL (ms:List Mode):Prop:= ∀m∈ms,m= .val
theorem n0: ∀(ms:List Mode) (sh:List (List Sh)) (as:List AV) (H:J),lL ms→fj ms sh as H=some (as,H)
 |[],sh,as,H,_=>rfl
 |m::ms,sh,[],H,_=>rfl
 |m::ms,sh,a::as,H,h=>by
  have hm:=h m (by simp)
  subst hm;simp only [fj,eN,n0 ms sh.tail as H (fun m hm=>h m (by simp [hm]))]
theorem n1 (H0:J): ∀(ms:List Mode) (as:List AV) (H:J),lL ms→cm H0 ms as H=H
 |[],as,H,_=>by simp [cm]
 |m::ms,[],H,_=>by cases m<;>simp [cm]
 |m::ms,a::as,H,h=>by
  have hm:=h m (by simp)
  subst hm;simp only [cm];exact n1 H0 ms as H (fun m hm=>h m (by simp [hm]))
theorem jw {w:World} {H:J} {φ :ag} {A:ah} (ae:St w H φ A):aB φ H= φ :=by
 funext id
 unfold aB;cases hp: φ id with
 |none=>simp
 |some loc=>obtain ⟨b,hb,_⟩:=ae.ap id loc hp;simp [hb]
theorem n3 {H:J}: ∀(as ys:List AV) (b:Bool),b4 [] as H=some (ys,b)→ ∀L,b5 [] ys L=(ys,L)
 |[],ys,b,h,L=>by simp only [b4,Option.some.injEq,Prod.mk.injEq] at h;obtain ⟨rfl,_⟩:=h;rfl
 |a::as,ys,b,h,L=>by
  simp only [b4] at h;split at h
  ·rename_i y hy;split at h
   ·rename_i aQ b' cg
    simp only [Option.some.injEq,Prod.mk.injEq] at h;obtain ⟨rfl,_⟩:=h;simp only [b5,lE H 8 a y hy,List.tail_nil,n3 as aQ b' cg]
   ·simp at h
  ·simp at h
theorem w_ {P:Program} {C:aI} {X:bw} (hX: ∀f ys H K,X f ys H K→db P f ys H K) {w:World} {H:J} {φ :ag} {A:ah} (ae:St w H φ A) {f:FuncId} {as:List AV} {us:Array Value} (hl:as.length=us.size)
 (hr: ∀(i:Nat) (x:AV) (u:Value),as[i]? =some x→us[i]? =some u→R w H φ A x u) {th:Bool} {K:AV→J→Prop} (h:c5 X C f as th H K):jv P f∧Calls P f us w (iK w H φ A K):=by
 unfold c5 at h;split at h
 ·exact h.elim
 rename_i ys bL hy;obtain ⟨y,ko,gG,hp⟩:=h;have hm:lL []:=fun m hm=>by simp at hm
 have n4:bP w H φ A ⟨0,[]⟩ (fun _=>none) A:=by
  refine ⟨ae,⟨fun i i' c b b' h=>by simp at h,fun c hc=> ?_,ae.b6,fun id loc h=>by simp at h⟩,fun c _ hc=> ?_,ae.own⟩
  ·obtain ⟨i,b,h⟩:=hc;simp at h
  ·obtain ⟨i,b,h⟩:=hc;simp at h
 have n5:b5 [] ys ⟨0,[]⟩=(ys,⟨0,[]⟩):=n3 _ _ _ hy _;obtain ⟨az,m,ci,dX⟩:=lG as [] [] us.toList H φ as H ys bL ⟨0,[]⟩ (fun _=>none) ys ⟨0,[]⟩ n4 (by simpa using hl) (fun i x u hx hu=>hr i x u hx (by simpa using hu)) (n0 _ _ _ _ hm) hy n5
 have a_: ∀c,¬Ow az c:=fun c hc=>by
  rcases m.oh c hc with ⟨i,b,h⟩|⟨h1,h2⟩
  ·simp at h
  ·rw [jw ae] at h2;exact h2 h1
 let A0:ah:=if bL=true then Ow az else A
 have iL: ∀c,A0 c→A c:=by
  intro c hc;simp only [A0] at hc;split at hc
  ·exact absurd hc (a_ c)
  ·exact hc
 have n6:bL=true→ ∀c,A0 c→fb (aB φ H) A c:=by
  intro aw c hc;simp only [A0,aw,if_true] at hc;exact absurd hc (a_ c)
 have cC:St w ⟨0,[]⟩ az A0:=m.bd.sh.shrink iL (fun c hc=>absurd hc (a_ c));have eI:ys.length=us.size:=by simpa using ci.1
 refine ⟨(hX _ _ _ _ ko).1,((hX _ _ _ _ ko).2 w A0 az us cC eI (fun i x u hx hu=>ci.2 A0 iL n6 i x u hx (by simpa using hu))).mono fun e w' he=> ?_⟩
 cases e with
 |panicked c=>exact he.elim
 |outgrown=>exact he.elim
 |returned v' =>
 obtain ⟨x0,L,ak,A',ho,n7,rs,f_,L2,rfl,kq,rfl⟩:=he;obtain ⟨cD,rfl,kr,gE⟩:=qp n7
 let AH:ah:=if bL=true then fun c=>A c∨(A' c∧w.heap.size≤c) else A'
 have iM: ∀c,Ow ak c→w.heap.size≤c:=fun c hc=>(ho.post.own c hc).resolve_left (a_ c)
 have ha:nT w A az w' ak AH:=by
  refine ⟨fun c hc hn=> ?_,fun c hc=> ?_,fun c hc=> ?_,fun c arr T fr hc hn=> ?_⟩
  ·simp only [AH];split
   ·exact .inl hc
   ·rename_i aw;refine ho.bE c ?_ hn;simp only [A0,aw];exact hc
  ·simp only [AH];split
   ·exact .inr ⟨ho.st.own c hc,iM c hc⟩
   ·exact ho.st.own c hc
  ·simp only [AH] at hc;split at hc
   ·rcases hc with h|⟨h,_⟩
    ·exact Nat.lt_of_lt_of_le (ae.b6 c h) ho.post.size
    ·exact ho.st.b6 c h
   ·exact ho.st.b6 c hc
  ·obtain ⟨h1,h2⟩:=ho.bX.fz c arr T fr hc (fun h=>hn (iL c h));refine ⟨h1,?_⟩;simp only [AH];split
   ·rintro (h|⟨_,h⟩)
    ·exact hn h
    ·have:c<w.heap.size:=by
      rcases Nat.lt_or_ge c w.heap.size with h' |h'
      ·exact h'
      ·rw [Array.getElem?_eq_none h'] at hc;simp at hc
     omega
   ·exact h2
 obtain ⟨D,E⟩:=qf (ls:=[]) (Lm:=L) ae m (by rw [hl,eI]) dX ho ha (by simp [eT])
 rw [n1 _ _ _ _ hm,jw ae] at D E;have n8:dy A' AH f_:=by
  cases aw:bL with
  |false=>exact .inl fun c h=>by simpa [AH,aw] using h
  |true=>
   rcases gG with h|h
   ·rw [aw] at h;simp at h
   ·rw [qo] at h;exact .inr h
 have iN: ∀(i:Nat) (x:AV) (u:Value),rs[i]? =some x→cD[i]? =some u→R w' L (aB ak L) A' x u:=fun i x u hx hu=>by
  rw [jw ho.st];exact gE i x u hx hu
 have eX: ∀{cM:ag},(∀c,Ow cM c→Ow φ c∨Ow ak c)→eU w φ w' cM:=fun hq=>
  ⟨ho.post.os,ho.post.tape,ho.post.output,ho.post.size,fun c hc _=>ho.post.kept c hc (a_ c),ho.post.a5,fun c hc=>by
   rcases hq c hc with h|h
   ·exact .inl h
   ·exact .inr (iM c h)⟩
 have iO: ∀c,A c→ ¬Ow φ c→AH c:=fun c hc _=>ha.own c hc (a_ c);have cK: ∀c,Ow φ c→a5 w' c=a5 w c:=fun c hc=>ho.post.a5 c (Ow.lt ae hc)
 cases fy:(th||bL) with
 |true=>
  rw [fy] at hp;simp only [if_true,qm] at hp;obtain ⟨cM,m3,l3,r3⟩:=qi _ rs cD L _ H φ f_ L2 D kr iN kq n8
  refine ⟨_,_,cM,AH,⟨m3.bd.sh,eX fun c hc=> ?_,E.trans m3.eh cK,iO⟩,nZ l3 r3,hp⟩;rcases m3.oh c hc with h|⟨h,_⟩
  ·exact .inl h
  ·exact .inr (bA h)
 |false=>
  rw [fy] at hp;simp only [Bool.false_eq_true,if_false,qn] at hp;simp only [Bool.or_eq_false_iff] at fy;have n9:AH=A' :=by simp [AH,fy.2]
  rw [n9] at D E iO
  let A2:ah:=gone (aB ak L) A' L2
  obtain ⟨l3,r3⟩:=nY (A' :=A2) _ rs cD L (aB ak L) f_ L2 D.sl kr iN kq (fun c h=>h)
  have n_: ∀c,Ow φ c→A2 c:=fun c hc=>⟨D.sh.own c hc,fun h=>absurd hc (D.bY c h)⟩;have oa:bG w H φ A w' H φ A2:=⟨fun c arr T fr hc hn=>⟨(E.fz c arr T fr hc hn).1,fun h2=>(E.fz c arr T fr hc hn).2 h2.1⟩,E.st,E.ids,E.sz⟩
  refine ⟨_,_,φ,A2,⟨D.sh.shrink (fun c h=>h.1) n_,eX fun c hc=> .inl hc,oa,fun c hc hn=>⟨iO c hc hn,fun h=> ?_⟩⟩,.fr _ _ (ql l3 r3),hp⟩;have:=iM c (bA h)
  have:=ae.b6 c hc;omega
end Go.VS
namespace Go.VS
section ops
variable {P:Program} {C:aI} {X:bw} {w:World} {H:J} {φ :ag} {A:ah}
theorem xa {f:FuncId} (h:jv P f) (args:Array Value) (w:World):(callFunc f args).run P w= .ok (.enter f args) w:=by
 obtain ⟨fn,h1,h2,h3⟩:=h;have kn:fn.name≠ "runtime.NumGoroutine" :=by simpa using h2
 have xb:fn.body≠none:=by intro e;rw [e] at h3;simp at h3
 simp [callFunc,h1,kn,xb]
theorem qq {o:Oper} {ρ :Operand→Value} {x:Operand} {args:Array Operand} {tys:Array TypeId} (ho:o.op= .call {callee:= .value x,args,argTypes:=tys}) {g:FuncId} {bJ:Array Value} (hx: ρ x= .func (.func g) #[] bJ) (hc:jv P g):
 (execOp ρ o).run P w= .ok (.enter g (args.map ρ ++ bJ)) w:=by
 simp [execOp,ho,resolve,hx,Deferred.ofValue,invoke,xa hc]
theorem qt {o:Oper} {ρ :Operand→Value} {b:Builtin} {args:Array Operand} {tys:Array TypeId} (ho:o.op= .call {callee:= .builtin b,args,argTypes:=tys}):
 ∃consts,(execOp ρ o).run P w=(builtin b tys o.type consts (args.map ρ)).run P w:=
 ⟨_,by simp only [execOp,ho,resolve,invoke,Sem.run_bind,Sem.run_pure,Result.andThen_ok];rfl⟩
theorem cf.upon {H' :J} {r:Result Next} {x:AV} (h:cf w H φ A H' r x) {o:Oper} {a:Act} {next:Act→World→Prop} {Q:Exit→Act→World→Prop}
 (hn: ∀v w' ak A',Out w H φ A w' H' ak A' →R w' H' ak A' x v→next (a.put o.dst v) w'):o.upon P a next Q r:=by
 obtain ⟨n,v,w',ak,A',rfl,hv,hr,ho⟩:=h;rcases hv with rfl|⟨rfl,rfl⟩
 ·exact hn v w' ak A' ho hr
 ·exact hn _ w' ak A' ho hr
theorem ob (hE: ∀t ti,C.E t=some ti→aT P t ti) (hX: ∀f ys H K,X f ys H K→db P f ys H K) (ae:St w H φ A) {o:Oper} {s:aj} {a:Act} (hs: ∀x∈o.op.operands,R w H φ A (ev s x) (a.eval x)) {th:Bool} {K:AV→J→Prop} (h:wpOp X C false th o s H K)
 {next:Act→World→Prop} {Q:Exit→Act→World→Prop} (hn: ∀x v w' H' ak A',Out w H φ A w' H' ak A' →R w' H' ak A' x v→K x H' →next (a.put o.dst v) w'):o.wp P a w next Q:=by
 have kt: ∀(hh:(match aM C.E o.op s H with|some (v,H')=>K v H' |none=>False)),o.wp P a w next Q:=by
  intro hh;split at hh
  ·rename_i v H' he
   exact (wN hE ae hs he).upon (fun u w' ak A' h1 h2=>hn v u w' H' ak A' h1 h2 hh)
  ·exact hh.elim
 unfold wpOp at h;split at h
 ·rename_i b args tys bg;obtain ⟨_,h⟩:=h;split at h
  ·rename_i v H' he
   obtain ⟨consts,cy⟩:=qt (P:=P) (w:=w) (ρ :=a.eval) bg;have:=wO hE ae (ty:=o.type) (consts:=consts) (vs:=args.map a.eval) (by simp) (fun i x u hx hu=>by
    simp only [List.getElem?_map,Option.map_eq_some_iff] at hx;obtain ⟨y,hy,rfl⟩:=hx;simp only [Array.getElem?_map,Option.map_eq_some_iff] at hu;obtain ⟨y',dS,rfl⟩:=hu;have:y' =y:=by simp at hy;rw [hy] at dS;simpa using dS.symm
    subst this;exact hs y' (by rw [bg];simp only [Op.operands,Call.operands];simp [Array.mem_of_getElem? dS])) he
   rw [←cy] at this;exact this.upon (fun u w' ak A' h1 h2=>hn v u w' H' ak A' h1 h2 h)
  ·exact h.elim
 ·rename_i x args tys bg;split at h
  ·rename_i g bJ hg;simp only [Bool.false_eq_true,if_false] at h;have hx:=hs x (by rw [bg];simp [Op.operands,Call.operands])
   rw [hg] at hx;obtain ⟨vs,hv,hl,hp⟩:=hx.jR;have qu: ∀(i:Nat) (y:AV) (u:Value),(args.toList.map (ev s) ++ bJ)[i]? =some y→(args.map a.eval ++ vs)[i]? =some u→R w H φ A y u:=fun i y u hy hu=>by
    rcases Nat.lt_or_ge i args.size with hi|hi
    ·rw [List.getElem?_append_left (by simpa using hi)] at hy
     rw [Array.getElem?_append_left (by simpa using hi)] at hu
     simp only [List.getElem?_map,Option.map_eq_some_iff] at hy;obtain ⟨z,hz,rfl⟩:=hy;simp only [Array.getElem?_map,Option.map_eq_some_iff] at hu;obtain ⟨z',dr,rfl⟩:=hu;have:z' =z:=by simp at hz;rw [hz] at dr;simpa using dr.symm
     subst this;exact hs z' (by rw [bg];simp only [Op.operands,Call.operands];simp [Array.mem_of_getElem? dr])
    ·rw [List.getElem?_append_right (by simpa using hi)] at hy
     rw [Array.getElem?_append_right (by simpa using hi)] at hu
     exact hp _ y u (by simpa using hy) (by simpa using hu)
   have hc:jv P g∧Calls P g (args.map a.eval ++ vs) w (iK w H φ A K):=by
    rcases h with h|h
    ·exact ⟨(hX _ _ _ _ h).1,(hX _ _ _ _ h).2 w A φ (args.map a.eval ++ vs) ae (by simp [hl]) qu⟩
    ·exact w_ hX ae (us:=args.map a.eval ++ vs) (by simp [hl]) qu h
   unfold Oper.wp;rw [qq bg hv hc.1,Oper.upon_enter];refine hc.2.mono fun e w' he=> ?_
   cases e with
   |returned v' =>
    obtain ⟨x',H',ak,A',h1,h2,h3⟩:=he;exact hn x' v' w' H' ak A' h1 h2 h3
   |panicked c=>exact he.elim
   |outgrown=>exact he.elim
  ·exact h.elim
 ·exact kt h.2
end ops
end Go.VS
namespace Go.VS
structure jx (π :List Nat) (ops:Array Oper):Prop where
 len: π.length=ops.size
 nodup: π.Nodup
 lt: ∀i∈ π,i<ops.size
 mem: ∀i,i<ops.size→i∈ π
 qv: ∀(i:Nat) (o:Oper),ops[i]? =some o→ ∀e∈o.after.toList,Region.binds .any e=true→e.on<ops.size
 gJ: ∀(i:Nat) (o:Oper) (j:Nat) (b:Bool),ops[i]? =some o→o.guard=some (j,b)→j<ops.size
theorem xc {π :List Nat} {ops:Array Oper} (h:mF π ops=true):jx π ops:=by
 simp only [mF,Bool.and_eq_true,beq_iff_eq,List.all_eq_true,decide_eq_true_eq,List.mem_range,List.contains_iff_mem] at h;obtain ⟨⟨⟨⟨h1,h0⟩,h2⟩,h3⟩,h4⟩:=h;refine ⟨h1,h0,h2,h3,fun i o ho e he hb=> ?_,fun i o j b ho hg=> ?_⟩
 ·have:=(h4 o (by rw [←Array.getElem?_toList] at ho;exact List.mem_of_getElem? ho)).1
  rw [Array.all_eq_true_iff_forall_mem] at this;have:=this e (by simpa using he)
  rw [hb] at this;simpa using this
 ·have:=(h4 o (by rw [←Array.getElem?_toList] at ho;exact List.mem_of_getElem? ho)).2
  rw [hg] at this;simpa using this
section
variable {π :List Nat} {ops:Array Oper} (hp:jx π ops)
include hp
theorem jx.at_ {k:Nat} (hk:k< π.length): ∃o,ops[π[k]]? =some o∧(eb π ops)[k]? =some (gW π o):=by
 have:=hp.lt _ (List.getElem_mem hk);refine ⟨ops[π[k]],by simp [this],?_⟩
 unfold eb mE;rw [List.getElem?_toArray,List.getElem?_map,List.getElem?_eq_getElem hk];simp [List.getD,this]
theorem jx.size:(eb π ops).size=ops.size:=by
 simp [eb,mE,hp.len]
theorem jx.jy {i:Nat} (hi:i<ops.size):dl π i< π.length∧ π[dl π i]? =some i:=by
 have:=hp.mem i hi;unfold dl;have h:=List.idxOf_lt_length_of_mem this;exact ⟨h,by rw [List.getElem?_eq_getElem h,List.getElem_idxOf]⟩
theorem jx.get {i:Nat} {o:Oper} (ho:ops[i]? =some o):(eb π ops)[dl π i]? =some (gW π o):=by
 have hi:i<ops.size:=(Array.getElem?_eq_some_iff.1 ho).1;obtain ⟨h1,h2⟩:=hp.jy hi;obtain ⟨o',h3,h4⟩:=hp.at_ h1;have: π[dl π i]=i:=by rw [List.getElem?_eq_getElem h1] at h2;simpa using h2
 rw [this,ho] at h3;simp only [Option.some.injEq] at h3;subst h3;exact h4
def PL (π :List Nat) (n:Nat) (l l' :Array Bool):Prop:=l.size=n∧l'.size=n∧ ∀i,i<n→l'[dl π i]? =l[i]?
theorem PL.set {l l' :Array Bool} (h:PL π ops.size l l') {i:Nat} (hi:i<ops.size):PL π ops.size (l.setIfInBounds i true) (l'.setIfInBounds (dl π i) true):=by
 obtain ⟨h1,h2,h3⟩:=h;refine ⟨by simp [h1],by simp [h2],fun j hj=> ?_⟩
 obtain ⟨xd,oc⟩:=hp.jy hi;obtain ⟨zi,xe⟩:=hp.jy hj;rw [Array.getElem?_setIfInBounds,Array.getElem?_setIfInBounds];by_cases e:i=j
 ·subst e;rw [if_pos rfl,if_pos rfl,if_pos (by rw [h2,←hp.len];exact xd),if_pos (by rw [h1];exact hi)]
 ·have: ¬dl π i=dl π j:=by
   intro e2;rw [e2,xe] at oc;simp at oc;exact e oc.symm
  rw [if_neg this,if_neg e];exact h3 j hj
omit hp in
theorem PL.getD {l l' :Array Bool} (h:PL π ops.size l l') {i:Nat} (hi:i<ops.size) (b:Bool):l'.getD (dl π i) b=l.getD i b:=by
 have:=h.2.2 i hi;rw [Array.getD_eq_getD_getElem?,Array.getD_eq_getD_getElem?,this]
theorem qw {l l' :Array Bool} (h:PL π ops.size l l') {i:Nat} (hi:i∈Region.ready .any ops l):i<ops.size∧dl π i∈Region.ready .any (eb π ops) l' :=by
 unfold Region.ready at hi⊢;simp only [List.mem_filter,List.mem_range,Bool.and_eq_true] at hi⊢;obtain ⟨h1,h2,h3⟩:=hi;have ho:ops[i]? =some ops[i]:=by simp [h1]
 obtain ⟨r1,r2⟩:=hp.jy h1;refine ⟨h1,by rw [hp.size,←hp.len];exact r1,by rw [h.getD h1];exact h2,?_⟩
 rw [hp.get ho];rw [ho] at h3;simp only [Option.map_some,Option.getD_some,Array.all_eq_true_iff_forall_mem] at h3⊢;intro e he;simp only [gW,List.mem_toArray,List.mem_filterMap] at he;obtain ⟨e0,qx,lM⟩:=he;split at lM
 ·rename_i hb;simp only [Option.some.injEq] at lM;subst lM;have:=h3 e0 (by simpa using qx)
  rw [hb] at this;simp only [Bool.not_true,Bool.false_or] at this;rw [h.getD (hp.qv i _ ho e0 qx hb)];simp [this]
 ·simp at lM
theorem xf {i:Nat} {o:Oper} (ho:ops[i]? =some o) (t:Array Value):Region.wanted (gW π o) (yielded (eb π ops) t)=Region.wanted o (yielded ops t):=by
 unfold Region.wanted gW;simp only;cases hg:o.guard with
 |none=>rfl
 |some p=>
  obtain ⟨j,b⟩:=p;have hj:=hp.gJ i o j b ho hg;simp only [Option.map_some];congr 1;unfold yielded;have qy:ops[j]? =some ops[j]:=by simp [hj]
  rw [hp.get qy,qy];rfl
omit hp in
theorem qz (ρ :Operand→Value) (o:Oper):execOp ρ (gW π o)=execOp ρ o:=by
 cases o;rfl
theorem xg {P:Program} {Q:Exit→Act→World→Prop} {i:Nat} {o:Oper} (ho:ops[i]? =some o) {K K' :Act→World→Prop} (hK: ∀a w,K' a w→K a w) {a:Act} {w:World} (h:Go.wpOp P (eb π ops) Q (dl π i) K' a w):Go.wpOp P ops Q i K a w:=by
 unfold Go.wpOp at h⊢;rw [hp.get ho] at h;rw [ho];simp only at h⊢;rw [xf hp ho] at h;split at h
 ·rename_i hw;rw [if_pos hw];rcases h with h|⟨h1,h2⟩
  ·refine .inl (Oper.wp_mono hK ?_);unfold Oper.wp at h⊢;rw [qz] at h;exact h
  ·refine .inr ⟨?_,h2⟩;unfold Oper.asks at h1⊢;rw [qz] at h1;exact h1
 ·rename_i hw;rw [if_neg hw];exact hK _ _ h
theorem xh {l l' :Array Bool} (h:PL π ops.size l l') {k:Nat} (hk:k∈Region.ready .any (eb π ops) l'): ∃i,i∈Region.ready .any ops l:=by
 unfold Region.ready at hk⊢;simp only [List.mem_filter,List.mem_range,Bool.and_eq_true] at hk;obtain ⟨h1,h2,h3⟩:=hk;rw [hp.size,←hp.len] at h1;obtain ⟨o,ho,af⟩:=hp.at_ h1;have hi:=hp.lt _ (List.getElem_mem h1);have hr:dl π π[k]=k:=by
  obtain ⟨r1,r2⟩:=hp.jy hi;rw [List.getElem?_eq_getElem r1] at r2;simp only [Option.some.injEq] at r2;exact (List.getElem_inj hp.nodup).1 r2
 refine ⟨π[k],?_⟩;simp only [List.mem_filter,List.mem_range,Bool.and_eq_true];refine ⟨hi,by rw [←h.getD hi,hr];exact h2,?_⟩
 rw [af] at h3;rw [ho];simp only [Option.map_some,Option.getD_some,Array.all_eq_true_iff_forall_mem] at h3⊢;intro e he;by_cases hb:Region.binds .any e=true
 ·have hl:=hp.qv _ o ho e (by simpa using he) hb
  have:=h3 {e with on:=dl π e.on} (by
   simp only [gW,List.mem_toArray,List.mem_filterMap];exact ⟨e,by simpa using he,by rw [if_pos hb]⟩)
  have ax:Region.binds .any {e with on:=dl π e.on}=true:=hb
  rw [ax] at this;simp only [Bool.not_true,Bool.false_or] at this;rw [h.getD hl] at this;simp [this]
 ·simp [hb]
theorem qA {P:Program} {Q:Exit→Act→World→Prop}: ∀(n:Nat) (l l' :Array Bool) (a:Act) (w:World),PL π ops.size l l' →wpAny P .any (eb π ops) Q n l' a w→wpAny P .any ops Q n l a w
 |0,l,l',a,w,hl,h=>by
  simp only [wpAny] at h⊢;refine ⟨?_,h.2⟩;rw [List.eq_nil_iff_forall_not_mem];intro i hi;have:=(qw hp hl hi).2;rw [h.1] at this;simp at this
 |n+1,l,l',a,w,hl,h=>by
  simp only [wpAny] at h⊢;refine ⟨fun he=>h.1 ?_,fun i hi=> ?_⟩
  ·rw [List.eq_nil_iff_forall_not_mem];intro k hk;obtain ⟨i,hi⟩:=xh hp hl hk;rw [he] at hi;simp at hi
  ·obtain ⟨h1,h2⟩:=qw hp hl hi;have ho:ops[i]? =some ops[i]:=by simp [h1]
   exact xg hp ho (fun a w hh=>qA n _ _ a w (hl.set hp h1) hh) (h.2 _ h2)
theorem xi {P:Program} {Q:Exit→Act→World→Prop} {a:Act} {w:World} (h:wpAny P .any (eb π ops) Q (eb π ops).size (Array.replicate (eb π ops).size false) a w):wpAny P .any ops Q ops.size (Array.replicate ops.size false) a w:=by
 rw [hp.size] at h;refine qA hp _ _ _ a w ⟨by simp,by simp,fun i hi=> ?_⟩ h
 obtain ⟨r1,_⟩:=hp.jy hi;rw [hp.len] at r1;simp [hi,r1]
end
theorem SF.kill {w:World} {H:J} {φ :ag} {A:ah} {s:aj} {a:Act} (h:SF w H φ A s a) (l:List Nat):SF w H φ A (ec l s) a:=by
 have key: ∀(s:aj) (i:Nat),(ec.go l i s).length=s.length∧ ∀(t:Nat) (x:AV),(ec.go l i s)[t]? =some x→x= .undef∨s[t]? =some x:=by
  intro s;induction s with
  |nil=>intro i;simp [ec.go]
  |cons y s ih=>
   intro i;obtain ⟨h1,h2⟩:=ih (i+1);refine ⟨by simp [ec.go,h1],fun t x hx=> ?_⟩
   cases t with
   |zero=>
    simp only [ec.go,List.getElem?_cons_zero,Option.some.injEq] at hx;split at hx
    ·exact .inr (by simp [hx])
    ·exact .inl hx.symm
   |succ t=>simp only [ec.go,List.getElem?_cons_succ] at hx⊢;exact h2 t x hx
 obtain ⟨h1,h2⟩:=key s 0;refine ⟨h1.trans h.len,fun t x v hx hv=> ?_,h.eD⟩;rcases h2 t x hx with rfl|hx
 ·exact .fr _ _ (.undef _)
 ·exact h.val t x v hx hv
theorem xj {w:World} {H:J} {φ :ag} {A:ah} (ae:St w H φ A) (n:Nat):Out w H φ A w (H.trim n) (aB φ (H.trim n)) A:=by
 have hg: ∀id b,(H.trim n).get id=some b→H.get id=some b:=by
  intro id b h;unfold J.trim J.get at h;unfold J.get;simp only [List.getElem?_take] at h;split at h
  ·exact h
  ·simp at h
 have aW:bG w H φ A w (H.trim n) (aB φ (H.trim n)) A:=
  ⟨fun c arr T fr hc hn=>⟨⟨fr,hc⟩,hn⟩,Nat.le_refl _,fun id b hb _=>⟨b,hg id b hb,rfl,rfl,rfl,rfl,fun loc hl=>by simp [aB,hb,hl]⟩,fun _ _=>rfl⟩
 refine ⟨⟨fun i i' c b b' h h' =>ae.inj _ _ _ _ _ (cW h).1 (cW h').1,fun c hc=>ae.own c (bA hc),ae.b6,fun id loc h=> ?_⟩,⟨rfl,rfl,rfl,Nat.le_refl _,fun _ _ _=>rfl,fun _ _=>rfl,fun c hc=> .inl (bA hc)⟩,aW,fun c hc _=>hc⟩
 obtain ⟨h1,b,hb⟩:=cW h;obtain ⟨b',ax,af⟩:=ae.ap id loc h1;rw [hg id b hb] at ax;simp only [Option.some.injEq] at ax;subst ax;refine ⟨b,hb,af.ad,af.sized,af.aO,fun c b0 he=> ?_⟩;obtain ⟨arr,T,fr,k1,k2,k3,k4⟩:=af.here c b0 he;exact ⟨arr,T,fr,k1,k2,k3,fun i x j y v hx hy hv=>⟨(k4 i x j y v hx hy hv).1.mono aW,(k4 i x j y v hx hy hv).2⟩⟩
def qB:Ex→Exit
 | .normal=> .normal
 | .exit id=> .exit id
 | .ret=> .ret
theorem lN {x y:AV} (h:eS x y=true):x=y:=by
 unfold eS at h;split at h
 ·simp only [Bool.and_eq_true,beq_iff_eq] at h;obtain ⟨⟨⟨rfl,rfl⟩,rfl⟩,rfl⟩:=h;rfl
 ·rfl
 ·rfl
 ·simp at h
theorem xk {w:World} {H:J} {φ :ag} {A:ah} {s:aj} {a:Act} (ae:St w H φ A) (hs:SF w H φ A s a) {t:Nat} {ts:List Nat} {sh:List Sh} {y:AV} {H1:J} (h:aY sh (s.getD t .undef) H=some (y,H1)):
 Out w H φ A w H1 (aB φ H1) (gone φ A H1)∧SF w H1 (aB φ H1) (gone φ A H1) (fO (s.getD t .undef) (bh y) ts (s.set t (bh y))) a:=by
 have hl:=e9 _ _ _ _ _ h;have aW:bG w H φ A w H1 (aB φ H1) (gone φ A H1):=by
  have e:=cI (w:=w) (φ := φ) (A:=A) hl;exact ⟨fun c arr T fr hc hn=>⟨(e.fz c arr T fr hc hn).1,fun h2=>hn h2.1⟩,e.st,e.ids,e.sz⟩
 refine ⟨⟨(dK ae hl).shrink (fun c hc=>hc.1) (fun c hc=>⟨ae.own c (bA hc),fun _=>hc⟩),⟨rfl,rfl,rfl,Nat.le_refl _,fun _ _ _=>rfl,fun _ _=>rfl,fun c hc=> .inl (bA hc)⟩,aW,fun c hc hn=>⟨hc,fun ho=>absurd ho hn⟩⟩,?_⟩;have cT:=hs.mono aW;have one: ∀(k:Nat) (v:Value),s.getD k .undef=s.getD t .undef→a.tmps[k]? =some v→R w H1 (aB φ H1) (gone φ A H1) (bh y) v:=by
  intro k v hk hv;have hr:=hs.ev (.tmp k);simp only [ev,Act.eval] at hr;rw [Array.getD_eq_getD_getElem?,hv,hk] at hr;exact .fr _ _ (qk ae hr h (fun c hc=>hc))
 have base:SF w H1 (aB φ H1) (gone φ A H1) (s.set t (bh y)) a∧ ∀k,(s.set t (bh y)).getD k .undef=bh y∨(s.set t (bh y)).getD k .undef=s.getD k .undef:=by
  refine ⟨⟨by simpa using cT.len,fun k x v hx hv=> ?_,cT.eD⟩,fun k=> ?_⟩
  ·rw [List.getElem?_set] at hx;split at hx
   ·rename_i hk;subst hk;split at hx
    ·simp only [Option.some.injEq] at hx;subst hx;exact one t v rfl hv
    ·simp at hx
   ·exact cT.val k x v hx hv
  ·simp only [List.getD_eq_getElem?_getD,List.getElem?_set];split
   ·rename_i hk;subst hk;split
    ·exact .inl rfl
    ·rename_i aw;right;rw [List.getElem?_eq_none (by omega)]
   ·exact .inr rfl
 have gen: ∀(ts:List Nat) (s' :aj),SF w H1 (aB φ H1) (gone φ A H1) s' a→(∀k,eS (s'.getD k .undef) (s.getD t .undef)=true→s.getD k .undef=s.getD t .undef∨bh y=s.getD t .undef)→SF w H1 (aB φ H1) (gone φ A H1) (fO (s.getD t .undef) (bh y) ts s') a:=by
  intro ts;induction ts with
  |nil=>intro s' h _;exact h
  |cons k ks ih=>
   intro s' h1 h2
   simp only [fO];split
   ·rename_i qC;have hval: ∀v,a.tmps[k]? =some v→R w H1 (aB φ H1) (gone φ A H1) (bh y) v:=by
     intro v hv;rcases h2 k qC with e|e
     ·exact one k v e hv
     ·have:=h1.ev (.tmp k);simp only [ev,Act.eval] at this;rw [Array.getD_eq_getD_getElem?,hv,lN qC,←e] at this;exact this
    refine ih _ ⟨by simpa using h1.len,fun m x v hx hv=> ?_,h1.eD⟩ (fun m hm=> ?_)
    ·rw [List.getElem?_set] at hx;split at hx
     ·rename_i hk;subst hk;split at hx
      ·simp only [Option.some.injEq] at hx;subst hx;exact hval v hv
      ·simp at hx
     ·exact h1.val m x v hx hv
    ·simp only [List.getD_eq_getElem?_getD,List.getElem?_set] at hm;split at hm
     ·split at hm
      ·exact .inr (lN hm)
      ·rename_i hk aw;refine h2 m ?_;subst hk;rw [List.getD_eq_getElem?_getD,List.getElem?_eq_none (by omega)]
       exact hm
     ·exact h2 m (by rw [List.getD_eq_getElem?_getD];exact hm)
   ·exact ih s' h1 h2
 refine gen ts _ base.1 fun k hk=> ?_;rcases base.2 k with e|e
 ·rw [e] at hk;exact .inr (lN hk)
 ·rw [e] at hk;exact .inl (lN hk)
theorem od {w:World} {H:J} {φ :ag} {A:ah} {x:AV} {v:Value} (h:R w H φ A x v):R w H φ A (jL x) v:=by
 cases x with
 |nil=>have:=h.cR;subst this;exact .fr _ _ (.cG none 0)
 |e0=>obtain ⟨a,rfl⟩:=h.ek;exact .fr _ _ (.cG a 0)
 |_=>exact h
theorem xl {w:World} {H:J} {φ :ag} {A:ah} {x:AV} {v:Value} (h:R w H φ A x v):R w H φ A (dj x) v:=by
 cases x with
 |agg cs=>
  obtain ⟨vs,rfl,h1,h2,h3⟩:=h.fm;refine .agg _ _ (by simpa using h1) h2 fun i x v hx hv=> ?_
  simp only [List.getElem?_map,Option.map_eq_some_iff] at hx;obtain ⟨y,hy,rfl⟩:=hx;exact od (h3 i y v hy hv)
 |_=>exact od h
theorem xm {w:World} {H:J} {φ :ag} {A:ah} {s:aj} {a:Act} (t:Nat) (ae:St w H φ A) (hs:SF w H φ A s a): ∃ak A',Out w H φ A w (jh t s H).2 ak A' ∧SF w (jh t s H).2 ak A' (jh t s H).1 a:=by
 have plain: ∀v,s.getD t .undef=v→SF w H φ A (s.set t (dj v)) a:=by
  intro v hv;refine ⟨by simpa using hs.len,fun k x u hx hu=> ?_,hs.eD⟩
  rw [List.getElem?_set] at hx;split at hx
  ·rename_i hk;subst hk;split at hx
   ·simp only [Option.some.injEq] at hx;subst hx;have hr:=hs.ev (.tmp t);simp only [ev,Act.eval] at hr;rw [Array.getD_eq_getD_getElem?,hu,hv] at hr;exact xl hr
   ·simp at hx
  ·exact hs.val k x u hx hu
 have key: ∀v,s.getD t .undef=v→ ∃ak A',Out w H φ A w (match v with
  | .ref id ad _ _=>match H.ap id ad with
   |some b=>(s,H.bm id {b with el:=b.el.map dj})
   |none=>(s,H)
  |v=>(s.set t (dj v),H)).2 ak A' ∧SF w (match v with
  | .ref id ad _ _=>match H.ap id ad with
   |some b=>(s,H.bm id {b with el:=b.el.map dj})
   |none=>(s,H)
  |v=>(s.set t (dj v),H)).2 ak A' (match v with
  | .ref id ad _ _=>match H.ap id ad with
   |some b=>(s,H.bm id {b with el:=b.el.map dj})
   |none=>(s,H)
  |v=>(s.set t (dj v),H)).1 a:=by
  intro v hv;cases v with
  |ref id ad off len=>
   simp only;cases hb:H.ap id ad with
   |none=>exact ⟨φ,A,.refl ae,hs⟩
   |some b=>
    simp only;have hg:=(J.bn hb).1;have aw:=J.gZ hg;have br: ∀k,(H.bm id {b with el:=b.el.map dj}).get k=if k=id then some {b with el:=b.el.map dj} else H.get k:=by
     intro k;simp only [J.get,J.bm,List.getElem?_set];by_cases h:id=k
     ·subst h;simp [aw]
     ·have h' : ¬k=id:=fun e=>h e.symm
      simp [h,h']
    have aW:bG w H φ A w (H.bm id {b with el:=b.el.map dj}) φ A:=by
     refine ⟨fun c arr T fr hc hn=>⟨⟨fr,hc⟩,hn⟩,Nat.le_refl _,fun k b' hk _=> ?_,fun _ _=>rfl⟩
     rw [br] at hk;split at hk
     ·rename_i e;subst e;simp only [Option.some.injEq] at hk;subst hk;exact ⟨b,hg,rfl,rfl,rfl,by simp,fun _ h=>h⟩
     ·exact ⟨b',hk,rfl,rfl,rfl,rfl,fun _ h=>h⟩
    have xn:St w (H.bm id {b with el:=b.el.map dj}) φ A:=by
     refine ⟨ae.inj,ae.own,ae.b6,fun k loc hk=> ?_⟩;obtain ⟨b0,lO,af⟩:=ae.ap k loc hk;by_cases h:k=id
     ·subst h;rw [hg] at lO;simp only [Option.some.injEq] at lO;subst lO;refine ⟨{b with el:=b.el.map dj},by rw [br,if_pos rfl],af.ad,fun i x hx=> ?_,fun h=>by simp [af.aO h],fun c b0 he=> ?_⟩
      ·simp only [List.getElem?_map,Option.map_eq_some_iff] at hx;obtain ⟨y,hy,rfl⟩:=hx;rw [j7,List.length_map];exact af.sized i y hy
      ·obtain ⟨arr,T,fr,k1,k2,k3,k4⟩:=af.here c b0 he;refine ⟨arr,T,fr,k1,k2,by simpa using k3,fun i x j y v hx hy hv=> ?_⟩
       simp only [List.getElem?_map,Option.map_eq_some_iff] at hx;obtain ⟨x',bq,rfl⟩:=hx;rw [j7] at hy;simp only [List.getElem?_map,Option.map_eq_some_iff] at hy;obtain ⟨y',dS,rfl⟩:=hy;have:=k4 i x' j y' v bq dS hv
       exact ⟨od (this.1.mono aW),this.2⟩
     ·refine ⟨b0,by rw [br,if_neg h];exact lO,af.ad,af.sized,af.aO,fun c b1 he=> ?_⟩
      obtain ⟨arr,T,fr,k1,k2,k3,k4⟩:=af.here c b1 he;exact ⟨arr,T,fr,k1,k2,k3,fun i x j y v hx hy hv=>⟨(k4 i x j y v hx hy hv).1.mono aW,(k4 i x j y v hx hy hv).2⟩⟩
    exact ⟨φ,A,⟨xn,.refl _ _,aW,fun c hc _=>hc⟩,hs.mono aW⟩
  |_=>exact ⟨φ,A,.refl ae,plain _ hv⟩
 unfold jh;exact key _ rfl
theorem lP {w:World} {a:Act}: ∀(l:List (List Nat×List Sh)) {H:J} {φ :ag} {A:ah} {s s' :aj} {H' :J},St w H φ A→SF w H φ A s a→eg l s H=some (s',H')→
 ∃ak A',Out w H φ A w H' ak A' ∧SF w H' ak A' s' a
 |[],H,φ,A,s,s',H',ae,hs,h=>by
  simp only [eg,Option.some.injEq,Prod.mk.injEq] at h;obtain ⟨rfl,rfl⟩:=h;exact ⟨φ,A,.refl ae,hs⟩
 |([],sh)::l,H,φ,A,s,s',H',ae,hs,h=>by simp [eg] at h
 |(t::ts,[])::l,H,φ,A,s,s',H',ae,hs,h=>by
  simp only [eg] at h;obtain ⟨φ1,A1,h1,h2⟩:=xm t ae hs;obtain ⟨ak,A',h3,h4⟩:=lP l h1.st h2 h;exact ⟨ak,A',h1.trans ae h3,h4⟩
 |(t::ts,e::sh)::l,H,φ,A,s,s',H',ae,hs,h=>by
  simp only [eg] at h;split at h
  ·rename_i y H1 hy;obtain ⟨h1,h2⟩:=xk (ts:=ts) ae hs hy;obtain ⟨ak,A',h3,h4⟩:=lP l h1.st h2 h;exact ⟨ak,A',h1.trans ae h3,h4⟩
  ·simp at h
section code
variable {P:Program} {C:aI} {X:bw}
def Ends (Q:Exit→Act→World→Prop) (K:Ex→aj→J→Prop) (w:World) (H:J) (φ :ag) (A:ah):Prop:=
 ∀e s' H' ak A' a' w',Out w H φ A w' H' ak A' →SF w' H' ak A' s' a' →K e s' H' →Q (qB e) a' w'
theorem oe {w:World} {H:J} {φ :ag} {A:ah} {s:aj} {a:Act} {ops:Array Oper} {o:Oper} {b:Bool} (hs: ∀j dQ t,o.guard=some (j,dQ)→(ops[j]?).bind (·.dst)=some t→R w H φ A (ev s (.tmp t)) (a.eval (.tmp t))) (h:c6 ops o s=some b):Region.wanted o (yielded ops a.tmps)=b:=by
 unfold c6 at h;unfold Region.wanted;cases hg:o.guard with
 |none=>rw [hg] at h;simp at h;subst h;simp
 |some p=>
  obtain ⟨j,dQ⟩:=p;rw [hg] at h;simp only at h⊢;split at h
  ·rename_i t ht;have hv:=hs j dQ t hg ht;simp only [ev,Act.eval] at hv;split at h
   ·rename_i c hc;rw [hc] at hv;simp only [Option.some.injEq] at h;subst h;have:=hv.eB;have hy:yielded ops a.tmps j=some c:=by
     unfold yielded;rw [ht];simp only [Option.bind_some];rw [Array.getD_eq_getD_getElem?] at this;cases hq:a.tmps[t]? with
     |none=>rw [hq] at this;simp [undef] at this
     |some v=>rw [hq] at this;simp at this;subst this;rfl
    rw [hy];cases c<;>cases dQ<;>rfl
   ·rename_i cs hc;rw [hc] at hv;simp only [Option.some.injEq] at h;subst h;obtain ⟨vs,a9,_⟩:=hv.kX;have hy:yielded ops a.tmps j=none:=by
     unfold yielded;rw [ht];simp only [Option.bind_some];rw [Array.getD_eq_getD_getElem?] at a9;cases hq:a.tmps[t]? with
     |none=>rfl
     |some v=>rw [hq] at a9;simp at a9;subst a9;rfl
    rw [hy];cases dQ<;>rfl
   ·simp at h
  ·simp at h
theorem qD (hE: ∀t ti,C.E t=some ti→aT P t ti) (hX: ∀f ys H K,X f ys H K→db P f ys H K) {ops:Array Oper} {th:List Nat} {fz:List (Nat×List (List Nat×List Sh))} {K:aj→J→Prop} {Q:Exit→Act→World→Prop}:
 ∀(l:List Oper) (i:Nat) (s:aj) (H:J) (w:World) (φ :ag) (A:ah) (a:Act),c7 X C ops th fz K l i s H→St w H φ A→SF w H φ A s a→
  (∀s' H' ak A' a' w',Out w H φ A w' H' ak A' →SF w' H' ak A' s' a' →K s' H' →Q .normal a' w')→wpList P ops Q l a w
 |[],i,s,H,w,φ,A,a,h,ae,hs,hq=>hq s H φ A a w (.refl ae) hs h
 |o::rest,i,s0,H0,w,az,A0,a,h,cC,eA,xo=>by
  simp only [c7] at h;obtain ⟨s,H,hf,h⟩:=h;obtain ⟨φ,A,ho,hs⟩:=lP _ cC eA hf;have ae:=ho.st;have hq: ∀s' H' ak A' a' w',Out w H φ A w' H' ak A' →SF w' H' ak A' s' a' →K s' H' →Q .normal a' w' :=fun s' H' ak A' a' w' k1 k2 k3=>xo s' H' ak A' a' w' (ho.trans cC k1) k2 k3
  have next: ∀{x:AV} {v:Value} {w' :World} {H' :J} {ak:ag} {A' :ah},Out w H φ A w' H' ak A' →R w' H' ak A' x v→c7 X C ops th fz K rest (i+1) (bf s o.dst x) H' →wpList P ops Q rest (a.put o.dst v) w' :=by
   intro x v w' H' ak A' h1 h2 h3
   exact qD hE hX rest (i+1) _ H' w' ak A' _ h3 h1.st ((hs.mono h1.bX).set o.dst h2) fun s2 H2 a3 A2 a2 w2 k1 k2 k3=>hq s2 H2 a3 A2 a2 w2 (h1.trans ae k1) k2 k3
  simp only [wpList];cases hg:o.guard with
  |none=>
   rw [hg] at h;simp only at h;have hw:Region.wanted o (yielded ops a.tmps)=true:=by simp [Region.wanted,hg]
   rw [if_pos hw];exact .inl (ob hE hX ae (fun x _=>hs.ev x) h fun x v w' H' ak A' h1 h2 h3=>next h1 h2 h3)
  |some p=>
   rw [hg] at h;simp only at h;obtain ⟨v,H',h1,h2⟩:=h;split at h1
   ·rename_i b hb;have hw:=oe (fun _ _ t _ _=>hs.ev (.tmp t)) hb;cases b with
    |true=>
     rw [if_pos hw];simp only [if_true] at h1;exact .inl (ob hE hX ae (fun x _=>hs.ev x) h1 fun x u w' hO ak A' k1 k2 k3=>by obtain ⟨rfl,rfl⟩:=k3;exact next k1 k2 h2)
    |false=>
     rw [if_neg (by rw [hw];simp)]
     simp only [Bool.false_eq_true,if_false] at h1;obtain ⟨rfl,rfl⟩:=h1;exact next (.refl ae) (.fr _ _ (.aC [] #[] rfl (by simp))) h2
   ·exact h1.elim
def og (P:Program) (C:aI) (X:bw):Prop:=
 ∀(ops:Array Oper) (ay:List Nat) (th:List Nat) (s:aj) (H:J) (K:aj→J→Prop) (Q:Exit→Act→World→Prop) (w:World) (φ :ag) (A:ah) (a:Act),gY ops ay=true→
  cF X C ops (fun i=> !ay.contains i) (fk ops ay) th K ops.toList 0 s H→St w H φ A→SF w H φ A s a→(∀s' H' ak A' a' w',Out w H φ A w' H' ak A' →SF w' H' ak A' s' a' →K s' H' →Q .normal a' w')→wpAny P .any ops Q ops.size (Array.replicate ops.size false) a {w with drawn:=w.drawn+1}
theorem Ends.trans {Q:Exit→Act→World→Prop} {K:Ex→aj→J→Prop} {w w1:World} {H H1:J} {φ φ1:ag} {A A1:ah} (ae:St w H φ A) (h:Out w H φ A w1 H1 φ1 A1) (k:Ends Q K w H φ A):Ends Q K w1 H1 φ1 A1:=
 fun e s' H' ak A' a' w' h1 h2 h3=>k e s' H' ak A' a' w' (h.trans ae h1) h2 h3
theorem xp (hm:P.follows .mixedOrders=true) (hE: ∀t ti,C.E t=some ti→aT P t ti) (hX: ∀f ys H K,X f ys H K→db P f ys H K) (hD:og P C X) (p:jN):
 ∀(c:Code) (ck:Nat) (s:aj) (H:J) (K:Ex→aj→J→Prop) (Q:Exit→Act→World→Prop) (w:World) (φ :ag) (A:ah) (a:Act),dP p c=true→aL X C (dm p ck c) s H K→St w H φ A→SF w H φ A s a→Ends Q K w H φ A→c.wp P Q a w:=by
 intro c;induction c with
 |skip=>intro ck s H K Q w φ A a ho h ae hs hq;exact wp_skip (hq .normal s H φ A a w (.refl ae) hs h)
 |ret=>intro ck s H K Q w φ A a ho h ae hs hq;exact wp_ret (hq .ret s H φ A a w (.refl ae) hs h)
 |exit id=>intro ck s H K Q w φ A a ho h ae hs hq;exact wp_exit (hq (.exit id) s H φ A a w (.refl ae) hs h)
 |seq x y xq oi=>
  intro ck s H K Q w φ A a ho h ae hs hq;simp only [dm,aL] at h;simp only [dP,Bool.and_eq_true] at ho;refine wp_seq (xq ck s H _ _ w φ A a ho.1 h ae hs fun e s' H' ak A' a' w' h1 h2 h3=> ?_)
  cases e with
  |normal=>exact oi ck s' H' K Q w' ak A' a' ho.2 h3 h1.st h2 (Ends.trans ae h1 hq)
  |exit id=>exact hq (.exit id) s' H' ak A' a' w' h1 h2 h3
  |ret=>exact hq .ret s' H' ak A' a' w' h1 h2 h3
 |cond x y z oi xr=>
  intro ck s H K Q w φ A a ho h ae hs hq;simp only [dP,Bool.and_eq_true] at ho;have key: ∀(K:Ex→aj→J→Prop),aL X C (.cond x (dm p ck y) (dm p ck z)) s H K→Ends Q K w H φ A→(Code.cond x y z).wp P Q a w:=by
   intro K h hq;simp only [aL] at h;split at h
   ·rename_i t ht;have hv:=hs.ev x;rw [ht] at hv;refine wp_cond hv.eB ?_;cases t with
    |true=>exact oi ck s H K Q w φ A a ho.1 h ae hs hq
    |false=>exact xr ck s H K Q w φ A a ho.2 h ae hs hq
   ·exact h.elim
  simp only [dm] at h;unfold o3 at h;split at h
  ·rename_i kp _;simp only [aL,eg] at h;refine key _ h fun e s' H' ak A' a' w' h1 h2 h3=> ?_
   cases e with
   |normal=>exact hq .normal _ H' ak A' a' w' h1 (h2.kill kp) h3
   |exit id=>exact hq (.exit id) s' H' ak A' a' w' h1 h2 h3
   |ret=>exact hq .ret s' H' ak A' a' w' h1 h2 h3
  ·exact key K h hq
 |block id x ih=>
  intro ck s H K Q w φ A a ho h ae hs hq;simp only [dm,aL] at h;have lQ: ∀{w:World} {H:J} {φ :ag} {A:ah} {s:aj} {a:Act} (kp:Option (List Nat)),SF w H φ A s a→SF w H φ A (ef kp s) a:=by
   intro w H φ A s a kp h;cases kp with
   |none=>exact h
   |some l=>exact h.kill l
  simp only [dP] at ho;refine wp_block (ih id s H _ _ w φ A a ho h ae hs fun e s' H' ak A' a' w' h1 h2 h3=> ?_)
  cases e with
  |normal=>exact hq .normal _ H' ak A' a' w' h1 (lQ _ h2) h3
  |exit j=>
   simp only at h3;simp only [qB,Exit.inBlock];split at h3
   ·rename_i hj;rw [if_pos hj];exact hq .normal _ H' ak A' a' w' h1 (lQ _ h2) h3
   ·rename_i hj;rw [if_neg hj];exact hq (.exit j) s' H' ak A' a' w' h1 h2 h3
  |ret=>exact hq .ret s' H' ak A' a' w' h1 h2 h3
 |loop c ih=>
  intro ck s H K Q w φ A a ho h ae hs hq;simp only [dm,aL] at h;have qE: ∀{w:World} {H:J} {φ :ag} {A:ah} {s:aj} {a:Act} (sp:kU) (n:Nat),St w H φ A→SF w H φ A s a→ ∃ φ1,Out w H φ A w (gk sp n s H).2 φ1 A∧SF w (gk sp n s H).2 φ1 A (gk sp n s H).1 a:=by
   intro w H φ A s a sp n h1 h2;unfold gk;by_cases ht:sp.trim=true
   ·have ho:=xj h1 n;simp only [ht,if_true];exact ⟨_,ho,(h2.mono ho.bX).kill _⟩
   ·simp only [ht];exact ⟨φ,.refl h1,h2.kill _⟩
  intro b k cs;have main:=h (fun s H=> ∀(w:World) (φ :ag) (A:ah) (a:Act),St w H φ A→SF w H φ A s a→Ends Q K w H φ A→
   ∀(b:Frame) (k:List Item) (cs:List Frame),∃e a' w',Q e a' w' ∧Arrives P (lone (b.at a (.code c:: .inLoop c::k)) cs w) b k cs e a' w') (fun s H hB w φ A a ae hs hq b k cs=>by
    obtain ⟨e,a1,w1,gK,dq⟩:=ih ck s H _ (Exit.then (fun a1 w1=> ∀(b:Frame) (k:List Item) (cs:List Frame),∃e a' w',Q e a' w' ∧Arrives P (lone (b.at a1 (.code c:: .inLoop c::k)) cs w1) b k cs e a' w') Q) w φ A a (by simpa only [dP] using ho) hB ae hs (fun e s' H' ak A' a' w' h1 h2 h3=>by
     cases e with
     |normal=>
      obtain ⟨φ1,k1,k2⟩:=qE ((p.loops.lookup ck).getD {}) _ h1.st h2;exact h3 w' φ1 A' a' k1.st k2 (Ends.trans ae (h1.trans ae k1) hq)
     |exit id=>exact hq (.exit id) s' H' ak A' a' w' h1 h2 h3
     |ret=>exact hq .ret s' H' ak A' a' w' h1 h2 h3) b (.inLoop c::k) cs
    cases e with
    |normal=>
     obtain ⟨xt,a₂,xu,xv,xw⟩:=gK b k cs;exact ⟨xt,a₂,xu,xv,.of_steps (Steps.trans dq (.one step_inLoop)) xw⟩
    |exit id=>exact ⟨_,a1,w1,gK,.pass (x:= .inLoop c) rfl (fun _ _=> .inl (by simp)) dq⟩
    |goto l=>exact ⟨_,a1,w1,gK,.pass (x:= .inLoop c) rfl (fun _ _=> .inl (by simp)) dq⟩
    |ret=>exact ⟨_,a1,w1,gK,.pass (x:= .inLoop c) rfl (fun _ _=> .inl (by simp)) dq⟩
    |panic ch=>exact ⟨_,a1,w1,gK,.pass (x:= .inLoop c) rfl (fun _ _=> .inl (by simp)) dq⟩
    |outgrown=>exact ⟨_,a1,w1,gK,.pass (x:= .inLoop c) rfl (fun _ _=> .inl (by simp)) dq⟩)
  obtain ⟨φ1,k1,k2⟩:=qE ((p.loops.lookup ck).getD {}) H.bs.length ae hs;obtain ⟨e,a',w',xx,dq⟩:=main w φ1 A a k1.st k2 (Ends.trans ae k1 hq) b k cs;exact ⟨e,a',w',xx,.of_steps (.one step_loop) dq⟩
 |region id ops draw=>
  intro ck s H K Q w φ A a ho h ae hs hq;have key: ∀(K:Ex→aj→J→Prop),aL X C (kV (p.mD.lookup id) ((p.fz.lookup id).getD []) id (ik (p.fK.lookup id) ops) draw) s H K→Ends Q K w H φ A→(Code.region id ops draw).wp P Q a w:=by
   intro K h hq;cases draw with
   |false=>
    have eJ:ik (p.fK.lookup id) ops=ops:=by
     simp only [dP] at ho;cases hl:p.fK.lookup id with
     |none=>rfl
     |some π =>rw [hl] at ho;simp at ho
    rw [eJ] at h;have h' :c7 X C ops (match p.mD.lookup id with|some (_,th)=>th|none=>[]) ((p.fz.lookup id).getD []) (fun s H=>K .normal s H) ops.toList 0 s H:=by
     unfold kV at h;split at h
     ·rename_i n th he;rw [he];exact h
     ·rename_i he;rw [he];exact h
    exact wp_region_list (qD hE hX ops.toList 0 s H w φ A a h' ae hs fun s' H' ak A' a' w' h1 h2 h3=>hq .normal s' H' ak A' a' w' h1 h2 h3)
   |true=>
    have h' : ∃q th,gY (ik (p.fK.lookup id) ops) q=true∧cF X C (ik (p.fK.lookup id) ops) (fun i=> !q.contains i) (fk (ik (p.fK.lookup id) ops) q) th (fun s H=>K .normal s H) (ik (p.fK.lookup id) ops).toList 0 s H:=by
     unfold kV at h;split at h
     ·exact ⟨_,_,h.1,h.2⟩
     ·exact ⟨_,_,h.1,h.2⟩
    obtain ⟨q,th,hd,h'⟩:=h';have hw:=hD _ q th s H _ Q w φ A a hd h' ae hs fun s' H' ak A' a' w' h1 h2 h3=>hq .normal s' H' ak A' a' w' h1 h2 h3
    refine wp_region_any hm ?_;simp only [dP] at ho;cases hl:p.fK.lookup id with
    |none=>rw [hl] at hw;exact hw
    |some π =>
     rw [hl] at hw ho;simp only [Bool.true_and] at ho;exact xi (xc ho) hw
  simp only [dm] at h;unfold o0 at h;split at h
  ·rename_i l kp _;have lQ: ∀{w:World} {H:J} {φ :ag} {A:ah} {s:aj} {a:Act} (kp:Option (List Nat)),SF w H φ A s a→SF w H φ A (ef kp s) a:=by
    intro w H φ A s a kp h;cases kp with
    |none=>exact h
    |some l=>exact h.kill l
   simp only [aL] at h;refine key _ h fun e s' H' ak A' a' w' h1 h2 h3=> ?_
   cases e with
   |normal=>
    simp only at h3;split at h3
    ·rename_i s2 H2 hf;obtain ⟨a3,A2,k1,k2⟩:=lP l h1.st h2 hf;exact hq .normal _ H2 a3 A2 a' w' (h1.trans ae k1) (lQ kp k2) h3
    ·exact h3.elim
   |exit id=>exact hq (.exit id) s' H' ak A' a' w' h1 h2 h3
   |ret=>exact hq .ret s' H' ak A' a' w' h1 h2 h3
  ·exact key K h hq
 |_=>intro ck s H K Q w φ A a ho h ae hs hq;simp only [dm,aL] at h
end code
end Go.VS
namespace Go.VS
section body
variable {P:Program} {C:aI} {X:bw}
theorem oj (hE: ∀t ti,C.E t=some ti→aT P t ti) {w:World} {H:J} {φ :ag} {A:ah} {s:aj} {a:Act} (ae:St w H φ A) (hs:SF w H φ A s a) {f:ResultVar→Sem Value} (ku: ∀t,f (.tmp t)=pure (a.tmps.getD t undef)) (kx: ∀x t,f (.cell x t)=(do loadVar t (←asAddr (a.tmps.getD x undef)))):
 ∀(l:List ResultVar) (rs:List AV),fP C.E s H l=some rs→
 ∃cD:List Value,(l.mapM f).run P w= .ok cD w∧rs.length=cD.length∧ ∀(i:Nat) (x:AV) (u:Value),rs[i]? =some x→cD[i]? =some u→R w H φ A x u
 |[],rs,h=>by
  simp only [fP,Option.some.injEq] at h;subst h;exact ⟨[],by simp,rfl,by simp⟩
 | .tmp t::l,rs,h=>by
  simp only [fP,Option.map_eq_some_iff] at h;obtain ⟨ol,h1,rfl⟩:=h;obtain ⟨cD,k1,k2,k3⟩:=oj hE ae hs ku kx l ol h1
  refine ⟨a.tmps.getD t undef::cD,by simp [List.mapM_cons,k1,ku],by simp [k2],fun i x u hx hu=> ?_⟩
  cases i with
  |zero=>simp at hx hu;subst hx;subst hu;have:=hs.ev (.tmp t);simpa [ev,Act.eval] using this
  |succ i=>exact k3 i x u hx hu
 | .cell b t::l,rs,h=>by
  simp only [fP] at h;split at h
  ·rename_i v H' he
   simp only [Option.map_eq_some_iff] at h;obtain ⟨ol,h1,rfl⟩:=h;obtain ⟨cD,k1,k2,k3⟩:=oj hE ae hs ku kx l ol h1
   have hb:=hs.ev (.tmp b);simp only [aM] at he;obtain ⟨u,hu,hr⟩:=pq (P:=P) hE ae (aZ.refl H) hb he;have aJ:(do loadVar t (←asAddr (a.tmps.getD b undef)):Sem Value).run P w= .ok u w:=by
    revert hu;simp only [Act.eval];unfold Instr.loadAt;generalize a.tmps.getD b undef=q;intro hu;cases q with
    |pointer o=>cases o with
     |none=>simp [Instr.sureAddr] at hu
     |some o=>simpa [Instr.sureAddr,asAddr] using hu
    |_=>simp [Instr.sureAddr] at hu
   refine ⟨u::cD,by rw [List.mapM_cons,kx,Sem.run_bind,aJ];simp [k1],by simp [k2],fun i x u' hx aJ=> ?_⟩
   cases i with
   |zero=>simp at hx aJ;subst hx;subst aJ;exact hr
   |succ i=>exact k3 i x u' hx aJ
  ·simp at h
theorem xy (hE: ∀t ti,C.E t=some ti→aT P t ti) {w:World} {H:J} {φ :ag} {A:ah} {s:aj} {a:Act} (ae:St w H φ A) (hs:SF w H φ A s a) {fn:Func} {rs:List AV} (h:fP C.E s H fn.results.toList=some rs):
 ∃cD:List Value,(results fn a.tmps).run P w= .ok (hP cD) w∧rs.length=cD.length∧ ∀(i:Nat) (x:AV) (u:Value),rs[i]? =some x→cD[i]? =some u→R w H φ A x u:=by
 obtain ⟨f,ku,kx,xA⟩: ∃f:ResultVar→Sem Value,(∀t,f (.tmp t)=pure (a.tmps.getD t undef))∧(∀x t,f (.cell x t)=(do loadVar t (←asAddr (a.tmps.getD x undef))))∧
  results fn a.tmps=(do let vs←fn.results.mapM f;pure (if h:vs.size=1 then vs[0] else .tuple vs)):=⟨_,fun _=>rfl,fun _ _=>rfl,rfl⟩
 obtain ⟨cD,h1,h2,h3⟩:=oj hE ae hs ku kx fn.results.toList rs h;refine ⟨cD,?_,h2,h3⟩;rw [xA,Sem.run_bind,Array.mapM_eq_mapM_toList,Sem.run_map,h1]
 match cD with
 |[]=>simp [hP]
 |[u]=>simp [hP]
 |u::u' ::us=>simp [hP]
theorem xB (hm:P.follows .mixedOrders=true) (hE: ∀t ti,C.E t=some ti→aT P t ti) (hC: ∀f fn,C.code f=some fn→P.funcs[f]? =some fn∧(fn.name== "runtime.NumGoroutine")=false∧mG (C.fM f) fn=true) (hX: ∀f ys H K,X f ys H K→db P f ys H K) (hD:og P C X)
 {f:FuncId} {ys:List AV} {H:J} {K:AV→J→Prop} (h:Body X C f ys H K):db P f ys H K:=by
 unfold Body at h;split at h
 ·exact h.elim
 rename_i fn jU;split at h
 ·exact h.elim
 rename_i c hc;obtain ⟨hf,xC,ky⟩:=hC f fn jU;have ky:dP (C.fM f) c=true:=by unfold mG at ky;rw [hc] at ky;exact ky
 refine ⟨⟨fn,hf,xC,by simp [hc]⟩,fun w A φ us ae hl hr=> ?_⟩
 refine calls_of_wp hf hc (xp hm hE hX hD (C.fM f) c 0 _ H _ _ w φ A _ ky h ae ⟨by simp [hl],fun t x v hx hv=> ?_,rfl⟩ ?_)
 ·rcases Nat.lt_or_ge t us.size with ht|ht
  ·rw [List.getElem?_append_left (by rw [hl];exact ht)] at hx
   rw [Array.getElem?_append_left ht] at hv;exact hr t x v hx hv
  ·rw [List.getElem?_append_right (by rw [hl];exact ht)] at hx
   have:x= .undef:=by
    rw [List.getElem?_replicate] at hx;split at hx<;>simp at hx;exact hx.symm
   subst this;exact .fr _ _ (.undef _)
 ·intro e s' H' ak A' a' w' h1 h2 h3
  have fin:(∃rs,fP C.E s' H' fn.results.toList=some rs∧K (cd rs) H')→a'.defers=[]∧ ∃v,(results fn a'.tmps).run P w' = .ok v w' ∧iK w H φ A K (.returned v) w' :=by
   rintro ⟨rs,iN,hk⟩;refine ⟨h2.eD,?_⟩;obtain ⟨cD,k1,k2,k3⟩:=xy (P:=P) hE h1.st h2 iN;exact ⟨_,k1,_,H',ak,A',h1,nZ k2 k3,hk⟩
  cases e with
  |normal=>exact fin h3
  |ret=>exact fin h3
  |exit id=>exact h3.elim
end body
end Go.VS
namespace Go.VS
def fc (H H1:J):Prop:=aZ H H1∧H.bs.length≤H1.bs.length
theorem aZ.trans {H H1 H2:J} (h:aZ H H1) (k:aZ H1 H2):aZ H H2:=⟨fun id b hb=>k.1 id b (h.1 id b hb),Nat.le_trans h.2 k.2⟩
theorem fc.refl (H:J):fc H H:=⟨aZ.refl _,Nat.le_refl _⟩
theorem fc.trans {H H1 H2:J} (h:fc H H1) (k:fc H1 H2):fc H H2:=⟨h.1.trans k.1,Nat.le_trans h.2 k.2⟩
theorem fc.new (H:J) (sz:Nat) (fx:Bool) (el:List AV):fc H (H.new sz fx el):=⟨J.mZ H sz fx el,by simp [J.new]⟩
mutual
theorem om: ∀(y:AV) (H:J),fc H (aD y H).2
 | .own sz xs,H=>by simp only [aD];exact (hR xs H).trans (.new _ _ _ _)
 | .cY sz x,H=>by simp only [aD];exact (om x H).trans (.new _ _ _ _)
 | .agg xs,H=>by simp only [aD];exact hR xs H
 | .aC xs,H=>by simp only [aD];exact hR xs H
 | .undef,H=> .refl _
 | .int _ _,H=> .refl _
 | .bool _,H=> .refl _
 | .str _,H=> .refl _
 | .nil,H=> .refl _
 | .e0,H=> .refl _
 | .fz _,H=> .refl _
 | .ref _ _ _ _,H=> .refl _
 | .ptr _ _ _ _,H=> .refl _
 | .fe _ _,H=> .refl _
 | .fn _ _,H=> .refl _
 | .b9 _,H=> .refl _
 | .dc,H=> .refl _
theorem hR: ∀(ys:List AV) (H:J),fc H (aE ys H).2
 |[],H=> .refl _
 |y::ys,H=>by simp only [aE];exact (om y H).trans (hR ys _)
end
structure GH (G:J) (φ :ag) (H H1:J):Prop where
 ext:aZ H1 G
 none: ∀id,H.bs.length≤id→id<H1.bs.length→ φ id=none
theorem jz (H:J) (sz:Nat) (fx:Bool) (el:List AV):(H.new sz fx el).bs.length=H.bs.length+1:=by simp [J.new]
theorem GH.fst {G:J} {φ :ag} {H H1 H2:J} (h:GH G φ H H2) (k:fc H1 H2):GH G φ H H1:=⟨k.1.trans h.ext,fun id h1 h2=>h.none id h1 (Nat.lt_of_lt_of_le h2 k.2)⟩
section bd
variable {w:World}
structure MG (w:World) (L:J) (φL:ag) (AL:ah) (G:J) (φ :ag) (AH:ah) (L1:J) (φ1:ag) (lo hi:Nat):Prop where
 less:bj L L1
 bd:bP w L1 (aB φL L1) AL G φ1 AH
 oh: ∀c,Ow φ1 c→Ow φ c∨(Ow φL c∧ ¬Ow (aB φL L1) c)
 gB: ∀c,Ow φ c→Ow φ1 c
 bQ: ∀id loc,φ id=some loc→ φ1 id=some loc
 new: ∀id loc,φ1 id=some loc→ φ id=some loc∨(lo≤id∧id<hi)
 le:lo≤hi
theorem MG.eh {L:J} {φL:ag} {AL:ah} {G:J} {φ :ag} {AH:ah} {L1:J} {φ1:ag} {lo hi:Nat} (m:MG w L φL AL G φ AH L1 φ1 lo hi):bG w G φ AH w G φ1 AH:=
 ⟨fun _c _arr _T fr hc hn=>⟨⟨fr,hc⟩,hn⟩,Nat.le_refl _,fun id b hb _=>⟨b,hb,rfl,rfl,rfl,rfl,fun loc h=>m.bQ id loc h⟩,fun _ _=>rfl⟩
theorem MG.refl {L:J} {φL:ag} {AL:ah} {G:J} {φ :ag} {AH:ah} (h:bP w L φL AL G φ AH) (lo:Nat):MG w L φL AL G φ AH L φ lo lo:=
 ⟨.refl _,⟨dK h.sl (.refl _),h.sh,fun c hc=>h.bY c (bA hc),fun c hc=>h.dT c (bA hc)⟩,fun _c hc=> .inl hc,fun _c hc=>hc,fun _ _ h=>h,fun _ _ h=> .inl h,Nat.le_refl _⟩
theorem MG.trans {L L1 L2:J} {φL:ag} {AL:ah} {G:J} {φ φ1 a3:ag} {AH:ah} {lo mi hi:Nat} (h:MG w L φL AL G φ AH L1 φ1 lo mi) (k:MG w L1 (aB φL L1) AL G φ1 AH L2 a3 mi hi):MG w L φL AL G φ AH L2 a3 lo hi:=by
 have hr:=fA (φ := φL) k.less;refine ⟨h.less.trans k.less,by rw [←hr];exact k.bd,fun c hc=> ?_,fun c hc=>k.gB c (h.gB c hc),fun id loc hl=>k.bQ id loc (h.bQ id loc hl),fun id loc hl=> ?_,Nat.le_trans h.le k.le⟩
 ·rcases k.oh c hc with h1|⟨h1,h2⟩
  ·rcases h.oh c h1 with h3|⟨h3,h4⟩
   ·exact .inl h3
   ·refine .inr ⟨h3,fun h5=>h4 ?_⟩;rw [←hr] at h5;exact bA h5
  ·rw [hr] at h2;exact .inr ⟨bA h1,h2⟩
 ·have h1:=h.le;have h2:=k.le;rcases k.new id loc hl with h3|⟨h3,h4⟩
  ·rcases h.new id loc h3 with h5|⟨h5,h6⟩
   ·exact .inl h5
   ·exact .inr ⟨h5,by omega⟩
  ·exact .inr ⟨by omega,h4⟩
theorem GH.snd {L L1:J} {φL:ag} {AL:ah} {G:J} {φ φ1:ag} {AH:ah} {H H1 H2:J} (h:GH G φ H H2) (m:MG w L φL AL G φ AH L1 φ1 H.bs.length H1.bs.length):GH G φ1 H1 H2:=by
 refine ⟨h.ext,fun id h1 h2=> ?_⟩;cases hp: φ1 id with
 |none=>rfl
 |some loc=>
  have hle:=m.le;rcases m.new id loc hp with h3|⟨_,h3⟩
  ·rw [h.none id (by omega) h2] at h3;simp at h3
  ·omega
theorem qF {L L1:J} {φL:ag} {AL:ah} {G:J} {φ φ1:ag} {AH:ah} {lo hi:Nat} (m:MG w L φL AL G φ AH L1 φ1 lo hi) {ad sz:Nat} {fx:Bool} {el:List AV} {loc:Loc} (hg:G.get hi=some ⟨ad,sz,fx,el⟩) (bM:ad<G.st) (gF: φ hi=none)
 (dI: ∀(i:Nat) (x:AV),el[i]? =some x→x.cells.length=sz) (hv:loc= .aO→el=[])
 (dU: ∀c b0,loc= .at_ c b0→Ow φL c∧ ¬Ow (aB φL L1) c∧ ¬Ow φ1 c∧AH c∧ ∃arr T fr,w.heap[c]? =some (.cells arr T fr)∧(∀j,j<arr.size→ ¬(fr.1≤j∧j<fr.2))∧b0+el.length*sz≤arr.size∧
  ∀(i:Nat) (x:AV) (j:Nat) (y:AV) (v:Value),el[i]? =some x→x.cells[j]? =some y→arr[b0+i*sz+j]? =some v→R w G φ1 AH y v∧v.oneCell' =true):
 MG w L φL AL G φ AH L1 (fun i=>if i=hi then some loc else φ1 i) lo (hi+1):=by
 have eZ:=m.bd.sh;have hle:=m.le;have bp: φ1 hi=none:=by
  cases hp: φ1 hi with
  |none=>rfl
  |some l=>
   rcases m.new hi l hp with h|⟨_,h⟩
   ·rw [gF] at h;simp at h
   ·omega
 have aW:bG w G φ1 AH w G (fun i=>if i=hi then some loc else φ1 i) AH:=by
  refine ⟨fun c a t fr hc hn=>⟨⟨fr,hc⟩,hn⟩,Nat.le_refl _,fun id b hb aw=>⟨b,hb,rfl,rfl,rfl,rfl,fun l hl=> ?_⟩,fun _ _=>rfl⟩;rw [if_neg (by rintro rfl;rw [bp] at hl;simp at hl)];exact hl
 have dp: ∀c,Ow (fun i=>if i=hi then some loc else φ1 i) c→Ow φ1 c∨ ∃b0,loc= .at_ c b0:=by
  rintro c ⟨i,b,h⟩;try simp only at h
  split at h
  ·simp only [Option.some.injEq] at h;exact .inr ⟨b,h⟩
  ·exact .inl ⟨i,b,h⟩
 refine ⟨m.less,⟨m.bd.sl,⟨fun i i' c b b' h1 h2=> ?_,fun c hc=> ?_,eZ.b6,fun i l hl=> ?_⟩,fun c hc ho=> ?_,m.bd.dT⟩,fun c hc=> ?_,fun c hc=> ?_,fun id l hl=> ?_,fun id l hl=> ?_,by omega⟩
 ·try simp only at h1 h2
  split at h1
  ·rename_i hi;split at h2
   ·rename_i gw;omega
   ·simp only [Option.some.injEq] at h1;exact absurd ⟨i',b',h2⟩ (dU c b h1).2.2.1
  ·split at h2
   ·simp only [Option.some.injEq] at h2;exact absurd ⟨i,b,h1⟩ (dU c b' h2).2.2.1
   ·exact eZ.inj _ _ _ _ _ h1 h2
 ·rcases dp c hc with h|⟨b0,h⟩
  ·exact eZ.own c h
  ·exact (dU c b0 h).2.2.2.1
 ·try simp only at hl
  split at hl
  ·rename_i hi;subst hi;simp only [Option.some.injEq] at hl;subst hl;refine ⟨_,hg,bM,dI,hv,fun c b0 he=> ?_⟩;obtain ⟨_,_,_,_,arr,T,fr,k1,k2,k3,k4⟩:=dU c b0 he;exact ⟨arr,T,fr,k1,k2,k3,fun j x q y v bq hy cb=>⟨(k4 j x q y v bq hy cb).1.mono aW,(k4 j x q y v bq hy cb).2⟩⟩
  ·obtain ⟨bb,hb,af⟩:=eZ.ap i l hl;refine ⟨bb,hb,af.ad,af.sized,af.aO,fun c b0 he=> ?_⟩;obtain ⟨arr,T,fr,k1,k2,k3,k4⟩:=af.here c b0 he;exact ⟨arr,T,fr,k1,k2,k3,fun j x q y v bq hy cb=>⟨(k4 j x q y v bq hy cb).1.mono aW,(k4 j x q y v bq hy cb).2⟩⟩
 ·rcases dp c ho with h|⟨b0,h⟩
  ·exact m.bd.bY c hc h
  ·exact (dU c b0 h).2.1 hc
 ·rcases dp c hc with h|⟨b0,h⟩
  ·exact m.oh c h
  ·exact .inr ⟨(dU c b0 h).1,(dU c b0 h).2.1⟩
 ·obtain ⟨i,b,h⟩:=m.gB c hc
  exact ⟨i,b,by show (if i=hi then some loc else φ1 i)=_;rw [if_neg (by rintro rfl;rw [bp] at h;simp at h)];exact h⟩
 ·have:=m.bQ id l hl;rw [if_neg (by rintro rfl;rw [bp] at this;simp at this)];exact this
 ·try simp only at hl
  split at hl
  ·rename_i hi;subst hi;exact .inr ⟨hle,Nat.lt_succ_self _⟩
  ·rcases m.new id l hl with h|⟨h1,h2⟩
   ·exact .inl h
   ·exact .inr ⟨h1,by omega⟩
set_option maxRecDepth 4000
theorem qG {es:List Sh} (hE: ∀(x:AV) (vs:List Value) (L:J) (φL:ag) (AL:ah) (H G:J) (φ :ag) (AH:ah) (y:AV) (L1:J) (a:AV) (H1:J),bP w L φL AL G φ AH→GH G φ H H1→x.cells.length=vs.length→
 (∀(j:Nat) (c:AV) (u:Value),x.cells[j]? =some c→vs[j]? =some u→R w L φL AL c u)→aY es x L=some (y,L1)→aD y H=(a,H1)→fB AL AH y→
 ∃ φ1,MG w L φL AL G φ AH L1 φ1 H.bs.length H1.bs.length∧a.cells.length=x.cells.length∧ ∀(j:Nat) (c:AV) (u:Value),a.cells[j]? =some c→vs[j]? =some u→R w G φ1 AH c u):
 ∀(xs:List AV) (g:Nat→Nat→Value) (L:J) (φL:ag) (AL:ah) (H G:J) (φ :ag) (AH:ah) (ys:List AV) (L1:J) (as:List AV) (H1:J),bP w L φL AL G φ AH→GH G φ H H1→
  (∀(i:Nat) (x:AV) (j:Nat) (c:AV),xs[i]? =some x→x.cells[j]? =some c→R w L φL AL c (g i j))→cZ (aY es) xs L=some (ys,L1)→aE ys H=(as,H1)→dy AL AH ys→
  ∃ φ1,MG w L φL AL G φ AH L1 φ1 H.bs.length H1.bs.length∧as.length=xs.length∧(∀(i:Nat) (x a:AV),xs[i]? =some x→as[i]? =some a→a.cells.length=x.cells.length)∧
   ∀(i:Nat) (a:AV) (j:Nat) (c:AV),as[i]? =some a→a.cells[j]? =some c→R w G φ1 AH c (g i j)
 |[],g,L,φL,AL,H,G,φ,AH,ys,L1,as,H1,hd,hh,_,ht,hw,_=>by
  simp only [cZ,Option.some.injEq,Prod.mk.injEq] at ht;obtain ⟨rfl,rfl⟩:=ht;simp only [aE,Prod.mk.injEq] at hw;obtain ⟨rfl,rfl⟩:=hw;exact ⟨φ,.refl hd _,rfl,by simp,by simp⟩
 |x::xs,g,L,φL,AL,H,G,φ,AH,ys,L1,as,H1,hd,hh,hr,ht,hw,hk=>by
  simp only [cZ] at ht;split at ht
  ·rename_i y L' h1
   split at ht
   ·rename_i aQ cL h2
    simp only [Option.some.injEq,Prod.mk.injEq] at ht;obtain ⟨rfl,rfl⟩:=ht;obtain ⟨k1,k2⟩:=hk.cons;simp only [aE,Prod.mk.injEq] at hw;obtain ⟨rfl,rfl⟩:=hw
    let vs:List Value:=(List.range x.cells.length).map (g 0)
    obtain ⟨φ1,m1,l1,r1⟩:=hE x vs L φL AL H G φ AH y L' _ _ hd (hh.fst (hR _ _)) (by simp [vs]) (fun j c u hj hu=>by
     have dx:j<x.cells.length:=(List.getElem?_eq_some_iff.1 hj).1;have:vs[j]? =some (g 0 j):=by simp [vs,dx]
     rw [this] at hu;simp only [Option.some.injEq] at hu;subst hu;exact hr 0 x j c rfl hj) h1 rfl k1
    obtain ⟨a3,m2,l2,s2,r2⟩:=qG hE xs (fun i j=>g (i+1) j) L' (aB φL L') AL _ G φ1 AH aQ cL _ _ m1.bd (hh.snd m1) (fun i x' j c hi hj=>(hr (i+1) x' j c hi hj).mono (cI m1.less)) h2 rfl k2
    refine ⟨a3,m1.trans m2,by simp [l2],fun i x' a hx ha=> ?_,fun i a j c ha hc=> ?_⟩
    ·cases i with
     |zero=>simp at hx ha;subst hx;subst ha;exact l1
     |succ i=>exact s2 i x' a hx ha
    ·cases i with
     |zero=>
      simp only [List.getElem?_cons_zero,Option.some.injEq] at ha;subst ha;have hj:j<x.cells.length:=by rw [←l1];exact (List.getElem?_eq_some_iff.1 hc).1
      exact (r1 j c (g 0 j) hc (by simp [vs,hj])).mono m2.eh
     |succ i=>exact r2 i a j c ha hc
   ·simp at ht
  ·simp at ht
theorem qH {L:J} {φL:ag} {AL:ah} {G:J} {φ :ag} {AH:ah} (hd:bP w L φL AL G φ AH) {id ad:Nat} {b:bD} (hb:L.ap id ad=some b) {off n:Nat} (hle:off+n≤b.el.length) {sz:Nat} (hs:b.sz=sz) {loc:Loc} (aX: φL id=some loc)
 {L1:J} {as:List AV} {lo hi:Nat} {g:Nat→Nat→Value} {φ1:ag} (hg: ∀c b0 arr T fr,loc= .at_ c b0→w.heap[c]? =some (.cells arr T fr)→ ∀(i j:Nat) (v:Value),i<n→j<sz→arr[b0+(off+i)*sz+j]? =some v→g i j=v)
 (m:MG w (L.del id) (aB φL (L.del id)) AL G φ AH L1 φ1 lo hi) (hl:as.length=n) (dI: ∀(i:Nat) (a:AV),as[i]? =some a→a.cells.length=sz)
 (hr: ∀(i:Nat) (a:AV) (j:Nat) (c:AV),as[i]? =some a→a.cells[j]? =some c→R w G φ1 AH c (g i j)) {hN:Nat} (fx:Bool) (gL:G.get hi=some ⟨hN,sz,fx,as⟩) (bM:hN<G.st) (gF: φ hi=none) (loc' :Loc) (gD:loc' = .aO∧n=0∨ ∃c b0,loc= .at_ c b0∧loc' = .at_ c (b0+off*sz)):
 MG w L φL AL G φ AH L1 (fun i=>if i=hi then some loc' else φ1 i) lo (hi+1):=by
 have nC:=(J.bn hb).1;have nD:=(bj.del L id).trans m.less;have gE:aB (aB φL (L.del id)) L1=aB φL L1:=fA m.less;have m' :MG w L φL AL G φ AH L1 φ1 lo hi:=by
  refine ⟨nD,by have:=m.bd;rwa [gE] at this,fun c hc=> ?_,m.gB,m.bQ,m.new,m.le⟩
  rcases m.oh c hc with h|⟨h1,h2⟩
  ·exact .inl h
  ·rw [gE] at h2;exact .inr ⟨bA h1,h2⟩
 refine qF m' gL bM gF dI (fun hv=> ?_) (fun c b1 he=> ?_)
 ·rcases gD with ⟨_,h0⟩|⟨c,b0,_,h2⟩
  ·exact List.eq_nil_of_length_eq_zero (by omega)
  ·rw [h2] at hv;simp at hv
 ·rcases gD with ⟨h1,_⟩|⟨c',b0,h1,h2⟩
  ·rw [h1] at he;simp at he
  ·rw [h2] at he;simp only [Loc.at_.injEq] at he;obtain ⟨rfl,rfl⟩:=he;subst h1;have iF:Ow φL c' :=⟨id,b0,aX⟩
   have nE: ¬Ow (aB φL L1) c' :=by
    rintro ⟨i,bb,hi⟩;obtain ⟨e8,bk,aU⟩:=cW hi;have:=hd.sl.inj _ _ _ _ _ e8 aX;subst this;have:=m.less.get _ _ aU;rw [J.hJ,if_pos rfl] at this;simp at this
   refine ⟨iF,nE,fun ho=> ?_,hd.dT _ iF,?_⟩
   ·rcases m.oh c' ho with h|⟨⟨i,bb,hi⟩,_⟩
    ·exact hd.bY c' iF h
    ·obtain ⟨e8,bk,aU⟩:=cW hi;have:=hd.sl.inj _ _ _ _ _ e8 aX;subst this;rw [J.hJ,if_pos rfl] at aU;simp at aU
   ·obtain ⟨bk,aU,af⟩:=hd.sl.ap id _ aX;rw [nC] at aU;simp only [Option.some.injEq] at aU;subst aU;obtain ⟨arr,T,fr,k1,k2,k3,k4⟩:=af.here c' b0 rfl
    have hmul:off*sz+n*sz≤b.el.length*sz:=by rw [←Nat.add_mul];exact Nat.mul_le_mul_right _ hle
    refine ⟨arr,T,fr,k1,k2,by rw [hl];rw [hs] at k3;omega,fun i a j c v ha hc hv=> ?_⟩
    have hi:i<n:=by rw [←hl];exact (List.getElem?_eq_some_iff.1 ha).1
    have hj:j<sz:=by rw [←dI i a ha];exact (List.getElem?_eq_some_iff.1 hc).1
    have e:b0+off*sz+i*sz+j=b0+(off+i)*sz+j:=by rw [Nat.add_mul];omega
    rw [e] at hv;have nF:=hg c' b0 arr T fr rfl k1 i j v hi hj hv
    refine ⟨by rw [←nF];exact hr i a j c ha hc,?_⟩
    have cu:off+i<b.el.length:=by omega
    have hx:=List.getElem?_eq_getElem cu;have ca:=af.sized _ _ hx;exact (k4 (off+i) _ j _ v hx (List.getElem?_eq_getElem (by omega)) (by rw [hs];exact hv)).2
mutual
theorem lR (sh:Sh) (x:AV) (v:Value) (L:J) (φL:ag) (AL:ah) (H G:J) (φ :ag) (AH:ah) (y:AV) (L1:J) (a:AV) (H1:J) (hd:bP w L φL AL G φ AH) (hh:GH G φ H H1) (hx:R w L φL AL x v)
 (ht:aR sh x L=some (y,L1)) (hw:aD y H=(a,H1)) (hk:fB AL AH y): ∃ φ1,MG w L φL AL G φ AH L1 φ1 H.bs.length H1.bs.length∧R w G φ1 AH a v∧(x≠ .undef→a.cells=[a])∧(x= .undef→a= .undef):=by
 cases sh with
 |sc=>
  simp only [aR] at ht;split at ht
  ·rename_i hp;simp only [Option.some.injEq,Prod.mk.injEq] at ht;obtain ⟨rfl,rfl⟩:=ht;rw [pV hp] at hw;simp only [Prod.mk.injEq] at hw;obtain ⟨rfl,rfl⟩:=hw;exact ⟨φ,.refl hd _,pU hp hx,fun hu=>iG hu (by rintro cs rfl;simp [de] at hp),fun h=>h⟩
  ·simp at ht
 |sl es=>
  have kf: ∀{v0:Option Addr},v= .slice v0 0 0→aD (.own es.length []) H=(a,H1)→L1=L→ ∃ φ1,MG w L φL AL G φ AH L1 φ1 H.bs.length H1.bs.length∧R w G φ1 AH a v∧a.cells=[a]:=by
   intro v0 hv hw hL;subst hL;simp only [aD,aE,Prod.mk.injEq] at hw;obtain ⟨rfl,rfl⟩:=hw;have gL:=hh.ext.1 _ _ (J.dH H es.length false []);have bM:H.st<G.st:=Nat.lt_of_lt_of_le (Nat.lt_succ_self _) hh.ext.2;have m:=qF (MG.refl hd H.bs.length) gL bM (hh.none _ (Nat.le_refl _) (by rw [jz];exact Nat.lt_succ_self _)) (loc:= .aO) (by simp) (fun _=>rfl) (by simp)
   rw [←jz H es.length false []] at m;refine ⟨_,m,?_,rfl⟩;refine .ref _ _ _ _ _ bM ⟨_,_,hv⟩ fun b hb=> ?_;have:=ju gL hb;subst this;exact ⟨.aO,v0,0,by simp,hv,by simp,Nat.le_refl _,by simp,rfl,fun _=>rfl⟩
  cases x with
  |nil=>
   simp only [aR,Option.some.injEq,Prod.mk.injEq] at ht;obtain ⟨rfl,rfl⟩:=ht;obtain ⟨φ1,h1,h2,h3⟩:=kf hx.cR hw rfl;exact ⟨φ1,h1,h2,fun _=>h3,fun h=>by simp at h⟩
  |e0=>
   simp only [aR,Option.some.injEq,Prod.mk.injEq] at ht;obtain ⟨rfl,rfl⟩:=ht;obtain ⟨a0,kg⟩:=hx.ek;obtain ⟨φ1,h1,h2,h3⟩:=kf kg hw rfl;exact ⟨φ1,h1,h2,fun _=>h3,fun h=>by simp at h⟩
  |fz xs=>
   simp only [aR,Option.some.injEq,Prod.mk.injEq] at ht;obtain ⟨rfl,rfl⟩:=ht;simp only [aD,Prod.mk.injEq] at hw;obtain ⟨rfl,rfl⟩:=hw;rcases hk with hk|hk
   ·exact ⟨φ,.refl hd _,.fr _ _ (hx.dF.shrink hk),fun _=>rfl,fun h=>by simp at h⟩
   ·simp [cc] at hk
  |ref id ad off len=>
   simp only [aR] at ht;split at ht
   ·rename_i b hb;split at ht
    ·rename_i hc;obtain ⟨c1,c2,c3⟩:=hc;split at ht
     ·rename_i ys L' hm
      simp only [Option.some.injEq,Prod.mk.injEq] at ht;obtain ⟨rfl,rfl⟩:=ht;simp only [aD,Prod.mk.injEq] at hw;obtain ⟨rfl,rfl⟩:=hw;have hg:=(J.bn hb).1;obtain ⟨bM,_,hr⟩:=hx.dG;obtain ⟨loc,a0,cap,q1,rfl,q3,q4,q5,q6⟩:=(hr b hb).out;obtain ⟨bk,aU,af⟩:=hd.sl.ap id _ q1;rw [hg] at aU;simp only [Option.some.injEq] at aU;subst aU;have bu:dy AL AH ys:=by
       rcases hk with h|h
       ·exact .inl h
       ·exact .inr (by simpa [cc] using h)
      have cA:=bj.del L id;have bR:bP w (L.del id) (aB φL (L.del id)) AL G φ AH:=⟨dK hd.sl cA,hd.sh,fun c hc=>hd.bY c (bA hc),fun c hc=>hd.dT c (bA hc)⟩
      have a_:(aF b.el off len).length=len:=by simp [aF];omega
      have fC: ∀(i:Nat) (x:AV),(aF b.el off len)[i]? =some x→b.el[off+i]? =some x:=by
       intro i x hi;simp only [aF,List.getElem?_take,List.getElem?_drop] at hi;split at hi
       ·exact hi
       ·simp at hi
      let g:Nat→Nat→Value:=match loc with
       | .aO=>fun _ _=>undef
       | .at_ c b0=>fun i j=>match w.heap[c]? with
        |some (.cells arr _ _)=>arr.getD (b0+(off+i)*es.length+j) undef
        |_=>undef
      have gA: ∀(i:Nat) (x:AV) (j:Nat) (c:AV),(aF b.el off len)[i]? =some x→x.cells[j]? =some c→R w (L.del id) (aB φL (L.del id)) AL c (g i j):=by
       intro i x j c hi hj;have bq:=fC i x hi
       have b8:i<len:=by rw [←a_];exact (List.getElem?_eq_some_iff.1 hi).1
       cases loc with
       |aO=>have:=af.aO rfl;rw [this] at bq;simp at bq
       |at_ c0 b0=>
        obtain ⟨arr,T,fr,k1,k2,k3,k4⟩:=af.here c0 b0 rfl;have dx:j<b.sz:=by rw [←af.sized _ _ bq];exact (List.getElem?_eq_some_iff.1 hj).1
        have hle:=ct (n:=b.sz) (show off+i<b.el.length by omega)
        have aw:b0+(off+i)*b.sz+j<arr.size:=by omega
        have:g i j=arr[b0+(off+i)*b.sz+j]:=by
         simp only [g,k1,←c1,Array.getD_eq_getD_getElem?,Array.getElem?_eq_getElem aw,Option.getD_some]
        rw [this];exact ((k4 _ _ _ _ _ bq hj (Array.getElem?_eq_getElem aw)).1).mono (cI cA)
      obtain ⟨φ1,m,l1,s1,r1⟩:=qG (w:=w) (es:=es) (fun x vs L φL AL H G φ AH y L1 a H1=>qI es x vs L φL AL H G φ AH y L1 a H1) _ g _ _ _ _ _ _ _ _ _ _ _ bR (hh.fst (.new _ _ _ _)) gA hm rfl bu
      rw [a_] at l1;have kh: ∀(i:Nat) (a:AV),(aE ys H).1[i]? =some a→a.cells.length=b.sz:=by
       intro i a ha;have b8:i<(aF b.el off len).length:=by rw [a_,←l1];exact (List.getElem?_eq_some_iff.1 ha).1
       have hM:=List.getElem?_eq_getElem b8;rw [s1 i _ a hM ha];exact af.sized _ _ (fC i _ hM)
      have nG: ∀c b0 arr T fr,loc= .at_ c b0→w.heap[c]? =some (.cells arr T fr)→ ∀(i j:Nat) (v:Value),i<len→j<b.sz→arr[b0+(off+i)*b.sz+j]? =some v→g i j=v:=by
       intro c b0 arr T fr hl hh i j v _ _ hv;subst hl;simp only [g,hh,←c1,Array.getD_eq_getD_getElem?,hv,Option.getD_some]
      let loc' :Loc:=match loc with
       | .aO=> .aO
       | .at_ c b0=>if cap=0 then .aO else .at_ c (b0+off*b.sz)
      have gD:loc' = .aO∧len=0∨ ∃c b0,loc= .at_ c b0∧loc' = .at_ c (b0+off*b.sz):=by
       cases loc with
       |aO=>left;refine ⟨rfl,?_⟩;have:=af.aO rfl;rw [this] at q3;simp at q3;omega
       |at_ c b0=>
        by_cases dV:cap=0
        ·left;exact ⟨by simp [loc',dV],by omega⟩
        ·right;exact ⟨c,b0,rfl,by simp [loc',dV]⟩
      have gL:=hh.ext.1 _ _ (J.dH (aE ys H).2 es.length false (aE ys H).1);have bM:(aE ys H).2.st<G.st:=Nat.lt_of_lt_of_le (Nat.lt_succ_self _) hh.ext.2;have M:=qH hd hb c2 rfl q1 nG m l1 kh r1 false (by rw [c1];exact gL) bM (hh.none _ (hR ys H).2 (by rw [jz];exact Nat.lt_succ_self _)) loc' gD
      rw [←jz (aE ys H).2 es.length false (aE ys H).1] at M;refine ⟨_,M,?_,fun _=>rfl,fun h=>by simp at h⟩
      refine .ref _ _ _ _ _ bM ⟨a0,cap,by rw [l1]⟩ fun b' ax=> ?_
      have:=ju gL ax;subst this;refine ⟨loc',a0,cap,by simp,by rw [l1],by simp,by omega,by simp only;omega,?_⟩
      cases loc with
      |aO=>
       simp only at q6;have dt:len=0:=by have:=af.aO rfl;rw [this] at q3;simp at q3;omega
       refine ⟨List.eq_nil_of_length_eq_zero (by rw [l1,dt]),fun _=> ?_⟩
       rcases c3 with c3|c3
       ·exact q6.2 c3
       ·omega
      |at_ c b0=>
       simp only at q6;by_cases dV:cap=0
       ·simp only [loc',dV,if_true];exact ⟨List.eq_nil_of_length_eq_zero (by omega),fun _=>by first|trivial|omega|rfl⟩
       ·simp only [loc',dV,if_false];rcases q6 with q6|⟨h1,h2⟩
        ·exact absurd q6 dV
        ·refine Or.inr ⟨by rw [h1];simp,?_⟩
         rw [c1] at h2⊢;have:(off+cap)*es.length=off*es.length+cap*es.length:=Nat.add_mul _ _ _;simp only [Nat.zero_add];omega
     ·simp at ht
    ·simp at ht
   ·simp at ht
  |_=>simp [aR] at ht
 |pt es=>
  cases x with
  |fe z o=>
   simp only [aR,Option.some.injEq,Prod.mk.injEq] at ht;obtain ⟨rfl,rfl⟩:=ht;simp only [aD,Prod.mk.injEq] at hw;obtain ⟨rfl,rfl⟩:=hw;rcases hk with hk|hk
   ·exact ⟨φ,.refl hd _,.fr _ _ (hx.ej.shrink hk),fun _=>rfl,fun h=>by simp at h⟩
   ·simp [cc] at hk
  |ptr id ad idx off=>
   rcases idx with _|idx
   rotate_left
   ·simp [aR] at ht
   rcases off with _|off
   rotate_left
   ·simp [aR] at ht
   simp only [aR] at ht;split at ht
   ·rename_i nH sz nI z hb;split at ht
    ·rename_i y' L' hm
     simp only [Option.some.injEq,Prod.mk.injEq] at ht;obtain ⟨rfl,rfl⟩:=ht;simp only [aD,Prod.mk.injEq] at hw;obtain ⟨rfl,rfl⟩:=hw;have hg:=(J.bn hb).1;obtain ⟨bM,_,hr⟩:=hx.eW;obtain ⟨c,b0,q1,rfl⟩:=hr _ hb;obtain ⟨bk,aU,af⟩:=hd.sl.ap id _ q1;rw [hg] at aU;simp only [Option.some.injEq] at aU;subst aU;obtain ⟨arr,T,fr,k1,k2,k3,k4⟩:=af.here c b0 rfl;have bu:fB AL AH y' :=by
      rcases hk with h|h
      ·exact .inl h
      ·exact .inr (by simpa [cc] using h)
     have cA:=bj.del L id;have bR:bP w (L.del id) (aB φL (L.del id)) AL G φ AH:=⟨dK hd.sl cA,hd.sh,fun c hc=>hd.bY c (bA hc),fun c hc=>hd.dT c (bA hc)⟩
     have cU:z.cells.length=sz:=af.sized 0 z rfl;simp only [List.length_singleton,Nat.one_mul] at k3
     let vs:List Value:=(arr.extract b0 (b0+sz)).toList
     have dg:vs.length=sz:=by simp [vs];omega
     have fD: ∀j u,vs[j]? =some u→arr[b0+j]? =some u:=by
      intro j u hu;simp only [vs,Array.getElem?_toList,Array.getElem?_extract] at hu;split at hu
      ·exact hu
      ·simp at hu
     obtain ⟨φ1,m,l1,r1⟩:=qI es z vs _ _ _ _ _ _ _ _ _ _ _ bR (hh.fst (.new _ _ _ _)) (by rw [dg,cU]) (fun j c' u hj hu=>((k4 0 z j c' u rfl hj (by simpa using fD j u hu)).1).mono (cI cA)) hm rfl bu
     have gL:=hh.ext.1 _ _ (J.dH (aD y' H).2 sz false [(aD y' H).1])
     have bM:(aD y' H).2.st<G.st:=Nat.lt_of_lt_of_le (Nat.lt_succ_self _) hh.ext.2
     have M:=qH (as:=[(aD y' H).1]) (n:=1) (off:=0) (sz:=sz) (loc' := .at_ c b0) (g:=fun i j=>vs.getD j undef) hd hb (by simp) rfl q1 (fun c' nJ arr' T' ez hl hh i j v hi hj hv=>by
      simp only [Loc.at_.injEq] at hl;obtain ⟨rfl,rfl⟩:=hl;rw [k1] at hh;simp only [Option.some.injEq,Obj.cells.injEq] at hh;obtain ⟨rfl,_,_⟩:=hh;have iH:i=0:=by omega
      subst iH;simp only [Nat.zero_mul,Nat.add_zero] at hv;have:vs[j]? =some v:=by
       simp only [vs,Array.getElem?_toList,Array.getElem?_extract];rw [if_pos (by omega)];exact hv
      simp [List.getD,this]) m rfl (fun i a ha=>by
      cases i with
      |zero=>simp at ha;subst ha;rw [l1,cU]
      |succ i=>simp at ha) (fun i a j c' ha hc=>by
      cases i with
      |zero=>
       simp at ha;subst ha;have hj:j<vs.length:=by rw [dg,←cU,←l1];exact (List.getElem?_eq_some_iff.1 hc).1
       have:=r1 j c' vs[j] hc (List.getElem?_eq_getElem hj)
       simpa [List.getD,hj] using this
      |succ i=>simp at ha) false gL bM (hh.none _ (om y' H).2 (by rw [jz];exact Nat.lt_succ_self _)) (.inr ⟨c,b0,rfl,by simp⟩)
     rw [←jz (aD y' H).2 sz false [(aD y' H).1]] at M
     refine ⟨_,M,?_,fun _=>rfl,fun h=>by simp at h⟩
     refine .ptr _ _ _ _ _ bM ⟨_,rfl⟩ fun b' ax=>⟨c,b0,by simp,?_⟩
     simp
    ·simp at ht
   ·simp at ht
  |_=>simp [aR] at ht
 termination_by (SizeOf.sizeOf sh,0)
theorem qI (es:List Sh) (x:AV) (vs:List Value) (L:J) (φL:ag) (AL:ah) (H G:J) (φ :ag) (AH:ah) (y:AV) (L1:J) (a:AV) (H1:J) (hd:bP w L φL AL G φ AH) (hh:GH G φ H H1) (hl:x.cells.length=vs.length)
 (hx: ∀(j:Nat) (c:AV) (u:Value),x.cells[j]? =some c→vs[j]? =some u→R w L φL AL c u) (ht:aY es x L=some (y,L1)) (hw:aD y H=(a,H1)) (hk:fB AL AH y):
 ∃ φ1,MG w L φL AL G φ AH L1 φ1 H.bs.length H1.bs.length∧a.cells.length=x.cells.length∧ ∀(j:Nat) (c:AV) (u:Value),a.cells[j]? =some c→vs[j]? =some u→R w G φ1 AH c u:=by
 by_cases bO: ∃cs,x= .agg cs
 ·obtain ⟨cs,rfl⟩:=bO;have cJ: ∃aS,cj es cs L=some (aS,L1)∧y= .agg aS:=by
   match es,ht with
   |[],ht=>
    simp only [aY] at ht;split at ht
    ·rename_i aS L' hc
     simp only [Option.some.injEq,Prod.mk.injEq] at ht;obtain ⟨rfl,rfl⟩:=ht;exact ⟨aS,hc,rfl⟩
    ·simp at ht
   |[e],ht=>
    simp only [aY] at ht;split at ht
    ·rename_i aS L' hc
     simp only [Option.some.injEq,Prod.mk.injEq] at ht;obtain ⟨rfl,rfl⟩:=ht;exact ⟨aS,hc,rfl⟩
    ·simp at ht
   |e::e' ::es,ht=>
    simp only [aY] at ht;split at ht
    ·rename_i aS L' hc
     simp only [Option.some.injEq,Prod.mk.injEq] at ht;obtain ⟨rfl,rfl⟩:=ht;exact ⟨aS,hc,rfl⟩
    ·simp at ht
  obtain ⟨aS,hc,rfl⟩:=cJ;simp only [aD,Prod.mk.injEq] at hw;obtain ⟨rfl,rfl⟩:=hw;have bu:dy AL AH aS:=by
   rcases hk with h|h
   ·exact .inl h
   ·exact .inr (by simpa [cc] using h)
  exact oo es cs vs L φL AL H G φ AH aS L1 _ _ hd hh hl hx hc rfl bu
 ·have c9: ∀cs,x≠ .agg cs:=fun cs h=>bO ⟨cs,h⟩
  match es,ht with
  |[e],ht=>
   have cJ:aR e x L=some (y,L1):=by
    cases x<;>first|(simpa only [aY] using ht)|exact absurd rfl (c9 _)
   by_cases hu:x= .undef
   ·subst hu;have fl:vs=[]:=List.eq_nil_of_length_eq_zero (by simpa [AV.cells] using hl.symm)
    subst fl;obtain ⟨φ1,m,_,_,h4⟩:=lR e .undef undef L φL AL H G φ AH y L1 a H1 hd hh (.fr _ _ (.undef _)) cJ hw hk
    exact ⟨φ1,m,by rw [h4 rfl],by simp⟩
   ·have cX:=iG hu c9;rw [cX] at hl;obtain ⟨v,rfl⟩: ∃v,vs=[v]:=by
     match vs,hl with
     |[v],_=>exact ⟨v,rfl⟩
    obtain ⟨φ1,m,h2,h3,_⟩:=lR e x v L φL AL H G φ AH y L1 a H1 hd hh (hx 0 x v (by rw [cX];rfl) rfl) cJ hw hk
    refine ⟨φ1,m,by rw [h3 hu,cX];rfl,fun j c u hj aJ=> ?_⟩
    rw [h3 hu] at hj;cases j with
    |zero=>simp at hj aJ;subst hj;subst aJ;exact h2
    |succ j=>simp at hj
  |[],ht=>cases x<;>first|(simp [aY] at ht;done)|exact absurd rfl (c9 _)
  |_::_::_,ht=>cases x<;>first|(simp [aY] at ht;done)|exact absurd rfl (c9 _)
 termination_by (SizeOf.sizeOf es,1)
theorem oo (es:List Sh) (cs:List AV) (vs:List Value) (L:J) (φL:ag) (AL:ah) (H G:J) (φ :ag) (AH:ah) (ys:List AV) (L1:J) (as:List AV) (H1:J) (hd:bP w L φL AL G φ AH) (hh:GH G φ H H1) (hl:cs.length=vs.length)
 (hx: ∀(j:Nat) (c:AV) (u:Value),cs[j]? =some c→vs[j]? =some u→R w L φL AL c u) (ht:cj es cs L=some (ys,L1)) (hw:aE ys H=(as,H1)) (hk:dy AL AH ys):
 ∃ φ1,MG w L φL AL G φ AH L1 φ1 H.bs.length H1.bs.length∧as.length=cs.length∧ ∀(j:Nat) (c:AV) (u:Value),as[j]? =some c→vs[j]? =some u→R w G φ1 AH c u:=by
 match es,cs,ht with
 |[],[],ht=>
  simp only [cj,Option.some.injEq,Prod.mk.injEq] at ht;obtain ⟨rfl,rfl⟩:=ht;simp only [aE,Prod.mk.injEq] at hw;obtain ⟨rfl,rfl⟩:=hw;exact ⟨φ,.refl hd _,rfl,by simp⟩
 |e::es,x::cs,ht=>
  simp only [cj] at ht;split at ht
  ·rename_i y L' h1
   split at ht
   ·rename_i aQ cL h2
    simp only [Option.some.injEq,Prod.mk.injEq] at ht;obtain ⟨rfl,rfl⟩:=ht;simp only [aE,Prod.mk.injEq] at hw;obtain ⟨rfl,rfl⟩:=hw;obtain ⟨k1,k2⟩:=hk.cons
    match vs,hl with
    |v::vs,hl=>
     obtain ⟨φ1,m1,r1,_,_⟩:=lR e x v L φL AL H G φ AH y L' _ _ hd (hh.fst (hR _ _)) (hx 0 x v rfl rfl) h1 rfl k1
     obtain ⟨a3,m2,l2,r2⟩:=oo es cs vs L' (aB φL L') AL _ G φ1 AH aQ cL _ _ m1.bd (hh.snd m1) (by simpa using hl) (fun j c u hj hu=>(hx (j+1) c u hj hu).mono (cI m1.less)) h2 rfl k2
     refine ⟨a3,m1.trans m2,by simp [l2],fun j c u hj hu=> ?_⟩
     cases j with
     |zero=>simp at hj hu;subst hj;subst hu;exact r1.mono m2.eh
     |succ j=>exact r2 j c u hj hu
   ·simp at ht
  ·simp at ht
 |[],_::_,ht=>simp [cj] at ht
 |_::_,[],ht=>simp [cj] at ht
 termination_by (SizeOf.sizeOf es,0)
end
end bd
end Go.VS
namespace Go.VS
section bd
variable {w:World} {AL AH:ah}
theorem xD {es:List Sh} {x:AV} {v:Value} {L:J} {φL:ag} {H G:J} {φ :ag} {y:AV} {L1:J} {a:AV} {H1:J} (hd:bP w L φL AL G φ AH) (hh:GH G φ H H1) (hx:R w L φL AL x v)
 (ht:aY es x L=some (y,L1)) (hw:aD y H=(a,H1)) (hk:fB AL AH y): ∃ φ1,MG w L φL AL G φ AH L1 φ1 H.bs.length H1.bs.length∧R w G φ1 AH a v:=by
 by_cases bO: ∃cs,x= .agg cs
 ·obtain ⟨cs,rfl⟩:=bO;obtain ⟨aS,hc,rfl⟩:=kj ht;simp only [aD,Prod.mk.injEq] at hw;obtain ⟨rfl,rfl⟩:=hw;have bu:dy AL AH aS:=by
   rcases hk with h|h
   ·exact .inl h
   ·exact .inr (by simpa [cc] using h)
  obtain ⟨vs,rfl,hl,ho,hp⟩:=hx.fm;obtain ⟨φ1,m,l1,r1⟩:=oo es cs vs.toList L φL AL H G φ AH aS L1 _ _ hd hh (by simpa using hl) (fun j c u hj hu=>hp j c u hj (by simpa using hu)) hc rfl bu
  exact ⟨φ1,m,.agg _ _ (by rw [l1,hl]) ho fun i x v hx hv=>r1 i x v hx (by simpa using hv)⟩
 ·obtain ⟨e,rfl,cJ⟩:=iI (fun cs h=>bO ⟨cs,h⟩) ht;obtain ⟨φ1,m,r,_⟩:=lR e x v L φL AL H G φ AH y L1 a H1 hd hh hx cJ hw hk
  exact ⟨φ1,m,r⟩
theorem qJ: ∀(sh:List (List Sh)) (rs:List AV) (us:List Value) (L:J) (φL:ag) (H G:J) (φ :ag) (ys:List AV) (L1:J),bP w L φL AL G φ AH→GH G φ H (aE ys H).2→rs.length=us.length→
 (∀(i:Nat) (x:AV) (u:Value),rs[i]? =some x→us[i]? =some u→R w L φL AL x u)→cQ sh rs L=some (ys,L1)→dy AL AH ys→
 ∃ φ1,MG w L φL AL G φ AH L1 φ1 H.bs.length (aE ys H).2.bs.length∧(aE ys H).1.length=us.length∧ ∀(i:Nat) (x:AV) (u:Value),(aE ys H).1[i]? =some x→us[i]? =some u→R w G φ1 AH x u
 |sh,[],us,L,φL,H,G,φ,ys,L1,hd,hh,hl,hr,ht,hk=>by
  simp only [cQ,Option.some.injEq,Prod.mk.injEq] at ht;obtain ⟨rfl,rfl⟩:=ht;exact ⟨φ,.refl hd _,hl,by simp [aE]⟩
 |sh,x::rs,u::us,L,φL,H,G,φ,ys,L1,hd,hh,hl,hr,ht,hk=>by
  simp only [cQ] at ht;split at ht
  rotate_left
  ·simp at ht
  rename_i y L' h1
  split at ht
  rotate_left
  ·simp at ht
  rename_i aQ cL h2
  simp only [Option.some.injEq,Prod.mk.injEq] at ht;obtain ⟨rfl,rfl⟩:=ht;obtain ⟨k1,k2⟩:=hk.cons;obtain ⟨φ1,m1,r1⟩:=xD (y:=y) (H:=H) hd (hh.fst (H1:=(aD y H).2) (hR aQ (aD y H).2)) (hr 0 x u rfl rfl) h1 rfl k1
  obtain ⟨a3,m2,l2,r2⟩:=qJ sh.tail rs us L' (aB φL L') (aD y H).2 G φ1 aQ cL m1.bd (hh.snd m1) (by simpa using hl) (fun i x u hx hu=>(hr (i+1) x u hx hu).mono (cI m1.less)) h2 k2
  refine ⟨a3,m1.trans m2,by simp [aE,l2],fun i x' u' hx hu=> ?_⟩
  cases i with
  |zero=>simp [aE] at hx hu;subst hx;subst hu;exact r1.mono m2.eh
  |succ i=>simp only [aE,List.getElem?_cons_succ] at hx hu;exact r2 i x' u' hx hu
 |sh,x::rs,[],L,φL,H,G,φ,ys,L1,hd,hh,hl,hr,ht,hk=>by simp at hl
end bd
theorem lS {H G:J} (h:aZ H G): ∀(n:Nat) (x y:AV),aV n H x=some y→aV n G x=some y
 |0,x,y,hs=>by simp [aV] at hs
 |n+1,x,y,hs=>by
  have hm: ∀(xs ys:List AV),xs.mapM (aV n H)=some ys→xs.mapM (aV n G)=some ys:=by
   intro xs;induction xs with
   |nil=>intro ys h;simpa using h
   |cons z xs ih=>
    intro ys hy;simp only [List.mapM_cons,Option.bind_eq_bind,Option.bind_eq_some_iff,Option.pure_def,Option.some.injEq] at hy⊢;obtain ⟨a,h1,b,h2,h3⟩:=hy;exact ⟨a,lS h n z a h1,b,ih b h2,h3⟩
  cases x with
  |agg cs=>
   simp only [aV,Option.map_eq_some_iff] at hs⊢;obtain ⟨ys,h1,h2⟩:=hs;exact ⟨ys,hm _ _ h1,h2⟩
  |fn f cs=>
   simp only [aV,Option.map_eq_some_iff] at hs⊢;obtain ⟨ys,h1,h2⟩:=hs;exact ⟨ys,hm _ _ h1,h2⟩
  |ref id ad off len=>
   simp only [aV] at hs⊢;split at hs
   ·rename_i b hb;rw [h.ap hb];simp only;split at hs
    ·rename_i hle;rw [if_pos hle];simp only [Option.map_eq_some_iff] at hs⊢;obtain ⟨ys,h1,h2⟩:=hs;exact ⟨ys,hm _ _ h1,h2⟩
    ·simp at hs
   ·simp at hs
  |ptr id ad idx off=>
   simp only [aV] at hs⊢;split at hs
   ·rename_i b hb;rw [h.ap hb];simp only;split at hs
    ·rename_i z hz;simp only [Option.map_eq_some_iff] at hs⊢;obtain ⟨y',h1,h2⟩:=hs;exact ⟨y',lS h n z y' h1,h2⟩
    ·simp at hs
   ·simp at hs
  |_=>first|(simpa only [aV] using hs)|(simp [aV] at hs;done)
theorem jA {H G:J} (h:aZ H G): ∀(ms:List Mode) (as ys:List AV) (b:Bool),b4 ms as H=some (ys,b)→b4 ms as G=some (ys,b)
 |ms,[],ys,b,hp=>by cases ms<;>simpa only [b4] using hp
 |[],a::as,ys,b,hp=>by
  simp only [b4] at hp⊢;split at hp
  ·rename_i y hy;split at hp
   ·rename_i aQ b' cg
    rw [lS h 8 a y hy,jA h [] as aQ b' cg]
    exact hp
   ·simp at hp
  ·simp at hp
 |m::ms,a::as,ys,b,hp=>by
  have other:(match b4 ms as H with|some (ys,b)=>some (a::ys,b)|none=>none)=some (ys,b)→(match b4 ms as G with|some (ys,b)=>some (a::ys,b)|none=>none)=some (ys,b):=by
   intro hp;split at hp
   ·rename_i aQ b' cg
    rw [jA h ms as aQ b' cg]
    exact hp
   ·simp at hp
  cases m with
  |val=>
   simp only [b4] at hp⊢;split at hp
   ·rename_i y hy;split at hp
    ·rename_i aQ b' cg
     rw [lS h 8 a y hy,jA h ms as aQ b' cg]
     exact hp
    ·simp at hp
   ·simp at hp
  |ew=>
   simp only [b4] at hp⊢;split at hp
   ·rename_i aQ b' cg
    rw [jA h ms as aQ b' cg]
    exact hp
   ·simp at hp
  |io=>
   simp only [b4] at hp⊢;split at hp
   ·rename_i aQ b' cg
    rw [jA h ms as aQ b' cg]
    exact hp
   ·simp at hp
def xE (w:World) (G:J) (φ :ag) (A:ah) (H H' :J) (x:AV) (e:Ending) (w' :World):Prop:=
 match e with
 | .returned v' => ∃ak A',Out w G φ A w' G ak A' ∧R w' G ak A' x v' ∧ ∀id loc,ak id=some loc→ φ id=some loc∨(H.bs.length≤id∧id<H'.bs.length)
 |_=>False
theorem xF {P:Program} {C:aI} {X:bw} (hX: ∀f ys H K,X f ys H K→db P f ys H K) {w:World} {G:J} {φ :ag} {A:ah} (ae:St w G φ A) {H H' :J} (hg:aZ H G) (hh:GH G φ H H') {f:FuncId} {as:List AV} {us:Array Value} (hl:as.length=us.size)
 (hr: ∀(i:Nat) (x:AV) (u:Value),as[i]? =some x→us[i]? =some u→R w G φ A x u) {th:Bool} {x:AV} (h:c5 X C f as th H (fun v1 H1=>v1=x∧H1=H')):jv P f∧Calls P f us w (xE w G φ A H H' x):=by
 unfold c5 at h;split at h
 ·exact h.elim
 rename_i ys bL hy;obtain ⟨y,ko,gG,hp⟩:=h;have hm:lL []:=fun m hm=>by simp at hm
 have n4:bP w G φ A ⟨0,[]⟩ (fun _=>none) A:=by
  refine ⟨ae,⟨fun i i' c b b' h=>by simp at h,fun c hc=> ?_,ae.b6,fun id loc h=>by simp at h⟩,fun c _ hc=> ?_,ae.own⟩
  ·obtain ⟨i,b,h⟩:=hc;simp at h
  ·obtain ⟨i,b,h⟩:=hc;simp at h
 have n5:b5 [] ys ⟨0,[]⟩=(ys,⟨0,[]⟩):=n3 _ _ _ hy _;obtain ⟨az,m,ci,dX⟩:=lG as [] [] us.toList G φ as G ys bL ⟨0,[]⟩ (fun _=>none) ys ⟨0,[]⟩ n4 (by simpa using hl) (fun i x u hx hu=>hr i x u hx (by simpa using hu)) (n0 _ _ _ _ hm) (jA hg _ _ _ _ hy) n5
 have a_: ∀c,¬Ow az c:=fun c hc=>by
  rcases m.oh c hc with ⟨i,b,h⟩|⟨h1,h2⟩
  ·simp at h
  ·rw [jw ae] at h2;exact h2 h1
 let A0:ah:=if bL=true then Ow az else A
 have iL: ∀c,A0 c→A c:=by
  intro c hc;simp only [A0] at hc;split at hc
  ·exact absurd hc (a_ c)
  ·exact hc
 have n6:bL=true→ ∀c,A0 c→fb (aB φ G) A c:=by
  intro aw c hc;simp only [A0,aw,if_true] at hc;exact absurd hc (a_ c)
 have cC:St w ⟨0,[]⟩ az A0:=m.bd.sh.shrink iL (fun c hc=>absurd hc (a_ c));have eI:ys.length=us.size:=by simpa using ci.1
 refine ⟨(hX _ _ _ _ ko).1,((hX _ _ _ _ ko).2 w A0 az us cC eI (fun i x u hx hu=>ci.2 A0 iL n6 i x u hx (by simpa using hu))).mono fun e w' he=> ?_⟩
 cases e with
 |panicked c=>exact he.elim
 |outgrown=>exact he.elim
 |returned v' =>
 obtain ⟨x0,L,ak,A',ho,n7,rs,f_,L2,rfl,kq,rfl⟩:=he;obtain ⟨cD,rfl,kr,gE⟩:=qp n7
 let AH:ah:=if bL=true then fun c=>A c∨(A' c∧w.heap.size≤c) else A'
 have iM: ∀c,Ow ak c→w.heap.size≤c:=fun c hc=>(ho.post.own c hc).resolve_left (a_ c)
 have ha:nT w A az w' ak AH:=by
  refine ⟨fun c hc hn=> ?_,fun c hc=> ?_,fun c hc=> ?_,fun c arr T fr hc hn=> ?_⟩
  ·simp only [AH];split
   ·exact .inl hc
   ·rename_i aw;refine ho.bE c ?_ hn;simp only [A0,aw];exact hc
  ·simp only [AH];split
   ·exact .inr ⟨ho.st.own c hc,iM c hc⟩
   ·exact ho.st.own c hc
  ·simp only [AH] at hc;split at hc
   ·rcases hc with h|⟨h,_⟩
    ·exact Nat.lt_of_lt_of_le (ae.b6 c h) ho.post.size
    ·exact ho.st.b6 c h
   ·exact ho.st.b6 c hc
  ·obtain ⟨h1,h2⟩:=ho.bX.fz c arr T fr hc (fun h=>hn (iL c h));refine ⟨h1,?_⟩;simp only [AH];split
   ·rintro (h|⟨_,h⟩)
    ·exact hn h
    ·have:c<w.heap.size:=by
      rcases Nat.lt_or_ge c w.heap.size with h' |h'
      ·exact h'
      ·rw [Array.getElem?_eq_none h'] at hc;simp at hc
     omega
   ·exact h2
 obtain ⟨D,E⟩:=qf (ls:=[]) (Lm:=L) ae m (by rw [hl,eI]) dX ho ha (by simp [eT])
 rw [n1 _ _ _ _ hm,jw ae] at D E;have n8:dy A' AH f_:=by
  cases aw:bL with
  |false=>exact .inl fun c h=>by simpa [AH,aw] using h
  |true=>
   rcases gG with h|h
   ·rw [aw] at h;simp at h
   ·rw [qo] at h;exact .inr h
 have iN: ∀(i:Nat) (x:AV) (u:Value),rs[i]? =some x→cD[i]? =some u→R w' L (aB ak L) A' x u:=fun i x u hx hu=>by
  rw [jw ho.st];exact gE i x u hx hu
 have eX: ∀{cM:ag},(∀c,Ow cM c→Ow φ c∨Ow ak c)→eU w φ w' cM:=fun hq=>
  ⟨ho.post.os,ho.post.tape,ho.post.output,ho.post.size,fun c hc _=>ho.post.kept c hc (a_ c),ho.post.a5,fun c hc=>by
   rcases hq c hc with h|h
   ·exact .inl h
   ·exact .inr (iM c h)⟩
 have iO: ∀c,A c→ ¬Ow φ c→AH c:=fun c hc _=>ha.own c hc (a_ c);have cK: ∀c,Ow φ c→a5 w' c=a5 w c:=fun c hc=>ho.post.a5 c (Ow.lt ae hc)
 cases fy:(th||bL) with
 |true=>
  rw [fy] at hp;simp only [if_true,qm] at hp;obtain ⟨rfl,rfl⟩:=hp;obtain ⟨cM,m3,l3,r3⟩:=qJ _ rs cD L _ H G φ f_ L2 D hh kr iN kq n8
  refine ⟨cM,AH,⟨m3.bd.sh,eX fun c hc=> ?_,E.trans m3.eh cK,iO⟩,nZ l3 r3,m3.new⟩;rcases m3.oh c hc with h|⟨h,_⟩
  ·exact .inl h
  ·exact .inr (bA h)
 |false=>
  rw [fy] at hp;simp only [Bool.false_eq_true,if_false,qn] at hp;obtain ⟨rfl,rfl⟩:=hp;simp only [Bool.or_eq_false_iff] at fy;have n9:AH=A' :=by simp [AH,fy.2]
  rw [n9] at D E iO
  let A2:ah:=gone (aB ak L) A' L2
  obtain ⟨l3,r3⟩:=nY (A' :=A2) _ rs cD L (aB ak L) f_ L2 D.sl kr iN kq (fun c h=>h)
  have n_: ∀c,Ow φ c→A2 c:=fun c hc=>⟨D.sh.own c hc,fun h=>absurd hc (D.bY c h)⟩;have oa:bG w G φ A w' G φ A2:=⟨fun c arr T fr hc hn=>⟨(E.fz c arr T fr hc hn).1,fun h2=>(E.fz c arr T fr hc hn).2 h2.1⟩,E.st,E.ids,E.sz⟩
  refine ⟨φ,A2,⟨D.sh.shrink (fun c h=>h.1) n_,eX fun c hc=> .inl hc,oa,fun c hc hn=>⟨iO c hc hn,fun h=> ?_⟩⟩,.fr _ _ (ql l3 r3),fun id loc h=> .inl h⟩;have:=iM c (bA h)
  have:=ae.b6 c hc;omega
end Go.VS
namespace Go.VS
def xG (H H1:J):Prop:= ∀id b,H1.get id=some b→b.ad<H.st→H.get id=some b
def QG (H H1:J):Prop:=fc H H1∧xG H H1
theorem QG.refl (H:J):QG H H:=⟨.refl _,fun _ _ h _=>h⟩
theorem QG.trans {H H1 H2:J} (h:QG H H1) (k:QG H1 H2):QG H H2:=
 ⟨h.1.trans k.1,fun id b hb hv=>h.2 id b (k.2 id b hb (Nat.lt_of_lt_of_le hv h.1.1.2)) hv⟩
theorem QG.of {H H' :J} (h:H' =H∨ ∃sz fx el,H' =H.new sz fx el):QG H H' :=by
 obtain ⟨h1,h2,h3⟩:=J.iD h;exact ⟨⟨h1,h3⟩,h2⟩
theorem QG.new (H:J) (sz:Nat) (fx:Bool) (el:List AV):QG H (H.new sz fx el):= .of (.inr ⟨_,_,_,rfl⟩)
mutual
theorem oq: ∀(y:AV) (H:J),QG H (aD y H).2
 | .own sz xs,H=>by simp only [aD];exact (lT xs H).trans (.new _ _ _ _)
 | .cY sz x,H=>by simp only [aD];exact (oq x H).trans (.new _ _ _ _)
 | .agg xs,H=>by simp only [aD];exact lT xs H
 | .aC xs,H=>by simp only [aD];exact lT xs H
 | .undef,H=> .refl _
 | .int _ _,H=> .refl _
 | .bool _,H=> .refl _
 | .str _,H=> .refl _
 | .nil,H=> .refl _
 | .e0,H=> .refl _
 | .fz _,H=> .refl _
 | .ref _ _ _ _,H=> .refl _
 | .ptr _ _ _ _,H=> .refl _
 | .fe _ _,H=> .refl _
 | .fn _ _,H=> .refl _
 | .b9 _,H=> .refl _
 | .dc,H=> .refl _
theorem lT: ∀(ys:List AV) (H:J),QG H (aE ys H).2
 |[],H=> .refl _
 |y::ys,H=>by simp only [aE];exact (oq y H).trans (lT ys _)
end
section ops
variable {P:Program} {E:aK} (hE: ∀t ti,E t=some ti→aT P t ti)
variable {w:World} {G:J} {φ :ag} {A:ah}
theorem xH {b:Builtin} {tys:Array TypeId} {args:List AV} {H H' :J} {z:AV} (hq:eP b args=true) (h:dE E b tys args H=some (z,H')):QG H H' :=by
 have xI: ∀{te:TI} {s x:AV},s= .nil∨s= .e0→eu te s x H=some (z,H')→QG H H' :=by
  intro te s x hs h;refine .of ?_;rcases hs with rfl|rfl;all_goals
   simp only [eu] at h;repeat' split at h
   all_goals first
    |(simp at h;done)
    |(simp only [Option.some.injEq,Prod.mk.injEq] at h;first|exact .inl h.2.symm|exact .inr ⟨_,_,_,h.2.symm⟩)
 unfold dE at h;split at h
 ·repeat' split at h
  all_goals first
   |(simp at h;done)
   |(simp only [Option.some.injEq,Prod.mk.injEq] at h;rw [←h.2];exact .refl _)
 ·rename_i s x;have hs:s= .nil∨s= .e0:=by
   cases s<;>first|exact .inl rfl|exact .inr rfl|(simp [eP] at hq)
  split at h
  ·split at h
   ·split at h
    ·split at h
     ·unfold jM at h;refine .of ?_;repeat' split at h
      all_goals first
       |(simp at h;done)
       |(simp only [Option.some.injEq,Prod.mk.injEq] at h;first|exact .inl h.2.symm|exact .inr ⟨_,_,_,h.2.symm⟩)
     ·simp at h
    ·exact xI hs h
   ·simp at h
  ·simp at h
 ·simp [eP] at hq
 ·simp [eP] at hq
 ·split at h
  ·simp only [Option.some.injEq,Prod.mk.injEq] at h;rw [←h.2];exact .refl _
  ·simp at h
 ·split at h
  ·simp only [Option.some.injEq,Prod.mk.injEq] at h;rw [←h.2];exact .refl _
  ·simp at h
 ·split at h
  ·split at h
   ·simp only [Option.some.injEq,Prod.mk.injEq] at h;rw [←h.2];exact .refl _
   ·simp at h
  ·simp at h
 ·simp at h
include hE in
theorem xJ (ae:St w G φ A) {H H' :J} (hX:aZ H G) (qK:aZ H' G) (bp:H.bs.length<H'.bs.length→ φ H.bs.length=none) {b:Builtin} {tys:Array TypeId} {ty:TypeId} {consts:Array Bool} {args:List AV} {vs:Array Value} {z:AV} (hq:eP b args=true) (hl:args.length=vs.size)
 (aP: ∀(i:Nat) (a:AV) (u:Value),args[i]? =some a→vs[i]? =some u→R w G φ A a u) (h:dE E b tys args H=some (z,H')):
 a6 w G φ A H H' ((builtin b tys ty consts vs).run P w) z:=by
 unfold dE at h;split at h
 ·rename_i x;obtain ⟨a,rfl⟩: ∃a,vs= #[a]:=by
   have h1:vs.size=1:=hl.symm;exact ⟨vs[0],by apply Array.ext;simp [h1];intro i h1 h2;simp at h2;subst h2;rfl⟩
  have hx:=aP 0 x a rfl rfl;split at h
  ·rename_i ti n ht hn;obtain ⟨t,h0,ht⟩:=Option.bind_eq_some_iff.1 ht;have key: ∀{q:AV×J},some q=some (z,H')→q=(AV.int .i64 n,H)→((∃e,ti.aq= .sl e∧ ∀s,x≠ .str s)∨(ti.aq= .str∧ ∃s,x= .str s))→a6 w G φ A H H' ((builtin .len tys ty consts #[a]).run P w) z:=by
    intro q hq nA hu;subst nA;simp only [Option.some.injEq,Prod.mk.injEq] at hq;obtain ⟨rfl,rfl⟩:=hq;have:=pS (tys:=tys) (ty:=ty) hE h0 hx hX hn ht hu;exact a6.val ae (by simp [builtin,this]) (.fr _ _ (.int _ _))
   split at h
   ·rename_i s hu;exact key h rfl (.inr ⟨hu,s,rfl⟩)
   ·simp at h
   ·rename_i e hu aN;exact key h rfl (.inl ⟨e,hu,fun s hs=>aN s hs⟩)
   ·simp at h
  ·simp at h
 ·rename_i s x;obtain ⟨a,b,rfl⟩: ∃a b,vs= #[a,b]:=by
   have h1:vs.size=2:=hl.symm;exact ⟨vs[0],vs[1],by apply Array.ext;simp [h1];intro i h1 h2;simp at h2;rcases i with _|_|i;rfl;rfl;omega⟩
  have hs:=aP 0 s a rfl rfl;have hx:=aP 1 x b rfl rfl;have eA:s= .nil∨s= .e0:=by
   cases s<;>first|exact .inl rfl|exact .inr rfl|(simp [eP] at hq)
  split at h
  ·rename_i t h0;split at h
   ·rename_i te tx a8 cq;obtain ⟨t2,h1,cq⟩:=Option.bind_eq_some_iff.1 cq;split at h
    ·rename_i k hit;split at h
     ·exact pI hE ae qK bp h0 h1 a8 cq hit hs hx h
     ·simp at h
    ·rename_i aN;exact nn hE ae hX qK bp h0 h1 a8 cq (fun k hk=>aN k hk) hs hx eA h
   ·simp at h
  ·simp at h
 ·simp [eP] at hq
 ·simp [eP] at hq
 ·split at h
  ·rename_i v hv;simp only [Option.some.injEq,Prod.mk.injEq] at h;obtain ⟨rfl,rfl⟩:=h;cases args with
   |nil=>simp [je] at hv
   |cons x rest=>
    obtain ⟨a,us,da⟩: ∃a us,vs.toList=a::us:=by
     cases eI:vs.toList with
     |nil=>have:=congrArg List.length eI;simp at this;simp [this] at hl
     |cons a us=>exact ⟨a,us,rfl⟩
    have hlen:rest.length=us.length:=by have:=congrArg List.length da;simp at this;simp at hl;omega
    have br: ∀(i:Nat) (u:Value),(a::us)[i]? =some u→vs[i]? =some u:=fun i u hu=>by rw [←da] at hu;simpa using hu
    obtain ⟨u,hu,hz⟩:=ke (P:=P) (op:=Builtin.min2) (f:=fun a b=>match a,b with| .int k x,.int _ y=>some (.int k (if y<x then y else x))|_,_=>none) (fun a b x y z ha hb hf=>by
     split at hf
     ·have e1:=ha.cp;have e2:=hb.cp;subst e1;subst e2;simp only [Option.some.injEq] at hf;subst hf;exact ⟨_,by simp [Builtin.min2],.fr _ _ (.int _ _)⟩
     ·simp at hf) rest us x a v hlen (fun i p q hp hq=>aP (i+1) p q hp (br (i+1) q hq)) (aP 0 x a rfl (br 0 a rfl)) hv
    exact a6.val ae (by simp [builtin,Builtin.min_,da,hu]) hz
  ·simp at h
 ·split at h
  ·rename_i v hv;simp only [Option.some.injEq,Prod.mk.injEq] at h;obtain ⟨rfl,rfl⟩:=h;cases args with
   |nil=>simp [jf] at hv
   |cons x rest=>
    obtain ⟨a,us,da⟩: ∃a us,vs.toList=a::us:=by
     cases eI:vs.toList with
     |nil=>have:=congrArg List.length eI;simp at this;simp [this] at hl
     |cons a us=>exact ⟨a,us,rfl⟩
    have hlen:rest.length=us.length:=by have:=congrArg List.length da;simp at this;simp at hl;omega
    have br: ∀(i:Nat) (u:Value),(a::us)[i]? =some u→vs[i]? =some u:=fun i u hu=>by rw [←da] at hu;simpa using hu
    obtain ⟨u,hu,hz⟩:=ke (P:=P) (op:=Builtin.max2) (f:=fun a b=>match a,b with| .int k x,.int _ y=>some (.int k (if y>x then y else x))|_,_=>none) (fun a b x y z ha hb hf=>by
     split at hf
     ·have e1:=ha.cp;have e2:=hb.cp;subst e1;subst e2;simp only [Option.some.injEq] at hf;subst hf;exact ⟨_,by simp [Builtin.max2],.fr _ _ (.int _ _)⟩
     ·simp at hf) rest us x a v hlen (fun i p q hp hq=>aP (i+1) p q hp (br (i+1) q hq)) (aP 0 x a rfl (br 0 a rfl)) hv
    exact a6.val ae (by simp [builtin,Builtin.max_,da,hu]) hz
  ·simp at h
 ·obtain ⟨a,rfl⟩: ∃a,vs= #[a]:=by
   have h1:vs.size=1:=hl.symm;exact ⟨vs[0],by apply Array.ext;simp [h1];intro i h1 h2;simp at h2;subst h2;rfl⟩
  have hx:=(aP 0 .nil a rfl rfl).cR;subst hx;split at h
  ·rename_i ti ht;obtain ⟨t,h0,ht⟩:=Option.bind_eq_some_iff.1 ht;split at h
   ·rename_i e hu;simp only [Option.some.injEq,Prod.mk.injEq] at h;obtain ⟨rfl,rfl⟩:=h;have hc:(Builtin.cap_ tys ty #[.slice none 0 0]).run P w= .ok (.int .i64 0) w:=by
     unfold Builtin.cap_;simp only [h0,List.getElem?_toArray,List.getElem?_cons_zero,Sem.run_bind,(hE _ _ ht).sl w hu,Result.andThen_ok];rfl
    exact a6.val ae (by simp [builtin,hc]) (.fr _ _ (.int _ _))
   ·simp at h
  ·simp at h
 ·simp at h
end ops
section step
variable {P:Program} {C:aI} {X:bw} {w:World} {G:J} {φ :ag} {A:ah}
theorem a6.upon {H H' :J} {r:Result Next} {x:AV} (h:a6 w G φ A H H' r x) {o:Oper} {a:Act} {next:Act→World→Prop} {Q:Exit→Act→World→Prop}
 (hn: ∀v w' ak A',Out w G φ A w' G ak A' →R w' G ak A' x v→(∀id loc,ak id=some loc→ φ id=some loc∨(H.bs.length≤id∧id<H'.bs.length))→next (a.put o.dst v) w'):o.upon P a next Q r:=by
 obtain ⟨n,v,w',ak,A',rfl,hv,hr,ho,hi⟩:=h;rcases hv with rfl|⟨rfl,rfl⟩
 ·exact hn v w' ak A' ho hr hi
 ·exact hn _ w' ak A' ho hr hi
theorem kz (hE: ∀t ti,C.E t=some ti→aT P t ti) (hX: ∀f ys H K,X f ys H K→db P f ys H K) (ae:St w G φ A) {o:Oper} {s:aj} {a:Act} (hs: ∀x∈o.op.operands,R w G φ A (ev s x) (a.eval x)) {th:Bool} {H H' :J} {x:AV} (hg:aZ H G) (hh:GH G φ H H')
 (h:wpOp X C true th o s H (fun v1 H1=>v1=x∧H1=H')) {next:Act→World→Prop} {Q:Exit→Act→World→Prop}
 (hn: ∀v w' ak A',Out w G φ A w' G ak A' →R w' G ak A' x v→(∀id loc,ak id=some loc→ φ id=some loc∨(H.bs.length≤id∧id<H'.bs.length))→next (a.put o.dst v) w'):o.wp P a w next Q:=by
 have bp:H.bs.length<H'.bs.length→ φ H.bs.length=none:=fun aw=>hh.none _ (Nat.le_refl _) aw;have kt:eO o.op=true→(match aM C.E o.op s H with|some (v,H1)=>v=x∧H1=H' |none=>False)→o.wp P a w next Q:=by
  intro hq iP;split at iP
  ·rename_i v H1 he;obtain ⟨rfl,rfl⟩:=iP;exact (nq hE ae hg hh.ext bp hq hs he).upon hn
  ·exact iP.elim
 unfold wpOp at h;split at h
 ·rename_i b args tys bg;obtain ⟨hq,h⟩:=h;have hq:=hq rfl;split at h
  ·rename_i v H1 he;obtain ⟨rfl,rfl⟩:=h;obtain ⟨consts,cy⟩:=qt (P:=P) (w:=w) (ρ :=a.eval) bg;have:=xJ hE ae hg hh.ext bp (ty:=o.type) (consts:=consts) (vs:=args.map a.eval) hq (by simp) (fun i x u hx hu=>by
    simp only [List.getElem?_map,Option.map_eq_some_iff] at hx;obtain ⟨y,hy,rfl⟩:=hx;simp only [Array.getElem?_map,Option.map_eq_some_iff] at hu;obtain ⟨y',dS,rfl⟩:=hu;have:y' =y:=by simp at hy;rw [hy] at dS;simpa using dS.symm
    subst this;exact hs y' (by rw [bg];simp only [Op.operands,Call.operands];simp [Array.mem_of_getElem? dS])) he
   rw [←cy] at this;exact this.upon hn
  ·exact h.elim
 ·rename_i y args tys bg;split at h
  ·rename_i g bJ cH;simp only [if_true] at h;have hx:=hs y (by rw [bg];simp [Op.operands,Call.operands])
   rw [cH] at hx;obtain ⟨vs,hv,hl,hp⟩:=hx.jR;have hc:=xF hX ae hg hh (us:=args.map a.eval ++ vs) (by simp [hl]) (fun i y u hy hu=>by
    rcases Nat.lt_or_ge i args.size with hi|hi
    ·rw [List.getElem?_append_left (by simpa using hi)] at hy
     rw [Array.getElem?_append_left (by simpa using hi)] at hu
     simp only [List.getElem?_map,Option.map_eq_some_iff] at hy;obtain ⟨z,hz,rfl⟩:=hy;simp only [Array.getElem?_map,Option.map_eq_some_iff] at hu;obtain ⟨z',dr,rfl⟩:=hu;have:z' =z:=by simp at hz;rw [hz] at dr;simpa using dr.symm
     subst this;exact hs z' (by rw [bg];simp only [Op.operands,Call.operands];simp [Array.mem_of_getElem? dr])
    ·rw [List.getElem?_append_right (by simpa using hi)] at hy
     rw [Array.getElem?_append_right (by simpa using hi)] at hu
     exact hp _ y u (by simpa using hy) (by simpa using hu)) h
   unfold Oper.wp;rw [qq bg hv hc.1,Oper.upon_enter];refine hc.2.mono fun e w' he=> ?_
   cases e with
   |returned v' =>
    obtain ⟨ak,A',h1,h2,h3⟩:=he;exact hn v' w' ak A' h1 h2 h3
   |panicked c=>exact he.elim
   |outgrown=>exact he.elim
  ·exact h.elim
 ·exact kt (h.1 rfl) h.2
theorem xK {o:Oper} {s:aj} {th:Bool} {H H' :J} {x:AV} (h:wpOp X C true th o s H (fun v1 H1=>v1=x∧H1=H')):QG H H' :=by
 have kt:eO o.op=true→(match aM C.E o.op s H with|some (v,H1)=>v=x∧H1=H' |none=>False)→QG H H' :=by
  intro hq iP;split at iP
  ·rename_i v H1 he;obtain ⟨rfl,rfl⟩:=iP;exact .of (pT hq he)
  ·exact iP.elim
 unfold wpOp at h;split at h
 ·obtain ⟨hq,h⟩:=h;split at h
  ·rename_i v H1 he;obtain ⟨rfl,rfl⟩:=h;exact xH (hq rfl) he
  ·exact h.elim
 ·split at h
  ·rename_i g bJ cH;simp only [if_true] at h;unfold c5 at h;split at h
   ·exact h.elim
   obtain ⟨y,_,_,hp⟩:=h;split at hp
   ·obtain ⟨_,rfl⟩:=hp;exact oq _ _
   ·obtain ⟨_,rfl⟩:=hp;exact .refl _
  ·exact h.elim
 ·exact kt (h.1 rfl) h.2
end step
end Go.VS
namespace Go.VS
section tr
variable {C:aI} {X:bw}
theorem kA (dh:Exact X) {q th:Bool} {o:Oper} {s:aj} {H:J} {K:AV→J→Prop} (h:wpOp X C q th o s H K): ∃v H',wpOp X C q th o s H (fun v1 H1=>v1=v∧H1=H')∧K v H' :=by
 unfold wpOp at h⊢;split at h
 ·rename_i b args tys bg;obtain ⟨hq,h⟩:=h;split at h
  ·rename_i v H' he
   refine ⟨v,H',?_,h⟩;first
    |exact ⟨hq,rfl,rfl⟩
    |(simp only [bg];exact ⟨hq,trivial,trivial⟩)
    |(simp only [bg,he];exact ⟨hq,trivial,trivial⟩)
  ·exact h.elim
 ·rename_i x args tys bg;split at h
  ·rename_i g bJ hg;have hQ:c5 X C g (args.toList.map (ev s) ++ bJ) th H K→ ∃v H',c5 X C g (args.toList.map (ev s) ++ bJ) th H (fun v1 H1=>v1=v∧H1=H')∧K v H' :=by
    intro h;unfold c5 at h⊢;split at h
    ·exact h.elim
    rename_i ys bL hy;obtain ⟨y,h1,h2,h3⟩:=h;split at h3
    ·rename_i ht;refine ⟨_,_,⟨y,h1,h2,?_⟩,h3⟩;simp only [ht,if_true];exact ⟨trivial,trivial⟩
    ·rename_i ht;refine ⟨_,_,⟨y,h1,h2,?_⟩,h3⟩;simp only [ht];exact ⟨trivial,trivial⟩
   have key: ∃v H',(if q then c5 X C g (args.toList.map (ev s) ++ bJ) th H (fun v1 H1=>v1=v∧H1=H') else X g (args.toList.map (ev s) ++ bJ) H (fun v1 H1=>v1=v∧H1=H')∨c5 X C g (args.toList.map (ev s) ++ bJ) th H (fun v1 H1=>v1=v∧H1=H'))∧K v H' :=by
    cases q with
    |false=>
     simp only [Bool.false_eq_true,if_false] at h⊢;rcases h with h|h
     ·obtain ⟨v,H',h1,h2⟩:=dh _ _ _ _ h;exact ⟨v,H',.inl h1,h2⟩
     ·obtain ⟨v,H',h1,h2⟩:=hQ h;exact ⟨v,H',.inr h1,h2⟩
    |true=>
     simp only [if_true] at h⊢;exact hQ h
   obtain ⟨v,H',k1,k2⟩:=key;refine ⟨v,H',?_,k2⟩;first
    |exact k1
    |(simp only [bg,hg];exact k1)
  ·exact h.elim
 ·rename_i op lh zj;obtain ⟨hq,h⟩:=h;split at h
  ·rename_i v H' he
   refine ⟨v,H',?_,h⟩;exact ⟨hq,rfl,rfl⟩
  ·exact h.elim
theorem lU (C:aI) (ops:Array Oper) (s:aj) (H:J) (K:Prop): ∀(l:List Nat),eQ C ops s H K l→(∀j∈l,jg C ops s H j)∧K
 |[],h=>⟨by simp,h⟩
 |j::js,h=>by
  obtain ⟨h1,h2⟩:=h;obtain ⟨k1,k2⟩:=lU C ops s H K js h2;refine ⟨fun i hi=> ?_,k2⟩;rcases List.mem_cons.1 hi with rfl|hi
  ·exact h1
  ·exact k1 i hi
structure Tr (X:bw) (C:aI) (ops:Array Oper) (q:Nat→Bool) (late:Nat→List Nat) (th:List Nat) (K:aj→J→Prop) (l:List Oper) (k:Nat) (s:Nat→aj) (H:Nat→J) (v:Nat→AV) (act:Nat→Bool):Prop where
 step: ∀i o,l[i]? =some o→s (i+1)=bf (s i) o.dst (v i)∧c6 ops o (s i)=some (act i)∧(act i=true→wpOp X C (q (k+i)) (th.contains (k+i)) o (s i) (H i) (fun v1 H1=>v1=v i∧H1=H (i+1)))∧
  (act i=false→v i= .aC []∧H (i+1)=H i)∧ ∀j∈late (k+i),jg C ops (s (i+1)) (H (i+1)) j
 fin:K (s l.length) (H l.length)
theorem qL (dh:Exact X) {ops:Array Oper} {q:Nat→Bool} {late:Nat→List Nat} {th:List Nat} {K:aj→J→Prop}: ∀(l:List Oper) (k:Nat) (s0:aj) (H0:J),cF X C ops q late th K l k s0 H0→
 ∃s H v act,s 0=s0∧H 0=H0∧Tr X C ops q late th K l k s H v act
 |[],k,s0,H0,h=>⟨fun _=>s0,fun _=>H0,fun _=> .undef,fun _=>true,rfl,rfl,⟨by simp,h⟩⟩
 |o::l,k,s0,H0,h=>by
  have key: ∃v0 H1 a0,c6 ops o s0=some a0∧(a0=true→wpOp X C (q k) (th.contains k) o s0 H0 (fun v1 H' =>v1=v0∧H' =H1))∧(a0=false→v0= .aC []∧H1=H0)∧(∀j∈late k,jg C ops (bf s0 o.dst v0) H1 j)∧
   cF X C ops q late th K l (k+1) (bf s0 o.dst v0) H1:=by
   simp only [cF] at h;cases hg:o.guard with
   |none=>
    rw [hg] at h;obtain ⟨v,H',h1,h2⟩:=kA dh h;obtain ⟨k1,k2⟩:=lU _ _ _ _ _ _ h2;exact ⟨v,H',true,by simp [c6,hg],fun _=>h1,fun h=>by simp at h,k1,k2⟩
   |some p=>
    rw [hg] at h;obtain ⟨v,H',h1,h2⟩:=h;obtain ⟨k1,k2⟩:=lU _ _ _ _ _ _ h2;split at h1
    ·rename_i b hb;cases b with
     |true=>exact ⟨v,H',true,hb,fun _=>by simpa using h1,fun h=>by simp at h,k1,k2⟩
     |false=>exact ⟨v,H',false,hb,fun h=>by simp at h,fun _=>by simpa using h1,k1,k2⟩
    ·exact h1.elim
  obtain ⟨v0,H1,a0,g1,g2,g3,g4,g5⟩:=key;obtain ⟨s,H,v,act,e1,e2,t⟩:=qL dh l (k+1) _ _ g5;refine ⟨fun i=>match i with|0=>s0|i+1=>s i,fun i=>match i with|0=>H0|i+1=>H i,fun i=>match i with|0=>v0|i+1=>v i,fun i=>match i with|0=>a0|i+1=>act i,rfl,rfl,⟨fun i o' hi=> ?_,t.fin⟩⟩
  cases i with
  |zero=>
   simp only [List.getElem?_cons_zero,Option.some.injEq] at hi;subst hi;simp only [Nat.add_zero,e1,e2];exact ⟨trivial,g1,g2,g3,g4⟩
  |succ i=>
   have:=t.step i o' (by simpa using hi)
   rw [show k+1+i=k+(i+1) by omega] at this
   exact this
end tr
theorem qM (bs:Edge→Bool) (acc:List Nat) (j:Nat): ∀(l:List Edge) (m0:Nat),(l.foldl (fun m e=>if bs e then m|||2^e.on|||acc.getD e.on 0 else m) m0).testBit j=true→m0.testBit j=true∨ ∃e∈l,bs e=true∧(e.on=j∨(acc.getD e.on 0).testBit j=true)
 |[],m0,h=> .inl h
 |e::l,m0,h=>by
  simp only [List.foldl_cons] at h;rcases qM bs acc j l _ h with h|⟨e',h1,h2⟩
  ·split at h
   ·rename_i hb;simp only [Nat.testBit_or,Nat.testBit_two_pow,Bool.or_eq_true,decide_eq_true_eq] at h;rcases h with (h|h)|h
    ·exact .inl h
    ·exact .inr ⟨e,by simp,hb,.inl h⟩
    ·exact .inr ⟨e,by simp,hb,.inr h⟩
   ·exact .inl h
  ·exact .inr ⟨e',by simp [h1],h2⟩
theorem qN: ∀(os:List Oper) (acc:List Nat),(fN os acc).length=acc.length+os.length∧(∀i,i<acc.length→(fN os acc).getD i 0=acc.getD i 0)∧
 ∀i o,os[i]? =some o→ ∀j,((fN os acc).getD (acc.length+i) 0).testBit j=true→ ∃e∈o.after.toList,Region.binds .any e=true∧(e.on=j∨(e.on<acc.length+i∧((fN os acc).getD e.on 0).testBit j=true))
 |[],acc=>⟨by simp [fN],by simp [fN],by simp⟩
 |o::os,acc=>by
  obtain ⟨h1,h2,h3⟩:=qN os (acc ++ [o.after.toList.foldl (fun m e=>if Region.binds .any e then m|||2^e.on|||acc.getD e.on 0 else m) 0]);simp only [fN];have hold: ∀i,i<acc.length→(fN os (acc ++ [o.after.toList.foldl (fun m e=>if Region.binds .any e then m|||2^e.on|||acc.getD e.on 0 else m) 0])).getD i 0=acc.getD i 0:=by
   intro i hi;rw [h2 i (by simp;omega)]
   simp [List.getD,List.getElem?_append_left hi]
  refine ⟨by rw [h1];simp;omega,hold,fun i o' ho j hj=> ?_⟩
  cases i with
  |zero=>
   simp only [List.getElem?_cons_zero,Option.some.injEq] at ho;subst ho;rw [Nat.add_zero,h2 _ (by simp)] at hj
   simp only [List.getD,List.getElem?_append_right (Nat.le_refl _),Nat.sub_self,List.getElem?_cons_zero,Option.getD_some] at hj;rcases qM (Region.binds .any) acc j _ _ hj with h|⟨e,q1,q2,q3⟩
   ·simp at h
   ·refine ⟨e,q1,q2,?_⟩;rcases q3 with q3|q3
    ·exact .inl q3
    ·have aw:e.on<acc.length:=by
      rcases Nat.lt_or_ge e.on acc.length with h|h
      ·exact h
      ·rw [List.getD,List.getElem?_eq_none h] at q3;simp at q3
     exact .inr ⟨by omega,by rw [hold _ aw];exact q3⟩
  |succ i=>
   simp only [List.length_append,List.length_singleton] at h3;have:=h3 i o' (by simpa using ho) j (by rw [show acc.length+1+i=acc.length+(i+1) by omega];exact hj)
   obtain ⟨e,q1,q2,q3⟩:=this;refine ⟨e,q1,q2,?_⟩;rcases q3 with q3|⟨q3,q4⟩
   ·exact .inl q3
   ·exact .inr ⟨by omega,q4⟩
def qO (ops:Array Oper) (L:Nat→Prop):Prop:= ∀i o,ops[i]? =some o→L i→ ∀e∈o.after,Region.binds .any e=true→L e.on
theorem lV {ops:Array Oper} {L:Nat→Prop} (hs:qO ops L) (aw: ∀i o,ops[i]? =some o→ ∀e∈o.after,Region.binds .any e=true→e.on<i):
 ∀(i:Nat) (o:Oper),ops[i]? =some o→(∀e∈o.after,Region.binds .any e=true→L e.on)→ ∀j,((eR ops.toList).getD i 0).testBit j=true→L j:=by
 intro i;induction i using Nat.strongRecOn with
 |_ i ih=>
  intro o ho ha j hj;have:=(qN ops.toList []).2.2 i o (by simpa using ho) j (by simpa [eR] using hj)
  obtain ⟨e,q1,q2,q3⟩:=this;have qP:=ha e (by simpa using q1) q2
  rcases q3 with rfl|⟨_,q4⟩
  ·exact qP
  ·have xL:=aw i o ho e (by simpa using q1) q2
   have hi:i<ops.size:=(Array.getElem?_eq_some_iff.1 ho).1;have qQ:=Array.getElem?_eq_getElem (xs:=ops) (show e.on<ops.size by omega)
   exact ih e.on xL _ qQ (hs e.on _ qQ qP) j q4
end Go.VS
