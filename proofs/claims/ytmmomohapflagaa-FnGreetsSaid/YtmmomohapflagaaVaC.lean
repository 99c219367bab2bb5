import Derived.Test.YtmmomohapflagaaVaB
import Derived.Tactics
import Derived.Laws.Sem
namespace Go.VS
section bj
variable {w:World} {A:ah}
theorem qG {m:Mode} {sh:List Sh} {v:AV} {H:J} {y:AV} {H1:J} (h:eW m sh v H=some (y,H1)):bu H H1:=by
 cases m with
 |val=>simp only [eW,Option.some.injEq,Prod.mk.injEq] at h;obtain ⟨_,rfl⟩:=h;exact .refl _
 |eH=>exact fl sh v H y H1 h
 |io=>
  cases v<;>simp only [eW] at h
  case nil=>simp only [Option.some.injEq,Prod.mk.injEq] at h;obtain ⟨_,rfl⟩:=h;exact .refl _
  case e0=>simp only [Option.some.injEq,Prod.mk.injEq] at h;obtain ⟨_,rfl⟩:=h;exact .refl _
  case ref=>
   split at h
   ·split at h
    ·simp only [Option.some.injEq,Prod.mk.injEq] at h;obtain ⟨_,rfl⟩:=h;exact .refl _
    ·split at h
     ·exact fl _ _ H y H1 h
     ·simp at h
   ·simp at h
  case ptr=>exact fl _ _ H y H1 h
  all_goals simp at h
theorem qH: ∀(ms:List Mode) (sh:List (List Sh)) (as:List AV) (H:J) (zs:List AV) (H1:J),fA ms sh as H=some (zs,H1)→bu H H1
 |[],sh,as,H,zs,H1,h=>by
  simp only [fA,Option.some.injEq,Prod.mk.injEq] at h;obtain ⟨_,rfl⟩:=h;exact .refl _
 |m::ms,sh,[],H,zs,H1,h=>by
  simp only [fA,Option.some.injEq,Prod.mk.injEq] at h;obtain ⟨_,rfl⟩:=h;exact .refl _
 |m::ms,sh,a::as,H,zs,H1,h=>by
  simp only [fA] at h;split at h
  ·rename_i y H' h1
   split at h
   ·rename_i ys gq h2
    simp only [Option.some.injEq,Prod.mk.injEq] at h;obtain ⟨_,rfl⟩:=h;exact (qG h1).trans (qH ms _ as H' ys _ h2)
   ·simp at h
  ·simp at h
def gu (w:World) (A:ah) (B:ah) (L0:J) (aA:ag) (bS:Bool) (vs:List AV) (us:List Value):Prop:=
 vs.length=us.length∧ ∀A0:ah,(∀c,A0 c→A c)→(bS=true→ ∀c,A0 c→B c)→ ∀(i:Nat) (x:AV) (u:Value),vs[i]? =some x→us[i]? =some u→R w L0 aA A0 x u
theorem gu.cons {B:ah} {L L0:J} {φL aA:ag} {l1 l2:Bool} {x:AV} {u:Value} {vs:List AV} {us:List Value} (hx: ∀A0:ah,(∀c,A0 c→A c)→(l1=true→ ∀c,A0 c→B c)→R w L φL A0 x u)
 (he: ∀A0,bM w L φL A0 w L0 aA A0) (h:gu w A B L0 aA l2 vs us):gu w A B L0 aA (l1||l2) (x::vs) (u::us):=by
 refine ⟨by simp [h.1],fun A0 h1 h2 i x' u' bz aN=> ?_⟩
 cases i with
 |zero=>simp at bz aN;subst bz;subst aN;exact (hx A0 h1 (fun hl=>h2 (by simp [hl]))).mono (he A0)
 |succ i=>exact h.2 A0 h1 (fun hl=>h2 (by simp [hl])) i x' u' bz aN
theorem bM.any {L L0:J} {φL aA:ag} {A1:ah} (h:bM w L φL A1 w L0 aA A1) (A0:ah):bM w L φL A0 w L0 aA A0:=
 ⟨fun _c _a _t fr hc hn=>⟨⟨fr,hc⟩,hn⟩,h.st,h.ids,h.sz⟩
theorem qI {H:J} {φ :ag} {H1:J} {L:J} {φL:ag} (ae:St w H φ A) (hl:bu H H1) {a:AV} {u:Value} (ha:R w H φ A a u) {y:AV} (hs:aP 8 H1 a=some y):
 ∀A0:ah,(∀c,A0 c→A c)→(eI a=true→ ∀c,A0 c→fm (aB φ H1) A c)→R w L φL A0 y u:=by
 intro A0 h1 h2;obtain ⟨s1,s2,_⟩:=(qB (d_ ae hl) 8).1 a u y (ha.mono (cT hl)) hs;cases hle:eI a with
 |false=>exact .fr _ _ ((s2 hle).shrink h1)
 |true=>exact .fr _ _ (s1.shrink (h2 hle))
theorem lX: ∀(as:List AV) (ms:List Mode) (fv:List (List Sh)) (us:List Value) (H:J) (φ :ag) (zs:List AV) (H1:J) (ys:List AV) (bS:Bool) (L:J) (φL:ag) (vs:List AV) (L0:J),
 bX w H φ A L φL A→as.length=us.length→(∀(i:Nat) (x:AV) (u:Value),as[i]? =some x→us[i]? =some u→R w H φ A x u)→fA ms fv as H=some (zs,H1)→b6 ms zs H1=some (ys,bS)→b_ ms ys L=(vs,L0)→
 ∃aA,b8 w H φ A L φL A H1 L0 aA∧gu w A (fm (aB φ H1) A) L0 aA bS vs us∧b5 H φ L0 aA ms as vs
 |[],ms,fv,us,H,φ,zs,H1,ys,bS,L,φL,vs,L0,hd,hl,hr,h1,h2,h3=>by
  have gN:zs=[]∧H1=H:=by
   cases ms<;>simp only [fA,Option.some.injEq,Prod.mk.injEq] at h1<;>exact ⟨h1.1.symm,h1.2.symm⟩
  obtain ⟨rfl,rfl⟩:=gN;have cq:ys=[]∧bS=false:=by
   cases ms<;>simp only [b6,Option.some.injEq,Prod.mk.injEq] at h2<;>exact ⟨h2.1.symm,h2.2.symm⟩
  obtain ⟨rfl,rfl⟩:=cq;have dA:vs=[]∧L0=L:=by
   cases ms<;>simp only [b_,Prod.mk.injEq] at h3<;>exact ⟨h3.1.symm,h3.2.symm⟩
  obtain ⟨rfl,rfl⟩:=dA;refine ⟨φL,.refl hd,⟨by simpa using hl,by simp⟩,?_⟩
  cases ms with
  |nil=>simp [b5]
  |cons m ms=>cases m<;>simp [b5]
 |a::as,[],fv,us,H,φ,zs,H1,ys,bS,L,φL,vs,L0,hd,hl,hr,h1,h2,h3=>by
  match us,hl with
  |u::us,hl=>
  simp only [fA,Option.some.injEq,Prod.mk.injEq] at h1;obtain ⟨rfl,rfl⟩:=h1;simp only [b6] at h2;split at h2
  ·rename_i y hy;split at h2
   ·rename_i aS b cq
    simp only [Option.some.injEq,Prod.mk.injEq] at h2;obtain ⟨rfl,rfl⟩:=h2;simp only [b_,lV _ _ _ _ hy,List.tail_nil,Prod.mk.injEq] at h3;obtain ⟨rfl,rfl⟩:=h3;obtain ⟨aA,m,cr,_⟩:=lX as [] fv us H φ as H aS b L φL _ _ hd (by simpa using hl) (fun i x u hx hu=>hr (i+1) x u hx hu) rfl cq rfl
    exact ⟨aA,m,gu.cons (qI (L:=L) (φL:= φL) hd.sl (.refl _) (hr 0 a u rfl rfl) hy) (fun A0=>m.eh.any A0) cr,by simp [b5]⟩
   ·simp at h2
  ·simp at h2
 |a::as,md::ms,fv,us,H,φ,zs,H1,ys,bS,L,φL,vs,L0,hd,hl,hr,h1,h2,h3=>by
  match us,hl with
  |u::us,hl=>
  simp only [fA] at h1;split at h1
  rotate_left
  ·simp at h1
  rename_i z H' hz
  split at h1
  rotate_left
  ·simp at h1
  rename_i gw gq gN
  simp only [Option.some.injEq,Prod.mk.injEq] at h1;obtain ⟨rfl,rfl⟩:=h1;have eo:=qG hz;have dc:=qH _ _ _ _ _ _ gN;have ha:=hr 0 a u rfl rfl;have rest: ∀{aS:List AV} {b:Bool} {L' :J} {ak:ag} (m1:b8 w H φ A L φL A H' L' ak) (cq:b6 ms gw gq=some (aS,b)),
   ∃aA,b8 w H' (aB φ H') A L' ak A gq (b_ ms aS L').2 aA∧gu w A (fm (aB φ gq) A) (b_ ms aS L').2 aA b (b_ ms aS L').1 us∧b5 H' (aB φ H') (b_ ms aS L').2 aA ms as (b_ ms aS L').1:=by
   intro aS b L' ak m1 cq
   obtain ⟨aA,m,cr,dP⟩:=lX as ms fv.tail us H' (aB φ H') gw gq aS b L' ak _ _ m1.bj (by simpa using hl) (fun i x u hx hu=>(hr (i+1) x u hx hu).mono (cT eo)) gN cq rfl
   refine ⟨aA,m,?_,dP⟩;rw [fN dc] at cr;exact cr
  cases md with
  |val=>
   simp only [eW,Option.some.injEq,Prod.mk.injEq] at hz;obtain ⟨rfl,rfl⟩:=hz;simp only [b6] at h2;split at h2
   rotate_left
   ·simp at h2
   rename_i y hy;split at h2
   rotate_left
   ·simp at h2
   rename_i aS b cq
   simp only [Option.some.injEq,Prod.mk.injEq] at h2;obtain ⟨rfl,rfl⟩:=h2;have iV:b_ (.val::ms) (y::aS) L=(y::(b_ ms aS L).1,(b_ ms aS L).2):=by
    simp only [b_,lV _ _ _ _ hy,List.tail_cons]
   rw [iV] at h3;simp only [Prod.mk.injEq] at h3;obtain ⟨rfl,rfl⟩:=h3;obtain ⟨aA,m,cr,dP⟩:=rest (b8.refl hd) cq;refine ⟨aA,(b8.refl hd).trans m,gu.cons (L:=L) (φL:= φL) (fun A0 q1 q2=> ?_) (fun A0=>m.eh.any A0) cr,?_⟩
   ·exact qI (L:=L) (φL:= φL) hd.sl dc ha hy A0 q1 q2
   ·simp only [b5];exact b5.mono (.refl _) (fun _ _ h=>h) (fun _ _ h=>h) dP
  |eH=>
   have dJ:aX (fv.headD []) a H=some (z,H'):=hz
   simp only [b6] at h2;split at h2
   rotate_left
   ·simp at h2
   rename_i aS b cq
   simp only [Option.some.injEq,Prod.mk.injEq] at h2;obtain ⟨rfl,rfl⟩:=h2;have iV:b_ (.eH::ms) (z::aS) L=((aD z L).1::(b_ ms aS (aD z L).2).1,(b_ ms aS (aD z L).2).2):=by
    simp only [b_,List.tail_cons]
   rw [iV] at h3;simp only [Prod.mk.injEq] at h3;obtain ⟨rfl,rfl⟩:=h3;obtain ⟨φ1,m1,r1⟩:=qv hd ha dJ rfl (.inl fun _ h=>h)
   obtain ⟨aA,m,cr,dP⟩:=rest m1 cq;have:=gu.cons (l1:=false) (L:=(aD z L).2) (φL:= φ1) (x:=(aD z L).1) (u:=u) (fun A0 q1 _=>r1.lS q1) (fun A0=>m.eh.any A0) cr;refine ⟨aA,m1.trans m,by simpa using this,?_⟩
   simp only [b5];exact b5.mono eo (fun _ _ h=>h) (fun _ _ h=>h) dP
  |io=>
   simp only [b6] at h2;split at h2
   rotate_left
   ·simp at h2
   rename_i aS b cq
   simp only [Option.some.injEq,Prod.mk.injEq] at h2;obtain ⟨rfl,rfl⟩:=h2;rcases xG hd ha hz with ⟨sz,xs,φ1,rfl,m1,r1,ro⟩|⟨sz,x,φ1,rfl,m1,r1,ro⟩
   ·have iV:b_ (.io::ms) (.own sz xs::aS) L=(.ref (aE xs L).2.bs.length (aE xs L).2.st 0 (aE xs L).1.length::(b_ ms aS ((aE xs L).2.new sz true (aE xs L).1)).1,(b_ ms aS ((aE xs L).2.new sz true (aE xs L).1)).2):=by
     simp only [b_]
    rw [iV] at h3;simp only [Prod.mk.injEq] at h3;obtain ⟨rfl,rfl⟩:=h3;obtain ⟨aA,m,cr,dP⟩:=rest m1 cq;have:=gu.cons (l1:=false) (φL:= φ1) (u:=u) (fun A0 q1 _=>r1.lS q1) (fun A0=>m.eh.any A0) cr;refine ⟨aA,m1.trans m,by simpa using this,?_⟩
    simp only [b5];refine ⟨?_,b5.mono eo (fun _ _ h=>h) (fun _ _ h=>h) dP⟩;obtain ⟨k,kv,bk,e1,e2,⟨loc,gU⟩,e3,e4⟩:=ro;exact ⟨k,kv,bk,e1,og m.bA e2,⟨loc,m.bY _ _ gU⟩,e3,fun id ad hr=>by obtain ⟨b,c,b0,q1,q2,q3,q4,q5⟩:=e4 id ad hr;exact ⟨b,c,b0,q1,q2,q3,q4,m.bY _ _ q5⟩⟩
   ·have iV:b_ (.io::ms) (.di sz x::aS) L=((aD (.di sz x) L).1::(b_ ms aS (aD (.di sz x) L).2).1,(b_ ms aS (aD (.di sz x) L).2).2):=by
     simp only [b_,List.tail_cons]
    rw [iV] at h3;simp only [Prod.mk.injEq] at h3;obtain ⟨rfl,rfl⟩:=h3;obtain ⟨aA,m,cr,dP⟩:=rest m1 cq;have:=gu.cons (l1:=false) (φL:= φ1) (u:=u) (fun A0 q1 _=>r1.lS q1) (fun A0=>m.eh.any A0) cr;refine ⟨aA,m1.trans m,by simpa using this,?_⟩
    simp only [b5];refine ⟨?_,b5.mono eo (fun _ _ h=>h) (fun _ _ h=>h) dP⟩;obtain ⟨k,kv,bk,e1,e2,⟨loc,gU⟩,e3,e4⟩:=ro;exact ⟨k,kv,bk,e1,og m.bA e2,⟨loc,m.bY _ _ gU⟩,e3,fun id ad hr=>by obtain ⟨b,c,b0,q1,q2,q3,q4,q5⟩:=e4 id ad hr;exact ⟨b,c,b0,q1,q2,q3,q4,m.bY _ _ q5⟩⟩
end bj
end Go.VS
namespace Go.VS
def cL (L Lm:J):List Mode→List AV→List (List AV)→Prop
 | .io::ms,x::xs,l::ls=>(∃k kv b,j8 x=some (k,kv)∧L.ap k kv=some b∧b.el=l∧Lm.get k=none)∧cL L Lm ms xs ls
 | .io::_,_::_,[]=>False
 | .val::ms,_::xs,ls=>cL L Lm ms xs ls
 | .eH::ms,_::xs,ls=>cL L Lm ms xs ls
 |_,_,_=>True
theorem cL.mono {L0 L Lm:J} (h:bu L0 L): ∀{ms:List Mode} {xs:List AV} {ls:List (List AV)},cL L Lm ms xs ls→cL L0 Lm ms xs ls
 |[],xs,ls,_=>by simp [cL]
 |m::ms,[],ls,_=>by cases m<;>simp [cL]
 | .val::ms,x::xs,ls,hr=>by simp only [cL] at hr⊢;exact hr.mono h
 | .eH::ms,x::xs,ls,hr=>by simp only [cL] at hr⊢;exact hr.mono h
 | .io::ms,x::xs,[],hr=>by simp only [cL] at hr
 | .io::ms,x::xs,l::ls,hr=>by
  simp only [cL] at hr⊢;obtain ⟨⟨k,kv,b,h1,h2,h3,h4⟩,h5⟩:=hr;exact ⟨⟨k,kv,b,h1,J.qF h h2,h3,h4⟩,h5.mono h⟩
theorem lY: ∀(ms:List Mode) (vs:List AV) (L:J) (ls:List (List AV)) (Lm:J),e8 ms vs L=some (ls,Lm)→bu L Lm∧cL L Lm ms vs ls
 |[],vs,L,ls,Lm,h=>by
  simp only [e8,Option.some.injEq,Prod.mk.injEq] at h;obtain ⟨rfl,rfl⟩:=h;exact ⟨.refl _,by simp [cL]⟩
 |m::ms,[],L,ls,Lm,h=>by
  cases m<;>(simp only [e8,Option.some.injEq,Prod.mk.injEq] at h;obtain ⟨rfl,rfl⟩:=h;exact ⟨.refl _,by simp [cL]⟩)
 | .val::ms,x::xs,L,ls,Lm,h=>by simp only [e8] at h;simpa only [cL] using lY ms xs L ls Lm h
 | .eH::ms,x::xs,L,ls,Lm,h=>by simp only [e8] at h;simpa only [cL] using lY ms xs L ls Lm h
 | .io::ms,x::xs,L,ls,Lm,h=>by
  simp only [e8] at h;split at h
  ·rename_i id ad hk;split at h
   ·rename_i b hb;split at h
    ·rename_i r H' hr
     simp only [Option.some.injEq,Prod.mk.injEq] at h;obtain ⟨rfl,rfl⟩:=h;obtain ⟨h1,h2⟩:=lY ms xs _ _ _ hr;refine ⟨(bu.del L id).trans h1,?_⟩;simp only [cL];refine ⟨⟨id,ad,b,hk,hb,rfl,?_⟩,h2.mono (bu.del L id)⟩;cases hq:H'.get id with
     |none=>rfl
     |some b=>have:=h1.get _ _ hq;rw [J.ij,if_pos rfl] at this;simp at this
    ·simp at h
   ·simp at h
  ·simp at h
def junk (b:bI):bI:={b with el:=b.el.map fun _=> .agg (List.replicate b.sz .undef)}
theorem xI {H:J} {id k:Nat} {b b' :bI} (h:(H.bq id b).get k=some b'):(k=id∧b' =b)∨H.get k=some b' :=by
 unfold J.bq J.get at h;simp only [List.getElem?_set] at h;by_cases hk:id=k
 ·subst hk;simp only [if_true] at h;split at h
  ·simp at h;exact .inl ⟨rfl,h.symm⟩
  ·simp at h
 ·rw [if_neg hk] at h;exact .inr h
theorem xJ {H:J} {id:Nat} {b:bI} (h:id<H.bs.length) (k:Nat):(H.bq id b).get k=if k=id then some b else H.get k:=by
 unfold J.bq J.get;simp only [List.getElem?_set];by_cases hk:id=k
 ·subst hk;simp [h]
 ·rw [if_neg hk,if_neg (fun e=>hk e.symm)]
def gx (H0:J) (v:AV) (H:J):J:=
 match dE v with
 |some (id,ad)=>match H0.ap id ad with
  |some b=>H.bq id (junk b)
  |none=>H
 |none=>H
theorem xK (H0:J) (v:AV) (H:J):(gx H0 v H).bs.length=H.bs.length∧(gx H0 v H).st=H.st:=by
 unfold gx;split
 ·split
  ·simp [J.bq]
  ·exact ⟨rfl,rfl⟩
 ·exact ⟨rfl,rfl⟩
theorem qJ (H0:J) (ms:List Mode) (v:AV) (vs:List AV) (H:J):cv H0 (.io::ms) (v::vs) H=cv H0 ms vs (gx H0 v H):=rfl
theorem xL {H0:J} {v:AV} {H:J} {k:Nat} {b' :bI} (h:(gx H0 v H).get k=some b'):H.get k=some b' ∨ ∃ad b,dE v=some (k,ad)∧H0.ap k ad=some b∧b' =junk b:=by
 unfold gx at h;split at h
 ·rename_i id ad hr;split at h
  ·rename_i b hb;rcases xI h with ⟨rfl,rfl⟩|h
   ·exact .inr ⟨ad,b,hr,hb,rfl⟩
   ·exact .inl h
  ·exact .inl h
 ·exact .inl h
theorem lZ (H0:J): ∀(ms:List Mode) (as:List AV) (H:J),(cv H0 ms as H).bs.length=H.bs.length∧(cv H0 ms as H).st=H.st
 |[],as,H=>by simp [cv]
 |m::ms,[],H=>by cases m<;>simp [cv]
 | .val::ms,a::as,H=>by simp only [cv];exact lZ H0 ms as H
 | .eH::ms,a::as,H=>by simp only [cv];exact lZ H0 ms as H
 | .io::ms,a::as,H=>by
  rw [qJ];have:=lZ H0 ms as (gx H0 a H);have h2:=xK H0 a H;exact ⟨this.1.trans h2.1,this.2.trans h2.2⟩
theorem l4 (H0:J) {Lx Lm:J} {φ :ag} {L0:J} {aA:ag}: ∀(ms:List Mode) (as vs:List AV) (ls:List (List AV)) (H:J) (k:Nat) (b' :bI),as.length=vs.length→b5 H0 φ L0 aA ms as vs→cL Lx Lm ms vs ls→
 (cv H0 ms as H).get k=some b' →H.get k=some b' ∨ ∃a x ad b kk kv bk,dE a=some (k,ad)∧H0.ap k ad=some b∧b' =junk b∧gT H0 φ L0 aA a x∧j8 x=some (kk,kv)∧Lx.ap kk kv=some bk∧Lm.get kk=none
 |[],as,vs,ls,H,k,b',_,_,_,h=>by simp only [cv] at h;exact .inl h
 |m::ms,[],vs,ls,H,k,b',_,_,_,h=>by cases m<;>(simp only [cv] at h;exact .inl h)
 |m::ms,a::as,[],ls,H,k,b',hl,_,_,h=>by simp at hl
 | .val::ms,a::as,x::vs,ls,H,k,b',hl,h1,h2,h=>by
  simp only [cv] at h;exact l4 H0 ms as vs ls H k b' (by simpa using hl) (by simpa only [b5] using h1) (by simpa only [cL] using h2) h
 | .eH::ms,a::as,x::vs,ls,H,k,b',hl,h1,h2,h=>by
  simp only [cv] at h;exact l4 H0 ms as vs ls H k b' (by simpa using hl) (by simpa only [b5] using h1) (by simpa only [cL] using h2) h
 | .io::ms,a::as,x::vs,[],H,k,b',hl,h1,h2,h=>by simp only [cL] at h2
 | .io::ms,a::as,x::vs,l::ls,H,k,b',hl,h1,h2,h=>by
  rw [qJ] at h;simp only [b5] at h1;simp only [cL] at h2;rcases l4 H0 ms as vs ls _ k b' (by simpa using hl) h1.2 h2.2 h with h3|h3
  ·rcases xL h3 with h4|⟨ad,b,q1,q2,q3⟩
   ·exact .inl h4
   ·obtain ⟨kk,kv,bk,p1,p2,_,p4⟩:=h2.1;exact .inr ⟨a,x,ad,b,kk,kv,bk,q1,q2,q3,h1.1,p1,p2,p4⟩
  ·exact .inr h3
def Has (Hx:J) (id ad:Nat) (b:bI):Prop:= ∃b',Hx.ap id ad=some b' ∧b'.sz=b.sz∧b'.el.length=b.el.length
theorem Has.gx {H0 Hx:J} {id ad:Nat} {b:bI} (h0:H0.ap id ad=some b) (h:Has Hx id ad b) (v:AV):Has (gx H0 v Hx) id ad b:=by
 obtain ⟨b',h1,h2,h3⟩:=h;unfold VS.gx;split
 ·rename_i l5 Aj hr;split
  ·rename_i b2 fg;have aw:id<Hx.bs.length:=J.ib (J.br h1).1;by_cases bU:l5=id
   ·subst bU;have g1:=J.br h0;have g2:=J.br fg;have:b2=b:=by have:=g1.1.symm.trans g2.1;simp only [Option.some.injEq] at this;exact this.symm
    subst this;refine ⟨junk b2,?_,rfl,by simp [junk]⟩
    have:=J.gd (H:=Hx.bq l5 (junk b2)) (id:=l5) (b:=junk b2) (by rw [xJ aw,if_pos rfl])
    rw [←g1.2];exact this
   ·refine ⟨b',?_,h2,h3⟩;have g:=J.br h1;have:(Hx.bq l5 (junk b2)).get id=some b' :=by
     unfold J.bq J.get;simp only [List.getElem?_set];rw [if_neg bU];exact g.1
    rw [←g.2];exact J.gd this
  ·exact ⟨b',h1,h2,h3⟩
 ·exact ⟨b',h1,h2,h3⟩
structure oj (w:World) (A:ah) (aA:ag) (w' :World) (ak:ag) (AH:ah):Prop where
 own: ∀c,A c→ ¬Ow aA c→AH c
 ej: ∀c,Ow ak c→AH c
 ca: ∀c,AH c→c<w'.heap.size
 fz: ∀c arr T fr,w.heap[c]? =some (.cells arr T fr)→ ¬A c→(∃eJ,w'.heap[c]? =some (.cells arr T eJ))∧ ¬AH c
def xM (w:World) (L:J) (φL:ag) (AL:ah) (H:J) (φ :ag) (a:AV) (l:List AV):Prop:=
 (dE a=none→l=[])∧ ∀id ad,dE a=some (id,ad)→ ∃c b0 b arr T fr,H.ap id ad=some b∧ φ id=some (.at_ c b0)∧w.heap[c]? =some (.cells arr T fr)∧l.length=b.el.length∧
  (∀(i:Nat) (x:AV),l[i]? =some x→x.cells.length=b.sz)∧ ∀(i:Nat) (x:AV) (j:Nat) (y:AV) (v:Value),l[i]? =some x→x.cells[j]? =some y→arr[b0+i*b.sz+j]? =some v→R w L φL AL y v
def ep (w:World) (L:J) (φL:ag) (AL:ah) (H:J) (φ :ag):List Mode→List AV→List (List AV)→Prop
 | .io::ms,a::as,l::ls=>xM w L φL AL H φ a l∧ep w L φL AL H φ ms as ls
 | .val::ms,_::as,ls=>ep w L φL AL H φ ms as ls
 | .eH::ms,_::as,ls=>ep w L φL AL H φ ms as ls
 |_,_,_=>True
section back
variable {w w' :World} {A:ah} {H:J} {φ :ag} {H1 L0:J} {aA:ag} {A0:ah} {L:J} {ak:ag} {A' AH:ah} {ms:List Mode} {as vs:List AV} {ls:List (List AV)} {Lm:J}
theorem ol (m:b8 w H φ A ⟨0,[]⟩ (fun _=>none) A H1 L0 aA) (ho:Out w L0 aA A0 w' L ak A') {a x:AV} (hr:gT H φ L0 aA a x) {kk kv:Nat} {bk:bI} (hk:j8 x=some (kk,kv)) (hb:L.ap kk kv=some bk):
 (dE a=none→bk.el=[])∧ ∀id ad,dE a=some (id,ad)→ ∃b c b0,H.ap id ad=some b∧bk.sz=b.sz∧bk.el.length=b.el.length∧ φ id=some (.at_ c b0)∧ak kk=some (.at_ c b0)∧pE w' L ak A' bk (.at_ c b0):=by
 obtain ⟨k,Ak,b1,e1,e2,⟨loc,gU⟩,e3,e4⟩:=hr;rw [hk] at e1;simp only [Option.some.injEq,Prod.mk.injEq] at e1;obtain ⟨rfl,rfl⟩:=e1;obtain ⟨g1,g2⟩:=J.br hb;obtain ⟨f1,f2⟩:=J.br e2;have aw:kv<L0.st:=by
  obtain ⟨bb,p1,p2⟩:=m.bj.sh.ap kk loc gU;rw [f1] at p1;simp only [Option.some.injEq] at p1;subst p1;rw [←f2];exact p2.ad
 ·obtain ⟨b2,i1,i2,i3,i4,i5,i6⟩:=ho.bW.ids kk bk g1 (by omega)
  rw [f1] at i1;simp only [Option.some.injEq] at i1;subst i1;refine ⟨fun h=>List.eq_nil_of_length_eq_zero (by rw [i5,e3 h];rfl),fun id ad h=> ?_⟩
  obtain ⟨b,c,b0,q1,q2,q3,q4,q5⟩:=e4 id ad h;have hp:=i6 _ q5;obtain ⟨bb,p1,p2⟩:=ho.st.ap kk _ hp;rw [g1] at p1;simp only [Option.some.injEq] at p1;subst p1;exact ⟨b,c,b0,q1,i3.trans q2,i5.trans q3,q4,hp,p2⟩
theorem qK (ae:St w H φ A) (m:b8 w H φ A ⟨0,[]⟩ (fun _=>none) A H1 L0 aA) (hlen:as.length=vs.length) (dP:b5 H φ L0 aA ms as vs) (ho:Out w L0 aA A0 w' L ak A') (ha:oj w A aA w' ak AH) (ht:e8 ms vs L=some (ls,Lm)):
 bX w' Lm (aB ak Lm) A' (cv H ms as H1) (aB φ (cv H ms as H1)) AH∧bM w H φ A w' (cv H ms as H1) (aB φ (cv H ms as H1)) AH:=by
 obtain ⟨eo,om⟩:=lY _ _ _ _ _ ht;have bh: ∀c,Ow aA c→Ow φ c:=fun c hc=>by
  rcases m.oh c hc with ⟨i,b,h⟩|h
  ·simp at h
  ·exact h.1
 have bA:=fun k b' =>l4 H ms as vs ls H1 k b' hlen dP om
 have oo:=(lZ H ms as H1).2;have aW:bM w H φ A w' (cv H ms as H1) (aB φ (cv H ms as H1)) AH:=by
  refine ⟨ha.fz,by rw [oo,m.less.st];exact Nat.le_refl _,fun id b' ax _=> ?_,fun c hc=>ho.post.a_ c (Ow.lt ae hc)⟩
  have bY: ∀loc,φ id=some loc→aB φ (cv H ms as H1) id=some loc:=fun loc h=>by simp [aB,ax,h]
  rcases bA id b' ax with h|⟨a,x,ad,b,kk,kv,bk,q1,q2,rfl,q4,q5,q6,q7⟩
  ·exact ⟨b',m.less.get _ _ h,rfl,rfl,rfl,rfl,bY⟩
  ·exact ⟨b,(J.br q2).1,rfl,rfl,rfl,by simp [junk],bY⟩
 refine ⟨⟨d_ ho.st eo,⟨fun i i' c b b' h1 h2=>ae.inj _ _ _ _ _ (df h1).1 (df h2).1,fun c hc=> ?_,ha.ca,fun id loc hl=> ?_⟩,fun c hc hj=> ?_,fun c hc=>ha.ej c (bF hc)⟩,aW⟩
 ·obtain ⟨id,b0,h⟩:=hc;obtain ⟨h1,b',ax⟩:=df h;rcases bA id b' ax with h2|⟨a,x,ad,b,kk,kv,bk,q1,q2,rfl,q4,q5,q6,q7⟩
  ·refine ha.own c (ae.own c ⟨id,b0,h1⟩) (m.bj.b7 c ⟨id,b0,?_⟩);simp [aB,h2,h1]
  ·obtain ⟨_,re⟩:=ol m ho q4 q5 q6;obtain ⟨b2,c2,oq,_,_,_,r4,r5,_⟩:=re id _ q1;rw [h1] at r4;simp only [Option.some.injEq,Loc.at_.injEq] at r4;obtain ⟨rfl,rfl⟩:=r4;exact ha.ej c ⟨kk,b0,r5⟩
 ·obtain ⟨h1,b',ax⟩:=df hl;refine ⟨b',ax,?_⟩;rcases bA id b' ax with h2|⟨a,x,ad,b,kk,kv,bk,q1,q2,rfl,q4,q5,q6,q7⟩
  ·obtain ⟨b2,fg,af⟩:=ae.ap id loc h1;rw [m.less.get _ _ h2] at fg;simp only [Option.some.injEq] at fg;subst fg;refine ⟨by rw [oo,m.less.st];exact af.ad,af.sized,af.aQ,fun c b0 he=> ?_⟩
   subst he;obtain ⟨arr,T,fr,k1,k2,k3,k4⟩:=af.here c b0 rfl;have hn: ¬Ow aA c:=m.bj.b7 c ⟨id,b0,by simp [aB,h2,h1]⟩
   refine ⟨arr,T,fr,?_,k2,k3,fun i x j y v hx hy hv=>⟨(k4 i x j y v hx hy hv).1.mono aW,(k4 i x j y v hx hy hv).2⟩⟩;rw [ho.post.kept c (Ow.lt ae ⟨id,b0,h1⟩) hn];exact k1
  ·obtain ⟨_,re⟩:=ol m ho q4 q5 q6;obtain ⟨b2,c2,oq,r1,r2,r3,r4,r5,af⟩:=re id _ q1;rw [h1] at r4;simp only [Option.some.injEq] at r4;subst r4;rw [q2] at r1;simp only [Option.some.injEq] at r1;subst r1;obtain ⟨b3,kq,xN⟩:=ae.ap id _ h1;rw [(J.br q2).1] at kq;simp only [Option.some.injEq] at kq;subst kq;have hcs: ∀(i:Nat) (x:AV),(junk b).el[i]? =some x→i<b.el.length∧x= .agg (List.replicate b.sz .undef):=by
    intro i x hx;simp only [junk,List.getElem?_map,Option.map_eq_some_iff] at hx;obtain ⟨z,hz,rfl⟩:=hx;exact ⟨(List.getElem?_eq_some_iff.1 hz).1,rfl⟩
   refine ⟨by rw [oo,m.less.st];exact xN.ad,fun i x hx=>by rw [(hcs i x hx).2];simp [AV.cells,junk],fun h=>by simp at h,fun c b0 he=> ?_⟩
   simp only [Loc.at_.injEq] at he;obtain ⟨rfl,rfl⟩:=he;obtain ⟨arr,T,fr,k1,k2,k3,k4⟩:=af.here c2 oq rfl;refine ⟨arr,T,fr,k1,k2,by simp only [junk,List.length_map];rw [←r3,←r2];exact k3,fun i x j y v hx hy hv=> ?_⟩
   obtain ⟨hi,rfl⟩:=hcs i x hx;have hj:j<b.sz:=by have:=(List.getElem?_eq_some_iff.1 hy).1;simpa [AV.cells] using this
   have xO:y= .undef:=by simp only [AV.cells] at hy;rw [List.getElem?_replicate,if_pos hj] at hy;simpa using hy.symm
   subst xO;refine ⟨.fr _ _ (.undef _),?_⟩;have qL:=List.getElem?_eq_getElem (show i<bk.el.length by omega)
   exact (k4 i _ j _ v qL (List.getElem?_eq_getElem (show j<_ by rw [af.sized _ _ qL,r2];exact hj)) (by rw [r2];exact hv)).2
 ·obtain ⟨id,b0,h⟩:=hj;obtain ⟨h1,b',ax⟩:=df h;rcases bA id b' ax with h2|⟨a,x,ad,b,kk,kv,bk,q1,q2,rfl,q4,q5,q6,q7⟩
  ·rcases ho.post.own c (bF hc) with h3|h3
   ·exact m.bj.b7 c ⟨id,b0,by simp [aB,h2,h1]⟩ h3
   ·have:=Ow.lt ae ⟨id,b0,h1⟩;omega
  ·obtain ⟨_,re⟩:=ol m ho q4 q5 q6;obtain ⟨b2,c2,oq,_,_,_,r4,r5,_⟩:=re id _ q1;rw [h1] at r4;simp only [Option.some.injEq,Loc.at_.injEq] at r4;obtain ⟨rfl,rfl⟩:=r4;obtain ⟨i,bb,hi⟩:=hc;obtain ⟨fk,bx,qM⟩:=df hi;have:=ho.st.inj _ _ _ _ _ fk r5;subst this;rw [q7] at qM;simp at qM
end back
end Go.VS
namespace Go.VS
section back
variable {w:World} {AL AH:ah}
structure Mv (w:World) (L:J) (φL:ag) (AL:ah) (H:J) (φ :ag) (AH:ah) (L1 H1:J) (φ1:ag):Prop where
 less:bu L L1
 bj:bX w L1 (aB φL L1) AL H1 φ1 AH
 eh:bM w H φ AH w H1 φ1 AH
 oh: ∀c,Ow φ1 c→Ow φ c∨(Ow φL c∧ ¬Ow (aB φL L1) c)
 has: ∀id ad b,H.ap id ad=some b→ ∃b',H1.ap id ad=some b' ∧b'.sz=b.sz∧b'.el.length=b.el.length
 bY: ∀id loc,φ id=some loc→ φ1 id=some loc
theorem Mv.trans {L L1 L2:J} {φL:ag} {H H1 H2:J} {φ φ1 a7:ag} (h:Mv w L φL AL H φ AH L1 H1 φ1) (k:Mv w L1 (aB φL L1) AL H1 φ1 AH L2 H2 a7):Mv w L φL AL H φ AH L2 H2 a7:=by
 have hr:=fN (φ := φL) k.less;refine ⟨h.less.trans k.less,by rw [←hr];exact k.bj,h.eh.trans k.eh (fun _ _=>rfl),fun c hc=> ?_,fun id ad b hb=> ?_,fun id loc hl=>k.bY id loc (h.bY id loc hl)⟩
 ·rcases k.oh c hc with h1|⟨h1,h2⟩
  ·rcases h.oh c h1 with h3|⟨h3,h4⟩
   ·exact .inl h3
   ·refine .inr ⟨h3,fun h5=>h4 ?_⟩;rw [←hr] at h5;exact bF h5
  ·rw [hr] at h2;exact .inr ⟨bF h1,h2⟩
 ·obtain ⟨b1,e1,e2,e3⟩:=h.has id ad b hb;obtain ⟨b2,f1,f2,f3⟩:=k.has id ad b1 e1;exact ⟨b2,f1,f2.trans e2,f3.trans e3⟩
theorem kr.refl {w:World} {c:Nat} {o:Obj} (h:w.heap[c]? =some o):kr w c o w:=⟨h,fun _ _=>rfl,rfl,rfl,rfl,rfl⟩
theorem ep.mono {L L1:J} {φL:ag} {H H1:J} {φ φ1:ag} (hl:bu L L1) (has: ∀id ad b,H.ap id ad=some b→ ∃b',H1.ap id ad=some b' ∧b'.sz=b.sz∧b'.el.length=b.el.length) (bY: ∀id loc,φ id=some loc→ φ1 id=some loc):
 ∀{ms:List Mode} {as:List AV} {ls:List (List AV)},ep w L φL AL H φ ms as ls→ep w L1 (aB φL L1) AL H1 φ1 ms as ls
 |[],as,ls,_=>by simp [ep]
 |m::ms,[],ls,_=>by cases m<;>simp [ep]
 | .val::ms,a::as,ls,h=>by simp only [ep] at h⊢;exact ep.mono hl has bY h
 | .eH::ms,a::as,ls,h=>by simp only [ep] at h⊢;exact ep.mono hl has bY h
 | .io::ms,a::as,[],h=>by simp [ep]
 | .io::ms,a::as,l::ls,h=>by
  simp only [ep] at h⊢;refine ⟨⟨h.1.1,fun id ad hr=> ?_⟩,ep.mono hl has bY h.2⟩;obtain ⟨c,b0,b,arr,T,fr,k1,k2,k3,k4,k5,k6⟩:=h.1.2 id ad hr;obtain ⟨b',e1,e2,e3⟩:=has id ad b k1;exact ⟨c,b0,b',arr,T,fr,e1,bY _ _ k2,k3,by rw [k4,e3],fun i x hx=>by rw [e2];exact k5 i x hx,fun i x j y v hx hy hv=>(k6 i x j y v hx hy (by rw [←e2];exact hv)).mono (cT hl)⟩
theorem qN: ∀(sh:List (List Sh)) (rs:List AV) (us:List Value) (L:J) (φL:ag) (H:J) (φ :ag) (ys:List AV) (L1:J),bX w L φL AL H φ AH→rs.length=us.length→
 (∀(i:Nat) (x:AV) (u:Value),rs[i]? =some x→us[i]? =some u→R w L φL AL x u)→cX sh rs L=some (ys,L1)→dO AL AH ys→
 ∃ φ1,b8 w L φL AL H φ AH L1 (aE ys H).2 φ1∧(aE ys H).1.length=us.length∧ ∀(i:Nat) (x:AV) (u:Value),(aE ys H).1[i]? =some x→us[i]? =some u→R w (aE ys H).2 φ1 AH x u
 |sh,[],us,L,φL,H,φ,ys,L1,hd,hl,hr,ht,hk=>by
  simp only [cX,Option.some.injEq,Prod.mk.injEq] at ht;obtain ⟨rfl,rfl⟩:=ht;exact ⟨φ,.refl hd,hl,by simp [aE]⟩
 |sh,x::rs,u::us,L,φL,H,φ,ys,L1,hd,hl,hr,ht,hk=>by
  simp only [cX] at ht;split at ht
  rotate_left
  ·simp at ht
  rename_i y L' h1
  split at ht
  rotate_left
  ·simp at ht
  rename_i aS c5 h2
  simp only [Option.some.injEq,Prod.mk.injEq] at ht;obtain ⟨rfl,rfl⟩:=ht;obtain ⟨k1,k2⟩:=hk.cons;obtain ⟨φ1,m1,r1⟩:=qv hd (hr 0 x u rfl rfl) h1 rfl k1;obtain ⟨a7,m2,l2,r2⟩:=qN sh.tail rs us L' (aB φL L') (aD y H).2 φ1 aS c5 m1.bj (by simpa using hl) (fun i x u hx hu=>(hr (i+1) x u hx hu).mono (cT m1.less)) h2 k2
  refine ⟨a7,m1.trans m2,by simp [aE,l2],fun i x' u' hx hu=> ?_⟩
  cases i with
  |zero=>simp [aE] at hx hu;subst hx;subst hu;exact r1.mono m2.eh
  |succ i=>simp only [aE,List.getElem?_cons_succ] at hx hu;exact r2 i x' u' hx hu
 |sh,x::rs,[],L,φL,H,φ,ys,L1,hd,hl,hr,ht,hk=>by simp at hl
theorem qO: ∀(sh:List (List Sh)) (rs:List AV) (L:J) (ys:List AV) (L1:J),cX sh rs L=some (ys,L1)→bu L L1
 |sh,[],L,ys,L1,ht=>by simp only [cX,Option.some.injEq,Prod.mk.injEq] at ht;obtain ⟨rfl,rfl⟩:=ht;exact .refl _
 |sh,x::rs,L,ys,L1,ht=>by
  simp only [cX] at ht;split at ht
  ·rename_i y L' h1
   split at ht
   ·rename_i aS c5 h2
    simp only [Option.some.injEq,Prod.mk.injEq] at ht;obtain ⟨rfl,rfl⟩:=ht;exact (fl _ _ _ _ _ h1).trans (qO _ rs _ _ _ h2)
   ·simp at ht
  ·simp at ht
theorem qP {es:List Sh} {x:AV} {v:Value} {L:J} {φL:ag} {A' :ah} {y:AV} {L1:J} (ae:St w L φL AL) (hx:R w L φL AL x v) (ht:aX es x L=some (y,L1)) (hk: ∀c,A' c→gone φL AL L1 c):FR w A' (bn y) v:=by
 by_cases bT: ∃cs,x= .agg cs
 ·obtain ⟨cs,rfl⟩:=bT;obtain ⟨aU,hc,rfl⟩:=kE ht;obtain ⟨vs,rfl,hl,ho,hp⟩:=hx.fE;obtain ⟨l1,r1⟩:=od es cs vs.toList L φL AL A' aU L1 ae (by simpa using hl) (fun j c u hj hu=>hp j c u hj (by simpa using hu)) hc hk
  exact .agg _ _ (by rw [l1,hl]) ho fun i x v hx hv=>r1 i x v hx (by simpa using hv)
 ·obtain ⟨e,rfl,cU⟩:=iU (fun cs h=>bT ⟨cs,h⟩) ht;exact (lU e x v L φL AL A' y L1 ae hx cU hk).1
theorem ou {A' :ah}: ∀(sh:List (List Sh)) (rs:List AV) (us:List Value) (L:J) (φL:ag) (ys:List AV) (L1:J),St w L φL AL→rs.length=us.length→
 (∀(i:Nat) (x:AV) (u:Value),rs[i]? =some x→us[i]? =some u→R w L φL AL x u)→cX sh rs L=some (ys,L1)→(∀c,A' c→gone φL AL L1 c)→
 (bR ys).length=us.length∧ ∀(i:Nat) (x:AV) (u:Value),(bR ys)[i]? =some x→us[i]? =some u→FR w A' x u
 |sh,[],us,L,φL,ys,L1,hd,hl,hr,ht,hk=>by
  simp only [cX,Option.some.injEq,Prod.mk.injEq] at ht;obtain ⟨rfl,rfl⟩:=ht;exact ⟨hl,by simp [bR]⟩
 |sh,x::rs,u::us,L,φL,ys,L1,hd,hl,hr,ht,hk=>by
  simp only [cX] at ht;split at ht
  rotate_left
  ·simp at ht
  rename_i y L' h1
  split at ht
  rotate_left
  ·simp at ht
  rename_i aS c5 h2
  simp only [Option.some.injEq,Prod.mk.injEq] at ht;obtain ⟨rfl,rfl⟩:=ht;have eo:=fl _ _ _ _ _ h1;have dc:=qO _ _ _ _ _ h2;have r1:=qP (A' :=A') hd (hr 0 x u rfl rfl) h1 (fun c hc=>n_ dc (hk c hc))
  obtain ⟨l2,r2⟩:=ou sh.tail rs us L' (aB φL L') aS c5 (d_ hd eo) (by simpa using hl) (fun i x u hx hu=>(hr (i+1) x u hx hu).mono (cT eo)) h2 (fun c hc=>by
   obtain ⟨k1,k2⟩:=hk c hc;exact ⟨k1,fun ho=>by rw [fN dc];exact k2 (bF ho)⟩)
  refine ⟨by simp [bR,l2],fun i x' u' hx hu=> ?_⟩
  cases i with
  |zero=>simp [bR] at hx hu;subst hx;subst hu;exact r1
  |succ i=>simp only [bR,List.getElem?_cons_succ] at hx hu;exact r2 i x' u' hx hu
 |sh,x::rs,[],L,φL,ys,L1,hd,hl,hr,ht,hk=>by simp at hl
end back
end Go.VS
namespace Go.VS
def gV:List Value→Value
 |[v]=>v
 |vs=> .tuple vs.toArray
def jI (P:Program) (f:FuncId):Prop:= ∃fn,P.funcs[f]? =some fn∧(fn.name== "runtime.NumGoroutine")=false∧fn.body.isNone=false
def il (w:World) (H:J) (φ :ag) (A:ah) (K:AV→J→Prop) (e:Ending) (w' :World):Prop:=
 match e with
 | .returned v' => ∃x H' ak A',Out w H φ A w' H' ak A' ∧R w' H' ak A' x v' ∧K x H'
 |_=>False
theorem il.mono {w:World} {H:J} {φ :ag} {A:ah} {K K' :AV→J→Prop} (h: ∀v H,K v H→K' v H) {e:Ending} {w' :World} (k:il w H φ A K e w'):il w H φ A K' e w' :=by
 cases e with
 |returned v' =>obtain ⟨x,H',ak,A',h1,h2,h3⟩:=k;exact ⟨x,H',ak,A',h1,h2,h _ _ h3⟩
 |panicked c=>exact k
 |outgrown=>exact k
def cV (P:Program):bD:=fun f ys H K=>jI P f∧
 ∀(w:World) (A:ah) (φ :ag) (us:Array Value),St w H φ A→ys.length=us.size→
  (∀(i:Nat) (x:AV) (u:Value),ys[i]? =some x→us[i]? =some u→R w H φ A x u)→Calls P f us w (il w H φ A K)
theorem cV.mono {P:Program} {f:FuncId} {ys:List AV} {H:J} {K K' :AV→J→Prop} (h: ∀v H,K v H→K' v H) (k:cV P f ys H K):cV P f ys H K' :=
 ⟨k.1,fun w A φ us h1 h2 h3=>(k.2 w A φ us h1 h2 h3).mono fun _ _ he=>he.mono h⟩
def Exact (X:bD):Prop:= ∀f ys H K,X f ys H K→ ∃v H',X f ys H (fun v1 H1=>v1=v∧H1=H')∧K v H'
theorem St.shrink {w:World} {H:J} {φ :ag} {A A' :ah} (h:St w H φ A) (h1: ∀c,A' c→A c) (h2: ∀c,Ow φ c→A' c):St w H φ A' :=by
 refine ⟨h.inj,h2,fun c hc=>h.ca c (h1 c hc),fun id loc hl=> ?_⟩;obtain ⟨b,hb,af⟩:=h.ap id loc hl;refine ⟨b,hb,af.ad,af.sized,af.aQ,fun c b0 he=> ?_⟩;obtain ⟨arr,T,fr,k1,k2,k3,k4⟩:=af.here c b0 he;exact ⟨arr,T,fr,k1,k2,k3,fun i x j y v hx hy hv=>⟨(k4 i x j y v hx hy hv).1.lS h1,(k4 i x j y v hx hy hv).2⟩⟩
section
variable {w:World} {H:J} {φ :ag} {A:ah}
theorem ov {xs:List AV} {us:List Value} (hl:xs.length=us.length) (h: ∀(i:Nat) (x:AV) (u:Value),xs[i]? =some x→us[i]? =some u→R w H φ A x u):R w H φ A (b9 xs) (gV us):=by
 have key: ∀{xs:List AV} {us:List Value},xs.length=us.length→(∀(i:Nat) (x:AV) (u:Value),xs[i]? =some x→us[i]? =some u→R w H φ A x u)→R w H φ A (.aC xs) (.tuple us.toArray):=
  fun hl h=> .aC _ _ (by simpa using hl) fun i x v hx hv=>h i x v hx (by simpa using hv)
 match xs,us,hl with
 |[],[],hl=>exact key hl h
 |[x],[u],_=>exact h 0 x u rfl rfl
 |x::x' ::xs,u::u' ::us,hl=>exact key hl h
theorem qQ {xs:List AV} {us:List Value} (hl:xs.length=us.length) (h: ∀(i:Nat) (x:AV) (u:Value),xs[i]? =some x→us[i]? =some u→FR w A x u):FR w A (b9 xs) (gV us):=by
 have key: ∀{xs:List AV} {us:List Value},xs.length=us.length→(∀(i:Nat) (x:AV) (u:Value),xs[i]? =some x→us[i]? =some u→FR w A x u)→FR w A (.aC xs) (.tuple us.toArray):=
  fun hl h=> .aC _ _ (by simpa using hl) fun i x v hx hv=>h i x v hx (by simpa using hv)
 match xs,us,hl with
 |[],[],hl=>exact key hl h
 |[x],[u],_=>exact h 0 x u rfl rfl
 |x::x' ::xs,u::u' ::us,hl=>exact key hl h
end
theorem qR (zs:List AV) (H:J):aD (b9 zs) H=(b9 (aE zs H).1,(aE zs H).2):=by
 match zs with
 |[]=>rfl
 |[z]=>rfl
 |z::z' ::zs=>rfl
theorem qS (zs:List AV):bn (b9 zs)=b9 (bR zs):=by
 match zs with
 |[]=>rfl
 |[z]=>rfl
 |z::z' ::zs=>rfl
theorem qT (zs:List AV):cb (b9 zs)=dV zs:=by
 match zs with
 |[]=>rfl
 |[z]=>simp [b9,dV]
 |z::z' ::zs=>rfl
theorem qU {xs:List AV} {v:Value} {w:World} {H:J} {φ :ag} {A:ah} (h:R w H φ A (b9 xs) v): ∃us:List Value,v=gV us∧xs.length=us.length∧ ∀(i:Nat) (x:AV) (u:Value),xs[i]? =some x→us[i]? =some u→R w H φ A x u:=by
 have key: ∀{xs:List AV},xs.length≠1→R w H φ A (.aC xs) v→ ∃us:List Value,v=gV us∧xs.length=us.length∧ ∀(i:Nat) (x:AV) (u:Value),xs[i]? =some x→us[i]? =some u→R w H φ A x u:=by
  intro xs hl h;obtain ⟨vs,rfl,h1,h2⟩:=h.lv;refine ⟨vs.toList,?_,by simpa using h1,fun i x u hx hu=>h2 i x u hx (by simpa using hu)⟩
  have c9:vs.toList.length≠1:=by simp only [Array.length_toList];omega
  generalize hv:vs.toList=l at c9;have:Value.tuple vs= .tuple l.toArray:=by rw [←hv]
  rw [this]
  match l with
  |[]=>rfl
  |[u]=>exact absurd rfl c9
  |u::u' ::l=>rfl
 match xs with
 |[]=>exact key (by simp) h
 |[x]=>exact ⟨[v],rfl,rfl,fun i x' u hx hu=>by
  cases i with
  |zero=>simp at hx hu;subst hx;subst hu;exact h
  |succ i=>simp at hx⟩
 |x::x' ::xs=>exact key (by simp) h
def l6 (ms:List Mode):Prop:= ∀m∈ms,m= .val
theorem oz: ∀(ms:List Mode) (sh:List (List Sh)) (as:List AV) (H:J),l6 ms→fA ms sh as H=some (as,H)
 |[],sh,as,H,_=>rfl
 |m::ms,sh,[],H,_=>rfl
 |m::ms,sh,a::as,H,h=>by
  have hm:=h m (by simp)
  subst hm;simp only [fA,eW,oz ms sh.tail as H (fun m hm=>h m (by simp [hm]))]
theorem oA (H0:J): ∀(ms:List Mode) (as:List AV) (H:J),l6 ms→cv H0 ms as H=H
 |[],as,H,_=>by simp [cv]
 |m::ms,[],H,_=>by cases m<;>simp [cv]
 |m::ms,a::as,H,h=>by
  have hm:=h m (by simp)
  subst hm;simp only [cv];exact oA H0 ms as H (fun m hm=>h m (by simp [hm]))
theorem jJ {w:World} {H:J} {φ :ag} {A:ah} (ae:St w H φ A):aB φ H= φ :=by
 funext id
 unfold aB;cases hp: φ id with
 |none=>simp
 |some loc=>obtain ⟨b,hb,_⟩:=ae.ap id loc hp;simp [hb]
theorem oB {H:J}: ∀(as ys:List AV) (b:Bool),b6 [] as H=some (ys,b)→ ∀L,b_ [] ys L=(ys,L)
 |[],ys,b,h,L=>by simp only [b6,Option.some.injEq,Prod.mk.injEq] at h;obtain ⟨rfl,_⟩:=h;rfl
 |a::as,ys,b,h,L=>by
  simp only [b6] at h;split at h
  ·rename_i y hy;split at h
   ·rename_i aS b' cq
    simp only [Option.some.injEq,Prod.mk.injEq] at h;obtain ⟨rfl,_⟩:=h;simp only [b_,lV H 8 a y hy,List.tail_nil,oB as aS b' cq]
   ·simp at h
  ·simp at h
theorem xP {P:Program} {C:aF} {X:bD} (hX: ∀f ys H K,X f ys H K→cV P f ys H K) {w:World} {H:J} {φ :ag} {A:ah} (ae:St w H φ A) {f:FuncId} {as:List AV} {us:Array Value} (hl:as.length=us.size)
 (hr: ∀(i:Nat) (x:AV) (u:Value),as[i]? =some x→us[i]? =some u→R w H φ A x u) {th:Bool} {K:AV→J→Prop} (h:dm X C f as th H K):jI P f∧Calls P f us w (il w H φ A K):=by
 unfold dm at h;split at h
 ·exact h.elim
 rename_i ys bS hy;obtain ⟨y,kH,gS,hp⟩:=h;have hm:l6 []:=fun m hm=>by simp at hm
 have oC:bX w H φ A ⟨0,[]⟩ (fun _=>none) A:=by
  refine ⟨ae,⟨fun i i' c b b' h=>by simp at h,fun c hc=> ?_,ae.ca,fun id loc h=>by simp at h⟩,fun c _ hc=> ?_,ae.own⟩
  ·obtain ⟨i,b,h⟩:=hc;simp at h
  ·obtain ⟨i,b,h⟩:=hc;simp at h
 have oD:b_ [] ys ⟨0,[]⟩=(ys,⟨0,[]⟩):=oB _ _ _ hy _;obtain ⟨aA,m,cr,dP⟩:=lX as [] [] us.toList H φ as H ys bS ⟨0,[]⟩ (fun _=>none) ys ⟨0,[]⟩ oC (by simpa using hl) (fun i x u hx hu=>hr i x u hx (by simpa using hu)) (oz _ _ _ _ hm) hy oD
 have bh: ∀c,¬Ow aA c:=fun c hc=>by
  rcases m.oh c hc with ⟨i,b,h⟩|⟨h1,h2⟩
  ·simp at h
  ·rw [jJ ae] at h2;exact h2 h1
 let A0:ah:=if bS=true then Ow aA else A
 have iW: ∀c,A0 c→A c:=by
  intro c hc;simp only [A0] at hc;split at hc
  ·exact absurd hc (bh c)
  ·exact hc
 have oE:bS=true→ ∀c,A0 c→fm (aB φ H) A c:=by
  intro aw c hc;simp only [A0,aw,if_true] at hc;exact absurd hc (bh c)
 have cM:St w ⟨0,[]⟩ aA A0:=m.bj.sh.shrink iW (fun c hc=>absurd hc (bh c));have eQ:ys.length=us.size:=by simpa using cr.1
 refine ⟨(hX _ _ _ _ kH).1,((hX _ _ _ _ kH).2 w A0 aA us cM eQ (fun i x u hx hu=>cr.2 A0 iW oE i x u hx (by simpa using hu))).mono fun e w' he=> ?_⟩
 cases e with
 |panicked c=>exact he.elim
 |outgrown=>exact he.elim
 |returned v' =>
 obtain ⟨x0,L,ak,A',ho,oF,rs,gw,L2,rfl,kI,rfl⟩:=he;obtain ⟨cw,rfl,kJ,gQ⟩:=qU oF
 let AH:ah:=if bS=true then fun c=>A c∨(A' c∧w.heap.size≤c) else A'
 have iX: ∀c,Ow ak c→w.heap.size≤c:=fun c hc=>(ho.post.own c hc).resolve_left (bh c)
 have ha:oj w A aA w' ak AH:=by
  refine ⟨fun c hc hn=> ?_,fun c hc=> ?_,fun c hc=> ?_,fun c arr T fr hc hn=> ?_⟩
  ·simp only [AH];split
   ·exact .inl hc
   ·rename_i aw;refine ho.bK c ?_ hn;simp only [A0,aw];exact hc
  ·simp only [AH];split
   ·exact .inr ⟨ho.st.own c hc,iX c hc⟩
   ·exact ho.st.own c hc
  ·simp only [AH] at hc;split at hc
   ·rcases hc with h|⟨h,_⟩
    ·exact Nat.lt_of_lt_of_le (ae.ca c h) ho.post.size
    ·exact ho.st.ca c h
   ·exact ho.st.ca c hc
  ·obtain ⟨h1,h2⟩:=ho.bW.fz c arr T fr hc (fun h=>hn (iW c h));refine ⟨h1,?_⟩;simp only [AH];split
   ·rintro (h|⟨_,h⟩)
    ·exact hn h
    ·have:c<w.heap.size:=by
      rcases Nat.lt_or_ge c w.heap.size with h' |h'
      ·exact h'
      ·rw [Array.getElem?_eq_none h'] at hc;simp at hc
     omega
   ·exact h2
 obtain ⟨D,E⟩:=qK (ls:=[]) (Lm:=L) ae m (by rw [hl,eQ]) dP ho ha (by simp [e8])
 rw [oA _ _ _ _ hm,jJ ae] at D E;have oG:dO A' AH gw:=by
  cases aw:bS with
  |false=>exact .inl fun c h=>by simpa [AH,aw] using h
  |true=>
   rcases gS with h|h
   ·rw [aw] at h;simp at h
   ·rw [qT] at h;exact .inr h
 have iY: ∀(i:Nat) (x:AV) (u:Value),rs[i]? =some x→cw[i]? =some u→R w' L (aB ak L) A' x u:=fun i x u hx hu=>by
  rw [jJ ho.st];exact gQ i x u hx hu
 have ff: ∀{cN:ag},(∀c,Ow cN c→Ow φ c∨Ow ak c)→e9 w φ w' cN:=fun hq=>
  ⟨ho.post.os,ho.post.tape,ho.post.output,ho.post.size,fun c hc _=>ho.post.kept c hc (bh c),ho.post.a_,fun c hc=>by
   rcases hq c hc with h|h
   ·exact .inl h
   ·exact .inr (iX c h)⟩
 have iZ: ∀c,A c→ ¬Ow φ c→AH c:=fun c hc _=>ha.own c hc (bh c);have cZ: ∀c,Ow φ c→a_ w' c=a_ w c:=fun c hc=>ho.post.a_ c (Ow.lt ae hc)
 cases fM:(th||bS) with
 |true=>
  rw [fM] at hp;simp only [if_true,qR] at hp;obtain ⟨cN,m3,l3,r3⟩:=qN _ rs cw L _ H φ gw L2 D kJ iY kI oG
  refine ⟨_,_,cN,AH,⟨m3.bj.sh,ff fun c hc=> ?_,E.trans m3.eh cZ,iZ⟩,ov l3 r3,hp⟩;rcases m3.oh c hc with h|⟨h,_⟩
  ·exact .inl h
  ·exact .inr (bF h)
 |false=>
  rw [fM] at hp;simp only [Bool.false_eq_true,if_false,qS] at hp;simp only [Bool.or_eq_false_iff] at fM;have oH:AH=A' :=by simp [AH,fM.2]
  rw [oH] at D E iZ
  let A2:ah:=gone (aB ak L) A' L2
  obtain ⟨l3,r3⟩:=ou (A' :=A2) _ rs cw L (aB ak L) gw L2 D.sl kJ iY kI (fun c h=>h)
  have oI: ∀c,Ow φ c→A2 c:=fun c hc=>⟨D.sh.own c hc,fun h=>absurd hc (D.b7 c h)⟩;have oJ:bM w H φ A w' H φ A2:=⟨fun c arr T fr hc hn=>⟨(E.fz c arr T fr hc hn).1,fun h2=>(E.fz c arr T fr hc hn).2 h2.1⟩,E.st,E.ids,E.sz⟩
  refine ⟨_,_,φ,A2,⟨D.sh.shrink (fun c h=>h.1) oI,ff fun c hc=> .inl hc,oJ,fun c hc hn=>⟨iZ c hc hn,fun h=> ?_⟩⟩,.fr _ _ (qQ l3 r3),hp⟩;have:=iX c (bF h)
  have:=ae.ca c hc;omega
end Go.VS
namespace Go.VS
section ops
variable {P:Program} {C:aF} {X:bD} {w:World} {H:J} {φ :ag} {A:ah}
theorem xQ {f:FuncId} (h:jI P f) (args:Array Value) (w:World):(callFunc f args).run P w= .ok (.enter f args) w:=by
 obtain ⟨fn,h1,h2,h3⟩:=h;have kG:fn.name≠ "runtime.NumGoroutine" :=by simpa using h2
 have xR:fn.body≠none:=by intro e;rw [e] at h3;simp at h3
 simp [callFunc,h1,kG,xR]
theorem qV {o:Oper} {ρ :Operand→Value} {x:Operand} {args:Array Operand} {tys:Array TypeId} (ho:o.op= .call {callee:= .value x,args,argTypes:=tys}) {g:FuncId} {bJ:Array Value} (hx: ρ x= .func (.func g) #[] bJ) (hc:jI P g):
 (execOp ρ o).run P w= .ok (.enter g (args.map ρ ++ bJ)) w:=by
 simp [execOp,ho,resolve,hx,Deferred.ofValue,invoke,xQ hc]
theorem qW {o:Oper} {ρ :Operand→Value} {b:Builtin} {args:Array Operand} {tys:Array TypeId} (ho:o.op= .call {callee:= .builtin b,args,argTypes:=tys}):
 ∃consts,(execOp ρ o).run P w=(builtin b tys o.type consts (args.map ρ)).run P w:=
 ⟨_,by simp only [execOp,ho,resolve,invoke,Sem.run_bind,Sem.run_pure,Result.andThen_ok];rfl⟩
theorem cd.upon {H' :J} {r:Result Next} {x:AV} (h:cd w H φ A H' r x) {o:Oper} {a:Act} {next:Act→World→Prop} {Q:Exit→Act→World→Prop}
 (hn: ∀v w' ak A',Out w H φ A w' H' ak A' →R w' H' ak A' x v→next (a.put o.dst v) w'):o.upon P a next Q r:=by
 obtain ⟨n,v,w',ak,A',rfl,hv,hr,ho⟩:=h;rcases hv with rfl|⟨rfl,rfl⟩
 ·exact hn v w' ak A' ho hr
 ·exact hn _ w' ak A' ho hr
theorem l7 (hE: ∀t ti,C.E t=some ti→aT P t ti) (hX: ∀f ys H K,X f ys H K→cV P f ys H K) (ae:St w H φ A) {o:Oper} {s:aj} {a:Act} (hs: ∀x∈o.op.operands,R w H φ A (ev s x) (a.eval x)) {th:Bool} {K:AV→J→Prop} (h:wpOp X C false th o s H K)
 {next:Act→World→Prop} {Q:Exit→Act→World→Prop} (hn: ∀x v w' H' ak A',Out w H φ A w' H' ak A' →R w' H' ak A' x v→K x H' →next (a.put o.dst v) w'):o.wp P a w next Q:=by
 have kK: ∀(hh:(match aL C.E o.op s H with|some (v,H')=>K v H' |none=>False)),o.wp P a w next Q:=by
  intro hh;split at hh
  ·rename_i v H' he
   exact (xu hE ae hs he).upon (fun u w' ak A' h1 h2=>hn v u w' H' ak A' h1 h2 hh)
  ·exact hh.elim
 unfold wpOp at h;split at h
 ·rename_i b args tys bp;obtain ⟨_,h⟩:=h;split at h
  ·rename_i v H' he
   obtain ⟨consts,cH⟩:=qW (P:=P) (w:=w) (ρ :=a.eval) bp;have:=xv hE ae (ty:=o.type) (consts:=consts) (vs:=args.map a.eval) (by simp) (fun i x u hx hu=>by
    simp only [List.getElem?_map,Option.map_eq_some_iff] at hx;obtain ⟨y,hy,rfl⟩:=hx;simp only [Array.getElem?_map,Option.map_eq_some_iff] at hu;obtain ⟨y',ei,rfl⟩:=hu;have:y' =y:=by simp at hy;rw [hy] at ei;simpa using ei.symm
    subst this;exact hs y' (by rw [bp];simp only [Op.operands,Call.operands];simp [Array.mem_of_getElem? ei])) he
   rw [←cH] at this;exact this.upon (fun u w' ak A' h1 h2=>hn v u w' H' ak A' h1 h2 h)
  ·exact h.elim
 ·rename_i x args tys bp;split at h
  ·rename_i g bJ hg;simp only [Bool.false_eq_true,if_false] at h;have hx:=hs x (by rw [bp];simp [Op.operands,Call.operands])
   rw [hg] at hx;obtain ⟨vs,hv,hl,hp⟩:=hx.ka;have qX: ∀(i:Nat) (y:AV) (u:Value),(args.toList.map (ev s) ++ bJ)[i]? =some y→(args.map a.eval ++ vs)[i]? =some u→R w H φ A y u:=fun i y u hy hu=>by
    rcases Nat.lt_or_ge i args.size with hi|hi
    ·rw [List.getElem?_append_left (by simpa using hi)] at hy
     rw [Array.getElem?_append_left (by simpa using hi)] at hu
     simp only [List.getElem?_map,Option.map_eq_some_iff] at hy;obtain ⟨z,hz,rfl⟩:=hy;simp only [Array.getElem?_map,Option.map_eq_some_iff] at hu;obtain ⟨z',dJ,rfl⟩:=hu;have:z' =z:=by simp at hz;rw [hz] at dJ;simpa using dJ.symm
     subst this;exact hs z' (by rw [bp];simp only [Op.operands,Call.operands];simp [Array.mem_of_getElem? dJ])
    ·rw [List.getElem?_append_right (by simpa using hi)] at hy
     rw [Array.getElem?_append_right (by simpa using hi)] at hu
     exact hp _ y u (by simpa using hy) (by simpa using hu)
   have hc:jI P g∧Calls P g (args.map a.eval ++ vs) w (il w H φ A K):=by
    rcases h with h|h
    ·exact ⟨(hX _ _ _ _ h).1,(hX _ _ _ _ h).2 w A φ (args.map a.eval ++ vs) ae (by simp [hl]) qX⟩
    ·exact xP hX ae (us:=args.map a.eval ++ vs) (by simp [hl]) qX h
   unfold Oper.wp;rw [qV bp hv hc.1,Oper.upon_enter];refine hc.2.mono fun e w' he=> ?_
   cases e with
   |returned v' =>
    obtain ⟨x',H',ak,A',h1,h2,h3⟩:=he;exact hn x' v' w' H' ak A' h1 h2 h3
   |panicked c=>exact he.elim
   |outgrown=>exact he.elim
  ·exact h.elim
 ·exact kK h.2
end ops
end Go.VS
namespace Go.VS
structure jK (π :List Nat) (ops:Array Oper):Prop where
 len: π.length=ops.size
 nodup: π.Nodup
 lt: ∀i∈ π,i<ops.size
 mem: ∀i,i<ops.size→i∈ π
 qY: ∀(i:Nat) (o:Oper),ops[i]? =some o→ ∀e∈o.after.toList,Region.binds .any e=true→e.on<ops.size
 gW: ∀(i:Nat) (o:Oper) (j:Nat) (b:Bool),ops[i]? =some o→o.guard=some (j,b)→j<ops.size
theorem xS {π :List Nat} {ops:Array Oper} (h:m7 π ops=true):jK π ops:=by
 simp only [m7,Bool.and_eq_true,beq_iff_eq,List.all_eq_true,decide_eq_true_eq,List.mem_range,List.contains_iff_mem] at h;obtain ⟨⟨⟨⟨h1,h0⟩,h2⟩,h3⟩,h4⟩:=h;refine ⟨h1,h0,h2,h3,fun i o ho e he hb=> ?_,fun i o j b ho hg=> ?_⟩
 ·have:=(h4 o (by rw [←Array.getElem?_toList] at ho;exact List.mem_of_getElem? ho)).1
  rw [Array.all_eq_true_iff_forall_mem] at this;have:=this e (by simpa using he)
  rw [hb] at this;simpa using this
 ·have:=(h4 o (by rw [←Array.getElem?_toList] at ho;exact List.mem_of_getElem? ho)).2
  rw [hg] at this;simpa using this
section
variable {π :List Nat} {ops:Array Oper} (hp:jK π ops)
include hp
theorem jK.at_ {k:Nat} (hk:k< π.length): ∃o,ops[π[k]]? =some o∧(ew π ops)[k]? =some (eV π o):=by
 have:=hp.lt _ (List.getElem_mem hk);refine ⟨ops[π[k]],by simp [this],?_⟩
 unfold ew lr;rw [List.getElem?_toArray,List.getElem?_map,List.getElem?_eq_getElem hk];simp [List.getD,this]
theorem jK.size:(ew π ops).size=ops.size:=by
 simp [ew,lr,hp.len]
theorem jK.jL {i:Nat} (hi:i<ops.size):cW π i< π.length∧ π[cW π i]? =some i:=by
 have:=hp.mem i hi;unfold cW;have h:=List.idxOf_lt_length_of_mem this;exact ⟨h,by rw [List.getElem?_eq_getElem h,List.getElem_idxOf]⟩
theorem jK.get {i:Nat} {o:Oper} (ho:ops[i]? =some o):(ew π ops)[cW π i]? =some (eV π o):=by
 have hi:i<ops.size:=(Array.getElem?_eq_some_iff.1 ho).1;obtain ⟨h1,h2⟩:=hp.jL hi;obtain ⟨o',h3,h4⟩:=hp.at_ h1;have: π[cW π i]=i:=by rw [List.getElem?_eq_getElem h1] at h2;simpa using h2
 rw [this,ho] at h3;simp only [Option.some.injEq] at h3;subst h3;exact h4
def PL (π :List Nat) (n:Nat) (l l' :Array Bool):Prop:=l.size=n∧l'.size=n∧ ∀i,i<n→l'[cW π i]? =l[i]?
theorem PL.set {l l' :Array Bool} (h:PL π ops.size l l') {i:Nat} (hi:i<ops.size):PL π ops.size (l.setIfInBounds i true) (l'.setIfInBounds (cW π i) true):=by
 obtain ⟨h1,h2,h3⟩:=h;refine ⟨by simp [h1],by simp [h2],fun j hj=> ?_⟩
 obtain ⟨xT,oK⟩:=hp.jL hi;obtain ⟨Al,xU⟩:=hp.jL hj;rw [Array.getElem?_setIfInBounds,Array.getElem?_setIfInBounds];by_cases e:i=j
 ·subst e;rw [if_pos rfl,if_pos rfl,if_pos (by rw [h2,←hp.len];exact xT),if_pos (by rw [h1];exact hi)]
 ·have: ¬cW π i=cW π j:=by
   intro e2;rw [e2,xU] at oK;simp at oK;exact e oK.symm
  rw [if_neg this,if_neg e];exact h3 j hj
omit hp in
theorem PL.getD {l l' :Array Bool} (h:PL π ops.size l l') {i:Nat} (hi:i<ops.size) (b:Bool):l'.getD (cW π i) b=l.getD i b:=by
 have:=h.2.2 i hi;rw [Array.getD_eq_getD_getElem?,Array.getD_eq_getD_getElem?,this]
theorem qZ {l l' :Array Bool} (h:PL π ops.size l l') {i:Nat} (hi:i∈Region.ready .any ops l):i<ops.size∧cW π i∈Region.ready .any (ew π ops) l' :=by
 unfold Region.ready at hi⊢;simp only [List.mem_filter,List.mem_range,Bool.and_eq_true] at hi⊢;obtain ⟨h1,h2,h3⟩:=hi;have ho:ops[i]? =some ops[i]:=by simp [h1]
 obtain ⟨r1,r2⟩:=hp.jL h1;refine ⟨h1,by rw [hp.size,←hp.len];exact r1,by rw [h.getD h1];exact h2,?_⟩
 rw [hp.get ho];rw [ho] at h3;simp only [Option.map_some,Option.getD_some,Array.all_eq_true_iff_forall_mem] at h3⊢;intro e he;simp only [eV,List.mem_toArray,List.mem_filterMap] at he;obtain ⟨e0,q0,l8⟩:=he;split at l8
 ·rename_i hb;simp only [Option.some.injEq] at l8;subst l8;have:=h3 e0 (by simpa using q0)
  rw [hb] at this;simp only [Bool.not_true,Bool.false_or] at this;rw [h.getD (hp.qY i _ ho e0 q0 hb)];simp [this]
 ·simp at l8
theorem xV {i:Nat} {o:Oper} (ho:ops[i]? =some o) (t:Array Value):Region.wanted (eV π o) (yielded (ew π ops) t)=Region.wanted o (yielded ops t):=by
 unfold Region.wanted eV;simp only;cases hg:o.guard with
 |none=>rfl
 |some p=>
  obtain ⟨j,b⟩:=p;have hj:=hp.gW i o j b ho hg;simp only [Option.map_some];congr 1;unfold yielded;have q8:ops[j]? =some ops[j]:=by simp [hj]
  rw [hp.get q8,q8];rfl
omit hp in
theorem q9 (ρ :Operand→Value) (o:Oper):execOp ρ (eV π o)=execOp ρ o:=by
 cases o;rfl
theorem xW {P:Program} {Q:Exit→Act→World→Prop} {i:Nat} {o:Oper} (ho:ops[i]? =some o) {K K' :Act→World→Prop} (hK: ∀a w,K' a w→K a w) {a:Act} {w:World} (h:Go.wpOp P (ew π ops) Q (cW π i) K' a w):Go.wpOp P ops Q i K a w:=by
 unfold Go.wpOp at h⊢;rw [hp.get ho] at h;rw [ho];simp only at h⊢;rw [xV hp ho] at h;split at h
 ·rename_i hw;rw [if_pos hw];rcases h with h|⟨h1,h2⟩
  ·refine .inl (Oper.wp_mono hK ?_);unfold Oper.wp at h⊢;rw [q9] at h;exact h
  ·refine .inr ⟨?_,h2⟩;unfold Oper.asks at h1⊢;rw [q9] at h1;exact h1
 ·rename_i hw;rw [if_neg hw];exact hK _ _ h
theorem xX {l l' :Array Bool} (h:PL π ops.size l l') {k:Nat} (hk:k∈Region.ready .any (ew π ops) l'): ∃i,i∈Region.ready .any ops l:=by
 unfold Region.ready at hk⊢;simp only [List.mem_filter,List.mem_range,Bool.and_eq_true] at hk;obtain ⟨h1,h2,h3⟩:=hk;rw [hp.size,←hp.len] at h1;obtain ⟨o,ho,af⟩:=hp.at_ h1;have hi:=hp.lt _ (List.getElem_mem h1);have hr:cW π π[k]=k:=by
  obtain ⟨r1,r2⟩:=hp.jL hi;rw [List.getElem?_eq_getElem r1] at r2;simp only [Option.some.injEq] at r2;exact (List.getElem_inj hp.nodup).1 r2
 refine ⟨π[k],?_⟩;simp only [List.mem_filter,List.mem_range,Bool.and_eq_true];refine ⟨hi,by rw [←h.getD hi,hr];exact h2,?_⟩
 rw [af] at h3;rw [ho];simp only [Option.map_some,Option.getD_some,Array.all_eq_true_iff_forall_mem] at h3⊢;intro e he;by_cases hb:Region.binds .any e=true
 ·have hl:=hp.qY _ o ho e (by simpa using he) hb
  have:=h3 {e with on:=cW π e.on} (by
   simp only [eV,List.mem_toArray,List.mem_filterMap];exact ⟨e,by simpa using he,by rw [if_pos hb]⟩)
  have ax:Region.binds .any {e with on:=cW π e.on}=true:=hb
  rw [ax] at this;simp only [Bool.not_true,Bool.false_or] at this;rw [h.getD hl] at this;simp [this]
 ·simp [hb]
theorem q_ {P:Program} {Q:Exit→Act→World→Prop}: ∀(n:Nat) (l l' :Array Bool) (a:Act) (w:World),PL π ops.size l l' →wpAny P .any (ew π ops) Q n l' a w→wpAny P .any ops Q n l a w
 |0,l,l',a,w,hl,h=>by
  simp only [wpAny] at h⊢;refine ⟨?_,h.2⟩;rw [List.eq_nil_iff_forall_not_mem];intro i hi;have:=(qZ hp hl hi).2;rw [h.1] at this;simp at this
 |n+1,l,l',a,w,hl,h=>by
  simp only [wpAny] at h⊢;refine ⟨fun he=>h.1 ?_,fun i hi=> ?_⟩
  ·rw [List.eq_nil_iff_forall_not_mem];intro k hk;obtain ⟨i,hi⟩:=xX hp hl hk;rw [he] at hi;simp at hi
  ·obtain ⟨h1,h2⟩:=qZ hp hl hi;have ho:ops[i]? =some ops[i]:=by simp [h1]
   exact xW hp ho (fun a w hh=>q_ n _ _ a w (hl.set hp h1) hh) (h.2 _ h2)
theorem xY {P:Program} {Q:Exit→Act→World→Prop} {a:Act} {w:World} (h:wpAny P .any (ew π ops) Q (ew π ops).size (Array.replicate (ew π ops).size false) a w):wpAny P .any ops Q ops.size (Array.replicate ops.size false) a w:=by
 rw [hp.size] at h;refine q_ hp _ _ _ a w ⟨by simp,by simp,fun i hi=> ?_⟩ h
 obtain ⟨r1,_⟩:=hp.jL hi;rw [hp.len] at r1;simp [hi,r1]
end
theorem SF.kill {w:World} {H:J} {φ :ag} {A:ah} {s:aj} {a:Act} (h:SF w H φ A s a) (l:List Nat):SF w H φ A (ez l s) a:=by
 have key: ∀(s:aj) (i:Nat),(ez.go l i s).length=s.length∧ ∀(t:Nat) (x:AV),(ez.go l i s)[t]? =some x→x= .undef∨s[t]? =some x:=by
  intro s;induction s with
  |nil=>intro i;simp [ez.go]
  |cons y s ih=>
   intro i;obtain ⟨h1,h2⟩:=ih (i+1);refine ⟨by simp [ez.go,h1],fun t x hx=> ?_⟩
   cases t with
   |zero=>
    simp only [ez.go,List.getElem?_cons_zero,Option.some.injEq] at hx;split at hx
    ·exact .inr (by simp [hx])
    ·exact .inl hx.symm
   |succ t=>simp only [ez.go,List.getElem?_cons_succ] at hx⊢;exact h2 t x hx
 obtain ⟨h1,h2⟩:=key s 0;refine ⟨h1.trans h.len,fun t x v hx hv=> ?_,h.eF⟩;rcases h2 t x hx with rfl|hx
 ·exact .fr _ _ (.undef _)
 ·exact h.val t x v hx hv
theorem xZ {w:World} {H:J} {φ :ag} {A:ah} (ae:St w H φ A) (n:Nat):Out w H φ A w (H.trim n) (aB φ (H.trim n)) A:=by
 have hg: ∀id b,(H.trim n).get id=some b→H.get id=some b:=by
  intro id b h;unfold J.trim J.get at h;unfold J.get;simp only [List.getElem?_take] at h;split at h
  ·exact h
  ·simp at h
 have aW:bM w H φ A w (H.trim n) (aB φ (H.trim n)) A:=
  ⟨fun c arr T fr hc hn=>⟨⟨fr,hc⟩,hn⟩,Nat.le_refl _,fun id b hb _=>⟨b,hg id b hb,rfl,rfl,rfl,rfl,fun loc hl=>by simp [aB,hb,hl]⟩,fun _ _=>rfl⟩
 refine ⟨⟨fun i i' c b b' h h' =>ae.inj _ _ _ _ _ (df h).1 (df h').1,fun c hc=>ae.own c (bF hc),ae.ca,fun id loc h=> ?_⟩,⟨rfl,rfl,rfl,Nat.le_refl _,fun _ _ _=>rfl,fun _ _=>rfl,fun c hc=> .inl (bF hc)⟩,aW,fun c hc _=>hc⟩
 obtain ⟨h1,b,hb⟩:=df h;obtain ⟨b',ax,af⟩:=ae.ap id loc h1;rw [hg id b hb] at ax;simp only [Option.some.injEq] at ax;subst ax;refine ⟨b,hb,af.ad,af.sized,af.aQ,fun c b0 he=> ?_⟩;obtain ⟨arr,T,fr,k1,k2,k3,k4⟩:=af.here c b0 he;exact ⟨arr,T,fr,k1,k2,k3,fun i x j y v hx hy hv=>⟨(k4 i x j y v hx hy hv).1.mono aW,(k4 i x j y v hx hy hv).2⟩⟩
def ra:Ex→Exit
 | .normal=> .normal
 | .exit id=> .exit id
 | .ret=> .ret
theorem l9 {x y:AV} (h:eZ x y=true):x=y:=by
 unfold eZ at h;split at h
 ·simp only [Bool.and_eq_true,beq_iff_eq] at h;obtain ⟨⟨⟨rfl,rfl⟩,rfl⟩,rfl⟩:=h;rfl
 ·rfl
 ·rfl
 ·simp at h
theorem x1 {w:World} {H:J} {φ :ag} {A:ah} {s:aj} {a:Act} (ae:St w H φ A) (hs:SF w H φ A s a) {t:Nat} {ts:List Nat} {sh:List Sh} {y:AV} {H1:J} (h:aX sh (s.getD t .undef) H=some (y,H1)):
 Out w H φ A w H1 (aB φ H1) (gone φ A H1)∧SF w H1 (aB φ H1) (gone φ A H1) (gb (s.getD t .undef) (bn y) ts (s.set t (bn y))) a:=by
 have hl:=fl _ _ _ _ _ h;have aW:bM w H φ A w H1 (aB φ H1) (gone φ A H1):=by
  have e:=cT (w:=w) (φ := φ) (A:=A) hl;exact ⟨fun c arr T fr hc hn=>⟨(e.fz c arr T fr hc hn).1,fun h2=>hn h2.1⟩,e.st,e.ids,e.sz⟩
 refine ⟨⟨(d_ ae hl).shrink (fun c hc=>hc.1) (fun c hc=>⟨ae.own c (bF hc),fun _=>hc⟩),⟨rfl,rfl,rfl,Nat.le_refl _,fun _ _ _=>rfl,fun _ _=>rfl,fun c hc=> .inl (bF hc)⟩,aW,fun c hc hn=>⟨hc,fun ho=>absurd ho hn⟩⟩,?_⟩;have cB:=hs.mono aW;have one: ∀(k:Nat) (v:Value),s.getD k .undef=s.getD t .undef→a.tmps[k]? =some v→R w H1 (aB φ H1) (gone φ A H1) (bn y) v:=by
  intro k v hk hv;have hr:=hs.ev (.tmp k);simp only [ev,Act.eval] at hr;rw [Array.getD_eq_getD_getElem?,hv,hk] at hr;exact .fr _ _ (qP ae hr h (fun c hc=>hc))
 have base:SF w H1 (aB φ H1) (gone φ A H1) (s.set t (bn y)) a∧ ∀k,(s.set t (bn y)).getD k .undef=bn y∨(s.set t (bn y)).getD k .undef=s.getD k .undef:=by
  refine ⟨⟨by simpa using cB.len,fun k x v hx hv=> ?_,cB.eF⟩,fun k=> ?_⟩
  ·rw [List.getElem?_set] at hx;split at hx
   ·rename_i hk;subst hk;split at hx
    ·simp only [Option.some.injEq] at hx;subst hx;exact one t v rfl hv
    ·simp at hx
   ·exact cB.val k x v hx hv
  ·simp only [List.getD_eq_getElem?_getD,List.getElem?_set];split
   ·rename_i hk;subst hk;split
    ·exact .inl rfl
    ·rename_i aw;right;rw [List.getElem?_eq_none (by omega)]
   ·exact .inr rfl
 have gen: ∀(ts:List Nat) (s' :aj),SF w H1 (aB φ H1) (gone φ A H1) s' a→(∀k,eZ (s'.getD k .undef) (s.getD t .undef)=true→s.getD k .undef=s.getD t .undef∨bn y=s.getD t .undef)→SF w H1 (aB φ H1) (gone φ A H1) (gb (s.getD t .undef) (bn y) ts s') a:=by
  intro ts;induction ts with
  |nil=>intro s' h _;exact h
  |cons k ks ih=>
   intro s' h1 h2
   simp only [gb];split
   ·rename_i rb;have hval: ∀v,a.tmps[k]? =some v→R w H1 (aB φ H1) (gone φ A H1) (bn y) v:=by
     intro v hv;rcases h2 k rb with e|e
     ·exact one k v e hv
     ·have:=h1.ev (.tmp k);simp only [ev,Act.eval] at this;rw [Array.getD_eq_getD_getElem?,hv,l9 rb,←e] at this;exact this
    refine ih _ ⟨by simpa using h1.len,fun m x v hx hv=> ?_,h1.eF⟩ (fun m hm=> ?_)
    ·rw [List.getElem?_set] at hx;split at hx
     ·rename_i hk;subst hk;split at hx
      ·simp only [Option.some.injEq] at hx;subst hx;exact hval v hv
      ·simp at hx
     ·exact h1.val m x v hx hv
    ·simp only [List.getD_eq_getElem?_getD,List.getElem?_set] at hm;split at hm
     ·split at hm
      ·exact .inr (l9 hm)
      ·rename_i hk aw;refine h2 m ?_;subst hk;rw [List.getD_eq_getElem?_getD,List.getElem?_eq_none (by omega)]
       exact hm
     ·exact h2 m (by rw [List.getD_eq_getElem?_getD];exact hm)
   ·exact ih s' h1 h2
 refine gen ts _ base.1 fun k hk=> ?_;rcases base.2 k with e|e
 ·rw [e] at hk;exact .inr (l9 hk)
 ·rw [e] at hk;exact .inl (l9 hk)
theorem oL {w:World} {H:J} {φ :ag} {A:ah} {x:AV} {v:Value} (h:R w H φ A x v):R w H φ A (j6 x) v:=by
 cases x with
 |nil=>have:=h.cY;subst this;exact .fr _ _ (.cA none 0)
 |e0=>obtain ⟨a,rfl⟩:=h.eD;exact .fr _ _ (.cA a 0)
 |_=>exact h
theorem x2 {w:World} {H:J} {φ :ag} {A:ah} {x:AV} {v:Value} (h:R w H φ A x v):R w H φ A (dD x) v:=by
 cases x with
 |agg cs=>
  obtain ⟨vs,rfl,h1,h2,h3⟩:=h.fE;refine .agg _ _ (by simpa using h1) h2 fun i x v hx hv=> ?_
  simp only [List.getElem?_map,Option.map_eq_some_iff] at hx;obtain ⟨y,hy,rfl⟩:=hx;exact oL (h3 i y v hy hv)
 |_=>exact oL h
theorem x4 {w:World} {H:J} {φ :ag} {A:ah} {s:aj} {a:Act} (t:Nat) (ae:St w H φ A) (hs:SF w H φ A s a): ∃ak A',Out w H φ A w (jt t s H).2 ak A' ∧SF w (jt t s H).2 ak A' (jt t s H).1 a:=by
 have plain: ∀v,s.getD t .undef=v→SF w H φ A (s.set t (dD v)) a:=by
  intro v hv;refine ⟨by simpa using hs.len,fun k x u hx hu=> ?_,hs.eF⟩
  rw [List.getElem?_set] at hx;split at hx
  ·rename_i hk;subst hk;split at hx
   ·simp only [Option.some.injEq] at hx;subst hx;have hr:=hs.ev (.tmp t);simp only [ev,Act.eval] at hr;rw [Array.getD_eq_getD_getElem?,hu,hv] at hr;exact x2 hr
   ·simp at hx
  ·exact hs.val k x u hx hu
 have key: ∀v,s.getD t .undef=v→ ∃ak A',Out w H φ A w (match v with
  | .ref id ad _ _=>match H.ap id ad with
   |some b=>(s,H.bq id {b with el:=b.el.map dD})
   |none=>(s,H)
  |v=>(s.set t (dD v),H)).2 ak A' ∧SF w (match v with
  | .ref id ad _ _=>match H.ap id ad with
   |some b=>(s,H.bq id {b with el:=b.el.map dD})
   |none=>(s,H)
  |v=>(s.set t (dD v),H)).2 ak A' (match v with
  | .ref id ad _ _=>match H.ap id ad with
   |some b=>(s,H.bq id {b with el:=b.el.map dD})
   |none=>(s,H)
  |v=>(s.set t (dD v),H)).1 a:=by
  intro v hv;cases v with
  |ref id ad off len=>
   simp only;cases hb:H.ap id ad with
   |none=>exact ⟨φ,A,.refl ae,hs⟩
   |some b=>
    simp only;have hg:=(J.br hb).1;have aw:=J.ib hg;have bA: ∀k,(H.bq id {b with el:=b.el.map dD}).get k=if k=id then some {b with el:=b.el.map dD} else H.get k:=by
     intro k;simp only [J.get,J.bq,List.getElem?_set];by_cases h:id=k
     ·subst h;simp [aw]
     ·have h' : ¬k=id:=fun e=>h e.symm
      simp [h,h']
    have aW:bM w H φ A w (H.bq id {b with el:=b.el.map dD}) φ A:=by
     refine ⟨fun c arr T fr hc hn=>⟨⟨fr,hc⟩,hn⟩,Nat.le_refl _,fun k b' hk _=> ?_,fun _ _=>rfl⟩
     rw [bA] at hk;split at hk
     ·rename_i e;subst e;simp only [Option.some.injEq] at hk;subst hk;exact ⟨b,hg,rfl,rfl,rfl,by simp,fun _ h=>h⟩
     ·exact ⟨b',hk,rfl,rfl,rfl,rfl,fun _ h=>h⟩
    have x5:St w (H.bq id {b with el:=b.el.map dD}) φ A:=by
     refine ⟨ae.inj,ae.own,ae.ca,fun k loc hk=> ?_⟩;obtain ⟨b0,l_,af⟩:=ae.ap k loc hk;by_cases h:k=id
     ·subst h;rw [hg] at l_;simp only [Option.some.injEq] at l_;subst l_;refine ⟨{b with el:=b.el.map dD},by rw [bA,if_pos rfl],af.ad,fun i x hx=> ?_,fun h=>by simp [af.aQ h],fun c b0 he=> ?_⟩
      ·simp only [List.getElem?_map,Option.map_eq_some_iff] at hx;obtain ⟨y,hy,rfl⟩:=hx;rw [kn,List.length_map];exact af.sized i y hy
      ·obtain ⟨arr,T,fr,k1,k2,k3,k4⟩:=af.here c b0 he;refine ⟨arr,T,fr,k1,k2,by simpa using k3,fun i x j y v hx hy hv=> ?_⟩
       simp only [List.getElem?_map,Option.map_eq_some_iff] at hx;obtain ⟨x',bz,rfl⟩:=hx;rw [kn] at hy;simp only [List.getElem?_map,Option.map_eq_some_iff] at hy;obtain ⟨y',ei,rfl⟩:=hy;have:=k4 i x' j y' v bz ei hv
       exact ⟨oL (this.1.mono aW),this.2⟩
     ·refine ⟨b0,by rw [bA,if_neg h];exact l_,af.ad,af.sized,af.aQ,fun c b1 he=> ?_⟩
      obtain ⟨arr,T,fr,k1,k2,k3,k4⟩:=af.here c b1 he;exact ⟨arr,T,fr,k1,k2,k3,fun i x j y v hx hy hv=>⟨(k4 i x j y v hx hy hv).1.mono aW,(k4 i x j y v hx hy hv).2⟩⟩
    exact ⟨φ,A,⟨x5,.refl _ _,aW,fun c hc _=>hc⟩,hs.mono aW⟩
  |_=>exact ⟨φ,A,.refl ae,plain _ hv⟩
 unfold jt;exact key _ rfl
theorem ma {w:World} {a:Act}: ∀(l:List (List Nat×List Sh)) {H:J} {φ :ag} {A:ah} {s s' :aj} {H' :J},St w H φ A→SF w H φ A s a→dx l s H=some (s',H')→
 ∃ak A',Out w H φ A w H' ak A' ∧SF w H' ak A' s' a
 |[],H,φ,A,s,s',H',ae,hs,h=>by
  simp only [dx,Option.some.injEq,Prod.mk.injEq] at h;obtain ⟨rfl,rfl⟩:=h;exact ⟨φ,A,.refl ae,hs⟩
 |([],sh)::l,H,φ,A,s,s',H',ae,hs,h=>by simp [dx] at h
 |(t::ts,[])::l,H,φ,A,s,s',H',ae,hs,h=>by
  simp only [dx] at h;obtain ⟨φ1,A1,h1,h2⟩:=x4 t ae hs;obtain ⟨ak,A',h3,h4⟩:=ma l h1.st h2 h;exact ⟨ak,A',h1.trans ae h3,h4⟩
 |(t::ts,e::sh)::l,H,φ,A,s,s',H',ae,hs,h=>by
  simp only [dx] at h;split at h
  ·rename_i y H1 hy;obtain ⟨h1,h2⟩:=x1 (ts:=ts) ae hs hy;obtain ⟨ak,A',h3,h4⟩:=ma l h1.st h2 h;exact ⟨ak,A',h1.trans ae h3,h4⟩
  ·simp at h
section code
variable {P:Program} {C:aF} {X:bD}
def Ends (Q:Exit→Act→World→Prop) (K:Ex→aj→J→Prop) (w:World) (H:J) (φ :ag) (A:ah):Prop:=
 ∀e s' H' ak A' a' w',Out w H φ A w' H' ak A' →SF w' H' ak A' s' a' →K e s' H' →Q (ra e) a' w'
theorem oM {w:World} {H:J} {φ :ag} {A:ah} {s:aj} {a:Act} {ops:Array Oper} {o:Oper} {b:Bool} (hs: ∀j ec t,o.guard=some (j,ec)→(ops[j]?).bind (·.dst)=some t→R w H φ A (ev s (.tmp t)) (a.eval (.tmp t))) (h:dn ops o s=some b):Region.wanted o (yielded ops a.tmps)=b:=by
 unfold dn at h;unfold Region.wanted;cases hg:o.guard with
 |none=>rw [hg] at h;simp at h;subst h;simp
 |some p=>
  obtain ⟨j,ec⟩:=p;rw [hg] at h;simp only at h⊢;split at h
  ·rename_i t ht;have hv:=hs j ec t hg ht;simp only [ev,Act.eval] at hv;split at h
   ·rename_i c hc;rw [hc] at hv;simp only [Option.some.injEq] at h;subst h;have:=hv.eK;have hy:yielded ops a.tmps j=some c:=by
     unfold yielded;rw [ht];simp only [Option.bind_some];rw [Array.getD_eq_getD_getElem?] at this;cases hq:a.tmps[t]? with
     |none=>rw [hq] at this;simp [undef] at this
     |some v=>rw [hq] at this;simp at this;subst this;rfl
    rw [hy];cases c<;>cases ec<;>rfl
   ·rename_i cs hc;rw [hc] at hv;simp only [Option.some.injEq] at h;subst h;obtain ⟨vs,bg,_⟩:=hv.lv;have hy:yielded ops a.tmps j=none:=by
     unfold yielded;rw [ht];simp only [Option.bind_some];rw [Array.getD_eq_getD_getElem?] at bg;cases hq:a.tmps[t]? with
     |none=>rfl
     |some v=>rw [hq] at bg;simp at bg;subst bg;rfl
    rw [hy];cases ec<;>rfl
   ·simp at h
  ·simp at h
theorem rf (hE: ∀t ti,C.E t=some ti→aT P t ti) (hX: ∀f ys H K,X f ys H K→cV P f ys H K) {ops:Array Oper} {th:List Nat} {fz:List (Nat×List (List Nat×List Sh))} {K:aj→J→Prop} {Q:Exit→Act→World→Prop}:
 ∀(l:List Oper) (i:Nat) (s:aj) (H:J) (w:World) (φ :ag) (A:ah) (a:Act),cG X C ops th fz K l i s H→St w H φ A→SF w H φ A s a→
  (∀s' H' ak A' a' w',Out w H φ A w' H' ak A' →SF w' H' ak A' s' a' →K s' H' →Q .normal a' w')→wpList P ops Q l a w
 |[],i,s,H,w,φ,A,a,h,ae,hs,hq=>hq s H φ A a w (.refl ae) hs h
 |o::rest,i,s0,H0,w,aA,A0,a,h,cM,ef,x6=>by
  simp only [cG] at h;obtain ⟨s,H,hf,h⟩:=h;obtain ⟨φ,A,ho,hs⟩:=ma _ cM ef hf;have ae:=ho.st;have hq: ∀s' H' ak A' a' w',Out w H φ A w' H' ak A' →SF w' H' ak A' s' a' →K s' H' →Q .normal a' w' :=fun s' H' ak A' a' w' k1 k2 k3=>x6 s' H' ak A' a' w' (ho.trans cM k1) k2 k3
  have next: ∀{x:AV} {v:Value} {w' :World} {H' :J} {ak:ag} {A' :ah},Out w H φ A w' H' ak A' →R w' H' ak A' x v→cG X C ops th fz K rest (i+1) (bd s o.dst x) H' →wpList P ops Q rest (a.put o.dst v) w' :=by
   intro x v w' H' ak A' h1 h2 h3
   exact rf hE hX rest (i+1) _ H' w' ak A' _ h3 h1.st ((hs.mono h1.bW).set o.dst h2) fun s2 H2 a7 A2 a2 w2 k1 k2 k3=>hq s2 H2 a7 A2 a2 w2 (h1.trans ae k1) k2 k3
  simp only [wpList];cases hg:o.guard with
  |none=>
   rw [hg] at h;simp only at h;have hw:Region.wanted o (yielded ops a.tmps)=true:=by simp [Region.wanted,hg]
   rw [if_pos hw];exact .inl (l7 hE hX ae (fun x _=>hs.ev x) h fun x v w' H' ak A' h1 h2 h3=>next h1 h2 h3)
  |some p=>
   rw [hg] at h;simp only at h;obtain ⟨v,H',h1,h2⟩:=h;split at h1
   ·rename_i b hb;have hw:=oM (fun _ _ t _ _=>hs.ev (.tmp t)) hb;cases b with
    |true=>
     rw [if_pos hw];simp only [if_true] at h1;exact .inl (l7 hE hX ae (fun x _=>hs.ev x) h1 fun x u w' gq ak A' k1 k2 k3=>by obtain ⟨rfl,rfl⟩:=k3;exact next k1 k2 h2)
    |false=>
     rw [if_neg (by rw [hw];simp)]
     simp only [Bool.false_eq_true,if_false] at h1;obtain ⟨rfl,rfl⟩:=h1;exact next (.refl ae) (.fr _ _ (.aC [] #[] rfl (by simp))) h2
   ·exact h1.elim
def mb (P:Program) (C:aF) (X:bD):Prop:=
 ∀(ops:Array Oper) (az:List Nat) (th:List Nat) (s:aj) (H:J) (K:aj→J→Prop) (Q:Exit→Act→World→Prop) (w:World) (φ :ag) (A:ah) (a:Act),ia ops az=true→
  cR X C ops (fun i=> !az.contains i) (fB ops az) th K ops.toList 0 s H→St w H φ A→SF w H φ A s a→(∀s' H' ak A' a' w',Out w H φ A w' H' ak A' →SF w' H' ak A' s' a' →K s' H' →Q .normal a' w')→wpAny P .any ops Q ops.size (Array.replicate ops.size false) a {w with drawn:=w.drawn+1}
theorem Ends.trans {Q:Exit→Act→World→Prop} {K:Ex→aj→J→Prop} {w w1:World} {H H1:J} {φ φ1:ag} {A A1:ah} (ae:St w H φ A) (h:Out w H φ A w1 H1 φ1 A1) (k:Ends Q K w H φ A):Ends Q K w1 H1 φ1 A1:=
 fun e s' H' ak A' a' w' h1 h2 h3=>k e s' H' ak A' a' w' (h.trans ae h1) h2 h3
theorem rh (hm:P.follows .mixedOrders=true) (hE: ∀t ti,C.E t=some ti→aT P t ti) (hX: ∀f ys H K,X f ys H K→cV P f ys H K) (hD:mb P C X) (p:j7):
 ∀(c:Code) (cu:Nat) (s:aj) (H:J) (K:Ex→aj→J→Prop) (Q:Exit→Act→World→Prop) (w:World) (φ :ag) (A:ah) (a:Act),cP p c=true→aM X C (cQ p cu c) s H K→St w H φ A→SF w H φ A s a→Ends Q K w H φ A→c.wp P Q a w:=by
 intro c;induction c with
 |skip=>intro cu s H K Q w φ A a ho h ae hs hq;exact wp_skip (hq .normal s H φ A a w (.refl ae) hs h)
 |ret=>intro cu s H K Q w φ A a ho h ae hs hq;exact wp_ret (hq .ret s H φ A a w (.refl ae) hs h)
 |exit id=>intro cu s H K Q w φ A a ho h ae hs hq;exact wp_exit (hq (.exit id) s H φ A a w (.refl ae) hs h)
 |seq x y x7 oN=>
  intro cu s H K Q w φ A a ho h ae hs hq;simp only [cQ,aM] at h;simp only [cP,Bool.and_eq_true] at ho;refine wp_seq (x7 cu s H _ _ w φ A a ho.1 h ae hs fun e s' H' ak A' a' w' h1 h2 h3=> ?_)
  cases e with
  |normal=>exact oN cu s' H' K Q w' ak A' a' ho.2 h3 h1.st h2 (Ends.trans ae h1 hq)
  |exit id=>exact hq (.exit id) s' H' ak A' a' w' h1 h2 h3
  |ret=>exact hq .ret s' H' ak A' a' w' h1 h2 h3
 |cond x y z oN x8=>
  intro cu s H K Q w φ A a ho h ae hs hq;simp only [cP,Bool.and_eq_true] at ho;have key: ∀(K:Ex→aj→J→Prop),aM X C (.cond x (cQ p cu y) (cQ p cu z)) s H K→Ends Q K w H φ A→(Code.cond x y z).wp P Q a w:=by
   intro K h hq;simp only [aM] at h;split at h
   ·rename_i t ht;have hv:=hs.ev x;rw [ht] at hv;refine wp_cond hv.eK ?_;cases t with
    |true=>exact oN cu s H K Q w φ A a ho.1 h ae hs hq
    |false=>exact x8 cu s H K Q w φ A a ho.2 h ae hs hq
   ·exact h.elim
  simp only [cQ] at h;unfold lq at h;split at h
  ·rename_i kp _;simp only [aM,dx] at h;refine key _ h fun e s' H' ak A' a' w' h1 h2 h3=> ?_
   cases e with
   |normal=>exact hq .normal _ H' ak A' a' w' h1 (h2.kill kp) h3
   |exit id=>exact hq (.exit id) s' H' ak A' a' w' h1 h2 h3
   |ret=>exact hq .ret s' H' ak A' a' w' h1 h2 h3
  ·exact key K h hq
 |block id x ih=>
  intro cu s H K Q w φ A a ho h ae hs hq;simp only [cQ,aM] at h;have mc: ∀{w:World} {H:J} {φ :ag} {A:ah} {s:aj} {a:Act} (kp:Option (List Nat)),SF w H φ A s a→SF w H φ A (eA kp s) a:=by
   intro w H φ A s a kp h;cases kp with
   |none=>exact h
   |some l=>exact h.kill l
  simp only [cP] at ho;refine wp_block (ih id s H _ _ w φ A a ho h ae hs fun e s' H' ak A' a' w' h1 h2 h3=> ?_)
  cases e with
  |normal=>exact hq .normal _ H' ak A' a' w' h1 (mc _ h2) h3
  |exit j=>
   simp only at h3;simp only [ra,Exit.inBlock];split at h3
   ·rename_i hj;rw [if_pos hj];exact hq .normal _ H' ak A' a' w' h1 (mc _ h2) h3
   ·rename_i hj;rw [if_neg hj];exact hq (.exit j) s' H' ak A' a' w' h1 h2 h3
  |ret=>exact hq .ret s' H' ak A' a' w' h1 h2 h3
 |loop c ih=>
  intro cu s H K Q w φ A a ho h ae hs hq;simp only [cQ,aM] at h;have ri: ∀{w:World} {H:J} {φ :ag} {A:ah} {s:aj} {a:Act} (sp:lp) (n:Nat),St w H φ A→SF w H φ A s a→ ∃ φ1,Out w H φ A w (gI sp n s H).2 φ1 A∧SF w (gI sp n s H).2 φ1 A (gI sp n s H).1 a:=by
   intro w H φ A s a sp n h1 h2;unfold gI;by_cases ht:sp.trim=true
   ·have ho:=xZ h1 n;simp only [ht,if_true];exact ⟨_,ho,(h2.mono ho.bW).kill _⟩
   ·simp only [ht];exact ⟨φ,.refl h1,h2.kill _⟩
  intro b k cs;have main:=h (fun s H=> ∀(w:World) (φ :ag) (A:ah) (a:Act),St w H φ A→SF w H φ A s a→Ends Q K w H φ A→
   ∀(b:Frame) (k:List Item) (cs:List Frame),∃e a' w',Q e a' w' ∧Arrives P (lone (b.at a (.code c:: .inLoop c::k)) cs w) b k cs e a' w') (fun s H hB w φ A a ae hs hq b k cs=>by
    obtain ⟨e,a1,w1,gX,dI⟩:=ih cu s H _ (Exit.then (fun a1 w1=> ∀(b:Frame) (k:List Item) (cs:List Frame),∃e a' w',Q e a' w' ∧Arrives P (lone (b.at a1 (.code c:: .inLoop c::k)) cs w1) b k cs e a' w') Q) w φ A a (by simpa only [cP] using ho) hB ae hs (fun e s' H' ak A' a' w' h1 h2 h3=>by
     cases e with
     |normal=>
      obtain ⟨φ1,k1,k2⟩:=ri ((p.loops.lookup cu).getD {}) _ h1.st h2;exact h3 w' φ1 A' a' k1.st k2 (Ends.trans ae (h1.trans ae k1) hq)
     |exit id=>exact hq (.exit id) s' H' ak A' a' w' h1 h2 h3
     |ret=>exact hq .ret s' H' ak A' a' w' h1 h2 h3) b (.inLoop c::k) cs
    cases e with
    |normal=>
     obtain ⟨x9,a₂,x_,ya,yb⟩:=gX b k cs;exact ⟨x9,a₂,x_,ya,.of_steps (Steps.trans dI (.one step_inLoop)) yb⟩
    |exit id=>exact ⟨_,a1,w1,gX,.pass (x:= .inLoop c) rfl (fun _ _=> .inl (by simp)) dI⟩
    |goto l=>exact ⟨_,a1,w1,gX,.pass (x:= .inLoop c) rfl (fun _ _=> .inl (by simp)) dI⟩
    |ret=>exact ⟨_,a1,w1,gX,.pass (x:= .inLoop c) rfl (fun _ _=> .inl (by simp)) dI⟩
    |panic ch=>exact ⟨_,a1,w1,gX,.pass (x:= .inLoop c) rfl (fun _ _=> .inl (by simp)) dI⟩
    |outgrown=>exact ⟨_,a1,w1,gX,.pass (x:= .inLoop c) rfl (fun _ _=> .inl (by simp)) dI⟩)
  obtain ⟨φ1,k1,k2⟩:=ri ((p.loops.lookup cu).getD {}) H.bs.length ae hs;obtain ⟨e,a',w',yc,dI⟩:=main w φ1 A a k1.st k2 (Ends.trans ae k1 hq) b k cs;exact ⟨e,a',w',yc,.of_steps (.one step_loop) dI⟩
 |region id ops draw=>
  intro cu s H K Q w φ A a ho h ae hs hq;have key: ∀(K:Ex→aj→J→Prop),aM X C (hZ (p.m6.lookup id) ((p.fz.lookup id).getD []) id (fw (p.fZ.lookup id) ops) draw) s H K→Ends Q K w H φ A→(Code.region id ops draw).wp P Q a w:=by
   intro K h hq;cases draw with
   |false=>
    have eR:fw (p.fZ.lookup id) ops=ops:=by
     simp only [cP] at ho;cases hl:p.fZ.lookup id with
     |none=>rfl
     |some π =>rw [hl] at ho;simp at ho
    rw [eR] at h;have h' :cG X C ops (match p.m6.lookup id with|some (_,th)=>th|none=>[]) ((p.fz.lookup id).getD []) (fun s H=>K .normal s H) ops.toList 0 s H:=by
     unfold hZ at h;split at h
     ·rename_i n th he;rw [he];exact h
     ·rename_i he;rw [he];exact h
    exact wp_region_list (rf hE hX ops.toList 0 s H w φ A a h' ae hs fun s' H' ak A' a' w' h1 h2 h3=>hq .normal s' H' ak A' a' w' h1 h2 h3)
   |true=>
    have h' : ∃q th,ia (fw (p.fZ.lookup id) ops) q=true∧cR X C (fw (p.fZ.lookup id) ops) (fun i=> !q.contains i) (fB (fw (p.fZ.lookup id) ops) q) th (fun s H=>K .normal s H) (fw (p.fZ.lookup id) ops).toList 0 s H:=by
     unfold hZ at h;split at h
     ·exact ⟨_,_,h.1,h.2⟩
     ·exact ⟨_,_,h.1,h.2⟩
    obtain ⟨q,th,hd,h'⟩:=h';have hw:=hD _ q th s H _ Q w φ A a hd h' ae hs fun s' H' ak A' a' w' h1 h2 h3=>hq .normal s' H' ak A' a' w' h1 h2 h3
    refine wp_region_any hm ?_;simp only [cP] at ho;cases hl:p.fZ.lookup id with
    |none=>rw [hl] at hw;exact hw
    |some π =>
     rw [hl] at hw ho;simp only [Bool.true_and] at ho;exact xY (xS ho) hw
  simp only [cQ] at h;unfold jq at h;split at h
  ·rename_i l kp _;have mc: ∀{w:World} {H:J} {φ :ag} {A:ah} {s:aj} {a:Act} (kp:Option (List Nat)),SF w H φ A s a→SF w H φ A (eA kp s) a:=by
    intro w H φ A s a kp h;cases kp with
    |none=>exact h
    |some l=>exact h.kill l
   simp only [aM] at h;refine key _ h fun e s' H' ak A' a' w' h1 h2 h3=> ?_
   cases e with
   |normal=>
    simp only at h3;split at h3
    ·rename_i s2 H2 hf;obtain ⟨a7,A2,k1,k2⟩:=ma l h1.st h2 hf;exact hq .normal _ H2 a7 A2 a' w' (h1.trans ae k1) (mc kp k2) h3
    ·exact h3.elim
   |exit id=>exact hq (.exit id) s' H' ak A' a' w' h1 h2 h3
   |ret=>exact hq .ret s' H' ak A' a' w' h1 h2 h3
  ·exact key K h hq
 |_=>intro cu s H K Q w φ A a ho h ae hs hq;simp only [cQ,aM] at h
end code
end Go.VS
namespace Go.VS
section body
variable {P:Program} {C:aF} {X:bD}
theorem oO (hE: ∀t ti,C.E t=some ti→aT P t ti) {w:World} {H:J} {φ :ag} {A:ah} {s:aj} {a:Act} (ae:St w H φ A) (hs:SF w H φ A s a) {f:ResultVar→Sem Value} (kL: ∀t,f (.tmp t)=pure (a.tmps.getD t undef)) (kM: ∀x t,f (.cell x t)=(do loadVar t (←asAddr (a.tmps.getD x undef)))):
 ∀(l:List ResultVar) (rs:List AV),dy C.E s H l=some rs→
 ∃cw:List Value,(l.mapM f).run P w= .ok cw w∧rs.length=cw.length∧ ∀(i:Nat) (x:AV) (u:Value),rs[i]? =some x→cw[i]? =some u→R w H φ A x u
 |[],rs,h=>by
  simp only [dy,Option.some.injEq] at h;subst h;exact ⟨[],by simp,rfl,by simp⟩
 | .tmp t::l,rs,h=>by
  simp only [dy,Option.map_eq_some_iff] at h;obtain ⟨oP,h1,rfl⟩:=h;obtain ⟨cw,k1,k2,k3⟩:=oO hE ae hs kL kM l oP h1
  refine ⟨a.tmps.getD t undef::cw,by simp [List.mapM_cons,k1,kL],by simp [k2],fun i x u hx hu=> ?_⟩
  cases i with
  |zero=>simp at hx hu;subst hx;subst hu;have:=hs.ev (.tmp t);simpa [ev,Act.eval] using this
  |succ i=>exact k3 i x u hx hu
 | .cell b t::l,rs,h=>by
  simp only [dy] at h;split at h
  ·rename_i v H' he
   simp only [Option.map_eq_some_iff] at h;obtain ⟨oP,h1,rfl⟩:=h;obtain ⟨cw,k1,k2,k3⟩:=oO hE ae hs kL kM l oP h1
   have hb:=hs.ev (.tmp b);simp only [aL] at he;obtain ⟨u,hu,hr⟩:=pW (P:=P) hE ae (a4.refl H) hb he;have aN:(do loadVar t (←asAddr (a.tmps.getD b undef)):Sem Value).run P w= .ok u w:=by
    revert hu;simp only [Act.eval];unfold Instr.loadAt;generalize a.tmps.getD b undef=q;intro hu;cases q with
    |pointer o=>cases o with
     |none=>simp [Instr.sureAddr] at hu
     |some o=>simpa [Instr.sureAddr,asAddr] using hu
    |_=>simp [Instr.sureAddr] at hu
   refine ⟨u::cw,by rw [List.mapM_cons,kM,Sem.run_bind,aN];simp [k1],by simp [k2],fun i x u' hx aN=> ?_⟩
   cases i with
   |zero=>simp at hx aN;subst hx;subst aN;exact hr
   |succ i=>exact k3 i x u' hx aN
  ·simp at h
theorem rj (hE: ∀t ti,C.E t=some ti→aT P t ti) {w:World} {H:J} {φ :ag} {A:ah} {s:aj} {a:Act} (ae:St w H φ A) (hs:SF w H φ A s a) {fn:Func} {rs:List AV} (h:dy C.E s H fn.results.toList=some rs):
 ∃cw:List Value,(results fn a.tmps).run P w= .ok (gV cw) w∧rs.length=cw.length∧ ∀(i:Nat) (x:AV) (u:Value),rs[i]? =some x→cw[i]? =some u→R w H φ A x u:=by
 obtain ⟨f,kL,kM,yd⟩: ∃f:ResultVar→Sem Value,(∀t,f (.tmp t)=pure (a.tmps.getD t undef))∧(∀x t,f (.cell x t)=(do loadVar t (←asAddr (a.tmps.getD x undef))))∧
  results fn a.tmps=(do let vs←fn.results.mapM f;pure (if h:vs.size=1 then vs[0] else .tuple vs)):=⟨_,fun _=>rfl,fun _ _=>rfl,rfl⟩
 obtain ⟨cw,h1,h2,h3⟩:=oO hE ae hs kL kM fn.results.toList rs h;refine ⟨cw,?_,h2,h3⟩;rw [yd,Sem.run_bind,Array.mapM_eq_mapM_toList,Sem.run_map,h1]
 match cw with
 |[]=>simp [gV]
 |[u]=>simp [gV]
 |u::u' ::us=>simp [gV]
theorem ye (hm:P.follows .mixedOrders=true) (hE: ∀t ti,C.E t=some ti→aT P t ti) (hC: ∀f fn,C.code f=some fn→P.funcs[f]? =some fn∧(fn.name== "runtime.NumGoroutine")=false∧m8 (C.fy f) fn=true) (hX: ∀f ys H K,X f ys H K→cV P f ys H K) (hD:mb P C X)
 {f:FuncId} {ys:List AV} {H:J} {K:AV→J→Prop} (h:Body X C f ys H K):cV P f ys H K:=by
 unfold Body at h;split at h
 ·exact h.elim
 rename_i fn kd;split at h
 ·exact h.elim
 rename_i c hc;obtain ⟨hf,oQ,kN⟩:=hC f fn kd;have kN:cP (C.fy f) c=true:=by unfold m8 at kN;rw [hc] at kN;exact kN
 refine ⟨⟨fn,hf,oQ,by simp [hc]⟩,fun w A φ us ae hl hr=> ?_⟩
 refine calls_of_wp hf hc (rh hm hE hX hD (C.fy f) c 0 _ H _ _ w φ A _ kN h ae ⟨by simp [hl],fun t x v hx hv=> ?_,rfl⟩ ?_)
 ·rcases Nat.lt_or_ge t us.size with ht|ht
  ·rw [List.getElem?_append_left (by rw [hl];exact ht)] at hx
   rw [Array.getElem?_append_left ht] at hv;exact hr t x v hx hv
  ·rw [List.getElem?_append_right (by rw [hl];exact ht)] at hx
   have:x= .undef:=by
    rw [List.getElem?_replicate] at hx;split at hx<;>simp at hx;exact hx.symm
   subst this;exact .fr _ _ (.undef _)
 ·intro e s' H' ak A' a' w' h1 h2 h3
  have fin:(∃rs,dy C.E s' H' fn.results.toList=some rs∧K (b9 rs) H')→a'.defers=[]∧ ∃v,(results fn a'.tmps).run P w' = .ok v w' ∧il w H φ A K (.returned v) w' :=by
   rintro ⟨rs,iY,hk⟩;refine ⟨h2.eF,?_⟩;obtain ⟨cw,k1,k2,k3⟩:=rj (P:=P) hE h1.st h2 iY;exact ⟨_,k1,_,H',ak,A',h1,ov k2 k3,hk⟩
  cases e with
  |normal=>exact fin h3
  |ret=>exact fin h3
  |exit id=>exact h3.elim
end body
end Go.VS
namespace Go.VS
def fo (H H1:J):Prop:=a4 H H1∧H.bs.length≤H1.bs.length
theorem a4.trans {H H1 H2:J} (h:a4 H H1) (k:a4 H1 H2):a4 H H2:=⟨fun id b hb=>k.1 id b (h.1 id b hb),Nat.le_trans h.2 k.2⟩
theorem fo.refl (H:J):fo H H:=⟨a4.refl _,Nat.le_refl _⟩
theorem fo.trans {H H1 H2:J} (h:fo H H1) (k:fo H1 H2):fo H H2:=⟨h.1.trans k.1,Nat.le_trans h.2 k.2⟩
theorem fo.new (H:J) (sz:Nat) (fx:Bool) (el:List AV):fo H (H.new sz fx el):=⟨J.nw H sz fx el,by simp [J.new]⟩
mutual
theorem oR: ∀(y:AV) (H:J),fo H (aD y H).2
 | .own sz xs,H=>by simp only [aD];exact (iq xs H).trans (.new _ _ _ _)
 | .di sz x,H=>by simp only [aD];exact (oR x H).trans (.new _ _ _ _)
 | .agg xs,H=>by simp only [aD];exact iq xs H
 | .aC xs,H=>by simp only [aD];exact iq xs H
 | .undef,H=> .refl _
 | .int _ _,H=> .refl _
 | .bool _,H=> .refl _
 | .str _,H=> .refl _
 | .nil,H=> .refl _
 | .e0,H=> .refl _
 | .fz _,H=> .refl _
 | .ref _ _ _ _,H=> .refl _
 | .ptr _ _ _ _,H=> .refl _
 | .fe _ _,H=> .refl _
 | .fn _ _,H=> .refl _
 | .cf _,H=> .refl _
 | .dt,H=> .refl _
theorem iq: ∀(ys:List AV) (H:J),fo H (aE ys H).2
 |[],H=> .refl _
 |y::ys,H=>by simp only [aE];exact (oR y H).trans (iq ys _)
end
structure GH (G:J) (φ :ag) (H H1:J):Prop where
 ext:a4 H1 G
 none: ∀id,H.bs.length≤id→id<H1.bs.length→ φ id=none
theorem jM (H:J) (sz:Nat) (fx:Bool) (el:List AV):(H.new sz fx el).bs.length=H.bs.length+1:=by simp [J.new]
theorem GH.fst {G:J} {φ :ag} {H H1 H2:J} (h:GH G φ H H2) (k:fo H1 H2):GH G φ H H1:=⟨k.1.trans h.ext,fun id h1 h2=>h.none id h1 (Nat.lt_of_lt_of_le h2 k.2)⟩
section bj
variable {w:World}
structure MG (w:World) (L:J) (φL:ag) (AL:ah) (G:J) (φ :ag) (AH:ah) (L1:J) (φ1:ag) (lo hi:Nat):Prop where
 less:bu L L1
 bj:bX w L1 (aB φL L1) AL G φ1 AH
 oh: ∀c,Ow φ1 c→Ow φ c∨(Ow φL c∧ ¬Ow (aB φL L1) c)
 gO: ∀c,Ow φ c→Ow φ1 c
 bY: ∀id loc,φ id=some loc→ φ1 id=some loc
 new: ∀id loc,φ1 id=some loc→ φ id=some loc∨(lo≤id∧id<hi)
 le:lo≤hi
theorem MG.eh {L:J} {φL:ag} {AL:ah} {G:J} {φ :ag} {AH:ah} {L1:J} {φ1:ag} {lo hi:Nat} (m:MG w L φL AL G φ AH L1 φ1 lo hi):bM w G φ AH w G φ1 AH:=
 ⟨fun _c _arr _T fr hc hn=>⟨⟨fr,hc⟩,hn⟩,Nat.le_refl _,fun id b hb _=>⟨b,hb,rfl,rfl,rfl,rfl,fun loc h=>m.bY id loc h⟩,fun _ _=>rfl⟩
theorem MG.refl {L:J} {φL:ag} {AL:ah} {G:J} {φ :ag} {AH:ah} (h:bX w L φL AL G φ AH) (lo:Nat):MG w L φL AL G φ AH L φ lo lo:=
 ⟨.refl _,⟨d_ h.sl (.refl _),h.sh,fun c hc=>h.b7 c (bF hc),fun c hc=>h.ej c (bF hc)⟩,fun _c hc=> .inl hc,fun _c hc=>hc,fun _ _ h=>h,fun _ _ h=> .inl h,Nat.le_refl _⟩
theorem MG.trans {L L1 L2:J} {φL:ag} {AL:ah} {G:J} {φ φ1 a7:ag} {AH:ah} {lo mi hi:Nat} (h:MG w L φL AL G φ AH L1 φ1 lo mi) (k:MG w L1 (aB φL L1) AL G φ1 AH L2 a7 mi hi):MG w L φL AL G φ AH L2 a7 lo hi:=by
 have hr:=fN (φ := φL) k.less;refine ⟨h.less.trans k.less,by rw [←hr];exact k.bj,fun c hc=> ?_,fun c hc=>k.gO c (h.gO c hc),fun id loc hl=>k.bY id loc (h.bY id loc hl),fun id loc hl=> ?_,Nat.le_trans h.le k.le⟩
 ·rcases k.oh c hc with h1|⟨h1,h2⟩
  ·rcases h.oh c h1 with h3|⟨h3,h4⟩
   ·exact .inl h3
   ·refine .inr ⟨h3,fun h5=>h4 ?_⟩;rw [←hr] at h5;exact bF h5
  ·rw [hr] at h2;exact .inr ⟨bF h1,h2⟩
 ·have h1:=h.le;have h2:=k.le;rcases k.new id loc hl with h3|⟨h3,h4⟩
  ·rcases h.new id loc h3 with h5|⟨h5,h6⟩
   ·exact .inl h5
   ·exact .inr ⟨h5,by omega⟩
  ·exact .inr ⟨by omega,h4⟩
theorem GH.snd {L L1:J} {φL:ag} {AL:ah} {G:J} {φ φ1:ag} {AH:ah} {H H1 H2:J} (h:GH G φ H H2) (m:MG w L φL AL G φ AH L1 φ1 H.bs.length H1.bs.length):GH G φ1 H1 H2:=by
 refine ⟨h.ext,fun id h1 h2=> ?_⟩;cases hp: φ1 id with
 |none=>rfl
 |some loc=>
  have hle:=m.le;rcases m.new id loc hp with h3|⟨_,h3⟩
  ·rw [h.none id (by omega) h2] at h3;simp at h3
  ·omega
theorem rk {L L1:J} {φL:ag} {AL:ah} {G:J} {φ φ1:ag} {AH:ah} {lo hi:Nat} (m:MG w L φL AL G φ AH L1 φ1 lo hi) {ad sz:Nat} {fx:Bool} {el:List AV} {loc:Loc} (hg:G.get hi=some ⟨ad,sz,fx,el⟩) (bG:ad<G.st) (gR: φ hi=none)
 (dY: ∀(i:Nat) (x:AV),el[i]? =some x→x.cells.length=sz) (hv:loc= .aQ→el=[])
 (ek: ∀c b0,loc= .at_ c b0→Ow φL c∧ ¬Ow (aB φL L1) c∧ ¬Ow φ1 c∧AH c∧ ∃arr T fr,w.heap[c]? =some (.cells arr T fr)∧(∀j,j<arr.size→ ¬(fr.1≤j∧j<fr.2))∧b0+el.length*sz≤arr.size∧
  ∀(i:Nat) (x:AV) (j:Nat) (y:AV) (v:Value),el[i]? =some x→x.cells[j]? =some y→arr[b0+i*sz+j]? =some v→R w G φ1 AH y v∧v.oneCell' =true):
 MG w L φL AL G φ AH L1 (fun i=>if i=hi then some loc else φ1 i) lo (hi+1):=by
 have fi:=m.bj.sh;have hle:=m.le;have bw: φ1 hi=none:=by
  cases hp: φ1 hi with
  |none=>rfl
  |some l=>
   rcases m.new hi l hp with h|⟨_,h⟩
   ·rw [gR] at h;simp at h
   ·omega
 have aW:bM w G φ1 AH w G (fun i=>if i=hi then some loc else φ1 i) AH:=by
  refine ⟨fun c a t fr hc hn=>⟨⟨fr,hc⟩,hn⟩,Nat.le_refl _,fun id b hb aw=>⟨b,hb,rfl,rfl,rfl,rfl,fun l hl=> ?_⟩,fun _ _=>rfl⟩;rw [if_neg (by rintro rfl;rw [bw] at hl;simp at hl)];exact hl
 have dG: ∀c,Ow (fun i=>if i=hi then some loc else φ1 i) c→Ow φ1 c∨ ∃b0,loc= .at_ c b0:=by
  rintro c ⟨i,b,h⟩;try simp only at h
  split at h
  ·simp only [Option.some.injEq] at h;exact .inr ⟨b,h⟩
  ·exact .inl ⟨i,b,h⟩
 refine ⟨m.less,⟨m.bj.sl,⟨fun i i' c b b' h1 h2=> ?_,fun c hc=> ?_,fi.ca,fun i l hl=> ?_⟩,fun c hc ho=> ?_,m.bj.ej⟩,fun c hc=> ?_,fun c hc=> ?_,fun id l hl=> ?_,fun id l hl=> ?_,by omega⟩
 ·try simp only at h1 h2
  split at h1
  ·rename_i hi;split at h2
   ·rename_i fG;omega
   ·simp only [Option.some.injEq] at h1;exact absurd ⟨i',b',h2⟩ (ek c b h1).2.2.1
  ·split at h2
   ·simp only [Option.some.injEq] at h2;exact absurd ⟨i,b,h1⟩ (ek c b' h2).2.2.1
   ·exact fi.inj _ _ _ _ _ h1 h2
 ·rcases dG c hc with h|⟨b0,h⟩
  ·exact fi.own c h
  ·exact (ek c b0 h).2.2.2.1
 ·try simp only at hl
  split at hl
  ·rename_i hi;subst hi;simp only [Option.some.injEq] at hl;subst hl;refine ⟨_,hg,bG,dY,hv,fun c b0 he=> ?_⟩;obtain ⟨_,_,_,_,arr,T,fr,k1,k2,k3,k4⟩:=ek c b0 he;exact ⟨arr,T,fr,k1,k2,k3,fun j x q y v bz hy ck=>⟨(k4 j x q y v bz hy ck).1.mono aW,(k4 j x q y v bz hy ck).2⟩⟩
  ·obtain ⟨bb,hb,af⟩:=fi.ap i l hl;refine ⟨bb,hb,af.ad,af.sized,af.aQ,fun c b0 he=> ?_⟩;obtain ⟨arr,T,fr,k1,k2,k3,k4⟩:=af.here c b0 he;exact ⟨arr,T,fr,k1,k2,k3,fun j x q y v bz hy ck=>⟨(k4 j x q y v bz hy ck).1.mono aW,(k4 j x q y v bz hy ck).2⟩⟩
 ·rcases dG c ho with h|⟨b0,h⟩
  ·exact m.bj.b7 c hc h
  ·exact (ek c b0 h).2.1 hc
 ·rcases dG c hc with h|⟨b0,h⟩
  ·exact m.oh c h
  ·exact .inr ⟨(ek c b0 h).1,(ek c b0 h).2.1⟩
 ·obtain ⟨i,b,h⟩:=m.gO c hc
  exact ⟨i,b,by show (if i=hi then some loc else φ1 i)=_;rw [if_neg (by rintro rfl;rw [bw] at h;simp at h)];exact h⟩
 ·have:=m.bY id l hl;rw [if_neg (by rintro rfl;rw [bw] at this;simp at this)];exact this
 ·try simp only at hl
  split at hl
  ·rename_i hi;subst hi;exact .inr ⟨hle,Nat.lt_succ_self _⟩
  ·rcases m.new id l hl with h|⟨h1,h2⟩
   ·exact .inl h
   ·exact .inr ⟨h1,by omega⟩
set_option maxRecDepth 4000
theorem rl {es:List Sh} (hE: ∀(x:AV) (vs:List Value) (L:J) (φL:ag) (AL:ah) (H G:J) (φ :ag) (AH:ah) (y:AV) (L1:J) (a:AV) (H1:J),bX w L φL AL G φ AH→GH G φ H H1→x.cells.length=vs.length→
 (∀(j:Nat) (c:AV) (u:Value),x.cells[j]? =some c→vs[j]? =some u→R w L φL AL c u)→aX es x L=some (y,L1)→aD y H=(a,H1)→fO AL AH y→
 ∃ φ1,MG w L φL AL G φ AH L1 φ1 H.bs.length H1.bs.length∧a.cells.length=x.cells.length∧ ∀(j:Nat) (c:AV) (u:Value),a.cells[j]? =some c→vs[j]? =some u→R w G φ1 AH c u):
 ∀(xs:List AV) (g:Nat→Nat→Value) (L:J) (φL:ag) (AL:ah) (H G:J) (φ :ag) (AH:ah) (ys:List AV) (L1:J) (as:List AV) (H1:J),bX w L φL AL G φ AH→GH G φ H H1→
  (∀(i:Nat) (x:AV) (j:Nat) (c:AV),xs[i]? =some x→x.cells[j]? =some c→R w L φL AL c (g i j))→dj (aX es) xs L=some (ys,L1)→aE ys H=(as,H1)→dO AL AH ys→
  ∃ φ1,MG w L φL AL G φ AH L1 φ1 H.bs.length H1.bs.length∧as.length=xs.length∧(∀(i:Nat) (x a:AV),xs[i]? =some x→as[i]? =some a→a.cells.length=x.cells.length)∧
   ∀(i:Nat) (a:AV) (j:Nat) (c:AV),as[i]? =some a→a.cells[j]? =some c→R w G φ1 AH c (g i j)
 |[],g,L,φL,AL,H,G,φ,AH,ys,L1,as,H1,hd,hh,_,ht,hw,_=>by
  simp only [dj,Option.some.injEq,Prod.mk.injEq] at ht;obtain ⟨rfl,rfl⟩:=ht;simp only [aE,Prod.mk.injEq] at hw;obtain ⟨rfl,rfl⟩:=hw;exact ⟨φ,.refl hd _,rfl,by simp,by simp⟩
 |x::xs,g,L,φL,AL,H,G,φ,AH,ys,L1,as,H1,hd,hh,hr,ht,hw,hk=>by
  simp only [dj] at ht;split at ht
  ·rename_i y L' h1
   split at ht
   ·rename_i aS c5 h2
    simp only [Option.some.injEq,Prod.mk.injEq] at ht;obtain ⟨rfl,rfl⟩:=ht;obtain ⟨k1,k2⟩:=hk.cons;simp only [aE,Prod.mk.injEq] at hw;obtain ⟨rfl,rfl⟩:=hw
    let vs:List Value:=(List.range x.cells.length).map (g 0)
    obtain ⟨φ1,m1,l1,r1⟩:=hE x vs L φL AL H G φ AH y L' _ _ hd (hh.fst (iq _ _)) (by simp [vs]) (fun j c u hj hu=>by
     have dN:j<x.cells.length:=(List.getElem?_eq_some_iff.1 hj).1;have:vs[j]? =some (g 0 j):=by simp [vs,dN]
     rw [this] at hu;simp only [Option.some.injEq] at hu;subst hu;exact hr 0 x j c rfl hj) h1 rfl k1
    obtain ⟨a7,m2,l2,s2,r2⟩:=rl hE xs (fun i j=>g (i+1) j) L' (aB φL L') AL _ G φ1 AH aS c5 _ _ m1.bj (hh.snd m1) (fun i x' j c hi hj=>(hr (i+1) x' j c hi hj).mono (cT m1.less)) h2 rfl k2
    refine ⟨a7,m1.trans m2,by simp [l2],fun i x' a hx ha=> ?_,fun i a j c ha hc=> ?_⟩
    ·cases i with
     |zero=>simp at hx ha;subst hx;subst ha;exact l1
     |succ i=>exact s2 i x' a hx ha
    ·cases i with
     |zero=>
      simp only [List.getElem?_cons_zero,Option.some.injEq] at ha;subst ha;have hj:j<x.cells.length:=by rw [←l1];exact (List.getElem?_eq_some_iff.1 hc).1
      exact (r1 j c (g 0 j) hc (by simp [vs,hj])).mono m2.eh
     |succ i=>exact r2 i a j c ha hc
   ·simp at ht
  ·simp at ht
theorem rm {L:J} {φL:ag} {AL:ah} {G:J} {φ :ag} {AH:ah} (hd:bX w L φL AL G φ AH) {id ad:Nat} {b:bI} (hb:L.ap id ad=some b) {off n:Nat} (hle:off+n≤b.el.length) {sz:Nat} (hs:b.sz=sz) {loc:Loc} (aY: φL id=some loc)
 {L1:J} {as:List AV} {lo hi:Nat} {g:Nat→Nat→Value} {φ1:ag} (hg: ∀c b0 arr T fr,loc= .at_ c b0→w.heap[c]? =some (.cells arr T fr)→ ∀(i j:Nat) (v:Value),i<n→j<sz→arr[b0+(off+i)*sz+j]? =some v→g i j=v)
 (m:MG w (L.del id) (aB φL (L.del id)) AL G φ AH L1 φ1 lo hi) (hl:as.length=n) (dY: ∀(i:Nat) (a:AV),as[i]? =some a→a.cells.length=sz)
 (hr: ∀(i:Nat) (a:AV) (j:Nat) (c:AV),as[i]? =some a→a.cells[j]? =some c→R w G φ1 AH c (g i j)) {gp:Nat} (fx:Bool) (gY:G.get hi=some ⟨gp,sz,fx,as⟩) (bG:gp<G.st) (gR: φ hi=none) (loc' :Loc) (gP:loc' = .aQ∧n=0∨ ∃c b0,loc= .at_ c b0∧loc' = .at_ c (b0+off*sz)):
 MG w L φL AL G φ AH L1 (fun i=>if i=hi then some loc' else φ1 i) lo (hi+1):=by
 have n0:=(J.br hb).1;have n1:=(bu.del L id).trans m.less;have gQ:aB (aB φL (L.del id)) L1=aB φL L1:=fN m.less;have m' :MG w L φL AL G φ AH L1 φ1 lo hi:=by
  refine ⟨n1,by have:=m.bj;rwa [gQ] at this,fun c hc=> ?_,m.gO,m.bY,m.new,m.le⟩
  rcases m.oh c hc with h|⟨h1,h2⟩
  ·exact .inl h
  ·rw [gQ] at h2;exact .inr ⟨bF h1,h2⟩
 refine rk m' gY bG gR dY (fun hv=> ?_) (fun c b1 he=> ?_)
 ·rcases gP with ⟨_,h0⟩|⟨c,b0,_,h2⟩
  ·exact List.eq_nil_of_length_eq_zero (by omega)
  ·rw [h2] at hv;simp at hv
 ·rcases gP with ⟨h1,_⟩|⟨c',b0,h1,h2⟩
  ·rw [h1] at he;simp at he
  ·rw [h2] at he;simp only [Loc.at_.injEq] at he;obtain ⟨rfl,rfl⟩:=he;subst h1;have iR:Ow φL c' :=⟨id,b0,aY⟩
   have n3: ¬Ow (aB φL L1) c' :=by
    rintro ⟨i,bb,hi⟩;obtain ⟨fk,bk,aV⟩:=df hi;have:=hd.sl.inj _ _ _ _ _ fk aY;subst this;have:=m.less.get _ _ aV;rw [J.ij,if_pos rfl] at this;simp at this
   refine ⟨iR,n3,fun ho=> ?_,hd.ej _ iR,?_⟩
   ·rcases m.oh c' ho with h|⟨⟨i,bb,hi⟩,_⟩
    ·exact hd.b7 c' iR h
    ·obtain ⟨fk,bk,aV⟩:=df hi;have:=hd.sl.inj _ _ _ _ _ fk aY;subst this;rw [J.ij,if_pos rfl] at aV;simp at aV
   ·obtain ⟨bk,aV,af⟩:=hd.sl.ap id _ aY;rw [n0] at aV;simp only [Option.some.injEq] at aV;subst aV;obtain ⟨arr,T,fr,k1,k2,k3,k4⟩:=af.here c' b0 rfl
    have hmul:off*sz+n*sz≤b.el.length*sz:=by rw [←Nat.add_mul];exact Nat.mul_le_mul_right _ hle
    refine ⟨arr,T,fr,k1,k2,by rw [hl];rw [hs] at k3;omega,fun i a j c v ha hc hv=> ?_⟩
    have hi:i<n:=by rw [←hl];exact (List.getElem?_eq_some_iff.1 ha).1
    have hj:j<sz:=by rw [←dY i a ha];exact (List.getElem?_eq_some_iff.1 hc).1
    have e:b0+off*sz+i*sz+j=b0+(off+i)*sz+j:=by rw [Nat.add_mul];omega
    rw [e] at hv;have n4:=hg c' b0 arr T fr rfl k1 i j v hi hj hv
    refine ⟨by rw [←n4];exact hr i a j c ha hc,?_⟩
    have cE:off+i<b.el.length:=by omega
    have hx:=List.getElem?_eq_getElem cE;have cj:=af.sized _ _ hx;exact (k4 (off+i) _ j _ v hx (List.getElem?_eq_getElem (by omega)) (by rw [hs];exact hv)).2
mutual
theorem me (sh:Sh) (x:AV) (v:Value) (L:J) (φL:ag) (AL:ah) (H G:J) (φ :ag) (AH:ah) (y:AV) (L1:J) (a:AV) (H1:J) (hd:bX w L φL AL G φ AH) (hh:GH G φ H H1) (hx:R w L φL AL x v)
 (ht:aO sh x L=some (y,L1)) (hw:aD y H=(a,H1)) (hk:fO AL AH y): ∃ φ1,MG w L φL AL G φ AH L1 φ1 H.bs.length H1.bs.length∧R w G φ1 AH a v∧(x≠ .undef→a.cells=[a])∧(x= .undef→a= .undef):=by
 cases sh with
 |sc=>
  simp only [aO] at ht;split at ht
  ·rename_i hp;simp only [Option.some.injEq,Prod.mk.injEq] at ht;obtain ⟨rfl,rfl⟩:=ht;rw [qu hp] at hw;simp only [Prod.mk.injEq] at hw;obtain ⟨rfl,rfl⟩:=hw;exact ⟨φ,.refl hd _,qt hp hx,fun hu=>iS hu (by rintro cs rfl;simp [dl] at hp),fun h=>h⟩
  ·simp at ht
 |sl es=>
  have kB: ∀{v0:Option Addr},v= .slice v0 0 0→aD (.own es.length []) H=(a,H1)→L1=L→ ∃ φ1,MG w L φL AL G φ AH L1 φ1 H.bs.length H1.bs.length∧R w G φ1 AH a v∧a.cells=[a]:=by
   intro v0 hv hw hL;subst hL;simp only [aD,aE,Prod.mk.injEq] at hw;obtain ⟨rfl,rfl⟩:=hw;have gY:=hh.ext.1 _ _ (J.dX H es.length false []);have bG:H.st<G.st:=Nat.lt_of_lt_of_le (Nat.lt_succ_self _) hh.ext.2;have m:=rk (MG.refl hd H.bs.length) gY bG (hh.none _ (Nat.le_refl _) (by rw [jM];exact Nat.lt_succ_self _)) (loc:= .aQ) (by simp) (fun _=>rfl) (by simp)
   rw [←jM H es.length false []] at m;refine ⟨_,m,?_,rfl⟩;refine .ref _ _ _ _ _ bG ⟨_,_,hv⟩ fun b hb=> ?_;have:=jH gY hb;subst this;exact ⟨.aQ,v0,0,by simp,hv,by simp,Nat.le_refl _,by simp,rfl,fun _=>rfl⟩
  cases x with
  |nil=>
   simp only [aO,Option.some.injEq,Prod.mk.injEq] at ht;obtain ⟨rfl,rfl⟩:=ht;obtain ⟨φ1,h1,h2,h3⟩:=kB hx.cY hw rfl;exact ⟨φ1,h1,h2,fun _=>h3,fun h=>by simp at h⟩
  |e0=>
   simp only [aO,Option.some.injEq,Prod.mk.injEq] at ht;obtain ⟨rfl,rfl⟩:=ht;obtain ⟨a0,kC⟩:=hx.eD;obtain ⟨φ1,h1,h2,h3⟩:=kB kC hw rfl;exact ⟨φ1,h1,h2,fun _=>h3,fun h=>by simp at h⟩
  |fz xs=>
   simp only [aO,Option.some.injEq,Prod.mk.injEq] at ht;obtain ⟨rfl,rfl⟩:=ht;simp only [aD,Prod.mk.injEq] at hw;obtain ⟨rfl,rfl⟩:=hw;rcases hk with hk|hk
   ·exact ⟨φ,.refl hd _,.fr _ _ (hx.dz.shrink hk),fun _=>rfl,fun h=>by simp at h⟩
   ·simp [cb] at hk
  |ref id ad off len=>
   simp only [aO] at ht;split at ht
   ·rename_i b hb;split at ht
    ·rename_i hc;obtain ⟨c1,c2,c3⟩:=hc;split at ht
     ·rename_i ys L' hm
      simp only [Option.some.injEq,Prod.mk.injEq] at ht;obtain ⟨rfl,rfl⟩:=ht;simp only [aD,Prod.mk.injEq] at hw;obtain ⟨rfl,rfl⟩:=hw;have hg:=(J.br hb).1;obtain ⟨bG,_,hr⟩:=hx.dW;obtain ⟨loc,a0,cap,q1,rfl,q3,q4,q5,q6⟩:=(hr b hb).out;obtain ⟨bk,aV,af⟩:=hd.sl.ap id _ q1;rw [hg] at aV;simp only [Option.some.injEq] at aV;subst aV;have bB:dO AL AH ys:=by
       rcases hk with h|h
       ·exact .inl h
       ·exact .inr (by simpa [cb] using h)
      have cJ:=bu.del L id;have bZ:bX w (L.del id) (aB φL (L.del id)) AL G φ AH:=⟨d_ hd.sl cJ,hd.sh,fun c hc=>hd.b7 c (bF hc),fun c hc=>hd.ej c (bF hc)⟩
      have bh:(aG b.el off len).length=len:=by simp [aG];omega
      have fP: ∀(i:Nat) (x:AV),(aG b.el off len)[i]? =some x→b.el[off+i]? =some x:=by
       intro i x hi;simp only [aG,List.getElem?_take,List.getElem?_drop] at hi;split at hi
       ·exact hi
       ·simp at hi
      let g:Nat→Nat→Value:=match loc with
       | .aQ=>fun _ _=>undef
       | .at_ c b0=>fun i j=>match w.heap[c]? with
        |some (.cells arr _ _)=>arr.getD (b0+(off+i)*es.length+j) undef
        |_=>undef
      have fL: ∀(i:Nat) (x:AV) (j:Nat) (c:AV),(aG b.el off len)[i]? =some x→x.cells[j]? =some c→R w (L.del id) (aB φL (L.del id)) AL c (g i j):=by
       intro i x j c hi hj;have bz:=fP i x hi
       have cc:i<len:=by rw [←bh];exact (List.getElem?_eq_some_iff.1 hi).1
       cases loc with
       |aQ=>have:=af.aQ rfl;rw [this] at bz;simp at bz
       |at_ c0 b0=>
        obtain ⟨arr,T,fr,k1,k2,k3,k4⟩:=af.here c0 b0 rfl;have dN:j<b.sz:=by rw [←af.sized _ _ bz];exact (List.getElem?_eq_some_iff.1 hj).1
        have hle:=cD (n:=b.sz) (show off+i<b.el.length by omega)
        have aw:b0+(off+i)*b.sz+j<arr.size:=by omega
        have:g i j=arr[b0+(off+i)*b.sz+j]:=by
         simp only [g,k1,←c1,Array.getD_eq_getD_getElem?,Array.getElem?_eq_getElem aw,Option.getD_some]
        rw [this];exact ((k4 _ _ _ _ _ bz hj (Array.getElem?_eq_getElem aw)).1).mono (cT cJ)
      obtain ⟨φ1,m,l1,s1,r1⟩:=rl (w:=w) (es:=es) (fun x vs L φL AL H G φ AH y L1 a H1=>rn es x vs L φL AL H G φ AH y L1 a H1) _ g _ _ _ _ _ _ _ _ _ _ _ bZ (hh.fst (.new _ _ _ _)) fL hm rfl bB
      rw [bh] at l1;have kD: ∀(i:Nat) (a:AV),(aE ys H).1[i]? =some a→a.cells.length=b.sz:=by
       intro i a ha;have cc:i<(aG b.el off len).length:=by rw [bh,←l1];exact (List.getElem?_eq_some_iff.1 ha).1
       have ik:=List.getElem?_eq_getElem cc;rw [s1 i _ a ik ha];exact af.sized _ _ (fP i _ ik)
      have n5: ∀c b0 arr T fr,loc= .at_ c b0→w.heap[c]? =some (.cells arr T fr)→ ∀(i j:Nat) (v:Value),i<len→j<b.sz→arr[b0+(off+i)*b.sz+j]? =some v→g i j=v:=by
       intro c b0 arr T fr hl hh i j v _ _ hv;subst hl;simp only [g,hh,←c1,Array.getD_eq_getD_getElem?,hv,Option.getD_some]
      let loc' :Loc:=match loc with
       | .aQ=> .aQ
       | .at_ c b0=>if cap=0 then .aQ else .at_ c (b0+off*b.sz)
      have gP:loc' = .aQ∧len=0∨ ∃c b0,loc= .at_ c b0∧loc' = .at_ c (b0+off*b.sz):=by
       cases loc with
       |aQ=>left;refine ⟨rfl,?_⟩;have:=af.aQ rfl;rw [this] at q3;simp at q3;omega
       |at_ c b0=>
        by_cases en:cap=0
        ·left;exact ⟨by simp [loc',en],by omega⟩
        ·right;exact ⟨c,b0,rfl,by simp [loc',en]⟩
      have gY:=hh.ext.1 _ _ (J.dX (aE ys H).2 es.length false (aE ys H).1);have bG:(aE ys H).2.st<G.st:=Nat.lt_of_lt_of_le (Nat.lt_succ_self _) hh.ext.2;have M:=rm hd hb c2 rfl q1 n5 m l1 kD r1 false (by rw [c1];exact gY) bG (hh.none _ (iq ys H).2 (by rw [jM];exact Nat.lt_succ_self _)) loc' gP
      rw [←jM (aE ys H).2 es.length false (aE ys H).1] at M;refine ⟨_,M,?_,fun _=>rfl,fun h=>by simp at h⟩
      refine .ref _ _ _ _ _ bG ⟨a0,cap,by rw [l1]⟩ fun b' ax=> ?_
      have:=jH gY ax;subst this;refine ⟨loc',a0,cap,by simp,by rw [l1],by simp,by omega,by simp only;omega,?_⟩
      cases loc with
      |aQ=>
       simp only at q6;have dK:len=0:=by have:=af.aQ rfl;rw [this] at q3;simp at q3;omega
       refine ⟨List.eq_nil_of_length_eq_zero (by rw [l1,dK]),fun _=> ?_⟩
       rcases c3 with c3|c3
       ·exact q6.2 c3
       ·omega
      |at_ c b0=>
       simp only at q6;by_cases en:cap=0
       ·simp only [loc',en,if_true];exact ⟨List.eq_nil_of_length_eq_zero (by omega),fun _=>by first|trivial|omega|rfl⟩
       ·simp only [loc',en,if_false];rcases q6 with q6|⟨h1,h2⟩
        ·exact absurd q6 en
        ·refine Or.inr ⟨by rw [h1];simp,?_⟩
         rw [c1] at h2⊢;have:(off+cap)*es.length=off*es.length+cap*es.length:=Nat.add_mul _ _ _;simp only [Nat.zero_add];omega
     ·simp at ht
    ·simp at ht
   ·simp at ht
  |_=>simp [aO] at ht
 |pt es=>
  cases x with
  |fe z o=>
   simp only [aO,Option.some.injEq,Prod.mk.injEq] at ht;obtain ⟨rfl,rfl⟩:=ht;simp only [aD,Prod.mk.injEq] at hw;obtain ⟨rfl,rfl⟩:=hw;rcases hk with hk|hk
   ·exact ⟨φ,.refl hd _,.fr _ _ (hx.eC.shrink hk),fun _=>rfl,fun h=>by simp at h⟩
   ·simp [cb] at hk
  |ptr id ad idx off=>
   rcases idx with _|idx
   rotate_left
   ·simp [aO] at ht
   rcases off with _|off
   rotate_left
   ·simp [aO] at ht
   simp only [aO] at ht;split at ht
   ·rename_i n6 sz n7 z hb;split at ht
    ·rename_i y' L' hm
     simp only [Option.some.injEq,Prod.mk.injEq] at ht;obtain ⟨rfl,rfl⟩:=ht;simp only [aD,Prod.mk.injEq] at hw;obtain ⟨rfl,rfl⟩:=hw;have hg:=(J.br hb).1;obtain ⟨bG,_,hr⟩:=hx.fc;obtain ⟨c,b0,q1,rfl⟩:=hr _ hb;obtain ⟨bk,aV,af⟩:=hd.sl.ap id _ q1;rw [hg] at aV;simp only [Option.some.injEq] at aV;subst aV;obtain ⟨arr,T,fr,k1,k2,k3,k4⟩:=af.here c b0 rfl;have bB:fO AL AH y' :=by
      rcases hk with h|h
      ·exact .inl h
      ·exact .inr (by simpa [cb] using h)
     have cJ:=bu.del L id;have bZ:bX w (L.del id) (aB φL (L.del id)) AL G φ AH:=⟨d_ hd.sl cJ,hd.sh,fun c hc=>hd.b7 c (bF hc),fun c hc=>hd.ej c (bF hc)⟩
     have db:z.cells.length=sz:=af.sized 0 z rfl;simp only [List.length_singleton,Nat.one_mul] at k3
     let vs:List Value:=(arr.extract b0 (b0+sz)).toList
     have dA:vs.length=sz:=by simp [vs];omega
     have fQ: ∀j u,vs[j]? =some u→arr[b0+j]? =some u:=by
      intro j u hu;simp only [vs,Array.getElem?_toList,Array.getElem?_extract] at hu;split at hu
      ·exact hu
      ·simp at hu
     obtain ⟨φ1,m,l1,r1⟩:=rn es z vs _ _ _ _ _ _ _ _ _ _ _ bZ (hh.fst (.new _ _ _ _)) (by rw [dA,db]) (fun j c' u hj hu=>((k4 0 z j c' u rfl hj (by simpa using fQ j u hu)).1).mono (cT cJ)) hm rfl bB
     have gY:=hh.ext.1 _ _ (J.dX (aD y' H).2 sz false [(aD y' H).1])
     have bG:(aD y' H).2.st<G.st:=Nat.lt_of_lt_of_le (Nat.lt_succ_self _) hh.ext.2
     have M:=rm (as:=[(aD y' H).1]) (n:=1) (off:=0) (sz:=sz) (loc' := .at_ c b0) (g:=fun i j=>vs.getD j undef) hd hb (by simp) rfl q1 (fun c' n8 arr' T' eJ hl hh i j v hi hj hv=>by
      simp only [Loc.at_.injEq] at hl;obtain ⟨rfl,rfl⟩:=hl;rw [k1] at hh;simp only [Option.some.injEq,Obj.cells.injEq] at hh;obtain ⟨rfl,_,_⟩:=hh;have iT:i=0:=by omega
      subst iT;simp only [Nat.zero_mul,Nat.add_zero] at hv;have:vs[j]? =some v:=by
       simp only [vs,Array.getElem?_toList,Array.getElem?_extract];rw [if_pos (by omega)];exact hv
      simp [List.getD,this]) m rfl (fun i a ha=>by
      cases i with
      |zero=>simp at ha;subst ha;rw [l1,db]
      |succ i=>simp at ha) (fun i a j c' ha hc=>by
      cases i with
      |zero=>
       simp at ha;subst ha;have hj:j<vs.length:=by rw [dA,←db,←l1];exact (List.getElem?_eq_some_iff.1 hc).1
       have:=r1 j c' vs[j] hc (List.getElem?_eq_getElem hj)
       simpa [List.getD,hj] using this
      |succ i=>simp at ha) false gY bG (hh.none _ (oR y' H).2 (by rw [jM];exact Nat.lt_succ_self _)) (.inr ⟨c,b0,rfl,by simp⟩)
     rw [←jM (aD y' H).2 sz false [(aD y' H).1]] at M
     refine ⟨_,M,?_,fun _=>rfl,fun h=>by simp at h⟩
     refine .ptr _ _ _ _ _ bG ⟨_,rfl⟩ fun b' ax=>⟨c,b0,by simp,?_⟩
     simp
    ·simp at ht
   ·simp at ht
  |_=>simp [aO] at ht
 termination_by (SizeOf.sizeOf sh,0)
theorem rn (es:List Sh) (x:AV) (vs:List Value) (L:J) (φL:ag) (AL:ah) (H G:J) (φ :ag) (AH:ah) (y:AV) (L1:J) (a:AV) (H1:J) (hd:bX w L φL AL G φ AH) (hh:GH G φ H H1) (hl:x.cells.length=vs.length)
 (hx: ∀(j:Nat) (c:AV) (u:Value),x.cells[j]? =some c→vs[j]? =some u→R w L φL AL c u) (ht:aX es x L=some (y,L1)) (hw:aD y H=(a,H1)) (hk:fO AL AH y):
 ∃ φ1,MG w L φL AL G φ AH L1 φ1 H.bs.length H1.bs.length∧a.cells.length=x.cells.length∧ ∀(j:Nat) (c:AV) (u:Value),a.cells[j]? =some c→vs[j]? =some u→R w G φ1 AH c u:=by
 by_cases bT: ∃cs,x= .agg cs
 ·obtain ⟨cs,rfl⟩:=bT;have cU: ∃aU,cg es cs L=some (aU,L1)∧y= .agg aU:=by
   match es,ht with
   |[],ht=>
    simp only [aX] at ht;split at ht
    ·rename_i aU L' hc
     simp only [Option.some.injEq,Prod.mk.injEq] at ht;obtain ⟨rfl,rfl⟩:=ht;exact ⟨aU,hc,rfl⟩
    ·simp at ht
   |[e],ht=>
    simp only [aX] at ht;split at ht
    ·rename_i aU L' hc
     simp only [Option.some.injEq,Prod.mk.injEq] at ht;obtain ⟨rfl,rfl⟩:=ht;exact ⟨aU,hc,rfl⟩
    ·simp at ht
   |e::e' ::es,ht=>
    simp only [aX] at ht;split at ht
    ·rename_i aU L' hc
     simp only [Option.some.injEq,Prod.mk.injEq] at ht;obtain ⟨rfl,rfl⟩:=ht;exact ⟨aU,hc,rfl⟩
    ·simp at ht
  obtain ⟨aU,hc,rfl⟩:=cU;simp only [aD,Prod.mk.injEq] at hw;obtain ⟨rfl,rfl⟩:=hw;have bB:dO AL AH aU:=by
   rcases hk with h|h
   ·exact .inl h
   ·exact .inr (by simpa [cb] using h)
  exact oS es cs vs L φL AL H G φ AH aU L1 _ _ hd hh hl hx hc rfl bB
 ·have dq: ∀cs,x≠ .agg cs:=fun cs h=>bT ⟨cs,h⟩
  match es,ht with
  |[e],ht=>
   have cU:aO e x L=some (y,L1):=by
    cases x<;>first|(simpa only [aX] using ht)|exact absurd rfl (dq _)
   by_cases hu:x= .undef
   ·subst hu;have fD:vs=[]:=List.eq_nil_of_length_eq_zero (by simpa [AV.cells] using hl.symm)
    subst fD;obtain ⟨φ1,m,_,_,h4⟩:=me e .undef undef L φL AL H G φ AH y L1 a H1 hd hh (.fr _ _ (.undef _)) cU hw hk
    exact ⟨φ1,m,by rw [h4 rfl],by simp⟩
   ·have cK:=iS hu dq;rw [cK] at hl;obtain ⟨v,rfl⟩: ∃v,vs=[v]:=by
     match vs,hl with
     |[v],_=>exact ⟨v,rfl⟩
    obtain ⟨φ1,m,h2,h3,_⟩:=me e x v L φL AL H G φ AH y L1 a H1 hd hh (hx 0 x v (by rw [cK];rfl) rfl) cU hw hk
    refine ⟨φ1,m,by rw [h3 hu,cK];rfl,fun j c u hj aN=> ?_⟩
    rw [h3 hu] at hj;cases j with
    |zero=>simp at hj aN;subst hj;subst aN;exact h2
    |succ j=>simp at hj
  |[],ht=>cases x<;>first|(simp [aX] at ht;done)|exact absurd rfl (dq _)
  |_::_::_,ht=>cases x<;>first|(simp [aX] at ht;done)|exact absurd rfl (dq _)
 termination_by (SizeOf.sizeOf es,1)
theorem oS (es:List Sh) (cs:List AV) (vs:List Value) (L:J) (φL:ag) (AL:ah) (H G:J) (φ :ag) (AH:ah) (ys:List AV) (L1:J) (as:List AV) (H1:J) (hd:bX w L φL AL G φ AH) (hh:GH G φ H H1) (hl:cs.length=vs.length)
 (hx: ∀(j:Nat) (c:AV) (u:Value),cs[j]? =some c→vs[j]? =some u→R w L φL AL c u) (ht:cg es cs L=some (ys,L1)) (hw:aE ys H=(as,H1)) (hk:dO AL AH ys):
 ∃ φ1,MG w L φL AL G φ AH L1 φ1 H.bs.length H1.bs.length∧as.length=cs.length∧ ∀(j:Nat) (c:AV) (u:Value),as[j]? =some c→vs[j]? =some u→R w G φ1 AH c u:=by
 match es,cs,ht with
 |[],[],ht=>
  simp only [cg,Option.some.injEq,Prod.mk.injEq] at ht;obtain ⟨rfl,rfl⟩:=ht;simp only [aE,Prod.mk.injEq] at hw;obtain ⟨rfl,rfl⟩:=hw;exact ⟨φ,.refl hd _,rfl,by simp⟩
 |e::es,x::cs,ht=>
  simp only [cg] at ht;split at ht
  ·rename_i y L' h1
   split at ht
   ·rename_i aS c5 h2
    simp only [Option.some.injEq,Prod.mk.injEq] at ht;obtain ⟨rfl,rfl⟩:=ht;simp only [aE,Prod.mk.injEq] at hw;obtain ⟨rfl,rfl⟩:=hw;obtain ⟨k1,k2⟩:=hk.cons
    match vs,hl with
    |v::vs,hl=>
     obtain ⟨φ1,m1,r1,_,_⟩:=me e x v L φL AL H G φ AH y L' _ _ hd (hh.fst (iq _ _)) (hx 0 x v rfl rfl) h1 rfl k1
     obtain ⟨a7,m2,l2,r2⟩:=oS es cs vs L' (aB φL L') AL _ G φ1 AH aS c5 _ _ m1.bj (hh.snd m1) (by simpa using hl) (fun j c u hj hu=>(hx (j+1) c u hj hu).mono (cT m1.less)) h2 rfl k2
     refine ⟨a7,m1.trans m2,by simp [l2],fun j c u hj hu=> ?_⟩
     cases j with
     |zero=>simp at hj hu;subst hj;subst hu;exact r1.mono m2.eh
     |succ j=>exact r2 j c u hj hu
   ·simp at ht
  ·simp at ht
 |[],_::_,ht=>simp [cg] at ht
 |_::_,[],ht=>simp [cg] at ht
 termination_by (SizeOf.sizeOf es,0)
end
end bj
end Go.VS
namespace Go.VS
section bj
variable {w:World} {AL AH:ah}
theorem yf {es:List Sh} {x:AV} {v:Value} {L:J} {φL:ag} {H G:J} {φ :ag} {y:AV} {L1:J} {a:AV} {H1:J} (hd:bX w L φL AL G φ AH) (hh:GH G φ H H1) (hx:R w L φL AL x v)
 (ht:aX es x L=some (y,L1)) (hw:aD y H=(a,H1)) (hk:fO AL AH y): ∃ φ1,MG w L φL AL G φ AH L1 φ1 H.bs.length H1.bs.length∧R w G φ1 AH a v:=by
 by_cases bT: ∃cs,x= .agg cs
 ·obtain ⟨cs,rfl⟩:=bT;obtain ⟨aU,hc,rfl⟩:=kE ht;simp only [aD,Prod.mk.injEq] at hw;obtain ⟨rfl,rfl⟩:=hw;have bB:dO AL AH aU:=by
   rcases hk with h|h
   ·exact .inl h
   ·exact .inr (by simpa [cb] using h)
  obtain ⟨vs,rfl,hl,ho,hp⟩:=hx.fE;obtain ⟨φ1,m,l1,r1⟩:=oS es cs vs.toList L φL AL H G φ AH aU L1 _ _ hd hh (by simpa using hl) (fun j c u hj hu=>hp j c u hj (by simpa using hu)) hc rfl bB
  exact ⟨φ1,m,.agg _ _ (by rw [l1,hl]) ho fun i x v hx hv=>r1 i x v hx (by simpa using hv)⟩
 ·obtain ⟨e,rfl,cU⟩:=iU (fun cs h=>bT ⟨cs,h⟩) ht;obtain ⟨φ1,m,r,_⟩:=me e x v L φL AL H G φ AH y L1 a H1 hd hh hx cU hw hk
  exact ⟨φ1,m,r⟩
theorem rq: ∀(sh:List (List Sh)) (rs:List AV) (us:List Value) (L:J) (φL:ag) (H G:J) (φ :ag) (ys:List AV) (L1:J),bX w L φL AL G φ AH→GH G φ H (aE ys H).2→rs.length=us.length→
 (∀(i:Nat) (x:AV) (u:Value),rs[i]? =some x→us[i]? =some u→R w L φL AL x u)→cX sh rs L=some (ys,L1)→dO AL AH ys→
 ∃ φ1,MG w L φL AL G φ AH L1 φ1 H.bs.length (aE ys H).2.bs.length∧(aE ys H).1.length=us.length∧ ∀(i:Nat) (x:AV) (u:Value),(aE ys H).1[i]? =some x→us[i]? =some u→R w G φ1 AH x u
 |sh,[],us,L,φL,H,G,φ,ys,L1,hd,hh,hl,hr,ht,hk=>by
  simp only [cX,Option.some.injEq,Prod.mk.injEq] at ht;obtain ⟨rfl,rfl⟩:=ht;exact ⟨φ,.refl hd _,hl,by simp [aE]⟩
 |sh,x::rs,u::us,L,φL,H,G,φ,ys,L1,hd,hh,hl,hr,ht,hk=>by
  simp only [cX] at ht;split at ht
  rotate_left
  ·simp at ht
  rename_i y L' h1
  split at ht
  rotate_left
  ·simp at ht
  rename_i aS c5 h2
  simp only [Option.some.injEq,Prod.mk.injEq] at ht;obtain ⟨rfl,rfl⟩:=ht;obtain ⟨k1,k2⟩:=hk.cons;obtain ⟨φ1,m1,r1⟩:=yf (y:=y) (H:=H) hd (hh.fst (H1:=(aD y H).2) (iq aS (aD y H).2)) (hr 0 x u rfl rfl) h1 rfl k1
  obtain ⟨a7,m2,l2,r2⟩:=rq sh.tail rs us L' (aB φL L') (aD y H).2 G φ1 aS c5 m1.bj (hh.snd m1) (by simpa using hl) (fun i x u hx hu=>(hr (i+1) x u hx hu).mono (cT m1.less)) h2 k2
  refine ⟨a7,m1.trans m2,by simp [aE,l2],fun i x' u' hx hu=> ?_⟩
  cases i with
  |zero=>simp [aE] at hx hu;subst hx;subst hu;exact r1.mono m2.eh
  |succ i=>simp only [aE,List.getElem?_cons_succ] at hx hu;exact r2 i x' u' hx hu
 |sh,x::rs,[],L,φL,H,G,φ,ys,L1,hd,hh,hl,hr,ht,hk=>by simp at hl
end bj
theorem mf {H G:J} (h:a4 H G): ∀(n:Nat) (x y:AV),aP n H x=some y→aP n G x=some y
 |0,x,y,hs=>by simp [aP] at hs
 |n+1,x,y,hs=>by
  have hm: ∀(xs ys:List AV),xs.mapM (aP n H)=some ys→xs.mapM (aP n G)=some ys:=by
   intro xs;induction xs with
   |nil=>intro ys h;simpa using h
   |cons z xs ih=>
    intro ys hy;simp only [List.mapM_cons,Option.bind_eq_bind,Option.bind_eq_some_iff,Option.pure_def,Option.some.injEq] at hy⊢;obtain ⟨a,h1,b,h2,h3⟩:=hy;exact ⟨a,mf h n z a h1,b,ih b h2,h3⟩
  cases x with
  |agg cs=>
   simp only [aP,Option.map_eq_some_iff] at hs⊢;obtain ⟨ys,h1,h2⟩:=hs;exact ⟨ys,hm _ _ h1,h2⟩
  |fn f cs=>
   simp only [aP,Option.map_eq_some_iff] at hs⊢;obtain ⟨ys,h1,h2⟩:=hs;exact ⟨ys,hm _ _ h1,h2⟩
  |ref id ad off len=>
   simp only [aP] at hs⊢;split at hs
   ·rename_i b hb;rw [h.ap hb];simp only;split at hs
    ·rename_i hle;rw [if_pos hle];simp only [Option.map_eq_some_iff] at hs⊢;obtain ⟨ys,h1,h2⟩:=hs;exact ⟨ys,hm _ _ h1,h2⟩
    ·simp at hs
   ·simp at hs
  |ptr id ad idx off=>
   simp only [aP] at hs⊢;split at hs
   ·rename_i b hb;rw [h.ap hb];simp only;split at hs
    ·rename_i z hz;simp only [Option.map_eq_some_iff] at hs⊢;obtain ⟨y',h1,h2⟩:=hs;exact ⟨y',mf h n z y' h1,h2⟩
    ·simp at hs
   ·simp at hs
  |_=>first|(simpa only [aP] using hs)|(simp [aP] at hs;done)
theorem jN {H G:J} (h:a4 H G): ∀(ms:List Mode) (as ys:List AV) (b:Bool),b6 ms as H=some (ys,b)→b6 ms as G=some (ys,b)
 |ms,[],ys,b,hp=>by cases ms<;>simpa only [b6] using hp
 |[],a::as,ys,b,hp=>by
  simp only [b6] at hp⊢;split at hp
  ·rename_i y hy;split at hp
   ·rename_i aS b' cq
    rw [mf h 8 a y hy,jN h [] as aS b' cq]
    exact hp
   ·simp at hp
  ·simp at hp
 |m::ms,a::as,ys,b,hp=>by
  have other:(match b6 ms as H with|some (ys,b)=>some (a::ys,b)|none=>none)=some (ys,b)→(match b6 ms as G with|some (ys,b)=>some (a::ys,b)|none=>none)=some (ys,b):=by
   intro hp;split at hp
   ·rename_i aS b' cq
    rw [jN h ms as aS b' cq]
    exact hp
   ·simp at hp
  cases m with
  |val=>
   simp only [b6] at hp⊢;split at hp
   ·rename_i y hy;split at hp
    ·rename_i aS b' cq
     rw [mf h 8 a y hy,jN h ms as aS b' cq]
     exact hp
    ·simp at hp
   ·simp at hp
  |eH=>
   simp only [b6] at hp⊢;split at hp
   ·rename_i aS b' cq
    rw [jN h ms as aS b' cq]
    exact hp
   ·simp at hp
  |io=>
   simp only [b6] at hp⊢;split at hp
   ·rename_i aS b' cq
    rw [jN h ms as aS b' cq]
    exact hp
   ·simp at hp
def yg (w:World) (G:J) (φ :ag) (A:ah) (H H' :J) (x:AV) (e:Ending) (w' :World):Prop:=
 match e with
 | .returned v' => ∃ak A',Out w G φ A w' G ak A' ∧R w' G ak A' x v' ∧ ∀id loc,ak id=some loc→ φ id=some loc∨(H.bs.length≤id∧id<H'.bs.length)
 |_=>False
theorem yh {P:Program} {C:aF} {X:bD} (hX: ∀f ys H K,X f ys H K→cV P f ys H K) {w:World} {G:J} {φ :ag} {A:ah} (ae:St w G φ A) {H H' :J} (hg:a4 H G) (hh:GH G φ H H') {f:FuncId} {as:List AV} {us:Array Value} (hl:as.length=us.size)
 (hr: ∀(i:Nat) (x:AV) (u:Value),as[i]? =some x→us[i]? =some u→R w G φ A x u) {th:Bool} {x:AV} (h:dm X C f as th H (fun v1 H1=>v1=x∧H1=H')):jI P f∧Calls P f us w (yg w G φ A H H' x):=by
 unfold dm at h;split at h
 ·exact h.elim
 rename_i ys bS hy;obtain ⟨y,kH,gS,hp⟩:=h;have hm:l6 []:=fun m hm=>by simp at hm
 have oC:bX w G φ A ⟨0,[]⟩ (fun _=>none) A:=by
  refine ⟨ae,⟨fun i i' c b b' h=>by simp at h,fun c hc=> ?_,ae.ca,fun id loc h=>by simp at h⟩,fun c _ hc=> ?_,ae.own⟩
  ·obtain ⟨i,b,h⟩:=hc;simp at h
  ·obtain ⟨i,b,h⟩:=hc;simp at h
 have oD:b_ [] ys ⟨0,[]⟩=(ys,⟨0,[]⟩):=oB _ _ _ hy _;obtain ⟨aA,m,cr,dP⟩:=lX as [] [] us.toList G φ as G ys bS ⟨0,[]⟩ (fun _=>none) ys ⟨0,[]⟩ oC (by simpa using hl) (fun i x u hx hu=>hr i x u hx (by simpa using hu)) (oz _ _ _ _ hm) (jN hg _ _ _ _ hy) oD
 have bh: ∀c,¬Ow aA c:=fun c hc=>by
  rcases m.oh c hc with ⟨i,b,h⟩|⟨h1,h2⟩
  ·simp at h
  ·rw [jJ ae] at h2;exact h2 h1
 let A0:ah:=if bS=true then Ow aA else A
 have iW: ∀c,A0 c→A c:=by
  intro c hc;simp only [A0] at hc;split at hc
  ·exact absurd hc (bh c)
  ·exact hc
 have oE:bS=true→ ∀c,A0 c→fm (aB φ G) A c:=by
  intro aw c hc;simp only [A0,aw,if_true] at hc;exact absurd hc (bh c)
 have cM:St w ⟨0,[]⟩ aA A0:=m.bj.sh.shrink iW (fun c hc=>absurd hc (bh c));have eQ:ys.length=us.size:=by simpa using cr.1
 refine ⟨(hX _ _ _ _ kH).1,((hX _ _ _ _ kH).2 w A0 aA us cM eQ (fun i x u hx hu=>cr.2 A0 iW oE i x u hx (by simpa using hu))).mono fun e w' he=> ?_⟩
 cases e with
 |panicked c=>exact he.elim
 |outgrown=>exact he.elim
 |returned v' =>
 obtain ⟨x0,L,ak,A',ho,oF,rs,gw,L2,rfl,kI,rfl⟩:=he;obtain ⟨cw,rfl,kJ,gQ⟩:=qU oF
 let AH:ah:=if bS=true then fun c=>A c∨(A' c∧w.heap.size≤c) else A'
 have iX: ∀c,Ow ak c→w.heap.size≤c:=fun c hc=>(ho.post.own c hc).resolve_left (bh c)
 have ha:oj w A aA w' ak AH:=by
  refine ⟨fun c hc hn=> ?_,fun c hc=> ?_,fun c hc=> ?_,fun c arr T fr hc hn=> ?_⟩
  ·simp only [AH];split
   ·exact .inl hc
   ·rename_i aw;refine ho.bK c ?_ hn;simp only [A0,aw];exact hc
  ·simp only [AH];split
   ·exact .inr ⟨ho.st.own c hc,iX c hc⟩
   ·exact ho.st.own c hc
  ·simp only [AH] at hc;split at hc
   ·rcases hc with h|⟨h,_⟩
    ·exact Nat.lt_of_lt_of_le (ae.ca c h) ho.post.size
    ·exact ho.st.ca c h
   ·exact ho.st.ca c hc
  ·obtain ⟨h1,h2⟩:=ho.bW.fz c arr T fr hc (fun h=>hn (iW c h));refine ⟨h1,?_⟩;simp only [AH];split
   ·rintro (h|⟨_,h⟩)
    ·exact hn h
    ·have:c<w.heap.size:=by
      rcases Nat.lt_or_ge c w.heap.size with h' |h'
      ·exact h'
      ·rw [Array.getElem?_eq_none h'] at hc;simp at hc
     omega
   ·exact h2
 obtain ⟨D,E⟩:=qK (ls:=[]) (Lm:=L) ae m (by rw [hl,eQ]) dP ho ha (by simp [e8])
 rw [oA _ _ _ _ hm,jJ ae] at D E;have oG:dO A' AH gw:=by
  cases aw:bS with
  |false=>exact .inl fun c h=>by simpa [AH,aw] using h
  |true=>
   rcases gS with h|h
   ·rw [aw] at h;simp at h
   ·rw [qT] at h;exact .inr h
 have iY: ∀(i:Nat) (x:AV) (u:Value),rs[i]? =some x→cw[i]? =some u→R w' L (aB ak L) A' x u:=fun i x u hx hu=>by
  rw [jJ ho.st];exact gQ i x u hx hu
 have ff: ∀{cN:ag},(∀c,Ow cN c→Ow φ c∨Ow ak c)→e9 w φ w' cN:=fun hq=>
  ⟨ho.post.os,ho.post.tape,ho.post.output,ho.post.size,fun c hc _=>ho.post.kept c hc (bh c),ho.post.a_,fun c hc=>by
   rcases hq c hc with h|h
   ·exact .inl h
   ·exact .inr (iX c h)⟩
 have iZ: ∀c,A c→ ¬Ow φ c→AH c:=fun c hc _=>ha.own c hc (bh c);have cZ: ∀c,Ow φ c→a_ w' c=a_ w c:=fun c hc=>ho.post.a_ c (Ow.lt ae hc)
 cases fM:(th||bS) with
 |true=>
  rw [fM] at hp;simp only [if_true,qR] at hp;obtain ⟨rfl,rfl⟩:=hp;obtain ⟨cN,m3,l3,r3⟩:=rq _ rs cw L _ H G φ gw L2 D hh kJ iY kI oG
  refine ⟨cN,AH,⟨m3.bj.sh,ff fun c hc=> ?_,E.trans m3.eh cZ,iZ⟩,ov l3 r3,m3.new⟩;rcases m3.oh c hc with h|⟨h,_⟩
  ·exact .inl h
  ·exact .inr (bF h)
 |false=>
  rw [fM] at hp;simp only [Bool.false_eq_true,if_false,qS] at hp;obtain ⟨rfl,rfl⟩:=hp;simp only [Bool.or_eq_false_iff] at fM;have oH:AH=A' :=by simp [AH,fM.2]
  rw [oH] at D E iZ
  let A2:ah:=gone (aB ak L) A' L2
  obtain ⟨l3,r3⟩:=ou (A' :=A2) _ rs cw L (aB ak L) gw L2 D.sl kJ iY kI (fun c h=>h)
  have oI: ∀c,Ow φ c→A2 c:=fun c hc=>⟨D.sh.own c hc,fun h=>absurd hc (D.b7 c h)⟩;have oJ:bM w G φ A w' G φ A2:=⟨fun c arr T fr hc hn=>⟨(E.fz c arr T fr hc hn).1,fun h2=>(E.fz c arr T fr hc hn).2 h2.1⟩,E.st,E.ids,E.sz⟩
  refine ⟨φ,A2,⟨D.sh.shrink (fun c h=>h.1) oI,ff fun c hc=> .inl hc,oJ,fun c hc hn=>⟨iZ c hc hn,fun h=> ?_⟩⟩,.fr _ _ (qQ l3 r3),fun id loc h=> .inl h⟩;have:=iX c (bF h)
  have:=ae.ca c hc;omega
end Go.VS
namespace Go.VS
def yi (H H1:J):Prop:= ∀id b,H1.get id=some b→b.ad<H.st→H.get id=some b
def QG (H H1:J):Prop:=fo H H1∧yi H H1
theorem QG.refl (H:J):QG H H:=⟨.refl _,fun _ _ h _=>h⟩
theorem QG.trans {H H1 H2:J} (h:QG H H1) (k:QG H1 H2):QG H H2:=
 ⟨h.1.trans k.1,fun id b hb hv=>h.2 id b (k.2 id b hb (Nat.lt_of_lt_of_le hv h.1.1.2)) hv⟩
theorem QG.of {H H' :J} (h:H' =H∨ ∃sz fx el,H' =H.new sz fx el):QG H H' :=by
 obtain ⟨h1,h2,h3⟩:=J.iP h;exact ⟨⟨h1,h3⟩,h2⟩
theorem QG.new (H:J) (sz:Nat) (fx:Bool) (el:List AV):QG H (H.new sz fx el):= .of (.inr ⟨_,_,_,rfl⟩)
mutual
theorem oT: ∀(y:AV) (H:J),QG H (aD y H).2
 | .own sz xs,H=>by simp only [aD];exact (mg xs H).trans (.new _ _ _ _)
 | .di sz x,H=>by simp only [aD];exact (oT x H).trans (.new _ _ _ _)
 | .agg xs,H=>by simp only [aD];exact mg xs H
 | .aC xs,H=>by simp only [aD];exact mg xs H
 | .undef,H=> .refl _
 | .int _ _,H=> .refl _
 | .bool _,H=> .refl _
 | .str _,H=> .refl _
 | .nil,H=> .refl _
 | .e0,H=> .refl _
 | .fz _,H=> .refl _
 | .ref _ _ _ _,H=> .refl _
 | .ptr _ _ _ _,H=> .refl _
 | .fe _ _,H=> .refl _
 | .fn _ _,H=> .refl _
 | .cf _,H=> .refl _
 | .dt,H=> .refl _
theorem mg: ∀(ys:List AV) (H:J),QG H (aE ys H).2
 |[],H=> .refl _
 |y::ys,H=>by simp only [aE];exact (oT y H).trans (mg ys _)
end
section ops
variable {P:Program} {E:aJ} (hE: ∀t ti,E t=some ti→aT P t ti)
variable {w:World} {G:J} {φ :ag} {A:ah}
theorem yj {b:Builtin} {tys:Array TypeId} {args:List AV} {H H' :J} {z:AV} (hq:ey b args=true) (h:cp E b tys args H=some (z,H')):QG H H' :=by
 have yl: ∀{te:TI} {s x:AV},s= .nil∨s= .e0→dw te s x H=some (z,H')→QG H H' :=by
  intro te s x hs h;refine .of ?_;rcases hs with rfl|rfl;all_goals
   simp only [dw] at h;repeat' split at h
   all_goals first
    |(simp at h;done)
    |(simp only [Option.some.injEq,Prod.mk.injEq] at h;first|exact .inl h.2.symm|exact .inr ⟨_,_,_,h.2.symm⟩)
 unfold cp at h;split at h
 ·repeat' split at h
  all_goals first
   |(simp at h;done)
   |(simp only [Option.some.injEq,Prod.mk.injEq] at h;rw [←h.2];exact .refl _)
 ·rename_i s x;have hs:s= .nil∨s= .e0:=by
   cases s<;>first|exact .inl rfl|exact .inr rfl|(simp [ey] at hq)
  split at h
  ·split at h
   ·split at h
    ·split at h
     ·unfold jm at h;refine .of ?_;repeat' split at h
      all_goals first
       |(simp at h;done)
       |(simp only [Option.some.injEq,Prod.mk.injEq] at h;first|exact .inl h.2.symm|exact .inr ⟨_,_,_,h.2.symm⟩)
     ·simp at h
    ·exact yl hs h
   ·simp at h
  ·simp at h
 ·simp [ey] at hq
 ·simp [ey] at hq
 ·split at h
  ·simp only [Option.some.injEq,Prod.mk.injEq] at h;rw [←h.2];exact .refl _
  ·simp at h
 ·split at h
  ·simp only [Option.some.injEq,Prod.mk.injEq] at h;rw [←h.2];exact .refl _
  ·simp at h
 ·split at h
  ·split at h
   ·simp only [Option.some.injEq,Prod.mk.injEq] at h;rw [←h.2];exact .refl _
   ·simp at h
  ·simp at h
 ·simp at h
include hE in
theorem ym (ae:St w G φ A) {H H' :J} (hX:a4 H G) (rr:a4 H' G) (bw:H.bs.length<H'.bs.length→ φ H.bs.length=none) {b:Builtin} {tys:Array TypeId} {ty:TypeId} {consts:Array Bool} {args:List AV} {vs:Array Value} {z:AV} (hq:ey b args=true) (hl:args.length=vs.size)
 (aR: ∀(i:Nat) (a:AV) (u:Value),args[i]? =some a→vs[i]? =some u→R w G φ A a u) (h:cp E b tys args H=some (z,H')):
 a9 w G φ A H H' ((builtin b tys ty consts vs).run P w) z:=by
 unfold cp at h;split at h
 ·rename_i x;obtain ⟨a,rfl⟩: ∃a,vs= #[a]:=by
   have h1:vs.size=1:=hl.symm;exact ⟨vs[0],by apply Array.ext;simp [h1];intro i h1 h2;simp at h2;subst h2;rfl⟩
  have hx:=aR 0 x a rfl rfl;split at h
  ·rename_i ti n ht hn;obtain ⟨t,h0,ht⟩:=Option.bind_eq_some_iff.1 ht;have key: ∀{q:AV×J},some q=some (z,H')→q=(AV.int .i64 n,H)→((∃e,ti.aq= .sl e∧ ∀s,x≠ .str s)∨(ti.aq= .str∧ ∃s,x= .str s))→a9 w G φ A H H' ((builtin .len tys ty consts #[a]).run P w) z:=by
    intro q hq nY hu;subst nY;simp only [Option.some.injEq,Prod.mk.injEq] at hq;obtain ⟨rfl,rfl⟩:=hq;have:=qp (tys:=tys) (ty:=ty) hE h0 hx hX hn ht hu;exact a9.val ae (by simp [builtin,this]) (.fr _ _ (.int _ _))
   split at h
   ·rename_i s hu;exact key h rfl (.inr ⟨hu,s,rfl⟩)
   ·simp at h
   ·rename_i e hu aK;exact key h rfl (.inl ⟨e,hu,fun s hs=>aK s hs⟩)
   ·simp at h
  ·simp at h
 ·rename_i s x;obtain ⟨a,b,rfl⟩: ∃a b,vs= #[a,b]:=by
   have h1:vs.size=2:=hl.symm;exact ⟨vs[0],vs[1],by apply Array.ext;simp [h1];intro i h1 h2;simp at h2;rcases i with _|_|i;rfl;rfl;omega⟩
  have hs:=aR 0 s a rfl rfl;have hx:=aR 1 x b rfl rfl;have ef:s= .nil∨s= .e0:=by
   cases s<;>first|exact .inl rfl|exact .inr rfl|(simp [ey] at hq)
  split at h
  ·rename_i t h0;split at h
   ·rename_i te tx bf cy;obtain ⟨t2,h1,cy⟩:=Option.bind_eq_some_iff.1 cy;split at h
    ·rename_i k hit;split at h
     ·exact qf hE ae rr bw h0 h1 bf cy hit hs hx h
     ·simp at h
    ·rename_i aK;exact nN hE ae hX rr bw h0 h1 bf cy (fun k hk=>aK k hk) hs hx ef h
   ·simp at h
  ·simp at h
 ·simp [ey] at hq
 ·simp [ey] at hq
 ·split at h
  ·rename_i v hv;simp only [Option.some.injEq,Prod.mk.injEq] at h;obtain ⟨rfl,rfl⟩:=h;cases args with
   |nil=>simp [jo] at hv
   |cons x rest=>
    obtain ⟨a,us,dr⟩: ∃a us,vs.toList=a::us:=by
     cases eQ:vs.toList with
     |nil=>have:=congrArg List.length eQ;simp at this;simp [this] at hl
     |cons a us=>exact ⟨a,us,rfl⟩
    have hlen:rest.length=us.length:=by have:=congrArg List.length dr;simp at this;simp at hl;omega
    have bA: ∀(i:Nat) (u:Value),(a::us)[i]? =some u→vs[i]? =some u:=fun i u hu=>by rw [←dr] at hu;simpa using hu
    obtain ⟨u,hu,hz⟩:=kA (P:=P) (op:=Builtin.min2) (f:=fun a b=>match a,b with| .int k x,.int _ y=>some (.int k (if y<x then y else x))|_,_=>none) (fun a b x y z ha hb hf=>by
     split at hf
     ·have e1:=ha.cx;have e2:=hb.cx;subst e1;subst e2;simp only [Option.some.injEq] at hf;subst hf;exact ⟨_,by simp [Builtin.min2],.fr _ _ (.int _ _)⟩
     ·simp at hf) rest us x a v hlen (fun i p q hp hq=>aR (i+1) p q hp (bA (i+1) q hq)) (aR 0 x a rfl (bA 0 a rfl)) hv
    exact a9.val ae (by simp [builtin,Builtin.min_,dr,hu]) hz
  ·simp at h
 ·split at h
  ·rename_i v hv;simp only [Option.some.injEq,Prod.mk.injEq] at h;obtain ⟨rfl,rfl⟩:=h;cases args with
   |nil=>simp [jp] at hv
   |cons x rest=>
    obtain ⟨a,us,dr⟩: ∃a us,vs.toList=a::us:=by
     cases eQ:vs.toList with
     |nil=>have:=congrArg List.length eQ;simp at this;simp [this] at hl
     |cons a us=>exact ⟨a,us,rfl⟩
    have hlen:rest.length=us.length:=by have:=congrArg List.length dr;simp at this;simp at hl;omega
    have bA: ∀(i:Nat) (u:Value),(a::us)[i]? =some u→vs[i]? =some u:=fun i u hu=>by rw [←dr] at hu;simpa using hu
    obtain ⟨u,hu,hz⟩:=kA (P:=P) (op:=Builtin.max2) (f:=fun a b=>match a,b with| .int k x,.int _ y=>some (.int k (if y>x then y else x))|_,_=>none) (fun a b x y z ha hb hf=>by
     split at hf
     ·have e1:=ha.cx;have e2:=hb.cx;subst e1;subst e2;simp only [Option.some.injEq] at hf;subst hf;exact ⟨_,by simp [Builtin.max2],.fr _ _ (.int _ _)⟩
     ·simp at hf) rest us x a v hlen (fun i p q hp hq=>aR (i+1) p q hp (bA (i+1) q hq)) (aR 0 x a rfl (bA 0 a rfl)) hv
    exact a9.val ae (by simp [builtin,Builtin.max_,dr,hu]) hz
  ·simp at h
 ·obtain ⟨a,rfl⟩: ∃a,vs= #[a]:=by
   have h1:vs.size=1:=hl.symm;exact ⟨vs[0],by apply Array.ext;simp [h1];intro i h1 h2;simp at h2;subst h2;rfl⟩
  have hx:=(aR 0 .nil a rfl rfl).cY;subst hx;split at h
  ·rename_i ti ht;obtain ⟨t,h0,ht⟩:=Option.bind_eq_some_iff.1 ht;split at h
   ·rename_i e hu;simp only [Option.some.injEq,Prod.mk.injEq] at h;obtain ⟨rfl,rfl⟩:=h;have hc:(Builtin.cap_ tys ty #[.slice none 0 0]).run P w= .ok (.int .i64 0) w:=by
     unfold Builtin.cap_;simp only [h0,List.getElem?_toArray,List.getElem?_cons_zero,Sem.run_bind,(hE _ _ ht).sl w hu,Result.andThen_ok];rfl
    exact a9.val ae (by simp [builtin,hc]) (.fr _ _ (.int _ _))
   ·simp at h
  ·simp at h
 ·simp at h
end ops
section step
variable {P:Program} {C:aF} {X:bD} {w:World} {G:J} {φ :ag} {A:ah}
theorem a9.upon {H H' :J} {r:Result Next} {x:AV} (h:a9 w G φ A H H' r x) {o:Oper} {a:Act} {next:Act→World→Prop} {Q:Exit→Act→World→Prop}
 (hn: ∀v w' ak A',Out w G φ A w' G ak A' →R w' G ak A' x v→(∀id loc,ak id=some loc→ φ id=some loc∨(H.bs.length≤id∧id<H'.bs.length))→next (a.put o.dst v) w'):o.upon P a next Q r:=by
 obtain ⟨n,v,w',ak,A',rfl,hv,hr,ho,hi⟩:=h;rcases hv with rfl|⟨rfl,rfl⟩
 ·exact hn v w' ak A' ho hr hi
 ·exact hn _ w' ak A' ho hr hi
theorem kO (hE: ∀t ti,C.E t=some ti→aT P t ti) (hX: ∀f ys H K,X f ys H K→cV P f ys H K) (ae:St w G φ A) {o:Oper} {s:aj} {a:Act} (hs: ∀x∈o.op.operands,R w G φ A (ev s x) (a.eval x)) {th:Bool} {H H' :J} {x:AV} (hg:a4 H G) (hh:GH G φ H H')
 (h:wpOp X C true th o s H (fun v1 H1=>v1=x∧H1=H')) {next:Act→World→Prop} {Q:Exit→Act→World→Prop}
 (hn: ∀v w' ak A',Out w G φ A w' G ak A' →R w' G ak A' x v→(∀id loc,ak id=some loc→ φ id=some loc∨(H.bs.length≤id∧id<H'.bs.length))→next (a.put o.dst v) w'):o.wp P a w next Q:=by
 have bw:H.bs.length<H'.bs.length→ φ H.bs.length=none:=fun aw=>hh.none _ (Nat.le_refl _) aw;have kK:dF o.op=true→(match aL C.E o.op s H with|some (v,H1)=>v=x∧H1=H' |none=>False)→o.wp P a w next Q:=by
  intro hq i_;split at i_
  ·rename_i v H1 he;obtain ⟨rfl,rfl⟩:=i_;exact (nP hE ae hg hh.ext bw hq hs he).upon hn
  ·exact i_.elim
 unfold wpOp at h;split at h
 ·rename_i b args tys bp;obtain ⟨hq,h⟩:=h;have hq:=hq rfl;split at h
  ·rename_i v H1 he;obtain ⟨rfl,rfl⟩:=h;obtain ⟨consts,cH⟩:=qW (P:=P) (w:=w) (ρ :=a.eval) bp;have:=ym hE ae hg hh.ext bw (ty:=o.type) (consts:=consts) (vs:=args.map a.eval) hq (by simp) (fun i x u hx hu=>by
    simp only [List.getElem?_map,Option.map_eq_some_iff] at hx;obtain ⟨y,hy,rfl⟩:=hx;simp only [Array.getElem?_map,Option.map_eq_some_iff] at hu;obtain ⟨y',ei,rfl⟩:=hu;have:y' =y:=by simp at hy;rw [hy] at ei;simpa using ei.symm
    subst this;exact hs y' (by rw [bp];simp only [Op.operands,Call.operands];simp [Array.mem_of_getElem? ei])) he
   rw [←cH] at this;exact this.upon hn
  ·exact h.elim
 ·rename_i y args tys bp;split at h
  ·rename_i g bJ cS;simp only [if_true] at h;have hx:=hs y (by rw [bp];simp [Op.operands,Call.operands])
   rw [cS] at hx;obtain ⟨vs,hv,hl,hp⟩:=hx.ka;have hc:=yh hX ae hg hh (us:=args.map a.eval ++ vs) (by simp [hl]) (fun i y u hy hu=>by
    rcases Nat.lt_or_ge i args.size with hi|hi
    ·rw [List.getElem?_append_left (by simpa using hi)] at hy
     rw [Array.getElem?_append_left (by simpa using hi)] at hu
     simp only [List.getElem?_map,Option.map_eq_some_iff] at hy;obtain ⟨z,hz,rfl⟩:=hy;simp only [Array.getElem?_map,Option.map_eq_some_iff] at hu;obtain ⟨z',dJ,rfl⟩:=hu;have:z' =z:=by simp at hz;rw [hz] at dJ;simpa using dJ.symm
     subst this;exact hs z' (by rw [bp];simp only [Op.operands,Call.operands];simp [Array.mem_of_getElem? dJ])
    ·rw [List.getElem?_append_right (by simpa using hi)] at hy
     rw [Array.getElem?_append_right (by simpa using hi)] at hu
     exact hp _ y u (by simpa using hy) (by simpa using hu)) h
   unfold Oper.wp;rw [qV bp hv hc.1,Oper.upon_enter];refine hc.2.mono fun e w' he=> ?_
   cases e with
   |returned v' =>
    obtain ⟨ak,A',h1,h2,h3⟩:=he;exact hn v' w' ak A' h1 h2 h3
   |panicked c=>exact he.elim
   |outgrown=>exact he.elim
  ·exact h.elim
 ·exact kK (h.1 rfl) h.2
theorem yn {o:Oper} {s:aj} {th:Bool} {H H' :J} {x:AV} (h:wpOp X C true th o s H (fun v1 H1=>v1=x∧H1=H')):QG H H' :=by
 have kK:dF o.op=true→(match aL C.E o.op s H with|some (v,H1)=>v=x∧H1=H' |none=>False)→QG H H' :=by
  intro hq i_;split at i_
  ·rename_i v H1 he;obtain ⟨rfl,rfl⟩:=i_;exact .of (qq hq he)
  ·exact i_.elim
 unfold wpOp at h;split at h
 ·obtain ⟨hq,h⟩:=h;split at h
  ·rename_i v H1 he;obtain ⟨rfl,rfl⟩:=h;exact yj (hq rfl) he
  ·exact h.elim
 ·split at h
  ·rename_i g bJ cS;simp only [if_true] at h;unfold dm at h;split at h
   ·exact h.elim
   obtain ⟨y,_,_,hp⟩:=h;split at hp
   ·obtain ⟨_,rfl⟩:=hp;exact oT _ _
   ·obtain ⟨_,rfl⟩:=hp;exact .refl _
  ·exact h.elim
 ·exact kK (h.1 rfl) h.2
end step
end Go.VS
namespace Go.VS
section tr
variable {C:aF} {X:bD}
theorem kP (dg:Exact X) {q th:Bool} {o:Oper} {s:aj} {H:J} {K:AV→J→Prop} (h:wpOp X C q th o s H K): ∃v H',wpOp X C q th o s H (fun v1 H1=>v1=v∧H1=H')∧K v H' :=by
 unfold wpOp at h⊢;split at h
 ·rename_i b args tys bp;obtain ⟨hq,h⟩:=h;split at h
  ·rename_i v H' he
   refine ⟨v,H',?_,h⟩;first
    |exact ⟨hq,rfl,rfl⟩
    |(simp only [bp];exact ⟨hq,trivial,trivial⟩)
    |(simp only [bp,he];exact ⟨hq,trivial,trivial⟩)
  ·exact h.elim
 ·rename_i x args tys bp;split at h
  ·rename_i g bJ hg;have hQ:dm X C g (args.toList.map (ev s) ++ bJ) th H K→ ∃v H',dm X C g (args.toList.map (ev s) ++ bJ) th H (fun v1 H1=>v1=v∧H1=H')∧K v H' :=by
    intro h;unfold dm at h⊢;split at h
    ·exact h.elim
    rename_i ys bS hy;obtain ⟨y,h1,h2,h3⟩:=h;split at h3
    ·rename_i ht;refine ⟨_,_,⟨y,h1,h2,?_⟩,h3⟩;simp only [ht,if_true];exact ⟨trivial,trivial⟩
    ·rename_i ht;refine ⟨_,_,⟨y,h1,h2,?_⟩,h3⟩;simp only [ht];exact ⟨trivial,trivial⟩
   have key: ∃v H',(if q then dm X C g (args.toList.map (ev s) ++ bJ) th H (fun v1 H1=>v1=v∧H1=H') else X g (args.toList.map (ev s) ++ bJ) H (fun v1 H1=>v1=v∧H1=H')∨dm X C g (args.toList.map (ev s) ++ bJ) th H (fun v1 H1=>v1=v∧H1=H'))∧K v H' :=by
    cases q with
    |false=>
     simp only [Bool.false_eq_true,if_false] at h⊢;rcases h with h|h
     ·obtain ⟨v,H',h1,h2⟩:=dg _ _ _ _ h;exact ⟨v,H',.inl h1,h2⟩
     ·obtain ⟨v,H',h1,h2⟩:=hQ h;exact ⟨v,H',.inr h1,h2⟩
    |true=>
     simp only [if_true] at h⊢;exact hQ h
   obtain ⟨v,H',k1,k2⟩:=key;refine ⟨v,H',?_,k2⟩;first
    |exact k1
    |(simp only [bp,hg];exact k1)
  ·exact h.elim
 ·rename_i op lG Am;obtain ⟨hq,h⟩:=h;split at h
  ·rename_i v H' he
   refine ⟨v,H',?_,h⟩;exact ⟨hq,rfl,rfl⟩
  ·exact h.elim
theorem mh (C:aF) (ops:Array Oper) (s:aj) (H:J) (K:Prop): ∀(l:List Nat),eX C ops s H K l→(∀j∈l,jr C ops s H j)∧K
 |[],h=>⟨by simp,h⟩
 |j::js,h=>by
  obtain ⟨h1,h2⟩:=h;obtain ⟨k1,k2⟩:=mh C ops s H K js h2;refine ⟨fun i hi=> ?_,k2⟩;rcases List.mem_cons.1 hi with rfl|hi
  ·exact h1
  ·exact k1 i hi
structure Tr (X:bD) (C:aF) (ops:Array Oper) (q:Nat→Bool) (late:Nat→List Nat) (th:List Nat) (K:aj→J→Prop) (l:List Oper) (k:Nat) (s:Nat→aj) (H:Nat→J) (v:Nat→AV) (act:Nat→Bool):Prop where
 step: ∀i o,l[i]? =some o→s (i+1)=bd (s i) o.dst (v i)∧dn ops o (s i)=some (act i)∧(act i=true→wpOp X C (q (k+i)) (th.contains (k+i)) o (s i) (H i) (fun v1 H1=>v1=v i∧H1=H (i+1)))∧
  (act i=false→v i= .aC []∧H (i+1)=H i)∧ ∀j∈late (k+i),jr C ops (s (i+1)) (H (i+1)) j
 fin:K (s l.length) (H l.length)
theorem ru (dg:Exact X) {ops:Array Oper} {q:Nat→Bool} {late:Nat→List Nat} {th:List Nat} {K:aj→J→Prop}: ∀(l:List Oper) (k:Nat) (s0:aj) (H0:J),cR X C ops q late th K l k s0 H0→
 ∃s H v act,s 0=s0∧H 0=H0∧Tr X C ops q late th K l k s H v act
 |[],k,s0,H0,h=>⟨fun _=>s0,fun _=>H0,fun _=> .undef,fun _=>true,rfl,rfl,⟨by simp,h⟩⟩
 |o::l,k,s0,H0,h=>by
  have key: ∃v0 H1 a0,dn ops o s0=some a0∧(a0=true→wpOp X C (q k) (th.contains k) o s0 H0 (fun v1 H' =>v1=v0∧H' =H1))∧(a0=false→v0= .aC []∧H1=H0)∧(∀j∈late k,jr C ops (bd s0 o.dst v0) H1 j)∧
   cR X C ops q late th K l (k+1) (bd s0 o.dst v0) H1:=by
   simp only [cR] at h;cases hg:o.guard with
   |none=>
    rw [hg] at h;obtain ⟨v,H',h1,h2⟩:=kP dg h;obtain ⟨k1,k2⟩:=mh _ _ _ _ _ _ h2;exact ⟨v,H',true,by simp [dn,hg],fun _=>h1,fun h=>by simp at h,k1,k2⟩
   |some p=>
    rw [hg] at h;obtain ⟨v,H',h1,h2⟩:=h;obtain ⟨k1,k2⟩:=mh _ _ _ _ _ _ h2;split at h1
    ·rename_i b hb;cases b with
     |true=>exact ⟨v,H',true,hb,fun _=>by simpa using h1,fun h=>by simp at h,k1,k2⟩
     |false=>exact ⟨v,H',false,hb,fun h=>by simp at h,fun _=>by simpa using h1,k1,k2⟩
    ·exact h1.elim
  obtain ⟨v0,H1,a0,g1,g2,g3,g4,g5⟩:=key;obtain ⟨s,H,v,act,e1,e2,t⟩:=ru dg l (k+1) _ _ g5;refine ⟨fun i=>match i with|0=>s0|i+1=>s i,fun i=>match i with|0=>H0|i+1=>H i,fun i=>match i with|0=>v0|i+1=>v i,fun i=>match i with|0=>a0|i+1=>act i,rfl,rfl,⟨fun i o' hi=> ?_,t.fin⟩⟩
  cases i with
  |zero=>
   simp only [List.getElem?_cons_zero,Option.some.injEq] at hi;subst hi;simp only [Nat.add_zero,e1,e2];exact ⟨trivial,g1,g2,g3,g4⟩
  |succ i=>
   have:=t.step i o' (by simpa using hi)
   rw [show k+1+i=k+(i+1) by omega] at this
   exact this
end tr
theorem rv (bs:Edge→Bool) (acc:List Nat) (j:Nat): ∀(l:List Edge) (m0:Nat),(l.foldl (fun m e=>if bs e then m|||2^e.on|||acc.getD e.on 0 else m) m0).testBit j=true→m0.testBit j=true∨ ∃e∈l,bs e=true∧(e.on=j∨(acc.getD e.on 0).testBit j=true)
 |[],m0,h=> .inl h
 |e::l,m0,h=>by
  simp only [List.foldl_cons] at h;rcases rv bs acc j l _ h with h|⟨e',h1,h2⟩
  ·split at h
   ·rename_i hb;simp only [Nat.testBit_or,Nat.testBit_two_pow,Bool.or_eq_true,decide_eq_true_eq] at h;rcases h with (h|h)|h
    ·exact .inl h
    ·exact .inr ⟨e,by simp,hb,.inl h⟩
    ·exact .inr ⟨e,by simp,hb,.inr h⟩
   ·exact .inl h
  ·exact .inr ⟨e',by simp [h1],h2⟩
theorem ry: ∀(os:List Oper) (acc:List Nat),(ga os acc).length=acc.length+os.length∧(∀i,i<acc.length→(ga os acc).getD i 0=acc.getD i 0)∧
 ∀i o,os[i]? =some o→ ∀j,((ga os acc).getD (acc.length+i) 0).testBit j=true→ ∃e∈o.after.toList,Region.binds .any e=true∧(e.on=j∨(e.on<acc.length+i∧((ga os acc).getD e.on 0).testBit j=true))
 |[],acc=>⟨by simp [ga],by simp [ga],by simp⟩
 |o::os,acc=>by
  obtain ⟨h1,h2,h3⟩:=ry os (acc ++ [o.after.toList.foldl (fun m e=>if Region.binds .any e then m|||2^e.on|||acc.getD e.on 0 else m) 0]);simp only [ga];have hold: ∀i,i<acc.length→(ga os (acc ++ [o.after.toList.foldl (fun m e=>if Region.binds .any e then m|||2^e.on|||acc.getD e.on 0 else m) 0])).getD i 0=acc.getD i 0:=by
   intro i hi;rw [h2 i (by simp;omega)]
   simp [List.getD,List.getElem?_append_left hi]
  refine ⟨by rw [h1];simp;omega,hold,fun i o' ho j hj=> ?_⟩
  cases i with
  |zero=>
   simp only [List.getElem?_cons_zero,Option.some.injEq] at ho;subst ho;rw [Nat.add_zero,h2 _ (by simp)] at hj
   simp only [List.getD,List.getElem?_append_right (Nat.le_refl _),Nat.sub_self,List.getElem?_cons_zero,Option.getD_some] at hj;rcases rv (Region.binds .any) acc j _ _ hj with h|⟨e,q1,q2,q3⟩
   ·simp at h
   ·refine ⟨e,q1,q2,?_⟩;rcases q3 with q3|q3
    ·exact .inl q3
    ·have aw:e.on<acc.length:=by
      rcases Nat.lt_or_ge e.on acc.length with h|h
      ·exact h
      ·rw [List.getD,List.getElem?_eq_none h] at q3;simp at q3
     exact .inr ⟨by omega,by rw [hold _ aw];exact q3⟩
  |succ i=>
   simp only [List.length_append,List.length_singleton] at h3;have:=h3 i o' (by simpa using ho) j (by rw [show acc.length+1+i=acc.length+(i+1) by omega];exact hj)
   obtain ⟨e,q1,q2,q3⟩:=this;refine ⟨e,q1,q2,?_⟩;rcases q3 with q3|⟨q3,q4⟩
   ·exact .inl q3
   ·exact .inr ⟨by omega,q4⟩
def rz (ops:Array Oper) (L:Nat→Prop):Prop:= ∀i o,ops[i]? =some o→L i→ ∀e∈o.after,Region.binds .any e=true→L e.on
theorem mj {ops:Array Oper} {L:Nat→Prop} (hs:rz ops L) (aw: ∀i o,ops[i]? =some o→ ∀e∈o.after,Region.binds .any e=true→e.on<i):
 ∀(i:Nat) (o:Oper),ops[i]? =some o→(∀e∈o.after,Region.binds .any e=true→L e.on)→ ∀j,((eY ops.toList).getD i 0).testBit j=true→L j:=by
 intro i;induction i using Nat.strongRecOn with
 |_ i ih=>
  intro o ho ha j hj;have:=(ry ops.toList []).2.2 i o (by simpa using ho) j (by simpa [eY] using hj)
  obtain ⟨e,q1,q2,q3⟩:=this;have rA:=ha e (by simpa using q1) q2
  rcases q3 with rfl|⟨_,q4⟩
  ·exact rA
  ·have yo:=aw i o ho e (by simpa using q1) q2
   have hi:i<ops.size:=(Array.getElem?_eq_some_iff.1 ho).1;have rB:=Array.getElem?_eq_getElem (xs:=ops) (show e.on<ops.size by omega)
   exact ih e.on yo _ rB (hs e.on _ rB rA) j q4
end Go.VS
