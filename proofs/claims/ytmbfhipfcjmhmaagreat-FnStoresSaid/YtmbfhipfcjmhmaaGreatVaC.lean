import Derived.Test.YtmbfhipfcjmhmaaGreatVaB
import Derived.Tactics
import Derived.Laws.Sem
namespace Go.VS
section bI
variable {w:World} {A:aj}
theorem tR {m:Mode} {sh:List Sh} {v:AV} {H:J} {y:AV} {H1:J} (h:fV m sh v H=some (y,H1)):bL H H1:=by
 cases m with
 |val=>simp only [fV,Option.some.injEq,Prod.mk.injEq] at h;obtain ⟨_,rfl⟩:=h;exact .refl _
 |fH=>exact fC sh v H y H1 h
 |io=>
  cases v<;>simp only [fV] at h
  case nil=>simp only [Option.some.injEq,Prod.mk.injEq] at h;obtain ⟨_,rfl⟩:=h;exact .refl _
  case e0=>simp only [Option.some.injEq,Prod.mk.injEq] at h;obtain ⟨_,rfl⟩:=h;exact .refl _
  case ref=>
   split at h
   ·split at h
    ·simp only [Option.some.injEq,Prod.mk.injEq] at h;obtain ⟨_,rfl⟩:=h;exact .refl _
    ·split at h
     ·exact fC _ _ H y H1 h
     ·simp at h
   ·simp at h
  case ptr=>exact fC _ _ H y H1 h
  all_goals simp at h
theorem tS: ∀(ms:List Mode) (sh:List (List Sh)) (as:List AV) (H:J) (zs:List AV) (H1:J),gE ms sh as H=some (zs,H1)→bL H H1
 |[],sh,as,H,zs,H1,h=>by
  simp only [gE,Option.some.injEq,Prod.mk.injEq] at h;obtain ⟨_,rfl⟩:=h;exact .refl _
 |m::ms,sh,[],H,zs,H1,h=>by
  simp only [gE,Option.some.injEq,Prod.mk.injEq] at h;obtain ⟨_,rfl⟩:=h;exact .refl _
 |m::ms,sh,a::as,H,zs,H1,h=>by
  simp only [gE] at h;split at h
  ·rename_i y H' h1
   split at h
   ·rename_i ys jH h2
    simp only [Option.some.injEq,Prod.mk.injEq] at h;obtain ⟨_,rfl⟩:=h;exact (tR h1).trans (tS ms _ as H' ys _ h2)
   ·simp at h
  ·simp at h
def iw (w:World) (A:aj) (B:aj) (L0:J) (aE:ag) (b6:Bool) (vs:List AV) (us:List Value):Prop:=
 vs.length=us.length∧ ∀A0:aj,(∀c,A0 c→A c)→(b6=true→ ∀c,A0 c→B c)→ ∀(i:Nat) (x:AV) (u:Value),vs[i]? =some x→us[i]? =some u→R w L0 aE A0 x u
theorem iw.cons {B:aj} {L L0:J} {φL aE:ag} {l1 l2:Bool} {x:AV} {u:Value} {vs:List AV} {us:List Value} (hx: ∀A0:aj,(∀c,A0 c→A c)→(l1=true→ ∀c,A0 c→B c)→R w L φL A0 x u)
 (he: ∀A0,bM w L φL A0 w L0 aE A0) (h:iw w A B L0 aE l2 vs us):iw w A B L0 aE (l1||l2) (x::vs) (u::us):=by
 refine ⟨by simp [h.1],fun A0 h1 h2 i x' u' bQ aO=> ?_⟩
 cases i with
 |zero=>simp at bQ aO;subst bQ;subst aO;exact (hx A0 h1 (fun hl=>h2 (by simp [hl]))).mono (he A0)
 |succ i=>exact h.2 A0 h1 (fun hl=>h2 (by simp [hl])) i x' u' bQ aO
theorem bM.any {L L0:J} {φL aE:ag} {A1:aj} (h:bM w L φL A1 w L0 aE A1) (A0:aj):bM w L φL A0 w L0 aE A0:=
 ⟨fun _c _a _t fr hc hn=>⟨⟨fr,hc⟩,hn⟩,h.st,h.ids,h.sz⟩
theorem tT {H:J} {φ :ag} {H1:J} {L:J} {φL:ag} (ae:St w H φ A) (hl:bL H H1) {a:AV} {u:Value} (ha:R w H φ A a u) {y:AV} (hs:aY 8 H1 a=some y):
 ∀A0:aj,(∀c,A0 c→A c)→(fI a=true→ ∀c,A0 c→gq (aF φ H1) A c)→R w L φL A0 y u:=by
 intro A0 h1 h2;obtain ⟨s1,s2,_⟩:=(tM (eE ae hl) 8).1 a u y (ha.mono (dj hl)) hs;cases hle:fI a with
 |false=>exact .fr _ _ ((s2 hle).shrink h1)
 |true=>exact .fr _ _ (s1.shrink (h2 hle))
theorem nS: ∀(as:List AV) (ms:List Mode) (gA:List (List Sh)) (us:List Value) (H:J) (φ :ag) (zs:List AV) (H1:J) (ys:List AV) (b6:Bool) (L:J) (φL:ag) (vs:List AV) (L0:J),
 cb w H φ A L φL A→as.length=us.length→(∀(i:Nat) (x:AV) (u:Value),as[i]? =some x→us[i]? =some u→R w H φ A x u)→gE ms gA as H=some (zs,H1)→cg ms zs H1=some (ys,b6)→cr ms ys L=(vs,L0)→
 ∃aE,cq w H φ A L φL A H1 L0 aE∧iw w A (gq (aF φ H1) A) L0 aE b6 vs us∧cm H φ L0 aE ms as vs
 |[],ms,gA,us,H,φ,zs,H1,ys,b6,L,φL,vs,L0,hd,hl,hr,h1,h2,h3=>by
  have iQ:zs=[]∧H1=H:=by
   cases ms<;>simp only [gE,Option.some.injEq,Prod.mk.injEq] at h1<;>exact ⟨h1.1.symm,h1.2.symm⟩
  obtain ⟨rfl,rfl⟩:=iQ;have cA:ys=[]∧b6=false:=by
   cases ms<;>simp only [cg,Option.some.injEq,Prod.mk.injEq] at h2<;>exact ⟨h2.1.symm,h2.2.symm⟩
  obtain ⟨rfl,rfl⟩:=cA;have di:vs=[]∧L0=L:=by
   cases ms<;>simp only [cr,Prod.mk.injEq] at h3<;>exact ⟨h3.1.symm,h3.2.symm⟩
  obtain ⟨rfl,rfl⟩:=di;refine ⟨φL,.refl hd,⟨by simpa using hl,by simp⟩,?_⟩
  cases ms with
  |nil=>simp [cm]
  |cons m ms=>cases m<;>simp [cm]
 |a::as,[],gA,us,H,φ,zs,H1,ys,b6,L,φL,vs,L0,hd,hl,hr,h1,h2,h3=>by
  match us,hl with
  |u::us,hl=>
  simp only [gE,Option.some.injEq,Prod.mk.injEq] at h1;obtain ⟨rfl,rfl⟩:=h1;simp only [cg] at h2;split at h2
  ·rename_i y hy;split at h2
   ·rename_i aX b cA
    simp only [Option.some.injEq,Prod.mk.injEq] at h2;obtain ⟨rfl,rfl⟩:=h2;simp only [cr,nQ _ _ _ _ hy,List.tail_nil,Prod.mk.injEq] at h3;obtain ⟨rfl,rfl⟩:=h3;obtain ⟨aE,m,cH,_⟩:=nS as [] gA us H φ as H aX b L φL _ _ hd (by simpa using hl) (fun i x u hx hu=>hr (i+1) x u hx hu) rfl cA rfl
    exact ⟨aE,m,iw.cons (tT (L:=L) (φL:= φL) hd.sl (.refl _) (hr 0 a u rfl rfl) hy) (fun A0=>m.eh.any A0) cH,by simp [cm]⟩
   ·simp at h2
  ·simp at h2
 |a::as,md::ms,gA,us,H,φ,zs,H1,ys,b6,L,φL,vs,L0,hd,hl,hr,h1,h2,h3=>by
  match us,hl with
  |u::us,hl=>
  simp only [gE] at h1;split at h1
  rotate_left
  ·simp at h1
  rename_i z H' hz
  split at h1
  rotate_left
  ·simp at h1
  rename_i iy jH iQ
  simp only [Option.some.injEq,Prod.mk.injEq] at h1;obtain ⟨rfl,rfl⟩:=h1;have da:=tR hz;have dh:=tS _ _ _ _ _ _ iQ;have ha:=hr 0 a u rfl rfl;have rest: ∀{aX:List AV} {b:Bool} {L' :J} {ak:ag} (m1:cq w H φ A L φL A H' L' ak) (cA:cg ms iy jH=some (aX,b)),
   ∃aE,cq w H' (aF φ H') A L' ak A jH (cr ms aX L').2 aE∧iw w A (gq (aF φ jH) A) (cr ms aX L').2 aE b (cr ms aX L').1 us∧cm H' (aF φ H') (cr ms aX L').2 aE ms as (cr ms aX L').1:=by
   intro aX b L' ak m1 cA
   obtain ⟨aE,m,cH,eG⟩:=nS as ms gA.tail us H' (aF φ H') iy jH aX b L' ak _ _ m1.bI (by simpa using hl) (fun i x u hx hu=>(hr (i+1) x u hx hu).mono (dj da)) iQ cA rfl
   refine ⟨aE,m,?_,eG⟩;rw [gO dh] at cH;exact cH
  cases md with
  |val=>
   simp only [fV,Option.some.injEq,Prod.mk.injEq] at hz;obtain ⟨rfl,rfl⟩:=hz;simp only [cg] at h2;split at h2
   rotate_left
   ·simp at h2
   rename_i y hy;split at h2
   rotate_left
   ·simp at h2
   rename_i aX b cA
   simp only [Option.some.injEq,Prod.mk.injEq] at h2;obtain ⟨rfl,rfl⟩:=h2;have kl:cr (.val::ms) (y::aX) L=(y::(cr ms aX L).1,(cr ms aX L).2):=by
    simp only [cr,nQ _ _ _ _ hy,List.tail_cons]
   rw [kl] at h3;simp only [Prod.mk.injEq] at h3;obtain ⟨rfl,rfl⟩:=h3;obtain ⟨aE,m,cH,eG⟩:=rest (cq.refl hd) cA;refine ⟨aE,(cq.refl hd).trans m,iw.cons (L:=L) (φL:= φL) (fun A0 q1 q2=> ?_) (fun A0=>m.eh.any A0) cH,?_⟩
   ·exact tT (L:=L) (φL:= φL) hd.sl dh ha hy A0 q1 q2
   ·simp only [cm];exact cm.mono (.refl _) (fun _ _ h=>h) (fun _ _ h=>h) eG
  |fH=>
   have eC:a8 (gA.headD []) a H=some (z,H'):=hz
   simp only [cg] at h2;split at h2
   rotate_left
   ·simp at h2
   rename_i aX b cA
   simp only [Option.some.injEq,Prod.mk.injEq] at h2;obtain ⟨rfl,rfl⟩:=h2;have kl:cr (.fH::ms) (z::aX) L=((aL z L).1::(cr ms aX (aL z L).2).1,(cr ms aX (aL z L).2).2):=by
    simp only [cr,List.tail_cons]
   rw [kl] at h3;simp only [Prod.mk.injEq] at h3;obtain ⟨rfl,rfl⟩:=h3;obtain ⟨φ1,m1,r1⟩:=tG hd ha eC rfl (.inl fun _ h=>h)
   obtain ⟨aE,m,cH,eG⟩:=rest m1 cA;have:=iw.cons (l1:=false) (L:=(aL z L).2) (φL:= φ1) (x:=(aL z L).1) (u:=u) (fun A0 q1 _=>r1.nN q1) (fun A0=>m.eh.any A0) cH;refine ⟨aE,m1.trans m,by simpa using this,?_⟩
   simp only [cm];exact cm.mono da (fun _ _ h=>h) (fun _ _ h=>h) eG
  |io=>
   simp only [cg] at h2;split at h2
   rotate_left
   ·simp at h2
   rename_i aX b cA
   simp only [Option.some.injEq,Prod.mk.injEq] at h2;obtain ⟨rfl,rfl⟩:=h2;rcases AX hd ha hz with ⟨sz,xs,φ1,rfl,m1,r1,ro⟩|⟨sz,x,φ1,rfl,m1,r1,ro⟩
   ·have kl:cr (.io::ms) (.own sz xs::aX) L=(.ref (aM xs L).2.bs.length (aM xs L).2.st 0 (aM xs L).1.length::(cr ms aX ((aM xs L).2.new sz true (aM xs L).1)).1,(cr ms aX ((aM xs L).2.new sz true (aM xs L).1)).2):=by
     simp only [cr]
    rw [kl] at h3;simp only [Prod.mk.injEq] at h3;obtain ⟨rfl,rfl⟩:=h3;obtain ⟨aE,m,cH,eG⟩:=rest m1 cA;have:=iw.cons (l1:=false) (φL:= φ1) (u:=u) (fun A0 q1 _=>r1.nN q1) (fun A0=>m.eh.any A0) cH;refine ⟨aE,m1.trans m,by simpa using this,?_⟩
    simp only [cm];refine ⟨?_,cm.mono da (fun _ _ h=>h) (fun _ _ h=>h) eG⟩;obtain ⟨k,kv,bk,e1,e2,⟨loc,iY⟩,e3,e4⟩:=ro;exact ⟨k,kv,bk,e1,qB m.bp e2,⟨loc,m.cd _ _ iY⟩,e3,fun id ad hr=>by obtain ⟨b,c,b0,q1,q2,q3,q4,q5⟩:=e4 id ad hr;exact ⟨b,c,b0,q1,q2,q3,q4,m.cd _ _ q5⟩⟩
   ·have kl:cr (.io::ms) (.dQ sz x::aX) L=((aL (.dQ sz x) L).1::(cr ms aX (aL (.dQ sz x) L).2).1,(cr ms aX (aL (.dQ sz x) L).2).2):=by
     simp only [cr,List.tail_cons]
    rw [kl] at h3;simp only [Prod.mk.injEq] at h3;obtain ⟨rfl,rfl⟩:=h3;obtain ⟨aE,m,cH,eG⟩:=rest m1 cA;have:=iw.cons (l1:=false) (φL:= φ1) (u:=u) (fun A0 q1 _=>r1.nN q1) (fun A0=>m.eh.any A0) cH;refine ⟨aE,m1.trans m,by simpa using this,?_⟩
    simp only [cm];refine ⟨?_,cm.mono da (fun _ _ h=>h) (fun _ _ h=>h) eG⟩;obtain ⟨k,kv,bk,e1,e2,⟨loc,iY⟩,e3,e4⟩:=ro;exact ⟨k,kv,bk,e1,qB m.bp e2,⟨loc,m.cd _ _ iY⟩,e3,fun id ad hr=>by obtain ⟨b,c,b0,q1,q2,q3,q4,q5⟩:=e4 id ad hr;exact ⟨b,c,b0,q1,q2,q3,q4,m.cd _ _ q5⟩⟩
end bI
end Go.VS
namespace Go.VS
def dn (L Lm:J):List Mode→List AV→List (List AV)→Prop
 | .io::ms,x::xs,l::ls=>(∃k kv b,lT x=some (k,kv)∧L.ap k kv=some b∧b.el=l∧Lm.get k=none)∧dn L Lm ms xs ls
 | .io::_,_::_,[]=>False
 | .val::ms,_::xs,ls=>dn L Lm ms xs ls
 | .fH::ms,_::xs,ls=>dn L Lm ms xs ls
 |_,_,_=>True
theorem dn.mono {L0 L Lm:J} (h:bL L0 L): ∀{ms:List Mode} {xs:List AV} {ls:List (List AV)},dn L Lm ms xs ls→dn L0 Lm ms xs ls
 |[],xs,ls,_=>by simp [dn]
 |m::ms,[],ls,_=>by cases m<;>simp [dn]
 | .val::ms,x::xs,ls,hr=>by simp only [dn] at hr⊢;exact hr.mono h
 | .fH::ms,x::xs,ls,hr=>by simp only [dn] at hr⊢;exact hr.mono h
 | .io::ms,x::xs,[],hr=>by simp only [dn] at hr
 | .io::ms,x::xs,l::ls,hr=>by
  simp only [dn] at hr⊢;obtain ⟨⟨k,kv,b,h1,h2,h3,h4⟩,h5⟩:=hr;exact ⟨⟨k,kv,b,h1,J.tQ h h2,h3,h4⟩,h5.mono h⟩
theorem nT: ∀(ms:List Mode) (vs:List AV) (L:J) (ls:List (List AV)) (Lm:J),f_ ms vs L=some (ls,Lm)→bL L Lm∧dn L Lm ms vs ls
 |[],vs,L,ls,Lm,h=>by
  simp only [f_,Option.some.injEq,Prod.mk.injEq] at h;obtain ⟨rfl,rfl⟩:=h;exact ⟨.refl _,by simp [dn]⟩
 |m::ms,[],L,ls,Lm,h=>by
  cases m<;>(simp only [f_,Option.some.injEq,Prod.mk.injEq] at h;obtain ⟨rfl,rfl⟩:=h;exact ⟨.refl _,by simp [dn]⟩)
 | .val::ms,x::xs,L,ls,Lm,h=>by simp only [f_] at h;simpa only [dn] using nT ms xs L ls Lm h
 | .fH::ms,x::xs,L,ls,Lm,h=>by simp only [f_] at h;simpa only [dn] using nT ms xs L ls Lm h
 | .io::ms,x::xs,L,ls,Lm,h=>by
  simp only [f_] at h;split at h
  ·rename_i id ad hk;split at h
   ·rename_i b hb;split at h
    ·rename_i r H' hr
     simp only [Option.some.injEq,Prod.mk.injEq] at h;obtain ⟨rfl,rfl⟩:=h;obtain ⟨h1,h2⟩:=nT ms xs _ _ _ hr;refine ⟨(bL.del L id).trans h1,?_⟩;simp only [dn];refine ⟨⟨id,ad,b,hk,hb,rfl,?_⟩,h2.mono (bL.del L id)⟩;cases hq:H'.get id with
     |none=>rfl
     |some b=>have:=h1.get _ _ hq;rw [J.jF,if_pos rfl] at this;simp at this
    ·simp at h
   ·simp at h
  ·simp at h
def junk (b:bu):bu:={b with el:=b.el.map fun _=> .agg (List.replicate b.sz .undef)}
theorem AZ {H:J} {id k:Nat} {b b' :bu} (h:(H.aZ id b).get k=some b'):(k=id∧b' =b)∨H.get k=some b' :=by
 unfold J.aZ J.get at h;simp only [List.getElem?_set] at h;by_cases hk:id=k
 ·subst hk;simp only [if_true] at h;split at h
  ·simp at h;exact .inl ⟨rfl,h.symm⟩
  ·simp at h
 ·rw [if_neg hk] at h;exact .inr h
theorem A7 {H:J} {id:Nat} {b:bu} (h:id<H.bs.length) (k:Nat):(H.aZ id b).get k=if k=id then some b else H.get k:=by
 unfold J.aZ J.get;simp only [List.getElem?_set];by_cases hk:id=k
 ·subst hk;simp [h]
 ·rw [if_neg hk,if_neg (fun e=>hk e.symm)]
def iz (H0:J) (v:AV) (H:J):J:=
 match er v with
 |some (id,ad)=>match H0.ap id ad with
  |some b=>H.aZ id (junk b)
  |none=>H
 |none=>H
theorem A8 (H0:J) (v:AV) (H:J):(iz H0 v H).bs.length=H.bs.length∧(iz H0 v H).st=H.st:=by
 unfold iz;split
 ·split
  ·simp [J.aZ]
  ·exact ⟨rfl,rfl⟩
 ·exact ⟨rfl,rfl⟩
theorem tU (H0:J) (ms:List Mode) (v:AV) (vs:List AV) (H:J):cO H0 (.io::ms) (v::vs) H=cO H0 ms vs (iz H0 v H):=rfl
theorem A9 {H0:J} {v:AV} {H:J} {k:Nat} {b' :bu} (h:(iz H0 v H).get k=some b'):H.get k=some b' ∨ ∃ad b,er v=some (k,ad)∧H0.ap k ad=some b∧b' =junk b:=by
 unfold iz at h;split at h
 ·rename_i id ad hr;split at h
  ·rename_i b hb;rcases AZ h with ⟨rfl,rfl⟩|h
   ·exact .inr ⟨ad,b,hr,hb,rfl⟩
   ·exact .inl h
  ·exact .inl h
 ·exact .inl h
theorem nU (H0:J): ∀(ms:List Mode) (as:List AV) (H:J),(cO H0 ms as H).bs.length=H.bs.length∧(cO H0 ms as H).st=H.st
 |[],as,H=>by simp [cO]
 |m::ms,[],H=>by cases m<;>simp [cO]
 | .val::ms,a::as,H=>by simp only [cO];exact nU H0 ms as H
 | .fH::ms,a::as,H=>by simp only [cO];exact nU H0 ms as H
 | .io::ms,a::as,H=>by
  rw [tU];have:=nU H0 ms as (iz H0 a H);have h2:=A8 H0 a H;exact ⟨this.1.trans h2.1,this.2.trans h2.2⟩
theorem nV (H0:J) {Lx Lm:J} {φ :ag} {L0:J} {aE:ag}: ∀(ms:List Mode) (as vs:List AV) (ls:List (List AV)) (H:J) (k:Nat) (b' :bu),as.length=vs.length→cm H0 φ L0 aE ms as vs→dn Lx Lm ms vs ls→
 (cO H0 ms as H).get k=some b' →H.get k=some b' ∨ ∃a x ad b kk kv bk,er a=some (k,ad)∧H0.ap k ad=some b∧b' =junk b∧iX H0 φ L0 aE a x∧lT x=some (kk,kv)∧Lx.ap kk kv=some bk∧Lm.get kk=none
 |[],as,vs,ls,H,k,b',_,_,_,h=>by simp only [cO] at h;exact .inl h
 |m::ms,[],vs,ls,H,k,b',_,_,_,h=>by cases m<;>(simp only [cO] at h;exact .inl h)
 |m::ms,a::as,[],ls,H,k,b',hl,_,_,h=>by simp at hl
 | .val::ms,a::as,x::vs,ls,H,k,b',hl,h1,h2,h=>by
  simp only [cO] at h;exact nV H0 ms as vs ls H k b' (by simpa using hl) (by simpa only [cm] using h1) (by simpa only [dn] using h2) h
 | .fH::ms,a::as,x::vs,ls,H,k,b',hl,h1,h2,h=>by
  simp only [cO] at h;exact nV H0 ms as vs ls H k b' (by simpa using hl) (by simpa only [cm] using h1) (by simpa only [dn] using h2) h
 | .io::ms,a::as,x::vs,[],H,k,b',hl,h1,h2,h=>by simp only [dn] at h2
 | .io::ms,a::as,x::vs,l::ls,H,k,b',hl,h1,h2,h=>by
  rw [tU] at h;simp only [cm] at h1;simp only [dn] at h2;rcases nV H0 ms as vs ls _ k b' (by simpa using hl) h1.2 h2.2 h with h3|h3
  ·rcases A9 h3 with h4|⟨ad,b,q1,q2,q3⟩
   ·exact .inl h4
   ·obtain ⟨kk,kv,bk,p1,p2,_,p4⟩:=h2.1;exact .inr ⟨a,x,ad,b,kk,kv,bk,q1,q2,q3,h1.1,p1,p2,p4⟩
  ·exact .inr h3
def Has (Hx:J) (id ad:Nat) (b:bu):Prop:= ∃b',Hx.ap id ad=some b' ∧b'.sz=b.sz∧b'.el.length=b.el.length
theorem Has.iz {H0 Hx:J} {id ad:Nat} {b:bu} (h0:H0.ap id ad=some b) (h:Has Hx id ad b) (v:AV):Has (iz H0 v Hx) id ad b:=by
 obtain ⟨b',h1,h2,h3⟩:=h;unfold VS.iz;split
 ·rename_i bJ dL hr;split
  ·rename_i b2 cP;have az:id<Hx.bs.length:=J.gb (J.bd h1).1;by_cases br:bJ=id
   ·subst br;have g1:=J.bd h0;have g2:=J.bd cP;have:b2=b:=by have:=g1.1.symm.trans g2.1;simp only [Option.some.injEq] at this;exact this.symm
    subst this;refine ⟨junk b2,?_,rfl,by simp [junk]⟩
    have:=J.ic (H:=Hx.aZ bJ (junk b2)) (id:=bJ) (b:=junk b2) (by rw [A7 az,if_pos rfl])
    rw [←g1.2];exact this
   ·refine ⟨b',?_,h2,h3⟩;have g:=J.bd h1;have:(Hx.aZ bJ (junk b2)).get id=some b' :=by
     unfold J.aZ J.get;simp only [List.getElem?_set];rw [if_neg br];exact g.1
    rw [←g.2];exact J.ic this
  ·exact ⟨b',h1,h2,h3⟩
 ·exact ⟨b',h1,h2,h3⟩
structure qD (w:World) (A:aj) (aE:ag) (w' :World) (ak:ag) (AH:aj):Prop where
 own: ∀c,A c→ ¬Ow aE c→AH c
 fh: ∀c,Ow ak c→AH c
 b7: ∀c,AH c→c<w'.heap.size
 fz: ∀c arr T fr,w.heap[c]? =some (.cells arr T fr)→ ¬A c→(∃dW,w'.heap[c]? =some (.cells arr T dW))∧ ¬AH c
def A_ (w:World) (L:J) (φL:ag) (AL:aj) (H:J) (φ :ag) (a:AV) (l:List AV):Prop:=
 (er a=none→l=[])∧ ∀id ad,er a=some (id,ad)→ ∃c b0 b arr T fr,H.ap id ad=some b∧ φ id=some (.at_ c b0)∧w.heap[c]? =some (.cells arr T fr)∧l.length=b.el.length∧
  (∀(i:Nat) (x:AV),l[i]? =some x→x.cells.length=b.sz)∧ ∀(i:Nat) (x:AV) (j:Nat) (y:AV) (v:Value),l[i]? =some x→x.cells[j]? =some y→arr[b0+i*b.sz+j]? =some v→R w L φL AL y v
def fj (w:World) (L:J) (φL:ag) (AL:aj) (H:J) (φ :ag):List Mode→List AV→List (List AV)→Prop
 | .io::ms,a::as,l::ls=>A_ w L φL AL H φ a l∧fj w L φL AL H φ ms as ls
 | .val::ms,_::as,ls=>fj w L φL AL H φ ms as ls
 | .fH::ms,_::as,ls=>fj w L φL AL H φ ms as ls
 |_,_,_=>True
section back
variable {w w' :World} {A:aj} {H:J} {φ :ag} {H1 L0:J} {aE:ag} {A0:aj} {L:J} {ak:ag} {A' AH:aj} {ms:List Mode} {as vs:List AV} {ls:List (List AV)} {Lm:J}
theorem qE (m:cq w H φ A ⟨0,[]⟩ (fun _=>none) A H1 L0 aE) (ho:Out w L0 aE A0 w' L ak A') {a x:AV} (hr:iX H φ L0 aE a x) {kk kv:Nat} {bk:bu} (hk:lT x=some (kk,kv)) (hb:L.ap kk kv=some bk):
 (er a=none→bk.el=[])∧ ∀id ad,er a=some (id,ad)→ ∃b c b0,H.ap id ad=some b∧bk.sz=b.sz∧bk.el.length=b.el.length∧ φ id=some (.at_ c b0)∧ak kk=some (.at_ c b0)∧su w' L ak A' bk (.at_ c b0):=by
 obtain ⟨k,Ed,b1,e1,e2,⟨loc,iY⟩,e3,e4⟩:=hr;rw [hk] at e1;simp only [Option.some.injEq,Prod.mk.injEq] at e1;obtain ⟨rfl,rfl⟩:=e1;obtain ⟨g1,g2⟩:=J.bd hb;obtain ⟨f1,f2⟩:=J.bd e2;have az:kv<L0.st:=by
  obtain ⟨bb,p1,p2⟩:=m.bI.sh.ap kk loc iY;rw [f1] at p1;simp only [Option.some.injEq] at p1;subst p1;rw [←f2];exact p2.ad
 ·obtain ⟨b2,i1,i2,i3,i4,i5,i6⟩:=ho.bF.ids kk bk g1 (by omega)
  rw [f1] at i1;simp only [Option.some.injEq] at i1;subst i1;refine ⟨fun h=>List.eq_nil_of_length_eq_zero (by rw [i5,e3 h];rfl),fun id ad h=> ?_⟩
  obtain ⟨b,c,b0,q1,q2,q3,q4,q5⟩:=e4 id ad h;have hp:=i6 _ q5;obtain ⟨bb,p1,p2⟩:=ho.st.ap kk _ hp;rw [g1] at p1;simp only [Option.some.injEq] at p1;subst p1;exact ⟨b,c,b0,q1,i3.trans q2,i5.trans q3,q4,hp,p2⟩
theorem tV (ae:St w H φ A) (m:cq w H φ A ⟨0,[]⟩ (fun _=>none) A H1 L0 aE) (hlen:as.length=vs.length) (eG:cm H φ L0 aE ms as vs) (ho:Out w L0 aE A0 w' L ak A') (ha:qD w A aE w' ak AH) (ht:f_ ms vs L=some (ls,Lm)):
 cb w' Lm (aF ak Lm) A' (cO H ms as H1) (aF φ (cO H ms as H1)) AH∧bM w H φ A w' (cO H ms as H1) (aF φ (cO H ms as H1)) AH:=by
 obtain ⟨da,qF⟩:=nT _ _ _ _ _ ht;have bH: ∀c,Ow aE c→Ow φ c:=fun c hc=>by
  rcases m.oh c hc with ⟨i,b,h⟩|h
  ·simp at h
  ·exact h.1
 have bp:=fun k b' =>nV H ms as vs ls H1 k b' hlen eG qF
 have qG:=(nU H ms as H1).2;have aS:bM w H φ A w' (cO H ms as H1) (aF φ (cO H ms as H1)) AH:=by
  refine ⟨ha.fz,by rw [qG,m.less.st];exact Nat.le_refl _,fun id b' au _=> ?_,fun c hc=>ho.post.aR c (Ow.lt ae hc)⟩
  have cd: ∀loc,φ id=some loc→aF φ (cO H ms as H1) id=some loc:=fun loc h=>by simp [aF,au,h]
  rcases bp id b' au with h|⟨a,x,ad,b,kk,kv,bk,q1,q2,rfl,q4,q5,q6,q7⟩
  ·exact ⟨b',m.less.get _ _ h,rfl,rfl,rfl,rfl,cd⟩
  ·exact ⟨b,(J.bd q2).1,rfl,rfl,rfl,by simp [junk],cd⟩
 refine ⟨⟨eE ho.st da,⟨fun i i' c b b' h1 h2=>ae.inj _ _ _ _ _ (dD h1).1 (dD h2).1,fun c hc=> ?_,ha.b7,fun id loc hl=> ?_⟩,fun c hc hj=> ?_,fun c hc=>ha.fh c (bO hc)⟩,aS⟩
 ·obtain ⟨id,b0,h⟩:=hc;obtain ⟨h1,b',au⟩:=dD h;rcases bp id b' au with h2|⟨a,x,ad,b,kk,kv,bk,q1,q2,rfl,q4,q5,q6,q7⟩
  ·refine ha.own c (ae.own c ⟨id,b0,h1⟩) (m.bI.ck c ⟨id,b0,?_⟩);simp [aF,h2,h1]
  ·obtain ⟨_,re⟩:=qE m ho q4 q5 q6;obtain ⟨b2,c2,qH,_,_,_,r4,r5,_⟩:=re id _ q1;rw [h1] at r4;simp only [Option.some.injEq,Loc.at_.injEq] at r4;obtain ⟨rfl,rfl⟩:=r4;exact ha.fh c ⟨kk,b0,r5⟩
 ·obtain ⟨h1,b',au⟩:=dD hl;refine ⟨b',au,?_⟩;rcases bp id b' au with h2|⟨a,x,ad,b,kk,kv,bk,q1,q2,rfl,q4,q5,q6,q7⟩
  ·obtain ⟨b2,cP,af⟩:=ae.ap id loc h1;rw [m.less.get _ _ h2] at cP;simp only [Option.some.injEq] at cP;subst cP;refine ⟨by rw [qG,m.less.st];exact af.ad,af.sized,af.aP,fun c b0 he=> ?_⟩
   subst he;obtain ⟨arr,T,fr,k1,k2,k3,k4⟩:=af.here c b0 rfl;have hn: ¬Ow aE c:=m.bI.ck c ⟨id,b0,by simp [aF,h2,h1]⟩
   refine ⟨arr,T,fr,?_,k2,k3,fun i x j y v hx hy hv=>⟨(k4 i x j y v hx hy hv).1.mono aS,(k4 i x j y v hx hy hv).2⟩⟩;rw [ho.post.kept c (Ow.lt ae ⟨id,b0,h1⟩) hn];exact k1
  ·obtain ⟨_,re⟩:=qE m ho q4 q5 q6;obtain ⟨b2,c2,qH,r1,r2,r3,r4,r5,af⟩:=re id _ q1;rw [h1] at r4;simp only [Option.some.injEq] at r4;subst r4;rw [q2] at r1;simp only [Option.some.injEq] at r1;subst r1;obtain ⟨b3,mc,Ba⟩:=ae.ap id _ h1;rw [(J.bd q2).1] at mc;simp only [Option.some.injEq] at mc;subst mc;have hcs: ∀(i:Nat) (x:AV),(junk b).el[i]? =some x→i<b.el.length∧x= .agg (List.replicate b.sz .undef):=by
    intro i x hx;simp only [junk,List.getElem?_map,Option.map_eq_some_iff] at hx;obtain ⟨z,hz,rfl⟩:=hx;exact ⟨(List.getElem?_eq_some_iff.1 hz).1,rfl⟩
   refine ⟨by rw [qG,m.less.st];exact Ba.ad,fun i x hx=>by rw [(hcs i x hx).2];simp [AV.cells,junk],fun h=>by simp at h,fun c b0 he=> ?_⟩
   simp only [Loc.at_.injEq] at he;obtain ⟨rfl,rfl⟩:=he;obtain ⟨arr,T,fr,k1,k2,k3,k4⟩:=af.here c2 qH rfl;refine ⟨arr,T,fr,k1,by rw [show (junk b).sz=b.sz from rfl,←r2];exact k2,by simp only [junk,List.length_map];rw [←r3,←r2];exact k3,fun i x j y v hx hy hv=> ?_⟩
   obtain ⟨hi,rfl⟩:=hcs i x hx;have hj:j<b.sz:=by have:=(List.getElem?_eq_some_iff.1 hy).1;simpa [AV.cells] using this
   have Bb:y= .undef:=by simp only [AV.cells] at hy;rw [List.getElem?_replicate,if_pos hj] at hy;simpa using hy.symm
   subst Bb;refine ⟨.fr _ _ (.undef _),?_⟩;have tW:=List.getElem?_eq_getElem (show i<bk.el.length by omega)
   exact (k4 i _ j _ v tW (List.getElem?_eq_getElem (show j<_ by rw [af.sized _ _ tW,r2];exact hj)) (by rw [r2];exact hv)).2
 ·obtain ⟨id,b0,h⟩:=hj;obtain ⟨h1,b',au⟩:=dD h;rcases bp id b' au with h2|⟨a,x,ad,b,kk,kv,bk,q1,q2,rfl,q4,q5,q6,q7⟩
  ·rcases ho.post.own c (bO hc) with h3|h3
   ·exact m.bI.ck c ⟨id,b0,by simp [aF,h2,h1]⟩ h3
   ·have:=Ow.lt ae ⟨id,b0,h1⟩;omega
  ·obtain ⟨_,re⟩:=qE m ho q4 q5 q6;obtain ⟨b2,c2,qH,_,_,_,r4,r5,_⟩:=re id _ q1;rw [h1] at r4;simp only [Option.some.injEq,Loc.at_.injEq] at r4;obtain ⟨rfl,rfl⟩:=r4;obtain ⟨i,bb,hi⟩:=hc;obtain ⟨dK,bx,tX⟩:=dD hi;have:=ho.st.inj _ _ _ _ _ dK r5;subst this;rw [q7] at tX;simp at tX
end back
end Go.VS
namespace Go.VS
section back
variable {w:World} {AL AH:aj}
structure Mv (w:World) (L:J) (φL:ag) (AL:aj) (H:J) (φ :ag) (AH:aj) (L1 H1:J) (φ1:ag):Prop where
 less:bL L L1
 bI:cb w L1 (aF φL L1) AL H1 φ1 AH
 eh:bM w H φ AH w H1 φ1 AH
 oh: ∀c,Ow φ1 c→Ow φ c∨(Ow φL c∧ ¬Ow (aF φL L1) c)
 has: ∀id ad b,H.ap id ad=some b→ ∃b',H1.ap id ad=some b' ∧b'.sz=b.sz∧b'.el.length=b.el.length
 cd: ∀id loc,φ id=some loc→ φ1 id=some loc
theorem Mv.trans {L L1 L2:J} {φL:ag} {H H1 H2:J} {φ φ1 bf:ag} (h:Mv w L φL AL H φ AH L1 H1 φ1) (k:Mv w L1 (aF φL L1) AL H1 φ1 AH L2 H2 bf):Mv w L φL AL H φ AH L2 H2 bf:=by
 have hr:=gO (φ := φL) k.less;refine ⟨h.less.trans k.less,by rw [←hr];exact k.bI,h.eh.trans k.eh (fun _ _=>rfl),fun c hc=> ?_,fun id ad b hb=> ?_,fun id loc hl=>k.cd id loc (h.cd id loc hl)⟩
 ·rcases k.oh c hc with h1|⟨h1,h2⟩
  ·rcases h.oh c h1 with h3|⟨h3,h4⟩
   ·exact .inl h3
   ·refine .inr ⟨h3,fun h5=>h4 ?_⟩;rw [←hr] at h5;exact bO h5
  ·rw [hr] at h2;exact .inr ⟨bO h1,h2⟩
 ·obtain ⟨b1,e1,e2,e3⟩:=h.has id ad b hb;obtain ⟨b2,f1,f2,f3⟩:=k.has id ad b1 e1;exact ⟨b2,f1,f2.trans e2,f3.trans e3⟩
theorem iR.refl {w:World} {c:Nat} {o:Obj} (h:w.heap[c]? =some o):iR w c o w:=⟨h,fun _ _=>rfl,rfl,rfl,rfl,rfl⟩
theorem fj.mono {L L1:J} {φL:ag} {H H1:J} {φ φ1:ag} (hl:bL L L1) (has: ∀id ad b,H.ap id ad=some b→ ∃b',H1.ap id ad=some b' ∧b'.sz=b.sz∧b'.el.length=b.el.length) (cd: ∀id loc,φ id=some loc→ φ1 id=some loc):
 ∀{ms:List Mode} {as:List AV} {ls:List (List AV)},fj w L φL AL H φ ms as ls→fj w L1 (aF φL L1) AL H1 φ1 ms as ls
 |[],as,ls,_=>by simp [fj]
 |m::ms,[],ls,_=>by cases m<;>simp [fj]
 | .val::ms,a::as,ls,h=>by simp only [fj] at h⊢;exact fj.mono hl has cd h
 | .fH::ms,a::as,ls,h=>by simp only [fj] at h⊢;exact fj.mono hl has cd h
 | .io::ms,a::as,[],h=>by simp [fj]
 | .io::ms,a::as,l::ls,h=>by
  simp only [fj] at h⊢;refine ⟨⟨h.1.1,fun id ad hr=> ?_⟩,fj.mono hl has cd h.2⟩;obtain ⟨c,b0,b,arr,T,fr,k1,k2,k3,k4,k5,k6⟩:=h.1.2 id ad hr;obtain ⟨b',e1,e2,e3⟩:=has id ad b k1;exact ⟨c,b0,b',arr,T,fr,e1,cd _ _ k2,k3,by rw [k4,e3],fun i x hx=>by rw [e2];exact k5 i x hx,fun i x j y v hx hy hv=>(k6 i x j y v hx hy (by rw [←e2];exact hv)).mono (dj hl)⟩
theorem tY: ∀(sh:List (List Sh)) (rs:List AV) (us:List Value) (L:J) (φL:ag) (H:J) (φ :ag) (ys:List AV) (L1:J),cb w L φL AL H φ AH→rs.length=us.length→
 (∀(i:Nat) (x:AV) (u:Value),rs[i]? =some x→us[i]? =some u→R w L φL AL x u)→dr sh rs L=some (ys,L1)→eF AL AH ys→
 ∃ φ1,cq w L φL AL H φ AH L1 (aM ys H).2 φ1∧(aM ys H).1.length=us.length∧ ∀(i:Nat) (x:AV) (u:Value),(aM ys H).1[i]? =some x→us[i]? =some u→R w (aM ys H).2 φ1 AH x u
 |sh,[],us,L,φL,H,φ,ys,L1,hd,hl,hr,ht,hk=>by
  simp only [dr,Option.some.injEq,Prod.mk.injEq] at ht;obtain ⟨rfl,rfl⟩:=ht;exact ⟨φ,.refl hd,hl,by simp [aM]⟩
 |sh,x::rs,u::us,L,φL,H,φ,ys,L1,hd,hl,hr,ht,hk=>by
  simp only [dr] at ht;split at ht
  rotate_left
  ·simp at ht
  rename_i y L' h1
  split at ht
  rotate_left
  ·simp at ht
  rename_i aX dE h2
  simp only [Option.some.injEq,Prod.mk.injEq] at ht;obtain ⟨rfl,rfl⟩:=ht;obtain ⟨k1,k2⟩:=hk.cons;obtain ⟨φ1,m1,r1⟩:=tG hd (hr 0 x u rfl rfl) h1 rfl k1;obtain ⟨bf,m2,l2,r2⟩:=tY sh.tail rs us L' (aF φL L') (aL y H).2 φ1 aX dE m1.bI (by simpa using hl) (fun i x u hx hu=>(hr (i+1) x u hx hu).mono (dj m1.less)) h2 k2
  refine ⟨bf,m1.trans m2,by simp [aM,l2],fun i x' u' hx hu=> ?_⟩
  cases i with
  |zero=>simp [aM] at hx hu;subst hx;subst hu;exact r1.mono m2.eh
  |succ i=>simp only [aM,List.getElem?_cons_succ] at hx hu;exact r2 i x' u' hx hu
 |sh,x::rs,[],L,φL,H,φ,ys,L1,hd,hl,hr,ht,hk=>by simp at hl
theorem tZ: ∀(sh:List (List Sh)) (rs:List AV) (L:J) (ys:List AV) (L1:J),dr sh rs L=some (ys,L1)→bL L L1
 |sh,[],L,ys,L1,ht=>by simp only [dr,Option.some.injEq,Prod.mk.injEq] at ht;obtain ⟨rfl,rfl⟩:=ht;exact .refl _
 |sh,x::rs,L,ys,L1,ht=>by
  simp only [dr] at ht;split at ht
  ·rename_i y L' h1
   split at ht
   ·rename_i aX dE h2
    simp only [Option.some.injEq,Prod.mk.injEq] at ht;obtain ⟨rfl,rfl⟩:=ht;exact (fC _ _ _ _ _ h1).trans (tZ _ rs _ _ _ h2)
   ·simp at ht
  ·simp at ht
theorem qI {es:List Sh} {x:AV} {v:Value} {L:J} {φL:ag} {A' :aj} {y:AV} {L1:J} (ae:St w L φL AL) (hx:R w L φL AL x v) (ht:a8 es x L=some (y,L1)) (hk: ∀c,A' c→gone φL AL L1 c):FR w A' (bE y) v:=by
 by_cases b9: ∃cs,x= .agg cs
 ·obtain ⟨cs,rfl⟩:=b9;obtain ⟨a7,hc,rfl⟩:=mr ht;obtain ⟨vs,rfl,hl,ho,hp⟩:=hx.gH;obtain ⟨l1,r1⟩:=qz es cs vs.toList L φL AL A' a7 L1 ae (by simpa using hl) (fun j c u hj hu=>hp j c u hj (by simpa using hu)) hc hk
  exact .agg _ _ (by rw [l1,hl]) ho fun i x v hx hv=>r1 i x v hx (by simpa using hv)
 ·obtain ⟨e,rfl,cM⟩:=kj (fun cs h=>b9 ⟨cs,h⟩) ht;exact (nP e x v L φL AL A' y L1 ae hx cM hk).1
theorem qJ {A' :aj}: ∀(sh:List (List Sh)) (rs:List AV) (us:List Value) (L:J) (φL:ag) (ys:List AV) (L1:J),St w L φL AL→rs.length=us.length→
 (∀(i:Nat) (x:AV) (u:Value),rs[i]? =some x→us[i]? =some u→R w L φL AL x u)→dr sh rs L=some (ys,L1)→(∀c,A' c→gone φL AL L1 c)→
 (bU ys).length=us.length∧ ∀(i:Nat) (x:AV) (u:Value),(bU ys)[i]? =some x→us[i]? =some u→FR w A' x u
 |sh,[],us,L,φL,ys,L1,hd,hl,hr,ht,hk=>by
  simp only [dr,Option.some.injEq,Prod.mk.injEq] at ht;obtain ⟨rfl,rfl⟩:=ht;exact ⟨hl,by simp [bU]⟩
 |sh,x::rs,u::us,L,φL,ys,L1,hd,hl,hr,ht,hk=>by
  simp only [dr] at ht;split at ht
  rotate_left
  ·simp at ht
  rename_i y L' h1
  split at ht
  rotate_left
  ·simp at ht
  rename_i aX dE h2
  simp only [Option.some.injEq,Prod.mk.injEq] at ht;obtain ⟨rfl,rfl⟩:=ht;have da:=fC _ _ _ _ _ h1;have dh:=tZ _ _ _ _ _ h2;have r1:=qI (A' :=A') hd (hr 0 x u rfl rfl) h1 (fun c hc=>qv dh (hk c hc))
  obtain ⟨l2,r2⟩:=qJ sh.tail rs us L' (aF φL L') aX dE (eE hd da) (by simpa using hl) (fun i x u hx hu=>(hr (i+1) x u hx hu).mono (dj da)) h2 (fun c hc=>by
   obtain ⟨k1,k2⟩:=hk c hc;exact ⟨k1,fun ho=>by rw [gO dh];exact k2 (bO ho)⟩)
  refine ⟨by simp [bU,l2],fun i x' u' hx hu=> ?_⟩
  cases i with
  |zero=>simp [bU] at hx hu;subst hx;subst hu;exact r1
  |succ i=>simp only [bU,List.getElem?_cons_succ] at hx hu;exact r2 i x' u' hx hu
 |sh,x::rs,[],L,φL,ys,L1,hd,hl,hr,ht,hk=>by simp at hl
end back
end Go.VS
namespace Go.VS
def iZ:List Value→Value
 |[v]=>v
 |vs=> .tuple vs.toArray
def gT (P:Program) (f:FuncId):Prop:= ∃fn,P.funcs[f]? =some fn∧(fn.name== "runtime.NumGoroutine")=false∧fn.body.isNone=false
def jI (w:World) (H:J) (φ :ag) (A:aj) (K:AV→J→Prop) (e:Ending) (w' :World):Prop:=
 match e with
 | .returned v' => ∃x H' ak A',Out w H φ A w' H' ak A' ∧R w' H' ak A' x v' ∧K x H'
 |_=>False
theorem jI.mono {w:World} {H:J} {φ :ag} {A:aj} {K K' :AV→J→Prop} (h: ∀v H,K v H→K' v H) {e:Ending} {w' :World} (k:jI w H φ A K e w'):jI w H φ A K' e w' :=by
 cases e with
 |returned v' =>obtain ⟨x,H',ak,A',h1,h2,h3⟩:=k;exact ⟨x,H',ak,A',h1,h2,h _ _ h3⟩
 |panicked c=>exact k
 |outgrown=>exact k
def b_ (P:Program):bK:=fun f ys H K=>gT P f∧
 ∀(w:World) (A:aj) (φ :ag) (us:Array Value),St w H φ A→ys.length=us.size→
  (∀(i:Nat) (x:AV) (u:Value),ys[i]? =some x→us[i]? =some u→R w H φ A x u)→Calls P f us w (jI w H φ A K)
theorem b_.mono {P:Program} {f:FuncId} {ys:List AV} {H:J} {K K' :AV→J→Prop} (h: ∀v H,K v H→K' v H) (k:b_ P f ys H K):b_ P f ys H K' :=
 ⟨k.1,fun w A φ us h1 h2 h3=>(k.2 w A φ us h1 h2 h3).mono fun _ _ he=>he.mono h⟩
def Exact (X:bK):Prop:= ∀f ys H K,X f ys H K→ ∃v H',X f ys H (fun v1 H1=>v1=v∧H1=H')∧K v H'
theorem St.shrink {w:World} {H:J} {φ :ag} {A A' :aj} (h:St w H φ A) (h1: ∀c,A' c→A c) (h2: ∀c,Ow φ c→A' c):St w H φ A' :=by
 refine ⟨h.inj,h2,fun c hc=>h.b7 c (h1 c hc),fun id loc hl=> ?_⟩;obtain ⟨b,hb,af⟩:=h.ap id loc hl;refine ⟨b,hb,af.ad,af.sized,af.aP,fun c b0 he=> ?_⟩;obtain ⟨arr,T,fr,k1,k2,k3,k4⟩:=af.here c b0 he;exact ⟨arr,T,fr,k1,k2,k3,fun i x j y v hx hy hv=>⟨(k4 i x j y v hx hy hv).1.nN h1,(k4 i x j y v hx hy hv).2⟩⟩
section
variable {w:World} {H:J} {φ :ag} {A:aj}
theorem qK {xs:List AV} {us:List Value} (hl:xs.length=us.length) (h: ∀(i:Nat) (x:AV) (u:Value),xs[i]? =some x→us[i]? =some u→R w H φ A x u):R w H φ A (ci xs) (iZ us):=by
 have key: ∀{xs:List AV} {us:List Value},xs.length=us.length→(∀(i:Nat) (x:AV) (u:Value),xs[i]? =some x→us[i]? =some u→R w H φ A x u)→R w H φ A (.aD xs) (.tuple us.toArray):=
  fun hl h=> .aD _ _ (by simpa using hl) fun i x v hx hv=>h i x v hx (by simpa using hv)
 match xs,us,hl with
 |[],[],hl=>exact key hl h
 |[x],[u],_=>exact h 0 x u rfl rfl
 |x::x' ::xs,u::u' ::us,hl=>exact key hl h
theorem t_ {xs:List AV} {us:List Value} (hl:xs.length=us.length) (h: ∀(i:Nat) (x:AV) (u:Value),xs[i]? =some x→us[i]? =some u→FR w A x u):FR w A (ci xs) (iZ us):=by
 have key: ∀{xs:List AV} {us:List Value},xs.length=us.length→(∀(i:Nat) (x:AV) (u:Value),xs[i]? =some x→us[i]? =some u→FR w A x u)→FR w A (.aD xs) (.tuple us.toArray):=
  fun hl h=> .aD _ _ (by simpa using hl) fun i x v hx hv=>h i x v hx (by simpa using hv)
 match xs,us,hl with
 |[],[],hl=>exact key hl h
 |[x],[u],_=>exact h 0 x u rfl rfl
 |x::x' ::xs,u::u' ::us,hl=>exact key hl h
end
theorem ua (zs:List AV) (H:J):aL (ci zs) H=(ci (aM zs H).1,(aM zs H).2):=by
 match zs with
 |[]=>rfl
 |[z]=>rfl
 |z::z' ::zs=>rfl
theorem ub (zs:List AV):bE (ci zs)=ci (bU zs):=by
 match zs with
 |[]=>rfl
 |[z]=>rfl
 |z::z' ::zs=>rfl
theorem uc (zs:List AV):cZ (ci zs)=hI zs:=by
 match zs with
 |[]=>rfl
 |[z]=>simp [ci,hI]
 |z::z' ::zs=>rfl
theorem ud {xs:List AV} {v:Value} {w:World} {H:J} {φ :ag} {A:aj} (h:R w H φ A (ci xs) v): ∃us:List Value,v=iZ us∧xs.length=us.length∧ ∀(i:Nat) (x:AV) (u:Value),xs[i]? =some x→us[i]? =some u→R w H φ A x u:=by
 have key: ∀{xs:List AV},xs.length≠1→R w H φ A (.aD xs) v→ ∃us:List Value,v=iZ us∧xs.length=us.length∧ ∀(i:Nat) (x:AV) (u:Value),xs[i]? =some x→us[i]? =some u→R w H φ A x u:=by
  intro xs hl h;obtain ⟨vs,rfl,h1,h2⟩:=h.nn;refine ⟨vs.toList,?_,by simpa using h1,fun i x u hx hu=>h2 i x u hx (by simpa using hu)⟩
  have dw:vs.toList.length≠1:=by simp only [Array.length_toList];omega
  generalize hv:vs.toList=l at dw;have:Value.tuple vs= .tuple l.toArray:=by rw [←hv]
  rw [this]
  match l with
  |[]=>rfl
  |[u]=>exact absurd rfl dw
  |u::u' ::l=>rfl
 match xs with
 |[]=>exact key (by simp) h
 |[x]=>exact ⟨[v],rfl,rfl,fun i x' u hx hu=>by
  cases i with
  |zero=>simp at hx hu;subst hx;subst hu;exact h
  |succ i=>simp at hx⟩
 |x::x' ::xs=>exact key (by simp) h
def nW (ms:List Mode):Prop:= ∀m∈ms,m= .val
theorem qL: ∀(ms:List Mode) (sh:List (List Sh)) (as:List AV) (H:J),nW ms→gE ms sh as H=some (as,H)
 |[],sh,as,H,_=>rfl
 |m::ms,sh,[],H,_=>rfl
 |m::ms,sh,a::as,H,h=>by
  have hm:=h m (by simp)
  subst hm;simp only [gE,fV,qL ms sh.tail as H (fun m hm=>h m (by simp [hm]))]
theorem qM (H0:J): ∀(ms:List Mode) (as:List AV) (H:J),nW ms→cO H0 ms as H=H
 |[],as,H,_=>by simp [cO]
 |m::ms,[],H,_=>by cases m<;>simp [cO]
 |m::ms,a::as,H,h=>by
  have hm:=h m (by simp)
  subst hm;simp only [cO];exact qM H0 ms as H (fun m hm=>h m (by simp [hm]))
theorem lq {w:World} {H:J} {φ :ag} {A:aj} (ae:St w H φ A):aF φ H= φ :=by
 funext id
 unfold aF;cases hp: φ id with
 |none=>simp
 |some loc=>obtain ⟨b,hb,_⟩:=ae.ap id loc hp;simp [hb]
theorem qN {H:J}: ∀(as ys:List AV) (b:Bool),cg [] as H=some (ys,b)→ ∀L,cr [] ys L=(ys,L)
 |[],ys,b,h,L=>by simp only [cg,Option.some.injEq,Prod.mk.injEq] at h;obtain ⟨rfl,_⟩:=h;rfl
 |a::as,ys,b,h,L=>by
  simp only [cg] at h;split at h
  ·rename_i y hy;split at h
   ·rename_i aX b' cA
    simp only [Option.some.injEq,Prod.mk.injEq] at h;obtain ⟨rfl,_⟩:=h;simp only [cr,nQ H 8 a y hy,List.tail_nil,qN as aX b' cA]
   ·simp at h
  ·simp at h
theorem Bc {P:Program} {C:aJ} {X:bK} (hX: ∀f ys H K,X f ys H K→b_ P f ys H K) {w:World} {H:J} {φ :ag} {A:aj} (ae:St w H φ A) {f:FuncId} {as:List AV} {us:Array Value} (hl:as.length=us.size)
 (hr: ∀(i:Nat) (x:AV) (u:Value),as[i]? =some x→us[i]? =some u→R w H φ A x u) {th:Bool} {K:AV→J→Prop} (h:dU X C f as th H K):gT P f∧Calls P f us w (jI w H φ A K):=by
 unfold dU at h;split at h
 ·exact h.elim
 rename_i ys b6 hy;obtain ⟨y,mw,gS,hp⟩:=h;have hm:nW []:=fun m hm=>by simp at hm
 have qO:cb w H φ A ⟨0,[]⟩ (fun _=>none) A:=by
  refine ⟨ae,⟨fun i i' c b b' h=>by simp at h,fun c hc=> ?_,ae.b7,fun id loc h=>by simp at h⟩,fun c _ hc=> ?_,ae.own⟩
  ·obtain ⟨i,b,h⟩:=hc;simp at h
  ·obtain ⟨i,b,h⟩:=hc;simp at h
 have qP:cr [] ys ⟨0,[]⟩=(ys,⟨0,[]⟩):=qN _ _ _ hy _;obtain ⟨aE,m,cH,eG⟩:=nS as [] [] us.toList H φ as H ys b6 ⟨0,[]⟩ (fun _=>none) ys ⟨0,[]⟩ qO (by simpa using hl) (fun i x u hx hu=>hr i x u hx (by simpa using hu)) (qL _ _ _ _ hm) hy qP
 have bH: ∀c,¬Ow aE c:=fun c hc=>by
  rcases m.oh c hc with ⟨i,b,h⟩|⟨h1,h2⟩
  ·simp at h
  ·rw [lq ae] at h2;exact h2 h1
 let A0:aj:=if b6=true then Ow aE else A
 have kn: ∀c,A0 c→A c:=by
  intro c hc;simp only [A0] at hc;split at hc
  ·exact absurd hc (bH c)
  ·exact hc
 have qQ:b6=true→ ∀c,A0 c→gq (aF φ H) A c:=by
  intro az c hc;simp only [A0,az,if_true] at hc;exact absurd hc (bH c)
 have dp:St w ⟨0,[]⟩ aE A0:=m.bI.sh.shrink kn (fun c hc=>absurd hc (bH c));have cQ:ys.length=us.size:=by simpa using cH.1
 refine ⟨(hX _ _ _ _ mw).1,((hX _ _ _ _ mw).2 w A0 aE us dp cQ (fun i x u hx hu=>cH.2 A0 kn qQ i x u hx (by simpa using hu))).mono fun e w' he=> ?_⟩
 cases e with
 |panicked c=>exact he.elim
 |outgrown=>exact he.elim
 |returned v' =>
 obtain ⟨x0,L,ak,A',ho,qR,rs,iy,L2,rfl,my,rfl⟩:=he;obtain ⟨cR,rfl,eQ,iV⟩:=ud qR
 let AH:aj:=if b6=true then fun c=>A c∨(A' c∧w.heap.size≤c) else A'
 have ko: ∀c,Ow ak c→w.heap.size≤c:=fun c hc=>(ho.post.own c hc).resolve_left (bH c)
 have ha:qD w A aE w' ak AH:=by
  refine ⟨fun c hc hn=> ?_,fun c hc=> ?_,fun c hc=> ?_,fun c arr T fr hc hn=> ?_⟩
  ·simp only [AH];split
   ·exact .inl hc
   ·rename_i az;refine ho.keep c ?_ hn;simp only [A0,az];exact hc
  ·simp only [AH];split
   ·exact .inr ⟨ho.st.own c hc,ko c hc⟩
   ·exact ho.st.own c hc
  ·simp only [AH] at hc;split at hc
   ·rcases hc with h|⟨h,_⟩
    ·exact Nat.lt_of_lt_of_le (ae.b7 c h) ho.post.size
    ·exact ho.st.b7 c h
   ·exact ho.st.b7 c hc
  ·obtain ⟨h1,h2⟩:=ho.bF.fz c arr T fr hc (fun h=>hn (kn c h));refine ⟨h1,?_⟩;simp only [AH];split
   ·rintro (h|⟨_,h⟩)
    ·exact hn h
    ·have:c<w.heap.size:=by
      rcases Nat.lt_or_ge c w.heap.size with h' |h'
      ·exact h'
      ·rw [Array.getElem?_eq_none h'] at hc;simp at hc
     omega
   ·exact h2
 obtain ⟨D,E⟩:=tV (ls:=[]) (Lm:=L) ae m (by rw [hl,cQ]) eG ho ha (by simp [f_])
 rw [qM _ _ _ _ hm,lq ae] at D E;have qS:eF A' AH iy:=by
  cases az:b6 with
  |false=>exact .inl fun c h=>by simpa [AH,az] using h
  |true=>
   rcases gS with h|h
   ·rw [az] at h;simp at h
   ·rw [uc] at h;exact .inr h
 have eR: ∀(i:Nat) (x:AV) (u:Value),rs[i]? =some x→cR[i]? =some u→R w' L (aF ak L) A' x u:=fun i x u hx hu=>by
  rw [lq ho.st];exact iV i x u hx hu
 have gg: ∀{cX:ag},(∀c,Ow cX c→Ow φ c∨Ow ak c)→ga w φ w' cX:=fun hq=>
  ⟨ho.post.os,ho.post.tape,ho.post.output,ho.post.size,fun c hc _=>ho.post.kept c hc (bH c),ho.post.aR,fun c hc=>by
   rcases hq c hc with h|h
   ·exact .inl h
   ·exact .inr (ko c h)⟩
 have kq: ∀c,A c→ ¬Ow φ c→AH c:=fun c hc _=>ha.own c hc (bH c);have cv: ∀c,Ow φ c→aR w' c=aR w c:=fun c hc=>ho.post.aR c (Ow.lt ae hc)
 cases ek:(th||b6) with
 |true=>
  rw [ek] at hp;simp only [if_true,ua] at hp;obtain ⟨cX,m3,l3,r3⟩:=tY _ rs cR L _ H φ iy L2 D eQ eR my qS
  refine ⟨_,_,cX,AH,⟨m3.bI.sh,gg fun c hc=> ?_,E.trans m3.eh cv,kq⟩,qK l3 r3,hp⟩;rcases m3.oh c hc with h|⟨h,_⟩
  ·exact .inl h
  ·exact .inr (bO h)
 |false=>
  rw [ek] at hp;simp only [Bool.false_eq_true,if_false,ub] at hp;simp only [Bool.or_eq_false_iff] at ek;have qT:AH=A' :=by simp [AH,ek.2]
  rw [qT] at D E kq
  let A2:aj:=gone (aF ak L) A' L2
  obtain ⟨l3,r3⟩:=qJ (A' :=A2) _ rs cR L (aF ak L) iy L2 D.sl eQ eR my (fun c h=>h)
  have qU: ∀c,Ow φ c→A2 c:=fun c hc=>⟨D.sh.own c hc,fun h=>absurd hc (D.ck c h)⟩;have qV:bM w H φ A w' H φ A2:=⟨fun c arr T fr hc hn=>⟨(E.fz c arr T fr hc hn).1,fun h2=>(E.fz c arr T fr hc hn).2 h2.1⟩,E.st,E.ids,E.sz⟩
  refine ⟨_,_,φ,A2,⟨D.sh.shrink (fun c h=>h.1) qU,gg fun c hc=> .inl hc,qV,fun c hc hn=>⟨kq c hc hn,fun h=> ?_⟩⟩,.fr _ _ (t_ l3 r3),hp⟩;have:=ko c (bO h)
  have:=ae.b7 c hc;omega
end Go.VS
namespace Go.VS
section ops
variable {P:Program} {C:aJ} {X:bK} {w:World} {H:J} {φ :ag} {A:aj}
theorem Bd {f:FuncId} (h:gT P f) (args:Array Value) (w:World):(callFunc f args).run P w= .ok (.enter f args) w:=by
 obtain ⟨fn,h1,h2,h3⟩:=h;have mv:fn.name≠ "runtime.NumGoroutine" :=by simpa using h2
 have Be:fn.body≠none:=by intro e;rw [e] at h3;simp at h3
 simp [callFunc,h1,mv,Be]
theorem uf {o:Oper} {ρ :Operand→Value} {x:Operand} {args:Array Operand} {tys:Array TypeId} (ho:o.op= .call {callee:= .value x,args,argTypes:=tys}) {g:FuncId} {bP:Array Value} (hx: ρ x= .func (.func g) #[] bP) (hc:gT P g):
 (execOp ρ o).run P w= .ok (.enter g (args.map ρ ++ bP)) w:=by
 simp [execOp,ho,resolve,hx,Deferred.ofValue,invoke,Bd hc]
theorem ug {o:Oper} {ρ :Operand→Value} {b:Builtin} {args:Array Operand} {tys:Array TypeId} (ho:o.op= .call {callee:= .builtin b,args,argTypes:=tys}):
 ∃consts,(execOp ρ o).run P w=(builtin b tys o.type consts (args.map ρ)).run P w:=
 ⟨_,by simp only [execOp,ho,resolve,invoke,Sem.run_bind,Sem.run_pure,Result.andThen_ok];rfl⟩
theorem cz.upon {H' :J} {r:Result Next} {x:AV} (h:cz w H φ A H' r x) {o:Oper} {a:Act} {next:Act→World→Prop} {Q:Exit→Act→World→Prop}
 (hn: ∀v w' ak A',Out w H φ A w' H' ak A' →R w' H' ak A' x v→next (a.put o.dst v) w'):o.upon P a next Q r:=by
 obtain ⟨n,v,w',ak,A',rfl,hv,hr,ho⟩:=h;rcases hv with rfl|⟨rfl,rfl⟩
 ·exact hn v w' ak A' ho hr
 ·exact hn _ w' ak A' ho hr
theorem nX (hE: ∀t ti,C.E t=some ti→aU P t ti) (hX: ∀f ys H K,X f ys H K→b_ P f ys H K) (ae:St w H φ A) {o:Oper} {s:ah} {a:Act} (hs: ∀x∈o.op.operands,R w H φ A (ev s x) (a.eval x)) {th:Bool} {K:AV→J→Prop} (h:wpOp X C false th o s H K)
 {next:Act→World→Prop} {Q:Exit→Act→World→Prop} (hn: ∀x v w' H' ak A',Out w H φ A w' H' ak A' →R w' H' ak A' x v→K x H' →next (a.put o.dst v) w'):o.wp P a w next Q:=by
 have mz: ∀(hh:(match aQ C.E o.op s H with|some (v,H')=>K v H' |none=>False)),o.wp P a w next Q:=by
  intro hh;split at hh
  ·rename_i v H' he
   exact (AK hE ae hs he).upon (fun u w' ak A' h1 h2=>hn v u w' H' ak A' h1 h2 hh)
  ·exact hh.elim
 unfold wpOp at h;split at h
 ·rename_i b args tys bC;obtain ⟨_,h⟩:=h;split at h
  ·rename_i v H' he
   obtain ⟨consts,cU⟩:=ug (P:=P) (w:=w) (ρ :=a.eval) bC;have:=AM hE ae (ty:=o.type) (consts:=consts) (vs:=args.map a.eval) (by simp) (fun i x u hx hu=>by
    simp only [List.getElem?_map,Option.map_eq_some_iff] at hx;obtain ⟨y,hy,rfl⟩:=hx;simp only [Array.getElem?_map,Option.map_eq_some_iff] at hu;obtain ⟨y',fg,rfl⟩:=hu;have:y' =y:=by simp at hy;rw [hy] at fg;simpa using fg.symm
    subst this;exact hs y' (by rw [bC];simp only [Op.operands,Call.operands];simp [Array.mem_of_getElem? fg])) he
   rw [←cU] at this;exact this.upon (fun u w' ak A' h1 h2=>hn v u w' H' ak A' h1 h2 h)
  ·exact h.elim
 ·rename_i x args tys bC;split at h
  ·rename_i g bP hg;simp only [Bool.false_eq_true,if_false] at h;have hx:=hs x (by rw [bC];simp [Op.operands,Call.operands])
   rw [hg] at hx;obtain ⟨vs,hv,hl,hp⟩:=hx.lX;have uh: ∀(i:Nat) (y:AV) (u:Value),(args.toList.map (ev s) ++ bP)[i]? =some y→(args.map a.eval ++ vs)[i]? =some u→R w H φ A y u:=fun i y u hy hu=>by
    rcases Nat.lt_or_ge i args.size with hi|hi
    ·rw [List.getElem?_append_left (by simpa using hi)] at hy
     rw [Array.getElem?_append_left (by simpa using hi)] at hu
     simp only [List.getElem?_map,Option.map_eq_some_iff] at hy;obtain ⟨z,hz,rfl⟩:=hy;simp only [Array.getElem?_map,Option.map_eq_some_iff] at hu;obtain ⟨z',eC,rfl⟩:=hu;have:z' =z:=by simp at hz;rw [hz] at eC;simpa using eC.symm
     subst this;exact hs z' (by rw [bC];simp only [Op.operands,Call.operands];simp [Array.mem_of_getElem? eC])
    ·rw [List.getElem?_append_right (by simpa using hi)] at hy
     rw [Array.getElem?_append_right (by simpa using hi)] at hu
     exact hp _ y u (by simpa using hy) (by simpa using hu)
   have hc:gT P g∧Calls P g (args.map a.eval ++ vs) w (jI w H φ A K):=by
    rcases h with h|h
    ·exact ⟨(hX _ _ _ _ h).1,(hX _ _ _ _ h).2 w A φ (args.map a.eval ++ vs) ae (by simp [hl]) uh⟩
    ·exact Bc hX ae (us:=args.map a.eval ++ vs) (by simp [hl]) uh h
   unfold Oper.wp;rw [uf bC hv hc.1,Oper.upon_enter];refine hc.2.mono fun e w' he=> ?_
   cases e with
   |returned v' =>
    obtain ⟨x',H',ak,A',h1,h2,h3⟩:=he;exact hn x' v' w' H' ak A' h1 h2 h3
   |panicked c=>exact he.elim
   |outgrown=>exact he.elim
  ·exact h.elim
 ·exact mz h.2
end ops
end Go.VS
namespace Go.VS
structure lr (π :List Nat) (ops:Array Oper):Prop where
 len: π.length=ops.size
 nodup: π.Nodup
 lt: ∀i∈ π,i<ops.size
 mem: ∀i,i<ops.size→i∈ π
 ui: ∀(i:Nat) (o:Oper),ops[i]? =some o→ ∀e∈o.after.toList,Region.binds .any e=true→e.on<ops.size
 i_: ∀(i:Nat) (o:Oper) (j:Nat) (b:Bool),ops[i]? =some o→o.guard=some (j,b)→j<ops.size
theorem Bf {π :List Nat} {ops:Array Oper} (h:pv π ops=true):lr π ops:=by
 simp only [pv,Bool.and_eq_true,beq_iff_eq,List.all_eq_true,decide_eq_true_eq,List.mem_range,List.contains_iff_mem] at h;obtain ⟨⟨⟨⟨h1,h0⟩,h2⟩,h3⟩,h4⟩:=h;refine ⟨h1,h0,h2,h3,fun i o ho e he hb=> ?_,fun i o j b ho hg=> ?_⟩
 ·have:=(h4 o (by rw [←Array.getElem?_toList] at ho;exact List.mem_of_getElem? ho)).1
  rw [Array.all_eq_true_iff_forall_mem] at this;have:=this e (by simpa using he)
  rw [hb] at this;simpa using this
 ·have:=(h4 o (by rw [←Array.getElem?_toList] at ho;exact List.mem_of_getElem? ho)).2
  rw [hg] at this;simpa using this
section
variable {π :List Nat} {ops:Array Oper} (hp:lr π ops)
include hp
theorem lr.at_ {k:Nat} (hk:k< π.length): ∃o,ops[π[k]]? =some o∧(fp π ops)[k]? =some (fT π o):=by
 have:=hp.lt _ (List.getElem_mem hk);refine ⟨ops[π[k]],by simp [this],?_⟩
 unfold fp nj;rw [List.getElem?_toArray,List.getElem?_map,List.getElem?_eq_getElem hk];simp [List.getD,this]
theorem lr.size:(fp π ops).size=ops.size:=by
 simp [fp,nj,hp.len]
theorem lr.lu {i:Nat} (hi:i<ops.size):dB π i< π.length∧ π[dB π i]? =some i:=by
 have:=hp.mem i hi;unfold dB;have h:=List.idxOf_lt_length_of_mem this;exact ⟨h,by rw [List.getElem?_eq_getElem h,List.getElem_idxOf]⟩
theorem lr.get {i:Nat} {o:Oper} (ho:ops[i]? =some o):(fp π ops)[dB π i]? =some (fT π o):=by
 have hi:i<ops.size:=(Array.getElem?_eq_some_iff.1 ho).1;obtain ⟨h1,h2⟩:=hp.lu hi;obtain ⟨o',h3,h4⟩:=hp.at_ h1;have: π[dB π i]=i:=by rw [List.getElem?_eq_getElem h1] at h2;simpa using h2
 rw [this,ho] at h3;simp only [Option.some.injEq] at h3;subst h3;exact h4
def PL (π :List Nat) (n:Nat) (l l' :Array Bool):Prop:=l.size=n∧l'.size=n∧ ∀i,i<n→l'[dB π i]? =l[i]?
theorem PL.set {l l' :Array Bool} (h:PL π ops.size l l') {i:Nat} (hi:i<ops.size):PL π ops.size (l.setIfInBounds i true) (l'.setIfInBounds (dB π i) true):=by
 obtain ⟨h1,h2,h3⟩:=h;refine ⟨by simp [h1],by simp [h2],fun j hj=> ?_⟩
 obtain ⟨Bg,qW⟩:=hp.lu hi;obtain ⟨Ee,Bh⟩:=hp.lu hj;rw [Array.getElem?_setIfInBounds,Array.getElem?_setIfInBounds];by_cases e:i=j
 ·subst e;rw [if_pos rfl,if_pos rfl,if_pos (by rw [h2,←hp.len];exact Bg),if_pos (by rw [h1];exact hi)]
 ·have: ¬dB π i=dB π j:=by
   intro e2;rw [e2,Bh] at qW;simp at qW;exact e qW.symm
  rw [if_neg this,if_neg e];exact h3 j hj
omit hp in
theorem PL.getD {l l' :Array Bool} (h:PL π ops.size l l') {i:Nat} (hi:i<ops.size) (b:Bool):l'.getD (dB π i) b=l.getD i b:=by
 have:=h.2.2 i hi;rw [Array.getD_eq_getD_getElem?,Array.getD_eq_getD_getElem?,this]
theorem uj {l l' :Array Bool} (h:PL π ops.size l l') {i:Nat} (hi:i∈Region.ready .any ops l):i<ops.size∧dB π i∈Region.ready .any (fp π ops) l' :=by
 unfold Region.ready at hi⊢;simp only [List.mem_filter,List.mem_range,Bool.and_eq_true] at hi⊢;obtain ⟨h1,h2,h3⟩:=hi;have ho:ops[i]? =some ops[i]:=by simp [h1]
 obtain ⟨r1,r2⟩:=hp.lu h1;refine ⟨h1,by rw [hp.size,←hp.len];exact r1,by rw [h.getD h1];exact h2,?_⟩
 rw [hp.get ho];rw [ho] at h3;simp only [Option.map_some,Option.getD_some,Array.all_eq_true_iff_forall_mem] at h3⊢;intro e he;simp only [fT,List.mem_toArray,List.mem_filterMap] at he;obtain ⟨e0,uk,nY⟩:=he;split at nY
 ·rename_i hb;simp only [Option.some.injEq] at nY;subst nY;have:=h3 e0 (by simpa using uk)
  rw [hb] at this;simp only [Bool.not_true,Bool.false_or] at this;rw [h.getD (hp.ui i _ ho e0 uk hb)];simp [this]
 ·simp at nY
theorem Bi {i:Nat} {o:Oper} (ho:ops[i]? =some o) (t:Array Value):Region.wanted (fT π o) (yielded (fp π ops) t)=Region.wanted o (yielded ops t):=by
 unfold Region.wanted fT;simp only;cases hg:o.guard with
 |none=>rfl
 |some p=>
  obtain ⟨j,b⟩:=p;have hj:=hp.i_ i o j b ho hg;simp only [Option.map_some];congr 1;unfold yielded;have ul:ops[j]? =some ops[j]:=by simp [hj]
  rw [hp.get ul,ul];rfl
omit hp in
theorem um (ρ :Operand→Value) (o:Oper):execOp ρ (fT π o)=execOp ρ o:=by
 cases o;rfl
theorem Bj {P:Program} {Q:Exit→Act→World→Prop} {i:Nat} {o:Oper} (ho:ops[i]? =some o) {K K' :Act→World→Prop} (hK: ∀a w,K' a w→K a w) {a:Act} {w:World} (h:Go.wpOp P (fp π ops) Q (dB π i) K' a w):Go.wpOp P ops Q i K a w:=by
 unfold Go.wpOp at h⊢;rw [hp.get ho] at h;rw [ho];simp only at h⊢;rw [Bi hp ho] at h;split at h
 ·rename_i hw;rw [if_pos hw];rcases h with h|⟨h1,h2⟩
  ·refine .inl (Oper.wp_mono hK ?_);unfold Oper.wp at h⊢;rw [um] at h;exact h
  ·refine .inr ⟨?_,h2⟩;unfold Oper.asks at h1⊢;rw [um] at h1;exact h1
 ·rename_i hw;rw [if_neg hw];exact hK _ _ h
theorem Bk {l l' :Array Bool} (h:PL π ops.size l l') {k:Nat} (hk:k∈Region.ready .any (fp π ops) l'): ∃i,i∈Region.ready .any ops l:=by
 unfold Region.ready at hk⊢;simp only [List.mem_filter,List.mem_range,Bool.and_eq_true] at hk;obtain ⟨h1,h2,h3⟩:=hk;rw [hp.size,←hp.len] at h1;obtain ⟨o,ho,af⟩:=hp.at_ h1;have hi:=hp.lt _ (List.getElem_mem h1);have hr:dB π π[k]=k:=by
  obtain ⟨r1,r2⟩:=hp.lu hi;rw [List.getElem?_eq_getElem r1] at r2;simp only [Option.some.injEq] at r2;exact (List.getElem_inj hp.nodup).1 r2
 refine ⟨π[k],?_⟩;simp only [List.mem_filter,List.mem_range,Bool.and_eq_true];refine ⟨hi,by rw [←h.getD hi,hr];exact h2,?_⟩
 rw [af] at h3;rw [ho];simp only [Option.map_some,Option.getD_some,Array.all_eq_true_iff_forall_mem] at h3⊢;intro e he;by_cases hb:Region.binds .any e=true
 ·have hl:=hp.ui _ o ho e (by simpa using he) hb
  have:=h3 {e with on:=dB π e.on} (by
   simp only [fT,List.mem_toArray,List.mem_filterMap];exact ⟨e,by simpa using he,by rw [if_pos hb]⟩)
  have au:Region.binds .any {e with on:=dB π e.on}=true:=hb
  rw [au] at this;simp only [Bool.not_true,Bool.false_or] at this;rw [h.getD hl] at this;simp [this]
 ·simp [hb]
theorem uo {P:Program} {Q:Exit→Act→World→Prop}: ∀(n:Nat) (l l' :Array Bool) (a:Act) (w:World),PL π ops.size l l' →wpAny P .any (fp π ops) Q n l' a w→wpAny P .any ops Q n l a w
 |0,l,l',a,w,hl,h=>by
  simp only [wpAny] at h⊢;refine ⟨?_,h.2⟩;rw [List.eq_nil_iff_forall_not_mem];intro i hi;have:=(uj hp hl hi).2;rw [h.1] at this;simp at this
 |n+1,l,l',a,w,hl,h=>by
  simp only [wpAny] at h⊢;refine ⟨fun he=>h.1 ?_,fun i hi=> ?_⟩
  ·rw [List.eq_nil_iff_forall_not_mem];intro k hk;obtain ⟨i,hi⟩:=Bk hp hl hk;rw [he] at hi;simp at hi
  ·obtain ⟨h1,h2⟩:=uj hp hl hi;have ho:ops[i]? =some ops[i]:=by simp [h1]
   exact Bj hp ho (fun a w hh=>uo n _ _ a w (hl.set hp h1) hh) (h.2 _ h2)
theorem Bl {P:Program} {Q:Exit→Act→World→Prop} {a:Act} {w:World} (h:wpAny P .any (fp π ops) Q (fp π ops).size (Array.replicate (fp π ops).size false) a w):wpAny P .any ops Q ops.size (Array.replicate ops.size false) a w:=by
 rw [hp.size] at h;refine uo hp _ _ _ a w ⟨by simp,by simp,fun i hi=> ?_⟩ h
 obtain ⟨r1,_⟩:=hp.lu hi;rw [hp.len] at r1;simp [hi,r1]
end
theorem SF.kill {w:World} {H:J} {φ :ag} {A:aj} {s:ah} {a:Act} (h:SF w H φ A s a) (l:List Nat):SF w H φ A (eu l s) a:=by
 have key: ∀(s:ah) (i:Nat),(eu.go l i s).length=s.length∧ ∀(t:Nat) (x:AV),(eu.go l i s)[t]? =some x→x= .undef∨s[t]? =some x:=by
  intro s;induction s with
  |nil=>intro i;simp [eu.go]
  |cons y s ih=>
   intro i;obtain ⟨h1,h2⟩:=ih (i+1);refine ⟨by simp [eu.go,h1],fun t x hx=> ?_⟩
   cases t with
   |zero=>
    simp only [eu.go,List.getElem?_cons_zero,Option.some.injEq] at hx;split at hx
    ·exact .inr (by simp [hx])
    ·exact .inl hx.symm
   |succ t=>simp only [eu.go,List.getElem?_cons_succ] at hx⊢;exact h2 t x hx
 obtain ⟨h1,h2⟩:=key s 0;refine ⟨h1.trans h.len,fun t x v hx hv=> ?_,h.fA⟩;rcases h2 t x hx with rfl|hx
 ·exact .fr _ _ (.undef _)
 ·exact h.val t x v hx hv
theorem Bm {w:World} {H:J} {φ :ag} {A:aj} (ae:St w H φ A) (n:Nat):Out w H φ A w (H.trim n) (aF φ (H.trim n)) A:=by
 have hg: ∀id b,(H.trim n).get id=some b→H.get id=some b:=by
  intro id b h;unfold J.trim J.get at h;unfold J.get;simp only [List.getElem?_take] at h;split at h
  ·exact h
  ·simp at h
 have aS:bM w H φ A w (H.trim n) (aF φ (H.trim n)) A:=
  ⟨fun c arr T fr hc hn=>⟨⟨fr,hc⟩,hn⟩,Nat.le_refl _,fun id b hb _=>⟨b,hg id b hb,rfl,rfl,rfl,rfl,fun loc hl=>by simp [aF,hb,hl]⟩,fun _ _=>rfl⟩
 refine ⟨⟨fun i i' c b b' h h' =>ae.inj _ _ _ _ _ (dD h).1 (dD h').1,fun c hc=>ae.own c (bO hc),ae.b7,fun id loc h=> ?_⟩,⟨rfl,rfl,rfl,Nat.le_refl _,fun _ _ _=>rfl,fun _ _=>rfl,fun c hc=> .inl (bO hc)⟩,aS,fun c hc _=>hc⟩
 obtain ⟨h1,b,hb⟩:=dD h;obtain ⟨b',au,af⟩:=ae.ap id loc h1;rw [hg id b hb] at au;simp only [Option.some.injEq] at au;subst au;refine ⟨b,hb,af.ad,af.sized,af.aP,fun c b0 he=> ?_⟩;obtain ⟨arr,T,fr,k1,k2,k3,k4⟩:=af.here c b0 he;exact ⟨arr,T,fr,k1,k2,k3,fun i x j y v hx hy hv=>⟨(k4 i x j y v hx hy hv).1.mono aS,(k4 i x j y v hx hy hv).2⟩⟩
def nZ:Ex→Exit
 | .normal=> .normal
 | .exit id=> .exit id
 | .ret=> .ret
theorem n0 {x y:AV} (h:fZ x y=true):x=y:=by
 unfold fZ at h;split at h
 ·simp only [Bool.and_eq_true,beq_iff_eq] at h;obtain ⟨⟨⟨rfl,rfl⟩,rfl⟩,rfl⟩:=h;rfl
 ·rfl
 ·rfl
 ·simp at h
theorem Bn {w:World} {H:J} {φ :ag} {A:aj} {s:ah} {a:Act} (ae:St w H φ A) (hs:SF w H φ A s a) {t:Nat} {ts:List Nat} {sh:List Sh} {y:AV} {H1:J} (h:a8 sh (s.getD t .undef) H=some (y,H1)):
 Out w H φ A w H1 (aF φ H1) (gone φ A H1)∧SF w H1 (aF φ H1) (gone φ A H1) (ib (s.getD t .undef) (bE y) ts (s.set t (bE y))) a:=by
 have hl:=fC _ _ _ _ _ h;have aS:bM w H φ A w H1 (aF φ H1) (gone φ A H1):=by
  have e:=dj (w:=w) (φ := φ) (A:=A) hl;exact ⟨fun c arr T fr hc hn=>⟨(e.fz c arr T fr hc hn).1,fun h2=>hn h2.1⟩,e.st,e.ids,e.sz⟩
 refine ⟨⟨(eE ae hl).shrink (fun c hc=>hc.1) (fun c hc=>⟨ae.own c (bO hc),fun _=>hc⟩),⟨rfl,rfl,rfl,Nat.le_refl _,fun _ _ _=>rfl,fun _ _=>rfl,fun c hc=> .inl (bO hc)⟩,aS,fun c hc hn=>⟨hc,fun ho=>absurd ho hn⟩⟩,?_⟩;have cJ:=hs.mono aS;have one: ∀(k:Nat) (v:Value),s.getD k .undef=s.getD t .undef→a.tmps[k]? =some v→R w H1 (aF φ H1) (gone φ A H1) (bE y) v:=by
  intro k v hk hv;have hr:=hs.ev (.tmp k);simp only [ev,Act.eval] at hr;rw [Array.getD_eq_getD_getElem?,hv,hk] at hr;exact .fr _ _ (qI ae hr h (fun c hc=>hc))
 have base:SF w H1 (aF φ H1) (gone φ A H1) (s.set t (bE y)) a∧ ∀k,(s.set t (bE y)).getD k .undef=bE y∨(s.set t (bE y)).getD k .undef=s.getD k .undef:=by
  refine ⟨⟨by simpa using cJ.len,fun k x v hx hv=> ?_,cJ.fA⟩,fun k=> ?_⟩
  ·rw [List.getElem?_set] at hx;split at hx
   ·rename_i hk;subst hk;split at hx
    ·simp only [Option.some.injEq] at hx;subst hx;exact one t v rfl hv
    ·simp at hx
   ·exact cJ.val k x v hx hv
  ·simp only [List.getD_eq_getElem?_getD,List.getElem?_set];split
   ·rename_i hk;subst hk;split
    ·exact .inl rfl
    ·rename_i az;right;rw [List.getElem?_eq_none (by omega)]
   ·exact .inr rfl
 have gen: ∀(ts:List Nat) (s' :ah),SF w H1 (aF φ H1) (gone φ A H1) s' a→(∀k,fZ (s'.getD k .undef) (s.getD t .undef)=true→s.getD k .undef=s.getD t .undef∨bE y=s.getD t .undef)→SF w H1 (aF φ H1) (gone φ A H1) (ib (s.getD t .undef) (bE y) ts s') a:=by
  intro ts;induction ts with
  |nil=>intro s' h _;exact h
  |cons k ks ih=>
   intro s' h1 h2
   simp only [ib];split
   ·rename_i uq;have hval: ∀v,a.tmps[k]? =some v→R w H1 (aF φ H1) (gone φ A H1) (bE y) v:=by
     intro v hv;rcases h2 k uq with e|e
     ·exact one k v e hv
     ·have:=h1.ev (.tmp k);simp only [ev,Act.eval] at this;rw [Array.getD_eq_getD_getElem?,hv,n0 uq,←e] at this;exact this
    refine ih _ ⟨by simpa using h1.len,fun m x v hx hv=> ?_,h1.fA⟩ (fun m hm=> ?_)
    ·rw [List.getElem?_set] at hx;split at hx
     ·rename_i hk;subst hk;split at hx
      ·simp only [Option.some.injEq] at hx;subst hx;exact hval v hv
      ·simp at hx
     ·exact h1.val m x v hx hv
    ·simp only [List.getD_eq_getElem?_getD,List.getElem?_set] at hm;split at hm
     ·split at hm
      ·exact .inr (n0 hm)
      ·rename_i hk az;refine h2 m ?_;subst hk;rw [List.getD_eq_getElem?_getD,List.getElem?_eq_none (by omega)]
       exact hm
     ·exact h2 m (by rw [List.getD_eq_getElem?_getD];exact hm)
   ·exact ih s' h1 h2
 refine gen ts _ base.1 fun k hk=> ?_;rcases base.2 k with e|e
 ·rw [e] at hk;exact .inr (n0 hk)
 ·rw [e] at hk;exact .inl (n0 hk)
theorem qX {w:World} {H:J} {φ :ag} {A:aj} {x:AV} {v:Value} (h:R w H φ A x v):R w H φ A (lQ x) v:=by
 cases x with
 |nil=>have:=h.du;subst this;exact .fr _ _ (.c8 none 0)
 |e0=>obtain ⟨a,rfl⟩:=h.fc;exact .fr _ _ (.c8 a 0)
 |_=>exact h
theorem Bo {w:World} {H:J} {φ :ag} {A:aj} {x:AV} {v:Value} (h:R w H φ A x v):R w H φ A (ep x) v:=by
 cases x with
 |agg cs=>
  obtain ⟨vs,rfl,h1,h2,h3⟩:=h.gH;refine .agg _ _ (by simpa using h1) h2 fun i x v hx hv=> ?_
  simp only [List.getElem?_map,Option.map_eq_some_iff] at hx;obtain ⟨y,hy,rfl⟩:=hx;exact qX (h3 i y v hy hv)
 |_=>exact qX h
theorem Bp {w:World} {H:J} {φ :ag} {A:aj} {s:ah} {a:Act} (t:Nat) (ae:St w H φ A) (hs:SF w H φ A s a): ∃ak A',Out w H φ A w (kY t s H).2 ak A' ∧SF w (kY t s H).2 ak A' (kY t s H).1 a:=by
 have plain: ∀v,s.getD t .undef=v→SF w H φ A (s.set t (ep v)) a:=by
  intro v hv;refine ⟨by simpa using hs.len,fun k x u hx hu=> ?_,hs.fA⟩
  rw [List.getElem?_set] at hx;split at hx
  ·rename_i hk;subst hk;split at hx
   ·simp only [Option.some.injEq] at hx;subst hx;have hr:=hs.ev (.tmp t);simp only [ev,Act.eval] at hr;rw [Array.getD_eq_getD_getElem?,hu,hv] at hr;exact Bo hr
   ·simp at hx
  ·exact hs.val k x u hx hu
 have key: ∀v,s.getD t .undef=v→ ∃ak A',Out w H φ A w (match v with
  | .ref id ad _ _=>match H.ap id ad with
   |some b=>(s,H.aZ id {b with el:=b.el.map ep})
   |none=>(s,H)
  |v=>(s.set t (ep v),H)).2 ak A' ∧SF w (match v with
  | .ref id ad _ _=>match H.ap id ad with
   |some b=>(s,H.aZ id {b with el:=b.el.map ep})
   |none=>(s,H)
  |v=>(s.set t (ep v),H)).2 ak A' (match v with
  | .ref id ad _ _=>match H.ap id ad with
   |some b=>(s,H.aZ id {b with el:=b.el.map ep})
   |none=>(s,H)
  |v=>(s.set t (ep v),H)).1 a:=by
  intro v hv;cases v with
  |ref id ad off len=>
   simp only;cases hb:H.ap id ad with
   |none=>exact ⟨φ,A,.refl ae,hs⟩
   |some b=>
    simp only;have hg:=(J.bd hb).1;have az:=J.gb hg;have bp: ∀k,(H.aZ id {b with el:=b.el.map ep}).get k=if k=id then some {b with el:=b.el.map ep} else H.get k:=by
     intro k;simp only [J.get,J.aZ,List.getElem?_set];by_cases h:id=k
     ·subst h;simp [az]
     ·have h' : ¬k=id:=fun e=>h e.symm
      simp [h,h']
    have aS:bM w H φ A w (H.aZ id {b with el:=b.el.map ep}) φ A:=by
     refine ⟨fun c arr T fr hc hn=>⟨⟨fr,hc⟩,hn⟩,Nat.le_refl _,fun k b' hk _=> ?_,fun _ _=>rfl⟩
     rw [bp] at hk;split at hk
     ·rename_i e;subst e;simp only [Option.some.injEq] at hk;subst hk;exact ⟨b,hg,rfl,rfl,rfl,by simp,fun _ h=>h⟩
     ·exact ⟨b',hk,rfl,rfl,rfl,rfl,fun _ h=>h⟩
    have Bq:St w (H.aZ id {b with el:=b.el.map ep}) φ A:=by
     refine ⟨ae.inj,ae.own,ae.b7,fun k loc hk=> ?_⟩;obtain ⟨b0,ja,af⟩:=ae.ap k loc hk;by_cases h:k=id
     ·subst h;rw [hg] at ja;simp only [Option.some.injEq] at ja;subst ja;refine ⟨{b with el:=b.el.map ep},by rw [bp,if_pos rfl],af.ad,fun i x hx=> ?_,fun h=>by simp [af.aP h],fun c b0 he=> ?_⟩
      ·simp only [List.getElem?_map,Option.map_eq_some_iff] at hx;obtain ⟨y,hy,rfl⟩:=hx;rw [l_,List.length_map];exact af.sized i y hy
      ·obtain ⟨arr,T,fr,k1,k2,k3,k4⟩:=af.here c b0 he;refine ⟨arr,T,fr,k1,k2,by simpa using k3,fun i x j y v hx hy hv=> ?_⟩
       simp only [List.getElem?_map,Option.map_eq_some_iff] at hx;obtain ⟨x',bQ,rfl⟩:=hx;rw [l_] at hy;simp only [List.getElem?_map,Option.map_eq_some_iff] at hy;obtain ⟨y',fg,rfl⟩:=hy;have:=k4 i x' j y' v bQ fg hv
       exact ⟨qX (this.1.mono aS),this.2⟩
     ·refine ⟨b0,by rw [bp,if_neg h];exact ja,af.ad,af.sized,af.aP,fun c b1 he=> ?_⟩
      obtain ⟨arr,T,fr,k1,k2,k3,k4⟩:=af.here c b1 he;exact ⟨arr,T,fr,k1,k2,k3,fun i x j y v hx hy hv=>⟨(k4 i x j y v hx hy hv).1.mono aS,(k4 i x j y v hx hy hv).2⟩⟩
    exact ⟨φ,A,⟨Bq,.refl _ _,aS,fun c hc _=>hc⟩,hs.mono aS⟩
  |_=>exact ⟨φ,A,.refl ae,plain _ hv⟩
 unfold kY;exact key _ rfl
theorem ur {α β :Type}: ∀(sh:List Sh) (a:List α) (b:List β),a.length=b.length→(cw sh a).length=(cw sh b).length
 |[],a,b,_=>by simp [cw]
 |s::sh,[],[],_=>by cases s<;>simp [cw]
 |s::sh,[],_::_,h=>by simp at h
 |s::sh,_::_,[],h=>by simp at h
 |s::sh,x::a,y::b,h=>by
  have:=ur sh a b (by simpa using h)
  cases s<;>simp [cw,this]
theorem uu {α β :Type}: ∀(sh:List Sh) (a:List α) (b:List β),a.length=b.length→ ∀{k:Nat} {u: α},(cw sh a)[k]? =some u→ ∃q:Nat,a[q]? =some u∧(cw sh b)[k]? =b[q]?
 |[],a,b,_,k,u,h=>by simp [cw] at h
 |s::sh,[],b,_,k,u,h=>by cases s<;>simp [cw] at h
 |s::sh,_::_,[],h,_,_,_=>by simp at h
 |s::sh,x::a,y::b,hl,k,u,h=>by
  have ih:=fun {k:Nat} {u: α}=>uu sh a b (by simpa using hl) (k:=k) (u:=u)
  by_cases hs:s= .sc
  ·subst hs;simp only [cw] at h⊢;obtain ⟨q,q1,q2⟩:=ih h;exact ⟨q+1,by simpa using q1,by simpa using q2⟩
  ·have e1: ∀{γ :Type} (z: γ) (l:List γ),cw (s::sh) (z::l)=z::cw sh l:=fun z l=>by cases s<;>first|exact absurd rfl hs|rfl
   rw [e1] at h⊢;cases k with
   |zero=>exact ⟨0,by simpa using h,rfl⟩
   |succ k=>
    obtain ⟨q,q1,q2⟩:=ih (by simpa using h)
    exact ⟨q+1,by simpa using q1,by simpa using q2⟩
theorem uw {β :Type}: ∀(sh:List Sh) (cs ys:List AV) (b:List β),cs.length=b.length→ ∀{j:Nat} {z:AV},(eN sh cs ys)[j]? =some z→cs[j]? =some z∨ ∃k:Nat,ys[k]? =some z∧(cw sh b)[k]? =b[j]?
 |[],cs,ys,b,_,j,z,h=>by simp [eN] at h
 |s::sh,[],ys,b,_,j,z,h=>by cases s<;>simp [eN] at h
 |s::sh,_::_,ys,[],h,_,_,_=>by simp at h
 |s::sh,c::cs,ys,y::b,hl,j,z,h=>by
  have ih:=fun {ys:List AV} {j:Nat} {z:AV}=>uw sh cs ys b (by simpa using hl) (j:=j) (z:=z)
  by_cases hs:s= .sc
  ·subst hs;simp only [eN,cw] at h⊢;cases j with
   |zero=>exact .inl (by simpa using h)
   |succ j=>
    rcases ih (by simpa using h) with h1|⟨k,k1,k2⟩
    ·exact .inl (by simpa using h1)
    ·exact .inr ⟨k,k1,by simpa using k2⟩
  ·cases ys with
   |nil=>cases s<;>first|exact absurd rfl hs|(simp [eN] at h)
   |cons w ys=>
    have e1:eN (s::sh) (c::cs) (w::ys)=w::eN sh cs ys:=by cases s<;>first|exact absurd rfl hs|rfl
    have e2:cw (s::sh) (y::b)=y::cw sh b:=by cases s<;>first|exact absurd rfl hs|rfl
    rw [e1] at h;rw [e2];cases j with
    |zero=>exact .inr ⟨0,by simpa using h,rfl⟩
    |succ j=>
     rcases ih (by simpa using h) with h1|⟨k,k1,k2⟩
     ·exact .inl (by simpa using h1)
     ·exact .inr ⟨k+1,by simpa using k1,by simpa using k2⟩
theorem Br {w:World} {H:J} {φ :ag} {A:aj} (ae:St w H φ A) {sh:List Sh} {id ad:Nat} {H2:J} (h:lW sh id ad H=some H2): ∃ak A',Out w H φ A w H2 ak A' :=by
 unfold lW at h;split at h
 rotate_left
 ·simp at h
 rename_i b hb;split at h
 rotate_left
 ·simp at h
 rename_i cs bG;split at h
 rotate_left
 ·simp at h
 rename_i y H1 hy;split at h
 rotate_left
 ·simp at h
 rename_i b1 ys jb cA;split at h
 rotate_left
 ·simp at h
 rename_i hlen;simp only [Option.some.injEq] at h;have hl:=fC _ _ _ _ _ hy;have aS:bM w H φ A w H1 (aF φ H1) (gone φ A H1):=by
  have e:=dj (w:=w) (φ := φ) (A:=A) hl;exact ⟨fun c arr T fr hc hn=>⟨(e.fz c arr T fr hc hn).1,fun h2=>hn h2.1⟩,e.st,e.ids,e.sz⟩
 have o1:Out w H φ A w H1 (aF φ H1) (gone φ A H1):=⟨(eE ae hl).shrink (fun c hc=>hc.1) (fun c hc=>⟨ae.own c (bO hc),fun _=>hc⟩),⟨rfl,rfl,rfl,Nat.le_refl _,fun _ _ _=>rfl,fun _ _=>rfl,fun c hc=> .inl (bO hc)⟩,aS,fun c hc hn=>⟨hc,fun ho=>absurd ho hn⟩⟩;have cx:=(J.bd jb).1;have hg:=hl.get _ _ cx;have n5:b1=b:=by rw [(J.bd hb).1] at hg;exact (Option.some.inj hg).symm
 subst n5;have bp:=J.iv (b:={b1 with el:=[.agg (eN sh cs ys)]}) cx;have qY:bM w H1 (aF φ H1) (gone φ A H1) w H2 (aF φ H1) (gone φ A H1):=by
  subst h;refine ⟨fun c arr T fr hc hn=>⟨⟨fr,hc⟩,hn⟩,Nat.le_refl _,fun k b' hk _=> ?_,fun _ _=>rfl⟩
  rw [bp] at hk;split at hk
  ·rename_i e;subst e;simp only [Option.some.injEq] at hk;subst hk;exact ⟨b1,cx,rfl,rfl,rfl,by simp [bG],fun _ h=>h⟩
  ·exact ⟨b',hk,rfl,rfl,rfl,rfl,fun _ h=>h⟩
 refine ⟨_,_,o1.trans ae ⟨?_,.refl _ _,qY,fun c hc _=>hc⟩⟩;refine ⟨o1.st.inj,o1.st.own,o1.st.b7,fun k loc hk=> ?_⟩;obtain ⟨b0,ja,af⟩:=o1.st.ap k loc hk;by_cases ux:k=id
 ·subst ux;rw [cx] at ja;simp only [Option.some.injEq] at ja;subst ja;subst h;refine ⟨{b1 with el:=[.agg (eN sh cs ys)]},by rw [bp,if_pos rfl],af.ad,fun i x hx=> ?_,fun hv=> ?_,fun c o he=> ?_⟩
  ·cases i with
   |zero=>simp only [List.getElem?_cons_zero,Option.some.injEq] at hx;subst hx;exact hlen
   |succ i=>simp at hx
  ·have:=af.aP hv;rw [bG] at this;simp at this
  ·obtain ⟨arr,T,fr,k1,k2,k3,k4⟩:=af.here c o he;refine ⟨arr,T,fr,k1,k2,by rw [bG] at k3;exact k3,fun i x j z v hx hz hv=> ?_⟩
   cases i with
   |succ i=>simp at hx
   |zero=>
    simp only [List.getElem?_cons_zero,Option.some.injEq] at hx;subst hx;obtain ⟨b2,cP,iA⟩:=ae.ap k loc (dD hk).1;rw [hg] at cP;simp only [Option.some.injEq] at cP;subst cP;obtain ⟨arr',T',dW,m1,m2,m3,m4⟩:=iA.here c o he;rw [k1] at m1;simp only [Option.some.injEq,Obj.cells.injEq] at m1;obtain ⟨rfl,rfl,rfl⟩:=m1;have gN:cs.length=b1.sz:=iA.sized 0 (.agg cs) (by rw [bG];rfl)
    rw [bG] at m3;simp only [List.length_singleton,Nat.one_mul] at m3;have Bs:(arr.extract o (o+b1.sz)).size=b1.sz:=by simp;omega
    have uy: ∀q,q<b1.sz→(arr.extract o (o+b1.sz))[q]? =arr[o+q]? :=fun q hq=>by rw [Array.getElem?_extract,if_pos (by omega)]
    have jy: ∀(q:Nat) (u:Value),(arr.extract o (o+b1.sz))[q]? =some u→R w H φ A (cs[q]?.getD .undef) u∧u.oneCell' =true:=fun q u hq=>by
     have az:q<b1.sz:=by rw [←Bs];exact (Array.getElem?_eq_some_iff.1 hq).1
     rw [uy q az] at hq;have uz:=List.getElem?_eq_getElem (l:=cs) (i:=q) (by omega)
     rw [uz];exact m4 0 (.agg cs) q _ u (by rw [bG];rfl) uz (by rw [Nat.zero_mul,Nat.add_zero];exact hq)
    have uA: ∀(k:Nat) (u:Value),(cw sh (arr.extract o (o+b1.sz)).toList)[k]? =some u→ ∃q x,(arr.extract o (o+b1.sz))[q]? =some u∧(cw sh cs)[k]? =some x∧cs[q]? =some x:=fun k u hu=>by
     obtain ⟨q,q1,q2⟩:=uu sh (arr.extract o (o+b1.sz)).toList cs (by simp;omega) hu
     obtain ⟨x,hx⟩: ∃x,cs[q]? =some x:=⟨_,List.getElem?_eq_getElem (by have:=(List.getElem?_eq_some_iff.1 q1).1;simp at this;omega)⟩
     exact ⟨q,x,by rw [←Array.getElem?_toList];exact q1,by rw [q2];exact hx,hx⟩
    have hR:R w H φ A (.agg (cw sh cs)) (.agg (cw sh (arr.extract o (o+b1.sz)).toList).toArray):=by
     refine .agg _ _ (by simpa using ur sh cs (arr.extract o (o+b1.sz)).toList (by simp;omega)) (fun q u hq=> ?_) fun q x u hx hq=> ?_
     ·obtain ⟨q',x,h1,_,_⟩:=uA q u (by simpa using hq)
      exact (jy q' u h1).2
     ·obtain ⟨q',x',h1,h2,h3⟩:=uA q u (by simpa using hq)
      rw [hx] at h2;have:=(jy q' u h1).1
      rw [h3] at this;rw [Option.some.inj h2];exact this
    have hF:=qI (A' :=gone φ A H1) ae hR hy (fun c hc=>hc)
    rw [cA] at hF;cases hF with
    |agg _ _ f1 f2 f3=>
     have d_:=(List.getElem?_eq_some_iff.1 hz).1;have Bt:j<b1.sz:=by rw [←hlen];exact d_
     simp only [Nat.zero_mul,Nat.add_zero] at hv;have bA:(arr.extract o (o+b1.sz))[j]? =some v:=by rw [uy j Bt];exact hv
     rcases uw sh cs ys (arr.extract o (o+b1.sz)).toList (by simp;omega) hz with hc|⟨k,qZ,iq⟩
     ·have:=jy j v bA;rw [hc] at this;exact ⟨(this.1.mono aS).mono qY,this.2⟩
     ·have ma:(cw sh (arr.extract o (o+b1.sz)).toList).toArray[k]? =some v:=by
       rw [List.getElem?_toArray,iq,Array.getElem?_toList];exact bA
      exact ⟨.fr _ _ (f3 k z v qZ ma),(jy j v bA).2⟩
 ·refine ⟨b0,by subst h;rw [bp,if_neg ux];exact ja,by subst h;exact af.ad,af.sized,af.aP,fun c b1 he=> ?_⟩
  obtain ⟨arr,T,fr,k1,k2,k3,k4⟩:=af.here c b1 he;exact ⟨arr,T,fr,k1,k2,k3,fun i x j y v hx hy hv=>⟨(k4 i x j y v hx hy hv).1.mono qY,(k4 i x j y v hx hy hv).2⟩⟩
theorem mA {w:World} {a:Act}: ∀(l:List (List Nat×List Sh)) {H:J} {φ :ag} {A:aj} {s s' :ah} {H' :J},St w H φ A→SF w H φ A s a→de l s H=some (s',H')→
 ∃ak A',Out w H φ A w H' ak A' ∧SF w H' ak A' s' a
 |[],H,φ,A,s,s',H',ae,hs,h=>by
  simp only [de,Option.some.injEq,Prod.mk.injEq] at h;obtain ⟨rfl,rfl⟩:=h;exact ⟨φ,A,.refl ae,hs⟩
 |[([],_)],H,φ,A,s,s',H',ae,hs,h=>by simp [de] at h
 |([],_)::([],_)::l,H,φ,A,s,s',H',ae,hs,h=>by simp [de] at h
 |([],_)::(t::ts,sh)::l,H,φ,A,s,s',H',ae,hs,h=>by
  simp only [de] at h;split at h
  ·split at h
   ·rename_i H1 hv;obtain ⟨φ1,A1,h1⟩:=Br ae hv;obtain ⟨ak,A',h3,h4⟩:=mA l h1.st (hs.mono h1.bF) h;exact ⟨ak,A',h1.trans ae h3,h4⟩
   ·simp at h
  ·simp at h
 |(t::ts,[])::l,H,φ,A,s,s',H',ae,hs,h=>by
  simp only [de] at h;obtain ⟨φ1,A1,h1,h2⟩:=Bp t ae hs;obtain ⟨ak,A',h3,h4⟩:=mA l h1.st h2 h;exact ⟨ak,A',h1.trans ae h3,h4⟩
 |(t::ts,e::sh)::l,H,φ,A,s,s',H',ae,hs,h=>by
  simp only [de] at h;split at h
  ·rename_i y H1 hy;obtain ⟨h1,h2⟩:=Bn (ts:=ts) ae hs hy;obtain ⟨ak,A',h3,h4⟩:=mA l h1.st h2 h;exact ⟨ak,A',h1.trans ae h3,h4⟩
  ·simp at h
section code
variable {P:Program} {C:aJ} {X:bK}
def eS (o:List (Nat×Value)) (a:Act):Prop:= ∀q∈o,a.tmps[q.1]? =some q.2
def jc (o:List (Nat×Value)) (c:Code):Prop:= ∀q∈o,dH q.1 c=true
def Ends (o:List (Nat×Value)) (Q:Exit→Act→World→Prop) (K:Ex→ah→J→Prop) (w:World) (H:J) (φ :ag) (A:aj):Prop:=
 ∀e s' H' ak A' a' w',Out w H φ A w' H' ak A' →SF w' H' ak A' s' a' →eS o a' →K e s' H' →Q (nZ e) a' w'
theorem lv {a:Act} {d:Option Tmp} {v:Value} {t:Nat} (h:d≠some t):(a.put d v).tmps[t]? =a.tmps[t]? :=by
 cases d with
 |none=>rfl
 |some d=>
  simp only [Act.put,Array.getElem?_setIfInBounds];rw [if_neg (by intro e;exact h (by rw [e]))]
theorem uB {o:Oper} {a:Act} {w:World} {N N' :Act→World→Prop} {Q Q' :Exit→Act→World→Prop} (hQ: ∀e,e≠ .normal→ ∀a w,Q e a w→Q' e a w) (hN: ∀a' w',(∀t,o.dst≠some t→a'.tmps[t]? =a.tmps[t]?)→N a' w' →N' a' w') (h:o.wp P a w N Q):o.wp P a w N' Q' :=by
 unfold Oper.wp at*;have q0: ∀{v w'},N (a.put o.dst v) w' →N' (a.put o.dst v) w' :=fun h=>hN _ _ (fun t ht=>lv ht) h
 have bq:LetsOut Q→LetsOut Q' :=fun ⟨a,w,h⟩=>⟨a,w,hQ _ (by simp) _ _ h⟩
 generalize (execOp a.eval o).run P w=r at*;cases r with
 |ok n w' =>
  cases n<;>simp only [Oper.upon] at h⊢ <;>
   first
    |exact q0 h
    |exact hN _ _ (fun t ht=>lv (a:={a with defers:=_}) ht) h
    |exact Calls.mono h (fun e gu he=>by cases e<;>first|exact q0 he|exact hQ _ (by simp) _ _ he|exact bq he)
    |exact Rows.mono h (fun _ _ he=>q0 he)
    |exact h
 |halt x w' =>cases x<;>simp only [Oper.upon] at h⊢ <;>first|exact hQ _ (by simp) _ _ h|exact h
theorem q8 {ops:Array Oper} {Q Q' :Exit→Act→World→Prop} (hQ: ∀e,e≠ .normal→ ∀a w,Q e a w→Q' e a w) {l2:List Oper}: ∀(l:List Oper) (a:Act) (w:World),wpList P ops Q l a w→
 (∀a' w',(∀t,(∀o∈l,o.dst≠some t)→a'.tmps[t]? =a.tmps[t]?)→Q .normal a' w' →wpList P ops Q' l2 a' w')→wpList P ops Q' (l ++ l2) a w
 |[],a,w,h,hn=>hn a w (fun _ _=>rfl) h
 |o::l,a,w,h,hn=>by
  have bq:LetsOut Q→LetsOut Q' :=fun ⟨a,w,h⟩=>⟨a,w,hQ _ (by simp) _ _ h⟩
  simp only [wpList,List.cons_append] at h⊢;split at h
  ·rename_i hw;rw [if_pos hw];rcases h with h|⟨h1,h2⟩
   ·exact .inl (uB hQ (fun a' w' hk h=>q8 hQ l a' w' h fun a2 w2 iq h2=>hn a2 w2 (fun t ht=>(iq t fun o ho=>ht o (List.mem_cons_of_mem _ ho)).trans (hk t (ht o List.mem_cons_self))) h2) h)
   ·exact .inr ⟨h1,bq h2⟩
  ·rename_i hw;rw [if_neg hw];exact q8 hQ l _ w h fun a2 w2 iq h2=>hn a2 w2 (fun t ht=>(iq t fun o ho=>ht o (List.mem_cons_of_mem _ ho)).trans (lv (ht o List.mem_cons_self))) h2
theorem uC {ops ops' :Array Oper} {Q:Exit→Act→World→Prop}: ∀(l:List Oper) (a:Act) (w:World),(∀o∈l,o.guard=none)→wpList P ops Q l a w→wpList P ops' Q l a w
 |[],_,_,_,h=>h
 |o::l,a,w,hg,h=>by
  simp only [wpList,Region.wanted,hg o List.mem_cons_self,if_true] at h⊢;exact h.imp (Oper.wp_mono fun a w h=>uC l a w (fun o ho=>hg o (List.mem_cons_of_mem _ ho)) h) id
theorem n9 {md:Region.Mode} {ops:Array Oper} {Q Q' :Exit→Act→World→Prop} (hQ: ∀e,e≠ .normal→ ∀a w,Q e a w→Q' e a w): ∀(n:Nat) (ls:Array Bool) (a:Act) (w:World),wpAny P md ops Q n ls a w→
 (∀a' w',(∀t,(∀o∈ops.toList,o.dst≠some t)→a'.tmps[t]? =a.tmps[t]?)→Q .normal a' w' →Q' .normal a' w')→wpAny P md ops Q' n ls a w
 |0,ls,a,w,h,hn=>⟨h.1,hn a w (fun _ _=>rfl) h.2⟩
 |n+1,ls,a,w,h,hn=>by
  have bq:LetsOut Q→LetsOut Q' :=fun ⟨a,w,h⟩=>⟨a,w,hQ _ (by simp) _ _ h⟩
  refine ⟨fun he=>hn a w (fun _ _=>rfl) (h.1 he),fun i hi=> ?_⟩;have:=h.2 i hi;unfold Go.wpOp at this⊢;split at this
  ·exact n9 hQ n _ a w this hn
  ·rename_i o ho;have hm:o∈ops.toList:=List.mem_of_getElem? (i:=i) (by rw [←ho];simp)
   split at this
   ·rename_i hw;rw [if_pos hw];rcases this with h|⟨h1,h2⟩
    ·exact .inl (uB hQ (fun a' w' hk h=>n9 hQ n _ a' w' h fun a2 w2 iq h2=>hn a2 w2 (fun t ht=>(iq t ht).trans (hk t (ht o hm))) h2) h)
    ·exact .inr ⟨h1,bq h2⟩
   ·rename_i hw;rw [if_neg hw];exact n9 hQ n _ _ w this fun a2 w2 iq h2=>hn a2 w2 (fun t ht=>(iq t ht).trans (lv (ht o hm))) h2
theorem q9 {w:World} {H:J} {φ :ag} {A:aj} {s:ah} {a:Act} {ops:Array Oper} {o:Oper} {b:Bool} (hs: ∀j want t,o.guard=some (j,want)→(ops[j]?).bind (·.dst)=some t→R w H φ A (ev s (.tmp t)) (a.eval (.tmp t))) (h:dV ops o s=some b):Region.wanted o (yielded ops a.tmps)=b:=by
 unfold dV at h;unfold Region.wanted;cases hg:o.guard with
 |none=>rw [hg] at h;simp at h;subst h;simp
 |some p=>
  obtain ⟨j,want⟩:=p;rw [hg] at h;simp only at h⊢;split at h
  ·rename_i t ht;have hv:=hs j want t hg ht;simp only [ev,Act.eval] at hv;split at h
   ·rename_i c hc;rw [hc] at hv;simp only [Option.some.injEq] at h;subst h;have:=hv.fK;have hy:yielded ops a.tmps j=some c:=by
     unfold yielded;rw [ht];simp only [Option.bind_some];rw [Array.getD_eq_getD_getElem?] at this;cases hq:a.tmps[t]? with
     |none=>rw [hq] at this;simp [undef] at this
     |some v=>rw [hq] at this;simp at this;subst this;rfl
    rw [hy];cases c<;>cases want<;>rfl
   ·rename_i cs hc;rw [hc] at hv;simp only [Option.some.injEq] at h;subst h;obtain ⟨vs,bA,_⟩:=hv.nn;have hy:yielded ops a.tmps j=none:=by
     unfold yielded;rw [ht];simp only [Option.bind_some];rw [Array.getD_eq_getD_getElem?] at bA;cases hq:a.tmps[t]? with
     |none=>rfl
     |some v=>rw [hq] at bA;simp at bA;subst bA;rfl
    rw [hy];cases want<;>rfl
   ·simp at h
  ·simp at h
theorem uD (hE: ∀t ti,C.E t=some ti→aU P t ti) (hX: ∀f ys H K,X f ys H K→b_ P f ys H K) {ops:Array Oper} {th:List Nat} {fz:List (Nat×List (List Nat×List Sh))} {K:ah→J→Prop} {Q:Exit→Act→World→Prop}:
 ∀(l:List Oper) (i:Nat) (s:ah) (H:J) (w:World) (φ :ag) (A:aj) (a:Act),c7 X C ops th fz K l i s H→St w H φ A→SF w H φ A s a→
  (∀s' H' ak A' a' w',Out w H φ A w' H' ak A' →SF w' H' ak A' s' a' →K s' H' →Q .normal a' w')→wpList P ops Q l a w
 |[],i,s,H,w,φ,A,a,h,ae,hs,hq=>hq s H φ A a w (.refl ae) hs h
 |o::rest,i,s0,H0,w,aE,A0,a,h,dp,e9,Bu=>by
  simp only [c7] at h;obtain ⟨s,H,hf,h⟩:=h;obtain ⟨φ,A,ho,hs⟩:=mA _ dp e9 hf;have ae:=ho.st;have hq: ∀s' H' ak A' a' w',Out w H φ A w' H' ak A' →SF w' H' ak A' s' a' →K s' H' →Q .normal a' w' :=fun s' H' ak A' a' w' k1 k2 k3=>Bu s' H' ak A' a' w' (ho.trans dp k1) k2 k3
  have next: ∀{x:AV} {v:Value} {w' :World} {H' :J} {ak:ag} {A' :aj},Out w H φ A w' H' ak A' →R w' H' ak A' x v→c7 X C ops th fz K rest (i+1) (bw s o.dst x) H' →wpList P ops Q rest (a.put o.dst v) w' :=by
   intro x v w' H' ak A' h1 h2 h3
   exact uD hE hX rest (i+1) _ H' w' ak A' _ h3 h1.st ((hs.mono h1.bF).set o.dst h2) fun s2 H2 bf A2 a2 w2 k1 k2 k3=>hq s2 H2 bf A2 a2 w2 (h1.trans ae k1) k2 k3
  simp only [wpList];cases hg:o.guard with
  |none=>
   rw [hg] at h;simp only at h;have hw:Region.wanted o (yielded ops a.tmps)=true:=by simp [Region.wanted,hg]
   rw [if_pos hw];exact .inl (nX hE hX ae (fun x _=>hs.ev x) h fun x v w' H' ak A' h1 h2 h3=>next h1 h2 h3)
  |some p=>
   rw [hg] at h;simp only at h;obtain ⟨v,H',h1,h2⟩:=h;split at h1
   ·rename_i b hb;have hw:=q9 (fun _ _ t _ _=>hs.ev (.tmp t)) hb;cases b with
    |true=>
     rw [if_pos hw];simp only [if_true] at h1;exact .inl (nX hE hX ae (fun x _=>hs.ev x) h1 fun x u w' jH ak A' k1 k2 k3=>by obtain ⟨rfl,rfl⟩:=k3;exact next k1 k2 h2)
    |false=>
     rw [if_neg (by rw [hw];simp)]
     simp only [Bool.false_eq_true,if_false] at h1;obtain ⟨rfl,rfl⟩:=h1;exact next (.refl ae) (.fr _ _ (.aD [] #[] rfl (by simp))) h2
   ·exact h1.elim
def mB (P:Program) (C:aJ) (X:bK):Prop:=
 ∀(ops:Array Oper) (aG:List Nat) (th:List Nat) (s:ah) (H:J) (K:ah→J→Prop) (Q:Exit→Act→World→Prop) (w:World) (φ :ag) (A:aj) (a:Act),jv ops aG=true→
  dt X C ops (fun i=> !aG.contains i) (gF ops aG) th K ops.toList 0 s H→St w H φ A→SF w H φ A s a→(∀s' H' ak A' a' w',Out w H φ A w' H' ak A' →SF w' H' ak A' s' a' →K s' H' →Q .normal a' w')→wpAny P .any ops Q ops.size (Array.replicate ops.size false) a {w with drawn:=w.drawn+1}
theorem Ends.trans {o:List (Nat×Value)} {Q:Exit→Act→World→Prop} {K:Ex→ah→J→Prop} {w w1:World} {H H1:J} {φ φ1:ag} {A A1:aj} (ae:St w H φ A) (h:Out w H φ A w1 H1 φ1 A1) (k:Ends o Q K w H φ A):Ends o Q K w1 H1 φ1 A1:=
 fun e s' H' ak A' a' w' h1 h2 hh h3=>k e s' H' ak A' a' w' (h.trans ae h1) h2 hh h3
structure fk (w w' :World) (c:Nat):Prop where
 os:w'.os=w.os
 tape:w'.tape=w.tape
 output:w'.output=w.output
 size:w.heap.size≤w'.heap.size
 kept: ∀c',c' ≠c→c' <w.heap.size→w'.heap[c']? =w.heap[c']?
 old: ∀arr T fr,w.heap[c]? ≠some (.cells arr T fr)
 new:VS.aR w' c=0
theorem Bv (w:World) (o:Obj) (h:(match o with| .cells arr _ _=>arr.size|_=>0)=0):fk w (w.alloc o) w.heap.size:=by
 have hh:(w.alloc o).heap=w.heap.push o:=rfl;refine ⟨rfl,rfl,rfl,by rw [hh,Array.size_push];omega,fun c' aI az=> ?_,fun arr T fr h=> ?_,?_⟩
 ·rw [hh,Array.getElem?_push,if_neg aI]
 ·rw [Array.getElem?_eq_none (Nat.le_refl _)] at h;simp at h
 ·unfold VS.aR;rw [hh,Array.getElem?_push_size];cases o<;>first|exact h|rfl
theorem fk.Bw {w w' :World} {c:Nat} (h:fk w w' c):VS.aR w c=0:=by
 unfold VS.aR;split
 ·rename_i arr T fr he;exact absurd he (h.old _ _ _)
 ·rfl
theorem fk.cells {w w' :World} {c:Nat} (h:fk w w' c) {c' :Nat} {arr:Array Value} {T:TypeId} {fr:Nat×Nat} (hc:w.heap[c']? =some (.cells arr T fr)):w'.heap[c']? =some (.cells arr T fr):=by
 rw [h.kept c' (fun e=>h.old arr T fr (by rw [←e];exact hc)) (Array.getElem?_eq_some_iff.1 hc).1]
 exact hc
theorem fk.q_ {w w' :World} {c:Nat} (h:fk w w' c) {c' :Nat} (hc:c' <w.heap.size):VS.aR w' c' =VS.aR w c' :=by
 by_cases e:c' =c
 ·subst e;rw [h.new,h.Bw]
 ·unfold VS.aR;rw [h.kept c' e hc]
theorem fk.bF {w w' :World} {c:Nat} (h:fk w w' c) {H:J} {φ :ag} {A:aj} (ae:St w H φ A):bM w H φ A w' H φ A:=
 ⟨fun _ _ _ fr hc hn=>⟨⟨fr,h.cells hc⟩,hn⟩,Nat.le_refl _,fun _ b hb _=>⟨b,hb,rfl,rfl,rfl,rfl,fun _ hl=>hl⟩,fun _ hc=>h.q_ (Ow.lt ae hc)⟩
theorem fk.st {w w' :World} {c:Nat} (h:fk w w' c) {H:J} {φ :ag} {A:aj} (ae:St w H φ A):St w' H φ A:=by
 refine ⟨ae.inj,ae.own,fun c' hc=>Nat.lt_of_lt_of_le (ae.b7 c' hc) h.size,fun id loc hl=> ?_⟩
 obtain ⟨b,hb,af⟩:=ae.ap id loc hl;refine ⟨b,hb,af.ad,af.sized,af.aP,fun c' b0 he=> ?_⟩
 obtain ⟨arr,T,fr,k1,k2,k3,k4⟩:=af.here c' b0 he
 exact ⟨arr,T,fr,h.cells k1,k2,k3,fun i x j y v hx hy hv=>⟨(k4 i x j y v hx hy hv).1.mono (h.bF ae),(k4 i x j y v hx hy hv).2⟩⟩
theorem fk.out {w0 w w' :World} {c:Nat} (h:fk w w' c) {H0 H:J} {aE φ :ag} {A0 A:aj} (h0:St w0 H0 aE A0) (hc:w0.heap.size≤c) (ho:Out w0 H0 aE A0 w H φ A):Out w0 H0 aE A0 w' H φ A where
 st:=h.st ho.st
 post:=⟨h.os.trans ho.post.os,h.tape.trans ho.post.tape,h.output.trans ho.post.output,Nat.le_trans ho.post.size h.size,
  fun c' eg hn=>(h.kept c' (by omega) (Nat.lt_of_lt_of_le eg ho.post.size)).trans (ho.post.kept c' eg hn),
  fun c' eg=>(h.q_ (Nat.lt_of_lt_of_le eg ho.post.size)).trans (ho.post.aR c' eg),ho.post.own⟩
 bF:=ho.bF.trans (h.bF ho.st) fun c' eg=>(h.q_ (Nat.lt_of_lt_of_le (Ow.lt h0 eg) ho.post.size)).trans (ho.bF.sz c' eg)
 keep:=ho.keep
theorem Bx (p:hJ) (x y1 y2:Code) (ax ay:AC):h_ p x (.seq y1 y2) ax ay= .seq ax ay:=by
 unfold h_;split
 ·rfl
 ·cases x<;>try rfl
  rename_i draw;cases draw<;>rfl
theorem By (p:hJ) (x y:Code) (ax ay:AC):h_ p x y ax ay= .seq ax ay∨ ∃id ops b0 bJ dc y1 y2 b kp sp r2 c pre x0 T t u rest,x= .region id ops false∧y= .block b0 (.loop (.seq (.region bJ dc false) (.seq y1 y2)))∧
 ay= .block b kp (.loop sp (.seq r2 c))∧nk ops.toList dc.toList (.seq y1 y2)=some (pre,x0,T,t,u,rest)∧
 h_ p x y ax ay= .seq (.region id pre.toArray false [] [] []) (.block b kp (.kV x0 T t u sp (.seq (.region bJ rest.toArray false [] [] []) c))):=by
 unfold h_;split
 ·exact .inl rfl
 ·split
  ·split
   ·split
    ·rename_i he;exact .inr ⟨_,_,_,_,_,_,_,_,_,_,_,_,_,_,_,_,_,_,rfl,rfl,rfl,he,rfl⟩
    ·exact .inl rfl
   ·exact .inl rfl
  ·exact .inl rfl
theorem Bz {ops dc:List Oper} {y:Code} {pre:List Oper} {x:Operand} {T:TypeId} {t u:Nat} {rest:List Oper} (h:nk ops dc y=some (pre,x,T,t,u,rest)):
 ∃ro no,ops=pre ++ [ro]∧dc=no::rest∧ro.op= .range T x∧ro.dst=some t∧no.op= .next (.tmp t) true∧no.dst=some u∧u≠t∧(∀o∈ops,o.guard=none)∧(∀o∈dc,o.guard=none)∧(∀o∈rest,o.dst≠some t)∧dH t y=true:=by
 unfold nk at h;split at h
 ·rename_i ro no Ef hl
  obtain ⟨ys,rfl⟩:=List.getLast?_eq_some_iff.1 hl;split at h
  ·rename_i T' x' t1 t2 u' e1 e2 e3 e4
   split at h
   ·rename_i hc;simp only [Option.some.injEq,Prod.mk.injEq] at h;obtain ⟨h1,rfl,rfl,rfl,rfl,rfl⟩:=h;simp only [List.dropLast_concat] at h1;subst h1;simp only [Bool.and_eq_true,beq_iff_eq,Bool.not_eq_true',List.all_eq_true,Option.isNone_iff_eq_none,beq_eq_false_iff_ne] at hc;obtain ⟨⟨⟨⟨⟨rfl,c2⟩,c3⟩,c4⟩,c5⟩,c6⟩:=hc;exact ⟨ro,no,rfl,rfl,e1,e2,e3,e4,c2,c3,c4,c5,c6⟩
   ·simp at h
  ·simp at h
 ·simp at h
theorem BA {o:Oper} {ρ :Operand→Value} {T:TypeId} {x:Operand} {s:ByteArray} {w:World} (ho:o.op= .range T x) (hx: ρ x= .string s) (hu:(underlying T).run P w= .ok .string w):
 (execOp ρ o).run P w= .ok (.value (.pointer (some ⟨w.heap.size,0,none⟩))) (w.alloc (.stringIter s 0)):=by
 simp only [execOp,ho,hx,Instr.range,Sem.run_bind,hu,Result.andThen_ok,Sem.run_pure,run_newObj,World.alloc_eq]
theorem BB {o:Oper} {ρ :Operand→Value} {t:Tmp} {s:ByteArray} {n c:Nat} {w:World} {H:J} {φ :ag} {A:aj} (ho:o.op= .next (.tmp t) true) (hx: ρ (.tmp t)= .pointer (some ⟨c,0,none⟩)) (hc:w.heap[c]? =some (.stringIter s n)):
 ∃v w',(execOp ρ o).run P w= .ok (.value v) w' ∧R w' H φ A (eM s.data.toList n) v∧fk w w' c∧w'.heap[c]? =some (.stringIter s (j7 s.data.toList n)):=by
 have hl:s.data.toList.length=s.size:=by cases s;rfl
 have hs:(⟨s.data.toList.toArray⟩:ByteArray)=s:=by cases s;simp
 have az:c<w.heap.size:=(Array.getElem?_eq_some_iff.1 hc).1;have eT: ∀arr T fr,w.heap[c]? ≠some (.cells arr T fr):=fun arr T fr h=>by rw [hc] at h;simp at h
 by_cases h:n<s.size
 ·refine ⟨.tuple #[.bool true,.int .i64 n,.int .i32 (Utf8.decode s n).1],{w with heap:=w.heap.setIfInBounds c (.stringIter s (n+(Utf8.decode s n).2))},?_,?_,⟨rfl,rfl,rfl,by simp,fun c' aI uE=> ?_,eT,?_⟩,?_⟩
  ·simp only [execOp,ho,hx,Instr.next,getObj,setObj,Sem.run_bind,Sem.run,hc,Result.andThen,h,if_true]
   simp [goInt]
  ·rw [eM,hl,if_pos h,hs];refine .fr _ _ (.aD _ _ rfl fun i x v hx hv=> ?_)
   match i with
   |0=>simp at hx hv;subst hx;subst hv;exact .bool _
   |1=>simp at hx hv;subst hx;subst hv;exact .int _ _
   |2=>simp at hx hv;subst hx;subst hv;exact .int _ _
   |i+3=>simp at hx
  ·simp [Ne.symm aI]
  ·simp [VS.aR,az]
  ·rw [j7,hl,if_pos h,hs];simp [az]
 ·refine ⟨.tuple #[.bool false],w,?_,?_,⟨rfl,rfl,rfl,Nat.le_refl _,fun _ _ _=>rfl,eT,?_⟩,?_⟩
  ·simp only [execOp,ho,hx,Instr.next,getObj,setObj,Sem.run_bind,Sem.run,hc,Result.andThen,h,if_false]
   rfl
  ·rw [eM,hl,if_neg h];refine .fr _ _ (.aD _ _ rfl fun i x v hx hv=> ?_)
   match i with
   |0=>simp at hx hv;subst hx;subst hv;exact .bool _
   |i+1=>simp at hx
  ·simp [VS.aR,hc]
  ·rw [j7,hl,if_neg h];exact hc
theorem eS.kept {o:List (Nat×Value)} {a a' :Act} {l:List Oper} (h:eS o a) (hl: ∀q∈o,∀p∈l,p.dst≠some q.1) (hk: ∀t,(∀p∈l,p.dst≠some t)→a'.tmps[t]? =a.tmps[t]?):eS o a' :=
 fun q hq=>(hk q.1 (hl q hq)).trans (h q hq)
theorem jc.ra {o:List (Nat×Value)} {id:Nat} {ops:Array Oper} {draw:Bool} (h:jc o (.region id ops draw)): ∀q∈o,∀p∈ops.toList,p.dst≠some q.1:=fun q hq p hp=>by
 have:=h q hq;simp only [dH,List.all_eq_true] at this;simpa using this p hp
def BC (P:Program) (C:aJ) (X:bK) (p:hJ) (c:Code):Prop:=
 ∀(cp:Nat) (s:ah) (H:J) (K:Ex→ah→J→Prop) (Q:Exit→Act→World→Prop) (w:World) (φ :ag) (A:aj) (a:Act) (o:List (Nat×Value)),jc o c→eS o a→cT p c=true→aH X C (cN p cp c) s H K→St w H φ A→SF w H φ A s a→Ends o Q K w H φ A→c.wp P Q a w
theorem n_ {w:World} {H:J} {φ :ag} {A:aj} {s:ah} {a:Act} (kp:Option (List Nat)) (h:SF w H φ A s a):SF w H φ A (eZ kp s) a:=by
 cases kp with
 |none=>exact h
 |some l=>exact h.kill l
theorem oa {w:World} {H:J} {φ :ag} {A:aj} {s:ah} {a:Act} (sp:lS) (n:Nat) (h1:St w H φ A) (h2:SF w H φ A s a): ∃ φ1,Out w H φ A w (fq sp n s H).2 φ1 A∧SF w (fq sp n s H).2 φ1 A (fq sp n s H).1 a:=by
 unfold fq;by_cases ht:sp.trim=true
 ·have ho:=Bm h1 n;simp only [ht,if_true];exact ⟨_,ho,(h2.mono ho.bF).kill _⟩
 ·simp only [ht];exact ⟨φ,.refl h1,h2.kill _⟩
theorem rb (hE: ∀t ti,C.E t=some ti→aU P t ti) (hX: ∀f ys H K,X f ys H K→b_ P f ys H K) {ops ops' :Array Oper} {th:List Nat} {fz:List (Nat×List (List Nat×List Sh))} {K:ah→J→Prop} {Q:Exit→Act→World→Prop} {l l2:List Oper} {i:Nat} {s:ah} {H:J} {w:World} {φ :ag} {A:aj} {a:Act} {o:List (Nat×Value)}
 (hg:ops' =ops∨ ∀p∈l,p.guard=none) (hl: ∀q∈o,∀p∈l,p.dst≠some q.1) (hh:eS o a) (h:c7 X C ops' th fz K l i s H) (ae:St w H φ A) (hs:SF w H φ A s a)
 (hq: ∀s' H' ak A' a' w',Out w H φ A w' H' ak A' →SF w' H' ak A' s' a' →eS o a' →K s' H' →wpList P ops Q l2 a' w'):wpList P ops Q (l ++ l2) a w:=by
 have h1:=uD (Q:=fun e a' w' =>match e with| .normal=>eS o a' →wpList P ops Q l2 a' w' |e=>Q e a' w') hE hX l i s H w φ A a h ae hs fun s' H' ak A' a' w' k1 k2 k3 kh=>hq s' H' ak A' a' w' k1 k2 kh k3
 have h2:wpList P ops (fun e a' w' =>match e with| .normal=>eS o a' →wpList P ops Q l2 a' w' |e=>Q e a' w') l a w:=by
  rcases hg with rfl|hg
  ·exact h1
  ·exact uC l a w hg h1
 exact q8 (fun e he a w h=>by cases e<;>first|exact absurd rfl he|exact h) l a w h2 fun a' w' hk bZ=>bZ (hh.kept hl hk)
theorem uF {c:Code} {Q:Exit→Act→World→Prop} {m:Machine} {b:Frame} {k:List Item} {cs:List Frame} {e:Exit} {a1:Act} {w1:World}
 (fP:Exit.then (fun a1 w1=> ∀(b:Frame) (k:List Item) (cs:List Frame),∃e a' w',Q e a' w' ∧Arrives P (lone (b.at a1 (.code c:: .inLoop c::k)) cs w1) b k cs e a' w') Q e a1 w1) (df:Arrives P m b (.inLoop c::k) cs e a1 w1): ∃e a' w',Q e a' w' ∧Arrives P m b k cs e a' w' :=by
 cases e with
 |normal=>
  obtain ⟨BD,a₂,BE,BF,BG⟩:=fP b k cs;exact ⟨BD,a₂,BE,BF,.of_steps (Steps.trans df (.one step_inLoop)) BG⟩
 |exit id=>exact ⟨_,a1,w1,fP,.pass (x:= .inLoop c) rfl (fun _ _=> .inl (by simp)) df⟩
 |goto l=>exact ⟨_,a1,w1,fP,.pass (x:= .inLoop c) rfl (fun _ _=> .inl (by simp)) df⟩
 |ret=>exact ⟨_,a1,w1,fP,.pass (x:= .inLoop c) rfl (fun _ _=> .inl (by simp)) df⟩
 |panic ch=>exact ⟨_,a1,w1,fP,.pass (x:= .inLoop c) rfl (fun _ _=> .inl (by simp)) df⟩
 |outgrown=>exact ⟨_,a1,w1,fP,.pass (x:= .inLoop c) rfl (fun _ _=> .inl (by simp)) df⟩
theorem BH (hm:P.follows .mixedOrders=true) (hE: ∀t ti,C.E t=some ti→aU P t ti) (hX: ∀f ys H K,X f ys H K→b_ P f ys H K) (hD:mB P C X) (p:hJ):
 ∀(n:Nat) (c:Code),SizeOf.sizeOf c<n→BC P C X p c:=by
 intro n;induction n with
 |zero=>intro c hn;exact absurd hn (Nat.not_lt_zero _)
 |succ n IH=>
 intro c hn;cases c with
 |skip=>intro cp s H K Q w φ A a o hf hh ho h ae hs hq;exact wp_skip (hq .normal s H φ A a w (.refl ae) hs hh h)
 |ret=>intro cp s H K Q w φ A a o hf hh ho h ae hs hq;exact wp_ret (hq .ret s H φ A a w (.refl ae) hs hh h)
 |exit id=>intro cp s H K Q w φ A a o hf hh ho h ae hs hq;exact wp_exit (hq (.exit id) s H φ A a w (.refl ae) hs hh h)
 |seq x y=>
  simp only [Code.seq.sizeOf_spec] at hn;have BI:=IH x (by omega)
  have rf:=IH y (by omega)
  intro cp s H K Q w φ A a o hf hh ho h ae hs hq;have uG:jc o x:=fun q h=>by have:=hf q h;simp only [dH,Bool.and_eq_true] at this;exact this.1
  have mC:jc o y:=fun q h=>by have:=hf q h;simp only [dH,Bool.and_eq_true] at this;exact this.2
  simp only [cN] at h;simp only [cT,Bool.and_eq_true] at ho;rcases By p x y (cN p cp x) (cN p cp y) with e|⟨id,ops,b0,bJ,dc,y1,y2,b,kp,sp,r2,c,pre,x0,T,t,u,rest,rfl,rfl,uH,hr,he⟩
  ·rw [e] at h;simp only [aH] at h;refine wp_seq (BI cp s H _ _ w φ A a o uG hh ho.1 h ae hs fun e s' H' ak A' a' w' h1 h2 bZ h3=> ?_)
   cases e with
   |normal=>exact rf cp s' H' K Q w' ak A' a' o mC bZ ho.2 h3 h1.st h2 (Ends.trans ae h1 hq)
   |exit id=>exact hq (.exit id) s' H' ak A' a' w' h1 h2 bZ h3
   |ret=>exact hq .ret s' H' ak A' a' w' h1 h2 bZ h3
  ·
   rw [he] at h;obtain ⟨ro,no,e1,e2,e3,e4,e5,e6,BJ,hg,ij,hw,BK⟩:=Bz hr;simp only [cN,Bx,AC.block.injEq,AC.loop.injEq,AC.seq.injEq] at uH;obtain ⟨rfl,rfl,rfl,_,rh⟩:=uH;have aC:SizeOf.sizeOf (Code.seq y1 y2)<n:=by
    simp only [Code.block.sizeOf_spec,Code.loop.sizeOf_spec,Code.seq.sizeOf_spec] at hn⊢;omega
   have fQ:=IH (.seq y1 y2) aC;have ey:=uG.ra;have uI: ∀q∈o,∀p∈dc.toList,p.dst≠some q.1:=jc.ra (id:=bJ) (draw:=false) fun q h=>by have:=mC q h;simp only [dH,Bool.and_eq_true] at this;simpa only [dH] using this.1
   have BL: ∀q∈o,dH q.1 (.seq y1 y2)=true:=fun q h=>by have:=mC q h;simp only [dH,Bool.and_eq_true] at this⊢;exact this.2
   simp only [cT,Bool.and_eq_true] at ho;simp only [aH] at h;refine wp_seq (wp_region_list ?_);rw [e1] at hg ey⊢;refine rb hE hX (ops' :=pre.toArray) (.inr fun q hq=>hg q (List.mem_append_left _ hq)) (fun q hq p hp=>ey q hq p (List.mem_append_left _ hp)) hh h ae hs fun s1 H1 φ1 A1 a1 w1 g1 g2 g3 g4=> ?_
   split at g4
   ·rename_i ti l kr mD;obtain ⟨BM,ek,g4⟩:=g4;have hv:=g2.ev x0;rw [mD] at hv;obtain ⟨sB,BN,rfl⟩:=hv.fb;have cU:=BA (P:=P) (o:=ro) (ρ :=a1.eval) (w:=w1) e3 BN ((hE _ _ kr).jw w1 BM);have cv:fk w1 (w1.alloc (.stringIter sB 0)) w1.heap.size:=Bv w1 _ rfl;have BO:(w1.alloc (.stringIter sB 0)).heap[w1.heap.size]? =some (.stringIter sB 0):=Array.getElem?_push_size;have dx:w.heap.size≤w1.heap.size:=g1.post.size;generalize Eg:w1.heap.size=cc at*;simp only [wpList];rw [if_pos (by simp [Region.wanted,hg ro (by simp)])]
    refine .inl ?_;unfold Oper.wp;rw [cU,Oper.upon_value,e4];simp only [Exit.then];refine wp_block ?_;have uJ:=cv.out ae dx g1;have eO:SF (w1.alloc (.stringIter sB 0)) H1 φ1 A1 (s1.set t .undef) (a1.put (some t) (.pointer (some ⟨cc,0,none⟩))):=(g2.mono (cv.bF g1.st)).set (some t) (.fr _ _ (.undef _));have ob:eS ((t,.pointer (some ⟨cc,0,none⟩))::o) (a1.put (some t) (.pointer (some ⟨cc,0,none⟩))):=by
     intro q hq;rcases List.mem_cons.1 hq with rfl|hq
     ·simp only [Act.put,Array.getElem?_setIfInBounds,if_true];rw [if_pos (by rw [←g2.len];exact ek)]
     ·have:=ey q hq ro (by simp)
      rw [e4] at this;exact (lv this).trans (g3 q hq)
    have main:=g4 (fun n s2 H2=> ∀(w2:World) (bf:ag) (A2:aj) (a2:Act),SF w2 H2 bf A2 s2 a2→Out w H φ A w2 H2 bf A2→eS ((t,.pointer (some ⟨cc,0,none⟩))::o) a2→w2.heap[cc]? =some (.stringIter sB n)→
     ∀(b:Frame) (k:List Item) (cs:List Frame),∃e a' gu,Exit.inBlock b0 Q e a' gu∧Arrives P (lone (b.at a2 (.code (.seq (.region bJ dc false) (.seq y1 y2)):: .inLoop (.seq (.region bJ dc false) (.seq y1 y2))::k)) cs w2) b k cs e a' gu) (fun n s2 H2 hB w2 bf A2 a2 eO bq ob hit b k cs=>by
      have hx:a2.eval (.tmp t)= .pointer (some ⟨cc,0,none⟩):=by
       have:=ob _ List.mem_cons_self;simp only [Act.eval,Array.getD_eq_getD_getElem?];rw [this];rfl
      obtain ⟨v,w3,BP,BQ,uK,ri⟩:=BB (P:=P) (H:=H2) (φ :=bf) (A:=A2) e5 hx hit;have oc:=uK.out ae dx bq;have rj:SF w3 H2 bf A2 (s2.set u (eM sB.data.toList n)) (a2.put (some u) v):=(eO.mono (uK.bF bq.st)).set (some u) BQ;have BR:eS ((t,.pointer (some ⟨cc,0,none⟩))::o) (a2.put (some u) v):=by
       intro q hq;refine (lv ?_).trans (ob q hq);rcases List.mem_cons.1 hq with rfl|hq
       ·simp only [ne_eq,Option.some.injEq];exact BJ
       ·rw [←e6];exact uI q hq no (by rw [e2];simp)
      simp only at hB;have hwp:(Code.seq (.region bJ dc false) (.seq y1 y2)).wp P (Exit.then (fun a3 w3=> ∀(b:Frame) (k:List Item) (cs:List Frame),∃e a' gu,Exit.inBlock b0 Q e a' gu∧Arrives P (lone (b.at a3 (.code (.seq (.region bJ dc false) (.seq y1 y2)):: .inLoop (.seq (.region bJ dc false) (.seq y1 y2))::k)) cs w3) b k cs e a' gu) (Exit.inBlock b0 Q)) a2 w2:=by
       refine wp_seq (wp_region_list ?_);rw [e2];simp only [wpList];rw [if_pos (by simp [Region.wanted,ij no (by rw [e2];simp)])]
       refine .inl ?_;unfold Oper.wp;rw [BP,Oper.upon_value,e6];have:=rb (ops:=dc) (Q:=Exit.then (Code.wp P (.seq y1 y2) (Exit.then (fun a3 w3=> ∀(b:Frame) (k:List Item) (cs:List Frame),∃e a' gu,Exit.inBlock b0 Q e a' gu∧Arrives P (lone (b.at a3 (.code (.seq (.region bJ dc false) (.seq y1 y2)):: .inLoop (.seq (.region bJ dc false) (.seq y1 y2))::k)) cs w3) b k cs e a' gu) (Exit.inBlock b0 Q))) (Exit.then (fun a3 w3=> ∀(b:Frame) (k:List Item) (cs:List Frame),∃e a' gu,Exit.inBlock b0 Q e a' gu∧Arrives P (lone (b.at a3 (.code (.seq (.region bJ dc false) (.seq y1 y2)):: .inLoop (.seq (.region bJ dc false) (.seq y1 y2))::k)) cs w3) b k cs e a' gu) (Exit.inBlock b0 Q))) (l2:=[]) hE hX (.inr fun q hq=>ij q (by rw [e2];exact List.mem_cons_of_mem _ hq)) (fun q hq p hp=>by
        rcases List.mem_cons.1 hq with rfl|hq
        ·exact hw p hp
        ·exact uI q hq p (by rw [e2];exact List.mem_cons_of_mem _ hp)) BR hB oc.st rj fun s4 H4 od A4 a4 w4 k1 k2 k3 k4=>by
         refine fQ b0 s4 H4 _ _ w4 od A4 a4 _ (fun q hq=>by
          rcases List.mem_cons.1 hq with rfl|hq
          ·exact BK
          ·exact BL q hq) k3 (by simp only [cT,Bool.and_eq_true];exact ho.2.2) (rh▸k4) k1.st k2 fun e s' H' ak A' a' w' j1 j2 j3 j4=> ?_
         have BS:=oc.trans ae k1;have oe:=BS.trans ae j1;cases e with
         |normal=>
          obtain ⟨rk,m1,m2⟩:=oa _ H1.bs.length j1.st j2;refine j4 w' rk A' a' m2 (oe.trans ae m1) j3 ?_
          have hk:=(k1.trans oc.st j1).post.kept cc (Array.getElem?_eq_some_iff.1 ri).1 (fun ho=>by
           obtain ⟨id,b1,br⟩:=ho;obtain ⟨bb,_,af⟩:=oc.st.ap id _ br;obtain ⟨arr,T,fr,z,_⟩:=af.here cc b1 rfl;rw [ri] at z;simp at z)
          rw [hk];exact ri
         |exit j=>
          have uL:eS o a' :=fun q hq=>j3 q (List.mem_cons_of_mem _ hq)
          simp only at j4;simp only [nZ,Exit.then,Exit.inBlock];split at j4
          ·rename_i hj;rw [if_pos hj];exact hq .normal _ H' ak A' a' w' oe (n_ _ j2) uL j4
          ·rename_i hj;rw [if_neg hj];exact hq (.exit j) s' H' ak A' a' w' oe j2 uL j4
         |ret=>exact hq .ret s' H' ak A' a' w' oe j2 (fun q hq=>j3 q (List.mem_cons_of_mem _ hq)) j4
       simpa using this
      obtain ⟨e,a1,w1,fP,df⟩:=hwp b (.inLoop _::k) cs;exact uF fP df)
    intro b k cs;obtain ⟨cX,k1,k2⟩:=oa _ H1.bs.length uJ.st eO;obtain ⟨e,a',w',rl,df⟩:=main _ cX A1 _ k2 (uJ.trans ae k1) ob BO b k cs;exact ⟨e,a',w',rl,.of_steps (.one step_loop) df⟩
   ·exact g4.elim
 |cond x y z=>
  simp only [Code.cond.sizeOf_spec] at hn;have rf:=IH y (by omega)
  have BT:=IH z (by omega)
  intro cp s H K Q w φ A a o hf hh ho h ae hs hq;have mC:jc o y:=fun q h=>by have:=hf q h;simp only [dH,Bool.and_eq_true] at this;exact this.1
  have gS:jc o z:=fun q h=>by have:=hf q h;simp only [dH,Bool.and_eq_true] at this;exact this.2
  simp only [cT,Bool.and_eq_true] at ho;have key: ∀(K:Ex→ah→J→Prop),aH X C (.cond x (cN p cp y) (cN p cp z)) s H K→Ends o Q K w H φ A→(Code.cond x y z).wp P Q a w:=by
   intro K h hq;simp only [aH] at h;split at h
   ·rename_i t ht;have hv:=hs.ev x;rw [ht] at hv;refine wp_cond hv.fK ?_;cases t with
    |true=>exact rf cp s H K Q w φ A a o mC hh ho.1 h ae hs hq
    |false=>exact BT cp s H K Q w φ A a o gS hh ho.2 h ae hs hq
   ·exact h.elim
  simp only [cN] at h;unfold ni at h;split at h
  ·rename_i kp _;simp only [aH,de] at h;refine key _ h fun e s' H' ak A' a' w' h1 h2 bZ h3=> ?_
   cases e with
   |normal=>exact hq .normal _ H' ak A' a' w' h1 (h2.kill kp) bZ h3
   |exit id=>exact hq (.exit id) s' H' ak A' a' w' h1 h2 bZ h3
   |ret=>exact hq .ret s' H' ak A' a' w' h1 h2 bZ h3
  ·exact key K h hq
 |block id x=>
  simp only [Code.block.sizeOf_spec] at hn;have ih:=IH x (by omega)
  intro cp s H K Q w φ A a o hf hh ho h ae hs hq;simp only [cN,aH] at h;simp only [cT] at ho;refine wp_block (ih id s H _ _ w φ A a o (fun q h=>by have:=hf q h;simpa only [dH] using this) hh ho h ae hs fun e s' H' ak A' a' w' h1 h2 bZ h3=> ?_)
  cases e with
  |normal=>exact hq .normal _ H' ak A' a' w' h1 (n_ _ h2) bZ h3
  |exit j=>
   simp only at h3;simp only [nZ,Exit.inBlock];split at h3
   ·rename_i hj;rw [if_pos hj];exact hq .normal _ H' ak A' a' w' h1 (n_ _ h2) bZ h3
   ·rename_i hj;rw [if_neg hj];exact hq (.exit j) s' H' ak A' a' w' h1 h2 bZ h3
  |ret=>exact hq .ret s' H' ak A' a' w' h1 h2 bZ h3
 |loop c=>
  simp only [Code.loop.sizeOf_spec] at hn;have ih:=IH c (by omega)
  intro cp s H K Q w φ A a o hf hh ho h ae hs hq;have BU:jc o c:=fun q h=>by have:=hf q h;simpa only [dH] using this
  simp only [cN,aH] at h;intro b k cs;have main:=h (fun s H=> ∀(w:World) (φ :ag) (A:aj) (a:Act),St w H φ A→SF w H φ A s a→eS o a→Ends o Q K w H φ A→
   ∀(b:Frame) (k:List Item) (cs:List Frame),∃e a' w',Q e a' w' ∧Arrives P (lone (b.at a (.code c:: .inLoop c::k)) cs w) b k cs e a' w') (fun s H hB w φ A a ae hs hh hq b k cs=>by
    obtain ⟨e,a1,w1,fP,df⟩:=ih cp s H _ (Exit.then (fun a1 w1=> ∀(b:Frame) (k:List Item) (cs:List Frame),∃e a' w',Q e a' w' ∧Arrives P (lone (b.at a1 (.code c:: .inLoop c::k)) cs w1) b k cs e a' w') Q) w φ A a o BU hh (by simpa only [cT] using ho) hB ae hs (fun e s' H' ak A' a' w' h1 h2 bZ h3=>by
     cases e with
     |normal=>
      obtain ⟨φ1,k1,k2⟩:=oa ((p.loops.lookup cp).getD {}) _ h1.st h2;exact h3 w' φ1 A' a' k1.st k2 bZ (Ends.trans ae (h1.trans ae k1) hq)
     |exit id=>exact hq (.exit id) s' H' ak A' a' w' h1 h2 bZ h3
     |ret=>exact hq .ret s' H' ak A' a' w' h1 h2 bZ h3) b (.inLoop c::k) cs
    exact uF fP df)
  obtain ⟨φ1,k1,k2⟩:=oa ((p.loops.lookup cp).getD {}) H.bs.length ae hs;obtain ⟨e,a',w',rl,df⟩:=main w φ1 A a k1.st k2 hh (Ends.trans ae k1 hq) b k cs;exact ⟨e,a',w',rl,.of_steps (.one step_loop) df⟩
 |region id ops draw=>
  intro cp s H K Q w φ A a o hf hh ho h ae hs hq;have hl:=hf.ra;have key: ∀(K:Ex→ah→J→Prop),aH X C (jt (p.pu.lookup id) ((p.fz.lookup id).getD []) id (gD (p.hM.lookup id) ops) draw) s H K→Ends o Q K w H φ A→(Code.region id ops draw).wp P Q a w:=by
   intro K h hq;cases draw with
   |false=>
    have eT:gD (p.hM.lookup id) ops=ops:=by
     simp only [cT] at ho;cases hl:p.hM.lookup id with
     |none=>rfl
     |some π =>rw [hl] at ho;simp at ho
    rw [eT] at h;have h' :c7 X C ops (match p.pu.lookup id with|some (_,th)=>th|none=>[]) ((p.fz.lookup id).getD []) (fun s H=>K .normal s H) ops.toList 0 s H:=by
     unfold jt at h;split at h
     ·rename_i n th he;rw [he];exact h
     ·rename_i he;rw [he];exact h
    have:=rb (Q:=Q) (l2:=[]) hE hX (.inl rfl) hl hh h' ae hs fun s' H' ak A' a' w' h1 h2 bZ h3=>hq .normal s' H' ak A' a' w' h1 h2 bZ h3
    exact wp_region_list (by simpa using this)
   |true=>
    have h' : ∃q th,jv (gD (p.hM.lookup id) ops) q=true∧dt X C (gD (p.hM.lookup id) ops) (fun i=> !q.contains i) (gF (gD (p.hM.lookup id) ops) q) th (fun s H=>K .normal s H) (gD (p.hM.lookup id) ops).toList 0 s H:=by
     unfold jt at h;split at h
     ·exact ⟨_,_,h.1,h.2⟩
     ·exact ⟨_,_,h.1,h.2⟩
    obtain ⟨q,th,hd,h'⟩:=h';have hw:=hD _ q th s H _ (fun e a' w' =>match e with| .normal=>eS o a' →Q .normal a' w' |e=>Q e a' w') w φ A a hd h' ae hs fun s' H' ak A' a' w' h1 h2 h3 bZ=>hq .normal s' H' ak A' a' w' h1 h2 bZ h3
    refine wp_region_any hm ?_;refine n9 (Q:=fun e a' w' =>match e with| .normal=>eS o a' →Q .normal a' w' |e=>Q e a' w') (fun e he a w h=>by cases e<;>first|exact absurd rfl he|exact h) _ _ a _ ?_ fun a' w' hk bZ=>bZ (hh.kept hl hk)
    simp only [cT] at ho;cases hl:p.hM.lookup id with
    |none=>rw [hl] at hw;exact hw
    |some π =>
     rw [hl] at hw ho;simp only [Bool.true_and] at ho;exact Bl (Bf ho) hw
  simp only [cN] at h;unfold kW at h;split at h
  ·rename_i l kp _;simp only [aH] at h;refine key _ h fun e s' H' ak A' a' w' h1 h2 bZ h3=> ?_
   cases e with
   |normal=>
    simp only at h3;split at h3
    ·rename_i s2 H2 hf;obtain ⟨bf,A2,k1,k2⟩:=mA l h1.st h2 hf;exact hq .normal _ H2 bf A2 a' w' (h1.trans ae k1) (n_ kp k2) bZ h3
    ·exact h3.elim
   |exit id=>exact hq (.exit id) s' H' ak A' a' w' h1 h2 bZ h3
   |ret=>exact hq .ret s' H' ak A' a' w' h1 h2 bZ h3
  ·exact key K h hq
 |_=>intro cp s H K Q w φ A a o hf hh ho h ae hs hq;simp only [cN,aH] at h
theorem uM (hm:P.follows .mixedOrders=true) (hE: ∀t ti,C.E t=some ti→aU P t ti) (hX: ∀f ys H K,X f ys H K→b_ P f ys H K) (hD:mB P C X) (p:hJ)
 (c:Code) (cp:Nat) (s:ah) (H:J) (K:Ex→ah→J→Prop) (Q:Exit→Act→World→Prop) (w:World) (φ :ag) (A:aj) (a:Act) (ho:cT p c=true) (h:aH X C (cN p cp c) s H K) (ae:St w H φ A) (hs:SF w H φ A s a)
 (hq: ∀e s' H' ak A' a' w',Out w H φ A w' H' ak A' →SF w' H' ak A' s' a' →K e s' H' →Q (nZ e) a' w'):c.wp P Q a w:=
 BH hm hE hX hD p _ c (Nat.lt_succ_self _) cp s H K Q w φ A a [] (fun q h=>by simp at h) (fun q h=>by simp at h) ho h ae hs fun e s' H' ak A' a' w' h1 h2 _ h3=>hq e s' H' ak A' a' w' h1 h2 h3
end code
end Go.VS
namespace Go.VS
section body
variable {P:Program} {C:aJ} {X:bK}
theorem rm (hE: ∀t ti,C.E t=some ti→aU P t ti) {w:World} {H:J} {φ :ag} {A:aj} {s:ah} {a:Act} (ae:St w H φ A) (hs:SF w H φ A s a) {f:ResultVar→Sem Value} (kt: ∀t,f (.tmp t)=pure (a.tmps.getD t undef)) (mE: ∀x t,f (.cell x t)=(do loadVar t (←asAddr (a.tmps.getD x undef)))):
 ∀(l:List ResultVar) (rs:List AV),ef C.E s H l=some rs→
 ∃cR:List Value,(l.mapM f).run P w= .ok cR w∧rs.length=cR.length∧ ∀(i:Nat) (x:AV) (u:Value),rs[i]? =some x→cR[i]? =some u→R w H φ A x u
 |[],rs,h=>by
  simp only [ef,Option.some.injEq] at h;subst h;exact ⟨[],by simp,rfl,by simp⟩
 | .tmp t::l,rs,h=>by
  simp only [ef,Option.map_eq_some_iff] at h;obtain ⟨rn,h1,rfl⟩:=h;obtain ⟨cR,k1,k2,k3⟩:=rm hE ae hs kt mE l rn h1
  refine ⟨a.tmps.getD t undef::cR,by simp [List.mapM_cons,k1,kt],by simp [k2],fun i x u hx hu=> ?_⟩
  cases i with
  |zero=>simp at hx hu;subst hx;subst hu;have:=hs.ev (.tmp t);simpa [ev,Act.eval] using this
  |succ i=>exact k3 i x u hx hu
 | .cell b t::l,rs,h=>by
  simp only [ef] at h;split at h
  ·rename_i v H' he
   simp only [Option.map_eq_some_iff] at h;obtain ⟨rn,h1,rfl⟩:=h;obtain ⟨cR,k1,k2,k3⟩:=rm hE ae hs kt mE l rn h1
   have hb:=hs.ev (.tmp b);simp only [aQ] at he;obtain ⟨u,hu,hr⟩:=sN (P:=P) hE ae (bg.refl H) hb he;have aO:(do loadVar t (←asAddr (a.tmps.getD b undef)):Sem Value).run P w= .ok u w:=by
    revert hu;simp only [Act.eval];unfold Instr.loadAt;generalize a.tmps.getD b undef=q;intro hu;cases q with
    |pointer o=>cases o with
     |none=>simp [Instr.sureAddr] at hu
     |some o=>simpa [Instr.sureAddr,asAddr] using hu
    |_=>simp [Instr.sureAddr] at hu
   refine ⟨u::cR,by rw [List.mapM_cons,mE,Sem.run_bind,aO];simp [k1],by simp [k2],fun i x u' hx aO=> ?_⟩
   cases i with
   |zero=>simp at hx aO;subst hx;subst aO;exact hr
   |succ i=>exact k3 i x u' hx aO
  ·simp at h
theorem uN (hE: ∀t ti,C.E t=some ti→aU P t ti) {w:World} {H:J} {φ :ag} {A:aj} {s:ah} {a:Act} (ae:St w H φ A) (hs:SF w H φ A s a) {fn:Func} {rs:List AV} (h:ef C.E s H fn.results.toList=some rs):
 ∃cR:List Value,(results fn a.tmps).run P w= .ok (iZ cR) w∧rs.length=cR.length∧ ∀(i:Nat) (x:AV) (u:Value),rs[i]? =some x→cR[i]? =some u→R w H φ A x u:=by
 obtain ⟨f,kt,mE,BV⟩: ∃f:ResultVar→Sem Value,(∀t,f (.tmp t)=pure (a.tmps.getD t undef))∧(∀x t,f (.cell x t)=(do loadVar t (←asAddr (a.tmps.getD x undef))))∧
  results fn a.tmps=(do let vs←fn.results.mapM f;pure (if h:vs.size=1 then vs[0] else .tuple vs)):=⟨_,fun _=>rfl,fun _ _=>rfl,rfl⟩
 obtain ⟨cR,h1,h2,h3⟩:=rm hE ae hs kt mE fn.results.toList rs h;refine ⟨cR,?_,h2,h3⟩;rw [BV,Sem.run_bind,Array.mapM_eq_mapM_toList,Sem.run_map,h1]
 match cR with
 |[]=>simp [iZ]
 |[u]=>simp [iZ]
 |u::u' ::us=>simp [iZ]
theorem BW (hm:P.follows .mixedOrders=true) (hE: ∀t ti,C.E t=some ti→aU P t ti) (hC: ∀f fn,C.code f=some fn→P.funcs[f]? =some fn∧(fn.name== "runtime.NumGoroutine")=false∧pw (C.fU f) fn=true) (hX: ∀f ys H K,X f ys H K→b_ P f ys H K) (hD:mB P C X)
 {f:FuncId} {ys:List AV} {H:J} {K:AV→J→Prop} (h:Body X C f ys H K):b_ P f ys H K:=by
 unfold Body at h;split at h
 ·exact h.elim
 rename_i fn l4;split at h
 ·exact h.elim
 rename_i c hc;obtain ⟨hf,rq,mF⟩:=hC f fn l4;have mF:cT (C.fU f) c=true:=by unfold pw at mF;rw [hc] at mF;exact mF
 refine ⟨⟨fn,hf,rq,by simp [hc]⟩,fun w A φ us ae hl hr=> ?_⟩
 refine calls_of_wp hf hc (uM hm hE hX hD (C.fU f) c 0 _ H _ _ w φ A _ mF h ae ⟨by simp [hl],fun t x v hx hv=> ?_,rfl⟩ ?_)
 ·rcases Nat.lt_or_ge t us.size with ht|ht
  ·rw [List.getElem?_append_left (by rw [hl];exact ht)] at hx
   rw [Array.getElem?_append_left ht] at hv;exact hr t x v hx hv
  ·rw [List.getElem?_append_right (by rw [hl];exact ht)] at hx
   have:x= .undef:=by
    rw [List.getElem?_replicate] at hx;split at hx<;>simp at hx;exact hx.symm
   subst this;exact .fr _ _ (.undef _)
 ·intro e s' H' ak A' a' w' h1 h2 h3
  have fin:(∃rs,ef C.E s' H' fn.results.toList=some rs∧K (ci rs) H')→a'.defers=[]∧ ∃v,(results fn a'.tmps).run P w' = .ok v w' ∧jI w H φ A K (.returned v) w' :=by
   rintro ⟨rs,eR,hk⟩;refine ⟨h2.fA,?_⟩;obtain ⟨cR,k1,k2,k3⟩:=uN (P:=P) hE h1.st h2 eR;exact ⟨_,k1,_,H',ak,A',h1,qK k2 k3,hk⟩
  cases e with
  |normal=>exact fin h3
  |ret=>exact fin h3
  |exit id=>exact h3.elim
end body
end Go.VS
namespace Go.VS
def gw (H H1:J):Prop:=bg H H1∧H.bs.length≤H1.bs.length
theorem bg.trans {H H1 H2:J} (h:bg H H1) (k:bg H1 H2):bg H H2:=⟨fun id b hb=>k.1 id b (h.1 id b hb),Nat.le_trans h.2 k.2⟩
theorem gw.refl (H:J):gw H H:=⟨bg.refl _,Nat.le_refl _⟩
theorem gw.trans {H H1 H2:J} (h:gw H H1) (k:gw H1 H2):gw H H2:=⟨h.1.trans k.1,Nat.le_trans h.2 k.2⟩
theorem gw.new (H:J) (sz:Nat) (fx:Bool) (el:List AV):gw H (H.new sz fx el):=⟨J.pO H sz fx el,by simp [J.new]⟩
mutual
theorem rr: ∀(y:AV) (H:J),gw H (aL y H).2
 | .own sz xs,H=>by simp only [aL];exact (jJ xs H).trans (.new _ _ _ _)
 | .dQ sz x,H=>by simp only [aL];exact (rr x H).trans (.new _ _ _ _)
 | .agg xs,H=>by simp only [aL];exact jJ xs H
 | .aD xs,H=>by simp only [aL];exact jJ xs H
 | .undef,H=> .refl _
 | .int _ _,H=> .refl _
 | .bool _,H=> .refl _
 | .str _,H=> .refl _
 | .nil,H=> .refl _
 | .e0,H=> .refl _
 | .fz _,H=> .refl _
 | .ref _ _ _ _,H=> .refl _
 | .ptr _ _ _ _,H=> .refl _
 | .fe _ _,H=> .refl _
 | .fn _ _,H=> .refl _
 | .cB _,H=> .refl _
 | .eb,H=> .refl _
theorem jJ: ∀(ys:List AV) (H:J),gw H (aM ys H).2
 |[],H=> .refl _
 |y::ys,H=>by simp only [aM];exact (rr y H).trans (jJ ys _)
end
structure GH (G:J) (φ :ag) (H H1:J):Prop where
 ext:bg H1 G
 none: ∀id,H.bs.length≤id→id<H1.bs.length→ φ id=none
theorem lx (H:J) (sz:Nat) (fx:Bool) (el:List AV):(H.new sz fx el).bs.length=H.bs.length+1:=by simp [J.new]
theorem GH.fst {G:J} {φ :ag} {H H1 H2:J} (h:GH G φ H H2) (k:gw H1 H2):GH G φ H H1:=⟨k.1.trans h.ext,fun id h1 h2=>h.none id h1 (Nat.lt_of_lt_of_le h2 k.2)⟩
section bI
variable {w:World}
structure MG (w:World) (L:J) (φL:ag) (AL:aj) (G:J) (φ :ag) (AH:aj) (L1:J) (φ1:ag) (lo hi:Nat):Prop where
 less:bL L L1
 bI:cb w L1 (aF φL L1) AL G φ1 AH
 oh: ∀c,Ow φ1 c→Ow φ c∨(Ow φL c∧ ¬Ow (aF φL L1) c)
 iT: ∀c,Ow φ c→Ow φ1 c
 cd: ∀id loc,φ id=some loc→ φ1 id=some loc
 new: ∀id loc,φ1 id=some loc→ φ id=some loc∨(lo≤id∧id<hi)
 le:lo≤hi
theorem MG.eh {L:J} {φL:ag} {AL:aj} {G:J} {φ :ag} {AH:aj} {L1:J} {φ1:ag} {lo hi:Nat} (m:MG w L φL AL G φ AH L1 φ1 lo hi):bM w G φ AH w G φ1 AH:=
 ⟨fun _c _arr _T fr hc hn=>⟨⟨fr,hc⟩,hn⟩,Nat.le_refl _,fun id b hb _=>⟨b,hb,rfl,rfl,rfl,rfl,fun loc h=>m.cd id loc h⟩,fun _ _=>rfl⟩
theorem MG.refl {L:J} {φL:ag} {AL:aj} {G:J} {φ :ag} {AH:aj} (h:cb w L φL AL G φ AH) (lo:Nat):MG w L φL AL G φ AH L φ lo lo:=
 ⟨.refl _,⟨eE h.sl (.refl _),h.sh,fun c hc=>h.ck c (bO hc),fun c hc=>h.fh c (bO hc)⟩,fun _c hc=> .inl hc,fun _c hc=>hc,fun _ _ h=>h,fun _ _ h=> .inl h,Nat.le_refl _⟩
theorem MG.trans {L L1 L2:J} {φL:ag} {AL:aj} {G:J} {φ φ1 bf:ag} {AH:aj} {lo mi hi:Nat} (h:MG w L φL AL G φ AH L1 φ1 lo mi) (k:MG w L1 (aF φL L1) AL G φ1 AH L2 bf mi hi):MG w L φL AL G φ AH L2 bf lo hi:=by
 have hr:=gO (φ := φL) k.less;refine ⟨h.less.trans k.less,by rw [←hr];exact k.bI,fun c hc=> ?_,fun c hc=>k.iT c (h.iT c hc),fun id loc hl=>k.cd id loc (h.cd id loc hl),fun id loc hl=> ?_,Nat.le_trans h.le k.le⟩
 ·rcases k.oh c hc with h1|⟨h1,h2⟩
  ·rcases h.oh c h1 with h3|⟨h3,h4⟩
   ·exact .inl h3
   ·refine .inr ⟨h3,fun h5=>h4 ?_⟩;rw [←hr] at h5;exact bO h5
  ·rw [hr] at h2;exact .inr ⟨bO h1,h2⟩
 ·have h1:=h.le;have h2:=k.le;rcases k.new id loc hl with h3|⟨h3,h4⟩
  ·rcases h.new id loc h3 with h5|⟨h5,h6⟩
   ·exact .inl h5
   ·exact .inr ⟨h5,by omega⟩
  ·exact .inr ⟨by omega,h4⟩
theorem GH.snd {L L1:J} {φL:ag} {AL:aj} {G:J} {φ φ1:ag} {AH:aj} {H H1 H2:J} (h:GH G φ H H2) (m:MG w L φL AL G φ AH L1 φ1 H.bs.length H1.bs.length):GH G φ1 H1 H2:=by
 refine ⟨h.ext,fun id h1 h2=> ?_⟩;cases hp: φ1 id with
 |none=>rfl
 |some loc=>
  have hle:=m.le;rcases m.new id loc hp with h3|⟨_,h3⟩
  ·rw [h.none id (by omega) h2] at h3;simp at h3
  ·omega
theorem uO {L L1:J} {φL:ag} {AL:aj} {G:J} {φ φ1:ag} {AH:aj} {lo hi:Nat} (m:MG w L φL AL G φ AH L1 φ1 lo hi) {ad sz:Nat} {fx:Bool} {el:List AV} {loc:Loc} (hg:G.get hi=some ⟨ad,sz,fx,el⟩) (bN:ad<G.st) (iW: φ hi=none)
 (ej: ∀(i:Nat) (x:AV),el[i]? =some x→x.cells.length=sz) (hv:loc= .aP→el=[])
 (fi: ∀c b0,loc= .at_ c b0→Ow φL c∧ ¬Ow (aF φL L1) c∧ ¬Ow φ1 c∧AH c∧ ∃arr T fr,w.heap[c]? =some (.cells arr T fr)∧(∀j,j<arr.size+pad sz→ ¬(fr.1≤j∧j<fr.2))∧b0+el.length*sz≤arr.size∧
  ∀(i:Nat) (x:AV) (j:Nat) (y:AV) (v:Value),el[i]? =some x→x.cells[j]? =some y→arr[b0+i*sz+j]? =some v→R w G φ1 AH y v∧v.oneCell' =true):
 MG w L φL AL G φ AH L1 (fun i=>if i=hi then some loc else φ1 i) lo (hi+1):=by
 have gn:=m.bI.sh;have hle:=m.le;have bB: φ1 hi=none:=by
  cases hp: φ1 hi with
  |none=>rfl
  |some l=>
   rcases m.new hi l hp with h|⟨_,h⟩
   ·rw [iW] at h;simp at h
   ·omega
 have aS:bM w G φ1 AH w G (fun i=>if i=hi then some loc else φ1 i) AH:=by
  refine ⟨fun c a t fr hc hn=>⟨⟨fr,hc⟩,hn⟩,Nat.le_refl _,fun id b hb az=>⟨b,hb,rfl,rfl,rfl,rfl,fun l hl=> ?_⟩,fun _ _=>rfl⟩;rw [if_neg (by rintro rfl;rw [bB] at hl;simp at hl)];exact hl
 have ez: ∀c,Ow (fun i=>if i=hi then some loc else φ1 i) c→Ow φ1 c∨ ∃b0,loc= .at_ c b0:=by
  rintro c ⟨i,b,h⟩;try simp only at h
  split at h
  ·simp only [Option.some.injEq] at h;exact .inr ⟨b,h⟩
  ·exact .inl ⟨i,b,h⟩
 refine ⟨m.less,⟨m.bI.sl,⟨fun i i' c b b' h1 h2=> ?_,fun c hc=> ?_,gn.b7,fun i l hl=> ?_⟩,fun c hc ho=> ?_,m.bI.fh⟩,fun c hc=> ?_,fun c hc=> ?_,fun id l hl=> ?_,fun id l hl=> ?_,by omega⟩
 ·try simp only at h1 h2
  split at h1
  ·rename_i hi;split at h2
   ·rename_i fL;omega
   ·simp only [Option.some.injEq] at h1;exact absurd ⟨i',b',h2⟩ (fi c b h1).2.2.1
  ·split at h2
   ·simp only [Option.some.injEq] at h2;exact absurd ⟨i,b,h1⟩ (fi c b' h2).2.2.1
   ·exact gn.inj _ _ _ _ _ h1 h2
 ·rcases ez c hc with h|⟨b0,h⟩
  ·exact gn.own c h
  ·exact (fi c b0 h).2.2.2.1
 ·try simp only at hl
  split at hl
  ·rename_i hi;subst hi;simp only [Option.some.injEq] at hl;subst hl;refine ⟨_,hg,bN,ej,hv,fun c b0 he=> ?_⟩;obtain ⟨_,_,_,_,arr,T,fr,k1,k2,k3,k4⟩:=fi c b0 he;exact ⟨arr,T,fr,k1,k2,k3,fun j x q y v bQ hy cG=>⟨(k4 j x q y v bQ hy cG).1.mono aS,(k4 j x q y v bQ hy cG).2⟩⟩
  ·obtain ⟨bb,hb,af⟩:=gn.ap i l hl;refine ⟨bb,hb,af.ad,af.sized,af.aP,fun c b0 he=> ?_⟩;obtain ⟨arr,T,fr,k1,k2,k3,k4⟩:=af.here c b0 he;exact ⟨arr,T,fr,k1,k2,k3,fun j x q y v bQ hy cG=>⟨(k4 j x q y v bQ hy cG).1.mono aS,(k4 j x q y v bQ hy cG).2⟩⟩
 ·rcases ez c ho with h|⟨b0,h⟩
  ·exact m.bI.ck c hc h
  ·exact (fi c b0 h).2.1 hc
 ·rcases ez c hc with h|⟨b0,h⟩
  ·exact m.oh c h
  ·exact .inr ⟨(fi c b0 h).1,(fi c b0 h).2.1⟩
 ·obtain ⟨i,b,h⟩:=m.iT c hc
  exact ⟨i,b,by show (if i=hi then some loc else φ1 i)=_;rw [if_neg (by rintro rfl;rw [bB] at h;simp at h)];exact h⟩
 ·have:=m.cd id l hl;rw [if_neg (by rintro rfl;rw [bB] at this;simp at this)];exact this
 ·try simp only at hl
  split at hl
  ·rename_i hi;subst hi;exact .inr ⟨hle,Nat.lt_succ_self _⟩
  ·rcases m.new id l hl with h|⟨h1,h2⟩
   ·exact .inl h
   ·exact .inr ⟨h1,by omega⟩
set_option maxRecDepth 4000
theorem uP {es:List Sh} (hE: ∀(x:AV) (vs:List Value) (L:J) (φL:ag) (AL:aj) (H G:J) (φ :ag) (AH:aj) (y:AV) (L1:J) (a:AV) (H1:J),cb w L φL AL G φ AH→GH G φ H H1→x.cells.length=vs.length→
 (∀(j:Nat) (c:AV) (u:Value),x.cells[j]? =some c→vs[j]? =some u→R w L φL AL c u)→a8 es x L=some (y,L1)→aL y H=(a,H1)→gP AL AH y→
 ∃ φ1,MG w L φL AL G φ AH L1 φ1 H.bs.length H1.bs.length∧a.cells.length=x.cells.length∧ ∀(j:Nat) (c:AV) (u:Value),a.cells[j]? =some c→vs[j]? =some u→R w G φ1 AH c u):
 ∀(xs:List AV) (g:Nat→Nat→Value) (L:J) (φL:ag) (AL:aj) (H G:J) (φ :ag) (AH:aj) (ys:List AV) (L1:J) (as:List AV) (H1:J),cb w L φL AL G φ AH→GH G φ H H1→
  (∀(i:Nat) (x:AV) (j:Nat) (c:AV),xs[i]? =some x→x.cells[j]? =some c→R w L φL AL c (g i j))→dS (a8 es) xs L=some (ys,L1)→aM ys H=(as,H1)→eF AL AH ys→
  ∃ φ1,MG w L φL AL G φ AH L1 φ1 H.bs.length H1.bs.length∧as.length=xs.length∧(∀(i:Nat) (x a:AV),xs[i]? =some x→as[i]? =some a→a.cells.length=x.cells.length)∧
   ∀(i:Nat) (a:AV) (j:Nat) (c:AV),as[i]? =some a→a.cells[j]? =some c→R w G φ1 AH c (g i j)
 |[],g,L,φL,AL,H,G,φ,AH,ys,L1,as,H1,hd,hh,_,ht,hw,_=>by
  simp only [dS,Option.some.injEq,Prod.mk.injEq] at ht;obtain ⟨rfl,rfl⟩:=ht;simp only [aM,Prod.mk.injEq] at hw;obtain ⟨rfl,rfl⟩:=hw;exact ⟨φ,.refl hd _,rfl,by simp,by simp⟩
 |x::xs,g,L,φL,AL,H,G,φ,AH,ys,L1,as,H1,hd,hh,hr,ht,hw,hk=>by
  simp only [dS] at ht;split at ht
  ·rename_i y L' h1
   split at ht
   ·rename_i aX dE h2
    simp only [Option.some.injEq,Prod.mk.injEq] at ht;obtain ⟨rfl,rfl⟩:=ht;obtain ⟨k1,k2⟩:=hk.cons;simp only [aM,Prod.mk.injEq] at hw;obtain ⟨rfl,rfl⟩:=hw
    let vs:List Value:=(List.range x.cells.length).map (g 0)
    obtain ⟨φ1,m1,l1,r1⟩:=hE x vs L φL AL H G φ AH y L' _ _ hd (hh.fst (jJ _ _)) (by simp [vs]) (fun j c u hj hu=>by
     have d_:j<x.cells.length:=(List.getElem?_eq_some_iff.1 hj).1;have:vs[j]? =some (g 0 j):=by simp [vs,d_]
     rw [this] at hu;simp only [Option.some.injEq] at hu;subst hu;exact hr 0 x j c rfl hj) h1 rfl k1
    obtain ⟨bf,m2,l2,s2,r2⟩:=uP hE xs (fun i j=>g (i+1) j) L' (aF φL L') AL _ G φ1 AH aX dE _ _ m1.bI (hh.snd m1) (fun i x' j c hi hj=>(hr (i+1) x' j c hi hj).mono (dj m1.less)) h2 rfl k2
    refine ⟨bf,m1.trans m2,by simp [l2],fun i x' a hx ha=> ?_,fun i a j c ha hc=> ?_⟩
    ·cases i with
     |zero=>simp at hx ha;subst hx;subst ha;exact l1
     |succ i=>exact s2 i x' a hx ha
    ·cases i with
     |zero=>
      simp only [List.getElem?_cons_zero,Option.some.injEq] at ha;subst ha;have hj:j<x.cells.length:=by rw [←l1];exact (List.getElem?_eq_some_iff.1 hc).1
      exact (r1 j c (g 0 j) hc (by simp [vs,hj])).mono m2.eh
     |succ i=>exact r2 i a j c ha hc
   ·simp at ht
  ·simp at ht
theorem uQ {L:J} {φL:ag} {AL:aj} {G:J} {φ :ag} {AH:aj} (hd:cb w L φL AL G φ AH) {id ad:Nat} {b:bu} (hb:L.ap id ad=some b) {off n:Nat} (hle:off+n≤b.el.length) {sz:Nat} (hs:b.sz=sz) {loc:Loc} (aV: φL id=some loc)
 {L1:J} {as:List AV} {lo hi:Nat} {g:Nat→Nat→Value} {φ1:ag} (hg: ∀c b0 arr T fr,loc= .at_ c b0→w.heap[c]? =some (.cells arr T fr)→ ∀(i j:Nat) (v:Value),i<n→j<sz→arr[b0+(off+i)*sz+j]? =some v→g i j=v)
 (m:MG w (L.del id) (aF φL (L.del id)) AL G φ AH L1 φ1 lo hi) (hl:as.length=n) (ej: ∀(i:Nat) (a:AV),as[i]? =some a→a.cells.length=sz)
 (hr: ∀(i:Nat) (a:AV) (j:Nat) (c:AV),as[i]? =some a→a.cells[j]? =some c→R w G φ1 AH c (g i j)) {fD:Nat} (fx:Bool) (jd:G.get hi=some ⟨fD,sz,fx,as⟩) (bN:fD<G.st) (iW: φ hi=none) (loc' :Loc) (iU:loc' = .aP∧n=0∨ ∃c b0,loc= .at_ c b0∧loc' = .at_ c (b0+off*sz)):
 MG w L φL AL G φ AH L1 (fun i=>if i=hi then some loc' else φ1 i) lo (hi+1):=by
 have qk:=(J.bd hb).1;have ql:=(bL.del L id).trans m.less;have iV:aF (aF φL (L.del id)) L1=aF φL L1:=gO m.less;have m' :MG w L φL AL G φ AH L1 φ1 lo hi:=by
  refine ⟨ql,by have:=m.bI;rwa [iV] at this,fun c hc=> ?_,m.iT,m.cd,m.new,m.le⟩
  rcases m.oh c hc with h|⟨h1,h2⟩
  ·exact .inl h
  ·rw [iV] at h2;exact .inr ⟨bO h1,h2⟩
 refine uO m' jd bN iW ej (fun hv=> ?_) (fun c b1 he=> ?_)
 ·rcases iU with ⟨_,h0⟩|⟨c,b0,_,h2⟩
  ·exact List.eq_nil_of_length_eq_zero (by omega)
  ·rw [h2] at hv;simp at hv
 ·rcases iU with ⟨h1,_⟩|⟨c',b0,h1,h2⟩
  ·rw [h1] at he;simp at he
  ·rw [h2] at he;simp only [Loc.at_.injEq] at he;obtain ⟨rfl,rfl⟩:=he;subst h1;have kf:Ow φL c' :=⟨id,b0,aV⟩
   have qm: ¬Ow (aF φL L1) c' :=by
    rintro ⟨i,bb,hi⟩;obtain ⟨dK,bk,a_⟩:=dD hi;have:=hd.sl.inj _ _ _ _ _ dK aV;subst this;have:=m.less.get _ _ a_;rw [J.jF,if_pos rfl] at this;simp at this
   refine ⟨kf,qm,fun ho=> ?_,hd.fh _ kf,?_⟩
   ·rcases m.oh c' ho with h|⟨⟨i,bb,hi⟩,_⟩
    ·exact hd.ck c' kf h
    ·obtain ⟨dK,bk,a_⟩:=dD hi;have:=hd.sl.inj _ _ _ _ _ dK aV;subst this;rw [J.jF,if_pos rfl] at a_;simp at a_
   ·obtain ⟨bk,a_,af⟩:=hd.sl.ap id _ aV;rw [qk] at a_;simp only [Option.some.injEq] at a_;subst a_;obtain ⟨arr,T,fr,k1,k2,k3,k4⟩:=af.here c' b0 rfl
    have hmul:off*sz+n*sz≤b.el.length*sz:=by rw [←Nat.add_mul];exact Nat.mul_le_mul_right _ hle
    refine ⟨arr,T,fr,k1,by rw [hs] at k2;exact k2,by rw [hl];rw [hs] at k3;omega,fun i a j c v ha hc hv=> ?_⟩
    have hi:i<n:=by rw [←hl];exact (List.getElem?_eq_some_iff.1 ha).1
    have hj:j<sz:=by rw [←ej i a ha];exact (List.getElem?_eq_some_iff.1 hc).1
    have e:b0+off*sz+i*sz+j=b0+(off+i)*sz+j:=by rw [Nat.add_mul];omega
    rw [e] at hv;have qn:=hg c' b0 arr T fr rfl k1 i j v hi hj hv
    refine ⟨by rw [←qn];exact hr i a j c ha hc,?_⟩
    have bG:off+i<b.el.length:=by omega
    have hx:=List.getElem?_eq_getElem bG;have ca:=af.sized _ _ hx;exact (k4 (off+i) _ j _ v hx (List.getElem?_eq_getElem (by omega)) (by rw [hs];exact hv)).2
mutual
theorem og (sh:Sh) (x:AV) (v:Value) (L:J) (φL:ag) (AL:aj) (H G:J) (φ :ag) (AH:aj) (y:AV) (L1:J) (a:AV) (H1:J) (hd:cb w L φL AL G φ AH) (hh:GH G φ H H1) (hx:R w L φL AL x v)
 (ht:aT sh x L=some (y,L1)) (hw:aL y H=(a,H1)) (hk:gP AL AH y): ∃ φ1,MG w L φL AL G φ AH L1 φ1 H.bs.length H1.bs.length∧R w G φ1 AH a v∧(x≠ .undef→a.cells=[a])∧(x= .undef→a= .undef):=by
 cases sh with
 |sc=>
  simp only [aT] at ht;split at ht
  ·rename_i hp;simp only [Option.some.injEq,Prod.mk.injEq] at ht;obtain ⟨rfl,rfl⟩:=ht;rw [tF hp] at hw;simp only [Prod.mk.injEq] at hw;obtain ⟨rfl,rfl⟩:=hw;exact ⟨φ,.refl hd _,tE hp hx,fun hu=>cells_one hu (by rintro cs rfl;simp [dT] at hp),fun h=>h⟩
  ·simp at ht
 |sl es=>
  have mn: ∀{v0:Option Addr},v= .slice v0 0 0→aL (.own es.length []) H=(a,H1)→L1=L→ ∃ φ1,MG w L φL AL G φ AH L1 φ1 H.bs.length H1.bs.length∧R w G φ1 AH a v∧a.cells=[a]:=by
   intro v0 hv hw hL;subst hL;simp only [aL,aM,Prod.mk.injEq] at hw;obtain ⟨rfl,rfl⟩:=hw;have jd:=hh.ext.1 _ _ (J.eB H es.length false []);have bN:H.st<G.st:=Nat.lt_of_lt_of_le (Nat.lt_succ_self _) hh.ext.2;have m:=uO (MG.refl hd H.bs.length) jd bN (hh.none _ (Nat.le_refl _) (by rw [lx];exact Nat.lt_succ_self _)) (loc:= .aP) (by simp) (fun _=>rfl) (by simp)
   rw [←lx H es.length false []] at m;refine ⟨_,m,?_,rfl⟩;refine .ref _ _ _ _ _ bN ⟨_,_,hv⟩ fun b hb=> ?_;have:=lp jd hb;subst this;exact ⟨.aP,v0,0,by simp,hv,by simp,Nat.le_refl _,by simp,rfl,fun _=>rfl⟩
  cases x with
  |nil=>
   simp only [aT,Option.some.injEq,Prod.mk.injEq] at ht;obtain ⟨rfl,rfl⟩:=ht;obtain ⟨φ1,h1,h2,h3⟩:=mn hx.du hw rfl;exact ⟨φ1,h1,h2,fun _=>h3,fun h=>by simp at h⟩
  |e0=>
   simp only [aT,Option.some.injEq,Prod.mk.injEq] at ht;obtain ⟨rfl,rfl⟩:=ht;obtain ⟨a0,mo⟩:=hx.fc;obtain ⟨φ1,h1,h2,h3⟩:=mn mo hw rfl;exact ⟨φ1,h1,h2,fun _=>h3,fun h=>by simp at h⟩
  |fz xs=>
   simp only [aT,Option.some.injEq,Prod.mk.injEq] at ht;obtain ⟨rfl,rfl⟩:=ht;simp only [aL,Prod.mk.injEq] at hw;obtain ⟨rfl,rfl⟩:=hw;rcases hk with hk|hk
   ·exact ⟨φ,.refl hd _,.fr _ _ (hx.ei.shrink hk),fun _=>rfl,fun h=>by simp at h⟩
   ·simp [cZ] at hk
  |ref id ad off len=>
   simp only [aT] at ht;split at ht
   ·rename_i b hb;split at ht
    ·rename_i hc;obtain ⟨c1,c2,c3⟩:=hc;split at ht
     ·rename_i ys L' hm
      simp only [Option.some.injEq,Prod.mk.injEq] at ht;obtain ⟨rfl,rfl⟩:=ht;simp only [aL,Prod.mk.injEq] at hw;obtain ⟨rfl,rfl⟩:=hw;have hg:=(J.bd hb).1;obtain ⟨bN,_,hr⟩:=hx.dC;obtain ⟨loc,a0,cap,q1,rfl,q3,q4,q5,q6⟩:=(hr b hb).out;obtain ⟨bk,a_,af⟩:=hd.sl.ap id _ q1;rw [hg] at a_;simp only [Option.some.injEq] at a_;subst a_;have bR:eF AL AH ys:=by
       rcases hk with h|h
       ·exact .inl h
       ·exact .inr (by simpa [cZ] using h)
      have dl:=bL.del L id;have cf:cb w (L.del id) (aF φL (L.del id)) AL G φ AH:=⟨eE hd.sl dl,hd.sh,fun c hc=>hd.ck c (bO hc),fun c hc=>hd.fh c (bO hc)⟩
      have bH:(aB b.el off len).length=len:=by simp [aB];omega
      have gQ: ∀(i:Nat) (x:AV),(aB b.el off len)[i]? =some x→b.el[off+i]? =some x:=by
       intro i x hi;simp only [aB,List.getElem?_take,List.getElem?_drop] at hi;split at hi
       ·exact hi
       ·simp at hi
      let g:Nat→Nat→Value:=match loc with
       | .aP=>fun _ _=>undef
       | .at_ c b0=>fun i j=>match w.heap[c]? with
        |some (.cells arr _ _)=>arr.getD (b0+(off+i)*es.length+j) undef
        |_=>undef
      have b8: ∀(i:Nat) (x:AV) (j:Nat) (c:AV),(aB b.el off len)[i]? =some x→x.cells[j]? =some c→R w (L.del id) (aF φL (L.del id)) AL c (g i j):=by
       intro i x j c hi hj;have bQ:=gQ i x hi
       have cy:i<len:=by rw [←bH];exact (List.getElem?_eq_some_iff.1 hi).1
       cases loc with
       |aP=>have:=af.aP rfl;rw [this] at bQ;simp at bQ
       |at_ c0 b0=>
        obtain ⟨arr,T,fr,k1,k2,k3,k4⟩:=af.here c0 b0 rfl;have d_:j<b.sz:=by rw [←af.sized _ _ bQ];exact (List.getElem?_eq_some_iff.1 hj).1
        have hle:=c9 (n:=b.sz) (show off+i<b.el.length by omega)
        have az:b0+(off+i)*b.sz+j<arr.size:=by omega
        have:g i j=arr[b0+(off+i)*b.sz+j]:=by
         simp only [g,k1,←c1,Array.getD_eq_getD_getElem?,Array.getElem?_eq_getElem az,Option.getD_some]
        rw [this];exact ((k4 _ _ _ _ _ bQ hj (Array.getElem?_eq_getElem az)).1).mono (dj dl)
      obtain ⟨φ1,m,l1,s1,r1⟩:=uP (w:=w) (es:=es) (fun x vs L φL AL H G φ AH y L1 a H1=>uR es x vs L φL AL H G φ AH y L1 a H1) _ g _ _ _ _ _ _ _ _ _ _ _ cf (hh.fst (.new _ _ _ _)) b8 hm rfl bR
      rw [bH] at l1;have mq: ∀(i:Nat) (a:AV),(aM ys H).1[i]? =some a→a.cells.length=b.sz:=by
       intro i a ha;have cy:i<(aB b.el off len).length:=by rw [bH,←l1];exact (List.getElem?_eq_some_iff.1 ha).1
       have jG:=List.getElem?_eq_getElem cy;rw [s1 i _ a jG ha];exact af.sized _ _ (gQ i _ jG)
      have qo: ∀c b0 arr T fr,loc= .at_ c b0→w.heap[c]? =some (.cells arr T fr)→ ∀(i j:Nat) (v:Value),i<len→j<b.sz→arr[b0+(off+i)*b.sz+j]? =some v→g i j=v:=by
       intro c b0 arr T fr hl hh i j v _ _ hv;subst hl;simp only [g,hh,←c1,Array.getD_eq_getD_getElem?,hv,Option.getD_some]
      let loc' :Loc:=match loc with
       | .aP=> .aP
       | .at_ c b0=>if cap=0 then .aP else .at_ c (b0+off*b.sz)
      have iU:loc' = .aP∧len=0∨ ∃c b0,loc= .at_ c b0∧loc' = .at_ c (b0+off*b.sz):=by
       cases loc with
       |aP=>left;refine ⟨rfl,?_⟩;have:=af.aP rfl;rw [this] at q3;simp at q3;omega
       |at_ c b0=>
        by_cases dx:cap=0
        ·left;exact ⟨by simp [loc',dx],by omega⟩
        ·right;exact ⟨c,b0,rfl,by simp [loc',dx]⟩
      have jd:=hh.ext.1 _ _ (J.eB (aM ys H).2 es.length false (aM ys H).1);have bN:(aM ys H).2.st<G.st:=Nat.lt_of_lt_of_le (Nat.lt_succ_self _) hh.ext.2;have M:=uQ hd hb c2 rfl q1 qo m l1 mq r1 false (by rw [c1];exact jd) bN (hh.none _ (jJ ys H).2 (by rw [lx];exact Nat.lt_succ_self _)) loc' iU
      rw [←lx (aM ys H).2 es.length false (aM ys H).1] at M;refine ⟨_,M,?_,fun _=>rfl,fun h=>by simp at h⟩
      refine .ref _ _ _ _ _ bN ⟨a0,cap,by rw [l1]⟩ fun b' au=> ?_
      have:=lp jd au;subst this;refine ⟨loc',a0,cap,by simp,by rw [l1],by simp,by omega,by simp only;omega,?_⟩
      cases loc with
      |aP=>
       simp only at q6;have cL:len=0:=by have:=af.aP rfl;rw [this] at q3;simp at q3;omega
       refine ⟨List.eq_nil_of_length_eq_zero (by rw [l1,cL]),fun _=> ?_⟩
       rcases c3 with c3|c3
       ·exact q6.2 c3
       ·omega
      |at_ c b0=>
       simp only at q6;by_cases dx:cap=0
       ·simp only [loc',dx,if_true];exact ⟨List.eq_nil_of_length_eq_zero (by omega),fun _=>by first|trivial|omega|rfl⟩
       ·simp only [loc',dx,if_false];rcases q6 with q6|⟨h1,h2⟩
        ·exact absurd q6 dx
        ·refine Or.inr ⟨by rw [h1];simp,?_⟩
         rw [c1] at h2⊢;have:(off+cap)*es.length=off*es.length+cap*es.length:=Nat.add_mul _ _ _;simp only [Nat.zero_add];omega
     ·simp at ht
    ·simp at ht
   ·simp at ht
  |_=>simp [aT] at ht
 |pt es=>
  cases x with
  |fe z o=>
   simp only [aT,Option.some.injEq,Prod.mk.injEq] at ht;obtain ⟨rfl,rfl⟩:=ht;simp only [aL,Prod.mk.injEq] at hw;obtain ⟨rfl,rfl⟩:=hw;rcases hk with hk|hk
   ·exact ⟨φ,.refl hd _,.fr _ _ (hx.fw.shrink hk),fun _=>rfl,fun h=>by simp at h⟩
   ·simp [cZ] at hk
  |ptr id ad idx off=>
   rcases idx with _|idx
   rotate_left
   ·simp [aT] at ht
   rcases off with _|off
   rotate_left
   ·simp [aT] at ht
   simp only [aT] at ht;split at ht
   ·rename_i qp sz qq z hb;split at ht
    ·rename_i y' L' hm
     simp only [Option.some.injEq,Prod.mk.injEq] at ht;obtain ⟨rfl,rfl⟩:=ht;simp only [aL,Prod.mk.injEq] at hw;obtain ⟨rfl,rfl⟩:=hw;have hg:=(J.bd hb).1;obtain ⟨bN,_,hr⟩:=hx.gf;obtain ⟨c,b0,q1,rfl⟩:=hr _ hb;obtain ⟨bk,a_,af⟩:=hd.sl.ap id _ q1;rw [hg] at a_;simp only [Option.some.injEq] at a_;subst a_;obtain ⟨arr,T,fr,k1,k2,k3,k4⟩:=af.here c b0 rfl;have bR:gP AL AH y' :=by
      rcases hk with h|h
      ·exact .inl h
      ·exact .inr (by simpa [cZ] using h)
     have dl:=bL.del L id;have cf:cb w (L.del id) (aF φL (L.del id)) AL G φ AH:=⟨eE hd.sl dl,hd.sh,fun c hc=>hd.ck c (bO hc),fun c hc=>hd.fh c (bO hc)⟩
     have cK:z.cells.length=sz:=af.sized 0 z rfl;simp only [List.length_singleton,Nat.one_mul] at k3
     let vs:List Value:=(arr.extract b0 (b0+sz)).toList
     have di:vs.length=sz:=by simp [vs];omega
     have gR: ∀j u,vs[j]? =some u→arr[b0+j]? =some u:=by
      intro j u hu;simp only [vs,Array.getElem?_toList,Array.getElem?_extract] at hu;split at hu
      ·exact hu
      ·simp at hu
     obtain ⟨φ1,m,l1,r1⟩:=uR es z vs _ _ _ _ _ _ _ _ _ _ _ cf (hh.fst (.new _ _ _ _)) (by rw [di,cK]) (fun j c' u hj hu=>((k4 0 z j c' u rfl hj (by simpa using gR j u hu)).1).mono (dj dl)) hm rfl bR
     have jd:=hh.ext.1 _ _ (J.eB (aL y' H).2 sz false [(aL y' H).1])
     have bN:(aL y' H).2.st<G.st:=Nat.lt_of_lt_of_le (Nat.lt_succ_self _) hh.ext.2
     have M:=uQ (as:=[(aL y' H).1]) (n:=1) (off:=0) (sz:=sz) (loc' := .at_ c b0) (g:=fun i j=>vs.getD j undef) hd hb (by simp) rfl q1 (fun c' qt arr' T' dW hl hh i j v hi hj hv=>by
      simp only [Loc.at_.injEq] at hl;obtain ⟨rfl,rfl⟩:=hl;rw [k1] at hh;simp only [Option.some.injEq,Obj.cells.injEq] at hh;obtain ⟨rfl,_,_⟩:=hh;have kg:i=0:=by omega
      subst kg;simp only [Nat.zero_mul,Nat.add_zero] at hv;have:vs[j]? =some v:=by
       simp only [vs,Array.getElem?_toList,Array.getElem?_extract];rw [if_pos (by omega)];exact hv
      simp [List.getD,this]) m rfl (fun i a ha=>by
      cases i with
      |zero=>simp at ha;subst ha;rw [l1,cK]
      |succ i=>simp at ha) (fun i a j c' ha hc=>by
      cases i with
      |zero=>
       simp at ha;subst ha;have hj:j<vs.length:=by rw [di,←cK,←l1];exact (List.getElem?_eq_some_iff.1 hc).1
       have:=r1 j c' vs[j] hc (List.getElem?_eq_getElem hj)
       simpa [List.getD,hj] using this
      |succ i=>simp at ha) false jd bN (hh.none _ (rr y' H).2 (by rw [lx];exact Nat.lt_succ_self _)) (.inr ⟨c,b0,rfl,by simp⟩)
     rw [←lx (aL y' H).2 sz false [(aL y' H).1]] at M
     refine ⟨_,M,?_,fun _=>rfl,fun h=>by simp at h⟩
     refine .ptr _ _ _ _ _ bN ⟨_,rfl⟩ fun b' au=>⟨c,b0,by simp,?_⟩
     simp
    ·simp at ht
   ·simp at ht
  |_=>simp [aT] at ht
 termination_by (SizeOf.sizeOf sh,0)
theorem uR (es:List Sh) (x:AV) (vs:List Value) (L:J) (φL:ag) (AL:aj) (H G:J) (φ :ag) (AH:aj) (y:AV) (L1:J) (a:AV) (H1:J) (hd:cb w L φL AL G φ AH) (hh:GH G φ H H1) (hl:x.cells.length=vs.length)
 (hx: ∀(j:Nat) (c:AV) (u:Value),x.cells[j]? =some c→vs[j]? =some u→R w L φL AL c u) (ht:a8 es x L=some (y,L1)) (hw:aL y H=(a,H1)) (hk:gP AL AH y):
 ∃ φ1,MG w L φL AL G φ AH L1 φ1 H.bs.length H1.bs.length∧a.cells.length=x.cells.length∧ ∀(j:Nat) (c:AV) (u:Value),a.cells[j]? =some c→vs[j]? =some u→R w G φ1 AH c u:=by
 by_cases b9: ∃cs,x= .agg cs
 ·obtain ⟨cs,rfl⟩:=b9;have cM: ∃a7,cE es cs L=some (a7,L1)∧y= .agg a7:=by
   match es,ht with
   |[],ht=>
    simp only [a8] at ht;split at ht
    ·rename_i a7 L' hc
     simp only [Option.some.injEq,Prod.mk.injEq] at ht;obtain ⟨rfl,rfl⟩:=ht;exact ⟨a7,hc,rfl⟩
    ·simp at ht
   |[e],ht=>
    simp only [a8] at ht;split at ht
    ·rename_i a7 L' hc
     simp only [Option.some.injEq,Prod.mk.injEq] at ht;obtain ⟨rfl,rfl⟩:=ht;exact ⟨a7,hc,rfl⟩
    ·simp at ht
   |e::e' ::es,ht=>
    simp only [a8] at ht;split at ht
    ·rename_i a7 L' hc
     simp only [Option.some.injEq,Prod.mk.injEq] at ht;obtain ⟨rfl,rfl⟩:=ht;exact ⟨a7,hc,rfl⟩
    ·simp at ht
  obtain ⟨a7,hc,rfl⟩:=cM;simp only [aL,Prod.mk.injEq] at hw;obtain ⟨rfl,rfl⟩:=hw;have bR:eF AL AH a7:=by
   rcases hk with h|h
   ·exact .inl h
   ·exact .inr (by simpa [cZ] using h)
  exact ru es cs vs L φL AL H G φ AH a7 L1 _ _ hd hh hl hx hc rfl bR
 ·have dY: ∀cs,x≠ .agg cs:=fun cs h=>b9 ⟨cs,h⟩
  match es,ht with
  |[e],ht=>
   have cM:aT e x L=some (y,L1):=by
    cases x<;>first|(simpa only [a8] using ht)|exact absurd rfl (dY _)
   by_cases hu:x= .undef
   ·subst hu;have gG:vs=[]:=List.eq_nil_of_length_eq_zero (by simpa [AV.cells] using hl.symm)
    subst gG;obtain ⟨φ1,m,_,_,h4⟩:=og e .undef undef L φL AL H G φ AH y L1 a H1 hd hh (.fr _ _ (.undef _)) cM hw hk
    exact ⟨φ1,m,by rw [h4 rfl],by simp⟩
   ·have dm:=cells_one hu dY;rw [dm] at hl;obtain ⟨v,rfl⟩: ∃v,vs=[v]:=by
     match vs,hl with
     |[v],_=>exact ⟨v,rfl⟩
    obtain ⟨φ1,m,h2,h3,_⟩:=og e x v L φL AL H G φ AH y L1 a H1 hd hh (hx 0 x v (by rw [dm];rfl) rfl) cM hw hk
    refine ⟨φ1,m,by rw [h3 hu,dm];rfl,fun j c u hj aO=> ?_⟩
    rw [h3 hu] at hj;cases j with
    |zero=>simp at hj aO;subst hj;subst aO;exact h2
    |succ j=>simp at hj
  |[],ht=>cases x<;>first|(simp [a8] at ht;done)|exact absurd rfl (dY _)
  |_::_::_,ht=>cases x<;>first|(simp [a8] at ht;done)|exact absurd rfl (dY _)
 termination_by (SizeOf.sizeOf es,1)
theorem ru (es:List Sh) (cs:List AV) (vs:List Value) (L:J) (φL:ag) (AL:aj) (H G:J) (φ :ag) (AH:aj) (ys:List AV) (L1:J) (as:List AV) (H1:J) (hd:cb w L φL AL G φ AH) (hh:GH G φ H H1) (hl:cs.length=vs.length)
 (hx: ∀(j:Nat) (c:AV) (u:Value),cs[j]? =some c→vs[j]? =some u→R w L φL AL c u) (ht:cE es cs L=some (ys,L1)) (hw:aM ys H=(as,H1)) (hk:eF AL AH ys):
 ∃ φ1,MG w L φL AL G φ AH L1 φ1 H.bs.length H1.bs.length∧as.length=cs.length∧ ∀(j:Nat) (c:AV) (u:Value),as[j]? =some c→vs[j]? =some u→R w G φ1 AH c u:=by
 match es,cs,ht with
 |[],[],ht=>
  simp only [cE,Option.some.injEq,Prod.mk.injEq] at ht;obtain ⟨rfl,rfl⟩:=ht;simp only [aM,Prod.mk.injEq] at hw;obtain ⟨rfl,rfl⟩:=hw;exact ⟨φ,.refl hd _,rfl,by simp⟩
 |e::es,x::cs,ht=>
  simp only [cE] at ht;split at ht
  ·rename_i y L' h1
   split at ht
   ·rename_i aX dE h2
    simp only [Option.some.injEq,Prod.mk.injEq] at ht;obtain ⟨rfl,rfl⟩:=ht;simp only [aM,Prod.mk.injEq] at hw;obtain ⟨rfl,rfl⟩:=hw;obtain ⟨k1,k2⟩:=hk.cons
    match vs,hl with
    |v::vs,hl=>
     obtain ⟨φ1,m1,r1,_,_⟩:=og e x v L φL AL H G φ AH y L' _ _ hd (hh.fst (jJ _ _)) (hx 0 x v rfl rfl) h1 rfl k1
     obtain ⟨bf,m2,l2,r2⟩:=ru es cs vs L' (aF φL L') AL _ G φ1 AH aX dE _ _ m1.bI (hh.snd m1) (by simpa using hl) (fun j c u hj hu=>(hx (j+1) c u hj hu).mono (dj m1.less)) h2 rfl k2
     refine ⟨bf,m1.trans m2,by simp [l2],fun j c u hj hu=> ?_⟩
     cases j with
     |zero=>simp at hj hu;subst hj;subst hu;exact r1.mono m2.eh
     |succ j=>exact r2 j c u hj hu
   ·simp at ht
  ·simp at ht
 |[],_::_,ht=>simp [cE] at ht
 |_::_,[],ht=>simp [cE] at ht
 termination_by (SizeOf.sizeOf es,0)
end
end bI
end Go.VS
namespace Go.VS
section bI
variable {w:World} {AL AH:aj}
theorem BX {es:List Sh} {x:AV} {v:Value} {L:J} {φL:ag} {H G:J} {φ :ag} {y:AV} {L1:J} {a:AV} {H1:J} (hd:cb w L φL AL G φ AH) (hh:GH G φ H H1) (hx:R w L φL AL x v)
 (ht:a8 es x L=some (y,L1)) (hw:aL y H=(a,H1)) (hk:gP AL AH y): ∃ φ1,MG w L φL AL G φ AH L1 φ1 H.bs.length H1.bs.length∧R w G φ1 AH a v:=by
 by_cases b9: ∃cs,x= .agg cs
 ·obtain ⟨cs,rfl⟩:=b9;obtain ⟨a7,hc,rfl⟩:=mr ht;simp only [aL,Prod.mk.injEq] at hw;obtain ⟨rfl,rfl⟩:=hw;have bR:eF AL AH a7:=by
   rcases hk with h|h
   ·exact .inl h
   ·exact .inr (by simpa [cZ] using h)
  obtain ⟨vs,rfl,hl,ho,hp⟩:=hx.gH;obtain ⟨φ1,m,l1,r1⟩:=ru es cs vs.toList L φL AL H G φ AH a7 L1 _ _ hd hh (by simpa using hl) (fun j c u hj hu=>hp j c u hj (by simpa using hu)) hc rfl bR
  exact ⟨φ1,m,.agg _ _ (by rw [l1,hl]) ho fun i x v hx hv=>r1 i x v hx (by simpa using hv)⟩
 ·obtain ⟨e,rfl,cM⟩:=kj (fun cs h=>b9 ⟨cs,h⟩) ht;obtain ⟨φ1,m,r,_⟩:=og e x v L φL AL H G φ AH y L1 a H1 hd hh hx cM hw hk
  exact ⟨φ1,m,r⟩
theorem uS: ∀(sh:List (List Sh)) (rs:List AV) (us:List Value) (L:J) (φL:ag) (H G:J) (φ :ag) (ys:List AV) (L1:J),cb w L φL AL G φ AH→GH G φ H (aM ys H).2→rs.length=us.length→
 (∀(i:Nat) (x:AV) (u:Value),rs[i]? =some x→us[i]? =some u→R w L φL AL x u)→dr sh rs L=some (ys,L1)→eF AL AH ys→
 ∃ φ1,MG w L φL AL G φ AH L1 φ1 H.bs.length (aM ys H).2.bs.length∧(aM ys H).1.length=us.length∧ ∀(i:Nat) (x:AV) (u:Value),(aM ys H).1[i]? =some x→us[i]? =some u→R w G φ1 AH x u
 |sh,[],us,L,φL,H,G,φ,ys,L1,hd,hh,hl,hr,ht,hk=>by
  simp only [dr,Option.some.injEq,Prod.mk.injEq] at ht;obtain ⟨rfl,rfl⟩:=ht;exact ⟨φ,.refl hd _,hl,by simp [aM]⟩
 |sh,x::rs,u::us,L,φL,H,G,φ,ys,L1,hd,hh,hl,hr,ht,hk=>by
  simp only [dr] at ht;split at ht
  rotate_left
  ·simp at ht
  rename_i y L' h1
  split at ht
  rotate_left
  ·simp at ht
  rename_i aX dE h2
  simp only [Option.some.injEq,Prod.mk.injEq] at ht;obtain ⟨rfl,rfl⟩:=ht;obtain ⟨k1,k2⟩:=hk.cons;obtain ⟨φ1,m1,r1⟩:=BX (y:=y) (H:=H) hd (hh.fst (H1:=(aL y H).2) (jJ aX (aL y H).2)) (hr 0 x u rfl rfl) h1 rfl k1
  obtain ⟨bf,m2,l2,r2⟩:=uS sh.tail rs us L' (aF φL L') (aL y H).2 G φ1 aX dE m1.bI (hh.snd m1) (by simpa using hl) (fun i x u hx hu=>(hr (i+1) x u hx hu).mono (dj m1.less)) h2 k2
  refine ⟨bf,m1.trans m2,by simp [aM,l2],fun i x' u' hx hu=> ?_⟩
  cases i with
  |zero=>simp [aM] at hx hu;subst hx;subst hu;exact r1.mono m2.eh
  |succ i=>simp only [aM,List.getElem?_cons_succ] at hx hu;exact r2 i x' u' hx hu
 |sh,x::rs,[],L,φL,H,G,φ,ys,L1,hd,hh,hl,hr,ht,hk=>by simp at hl
end bI
theorem oi {H G:J} (h:bg H G): ∀(n:Nat) (x y:AV),aY n H x=some y→aY n G x=some y
 |0,x,y,hs=>by simp [aY] at hs
 |n+1,x,y,hs=>by
  have hm: ∀(xs ys:List AV),xs.mapM (aY n H)=some ys→xs.mapM (aY n G)=some ys:=by
   intro xs;induction xs with
   |nil=>intro ys h;simpa using h
   |cons z xs ih=>
    intro ys hy;simp only [List.mapM_cons,Option.bind_eq_bind,Option.bind_eq_some_iff,Option.pure_def,Option.some.injEq] at hy⊢;obtain ⟨a,h1,b,h2,h3⟩:=hy;exact ⟨a,oi h n z a h1,b,ih b h2,h3⟩
  cases x with
  |agg cs=>
   simp only [aY,Option.map_eq_some_iff] at hs⊢;obtain ⟨ys,h1,h2⟩:=hs;exact ⟨ys,hm _ _ h1,h2⟩
  |fn f cs=>
   simp only [aY,Option.map_eq_some_iff] at hs⊢;obtain ⟨ys,h1,h2⟩:=hs;exact ⟨ys,hm _ _ h1,h2⟩
  |ref id ad off len=>
   simp only [aY] at hs⊢;split at hs
   ·rename_i b hb;rw [h.ap hb];simp only;split at hs
    ·rename_i hle;rw [if_pos hle];simp only [Option.map_eq_some_iff] at hs⊢;obtain ⟨ys,h1,h2⟩:=hs;exact ⟨ys,hm _ _ h1,h2⟩
    ·simp at hs
   ·simp at hs
  |ptr id ad idx off=>
   simp only [aY] at hs⊢;split at hs
   ·rename_i b hb;rw [h.ap hb];simp only;split at hs
    ·rename_i z hz;simp only [Option.map_eq_some_iff] at hs⊢;obtain ⟨y',h1,h2⟩:=hs;exact ⟨y',oi h n z y' h1,h2⟩
    ·simp at hs
   ·simp at hs
  |_=>first|(simpa only [aY] using hs)|(simp [aY] at hs;done)
theorem ly {H G:J} (h:bg H G): ∀(ms:List Mode) (as ys:List AV) (b:Bool),cg ms as H=some (ys,b)→cg ms as G=some (ys,b)
 |ms,[],ys,b,hp=>by cases ms<;>simpa only [cg] using hp
 |[],a::as,ys,b,hp=>by
  simp only [cg] at hp⊢;split at hp
  ·rename_i y hy;split at hp
   ·rename_i aX b' cA
    rw [oi h 8 a y hy,ly h [] as aX b' cA]
    exact hp
   ·simp at hp
  ·simp at hp
 |m::ms,a::as,ys,b,hp=>by
  have other:(match cg ms as H with|some (ys,b)=>some (a::ys,b)|none=>none)=some (ys,b)→(match cg ms as G with|some (ys,b)=>some (a::ys,b)|none=>none)=some (ys,b):=by
   intro hp;split at hp
   ·rename_i aX b' cA
    rw [ly h ms as aX b' cA]
    exact hp
   ·simp at hp
  cases m with
  |val=>
   simp only [cg] at hp⊢;split at hp
   ·rename_i y hy;split at hp
    ·rename_i aX b' cA
     rw [oi h 8 a y hy,ly h ms as aX b' cA]
     exact hp
    ·simp at hp
   ·simp at hp
  |fH=>
   simp only [cg] at hp⊢;split at hp
   ·rename_i aX b' cA
    rw [ly h ms as aX b' cA]
    exact hp
   ·simp at hp
  |io=>
   simp only [cg] at hp⊢;split at hp
   ·rename_i aX b' cA
    rw [ly h ms as aX b' cA]
    exact hp
   ·simp at hp
def BY (w:World) (G:J) (φ :ag) (A:aj) (H H' :J) (x:AV) (e:Ending) (w' :World):Prop:=
 match e with
 | .returned v' => ∃ak A',Out w G φ A w' G ak A' ∧R w' G ak A' x v' ∧ ∀id loc,ak id=some loc→ φ id=some loc∨(H.bs.length≤id∧id<H'.bs.length)
 |_=>False
theorem BZ {P:Program} {C:aJ} {X:bK} (hX: ∀f ys H K,X f ys H K→b_ P f ys H K) {w:World} {G:J} {φ :ag} {A:aj} (ae:St w G φ A) {H H' :J} (hg:bg H G) (hh:GH G φ H H') {f:FuncId} {as:List AV} {us:Array Value} (hl:as.length=us.size)
 (hr: ∀(i:Nat) (x:AV) (u:Value),as[i]? =some x→us[i]? =some u→R w G φ A x u) {th:Bool} {x:AV} (h:dU X C f as th H (fun v1 H1=>v1=x∧H1=H')):gT P f∧Calls P f us w (BY w G φ A H H' x):=by
 unfold dU at h;split at h
 ·exact h.elim
 rename_i ys b6 hy;obtain ⟨y,mw,gS,hp⟩:=h;have hm:nW []:=fun m hm=>by simp at hm
 have qO:cb w G φ A ⟨0,[]⟩ (fun _=>none) A:=by
  refine ⟨ae,⟨fun i i' c b b' h=>by simp at h,fun c hc=> ?_,ae.b7,fun id loc h=>by simp at h⟩,fun c _ hc=> ?_,ae.own⟩
  ·obtain ⟨i,b,h⟩:=hc;simp at h
  ·obtain ⟨i,b,h⟩:=hc;simp at h
 have qP:cr [] ys ⟨0,[]⟩=(ys,⟨0,[]⟩):=qN _ _ _ hy _;obtain ⟨aE,m,cH,eG⟩:=nS as [] [] us.toList G φ as G ys b6 ⟨0,[]⟩ (fun _=>none) ys ⟨0,[]⟩ qO (by simpa using hl) (fun i x u hx hu=>hr i x u hx (by simpa using hu)) (qL _ _ _ _ hm) (ly hg _ _ _ _ hy) qP
 have bH: ∀c,¬Ow aE c:=fun c hc=>by
  rcases m.oh c hc with ⟨i,b,h⟩|⟨h1,h2⟩
  ·simp at h
  ·rw [lq ae] at h2;exact h2 h1
 let A0:aj:=if b6=true then Ow aE else A
 have kn: ∀c,A0 c→A c:=by
  intro c hc;simp only [A0] at hc;split at hc
  ·exact absurd hc (bH c)
  ·exact hc
 have qQ:b6=true→ ∀c,A0 c→gq (aF φ G) A c:=by
  intro az c hc;simp only [A0,az,if_true] at hc;exact absurd hc (bH c)
 have dp:St w ⟨0,[]⟩ aE A0:=m.bI.sh.shrink kn (fun c hc=>absurd hc (bH c));have cQ:ys.length=us.size:=by simpa using cH.1
 refine ⟨(hX _ _ _ _ mw).1,((hX _ _ _ _ mw).2 w A0 aE us dp cQ (fun i x u hx hu=>cH.2 A0 kn qQ i x u hx (by simpa using hu))).mono fun e w' he=> ?_⟩
 cases e with
 |panicked c=>exact he.elim
 |outgrown=>exact he.elim
 |returned v' =>
 obtain ⟨x0,L,ak,A',ho,qR,rs,iy,L2,rfl,my,rfl⟩:=he;obtain ⟨cR,rfl,eQ,iV⟩:=ud qR
 let AH:aj:=if b6=true then fun c=>A c∨(A' c∧w.heap.size≤c) else A'
 have ko: ∀c,Ow ak c→w.heap.size≤c:=fun c hc=>(ho.post.own c hc).resolve_left (bH c)
 have ha:qD w A aE w' ak AH:=by
  refine ⟨fun c hc hn=> ?_,fun c hc=> ?_,fun c hc=> ?_,fun c arr T fr hc hn=> ?_⟩
  ·simp only [AH];split
   ·exact .inl hc
   ·rename_i az;refine ho.keep c ?_ hn;simp only [A0,az];exact hc
  ·simp only [AH];split
   ·exact .inr ⟨ho.st.own c hc,ko c hc⟩
   ·exact ho.st.own c hc
  ·simp only [AH] at hc;split at hc
   ·rcases hc with h|⟨h,_⟩
    ·exact Nat.lt_of_lt_of_le (ae.b7 c h) ho.post.size
    ·exact ho.st.b7 c h
   ·exact ho.st.b7 c hc
  ·obtain ⟨h1,h2⟩:=ho.bF.fz c arr T fr hc (fun h=>hn (kn c h));refine ⟨h1,?_⟩;simp only [AH];split
   ·rintro (h|⟨_,h⟩)
    ·exact hn h
    ·have:c<w.heap.size:=by
      rcases Nat.lt_or_ge c w.heap.size with h' |h'
      ·exact h'
      ·rw [Array.getElem?_eq_none h'] at hc;simp at hc
     omega
   ·exact h2
 obtain ⟨D,E⟩:=tV (ls:=[]) (Lm:=L) ae m (by rw [hl,cQ]) eG ho ha (by simp [f_])
 rw [qM _ _ _ _ hm,lq ae] at D E;have qS:eF A' AH iy:=by
  cases az:b6 with
  |false=>exact .inl fun c h=>by simpa [AH,az] using h
  |true=>
   rcases gS with h|h
   ·rw [az] at h;simp at h
   ·rw [uc] at h;exact .inr h
 have eR: ∀(i:Nat) (x:AV) (u:Value),rs[i]? =some x→cR[i]? =some u→R w' L (aF ak L) A' x u:=fun i x u hx hu=>by
  rw [lq ho.st];exact iV i x u hx hu
 have gg: ∀{cX:ag},(∀c,Ow cX c→Ow φ c∨Ow ak c)→ga w φ w' cX:=fun hq=>
  ⟨ho.post.os,ho.post.tape,ho.post.output,ho.post.size,fun c hc _=>ho.post.kept c hc (bH c),ho.post.aR,fun c hc=>by
   rcases hq c hc with h|h
   ·exact .inl h
   ·exact .inr (ko c h)⟩
 have kq: ∀c,A c→ ¬Ow φ c→AH c:=fun c hc _=>ha.own c hc (bH c);have cv: ∀c,Ow φ c→aR w' c=aR w c:=fun c hc=>ho.post.aR c (Ow.lt ae hc)
 cases ek:(th||b6) with
 |true=>
  rw [ek] at hp;simp only [if_true,ua] at hp;obtain ⟨rfl,rfl⟩:=hp;obtain ⟨cX,m3,l3,r3⟩:=uS _ rs cR L _ H G φ iy L2 D hh eQ eR my qS
  refine ⟨cX,AH,⟨m3.bI.sh,gg fun c hc=> ?_,E.trans m3.eh cv,kq⟩,qK l3 r3,m3.new⟩;rcases m3.oh c hc with h|⟨h,_⟩
  ·exact .inl h
  ·exact .inr (bO h)
 |false=>
  rw [ek] at hp;simp only [Bool.false_eq_true,if_false,ub] at hp;obtain ⟨rfl,rfl⟩:=hp;simp only [Bool.or_eq_false_iff] at ek;have qT:AH=A' :=by simp [AH,ek.2]
  rw [qT] at D E kq
  let A2:aj:=gone (aF ak L) A' L2
  obtain ⟨l3,r3⟩:=qJ (A' :=A2) _ rs cR L (aF ak L) iy L2 D.sl eQ eR my (fun c h=>h)
  have qU: ∀c,Ow φ c→A2 c:=fun c hc=>⟨D.sh.own c hc,fun h=>absurd hc (D.ck c h)⟩;have qV:bM w G φ A w' G φ A2:=⟨fun c arr T fr hc hn=>⟨(E.fz c arr T fr hc hn).1,fun h2=>(E.fz c arr T fr hc hn).2 h2.1⟩,E.st,E.ids,E.sz⟩
  refine ⟨φ,A2,⟨D.sh.shrink (fun c h=>h.1) qU,gg fun c hc=> .inl hc,qV,fun c hc hn=>⟨kq c hc hn,fun h=> ?_⟩⟩,.fr _ _ (t_ l3 r3),fun id loc h=> .inl h⟩;have:=ko c (bO h)
  have:=ae.b7 c hc;omega
end Go.VS
