import Derived.Test.YtclgbpneokeaeaaGreatVaB
import Derived.Tactics
import Derived.Laws.Sem
namespace Go.VS
section bz
variable {w:World} {A:ah}
theorem rB {m:Mode} {sh:List Sh} {v:AV} {H:J} {y:AV} {H1:J} (h:e9 m sh v H=some (y,H1)):bD H H1:=by
 cases m with
 |val=>simp only [e9,Option.some.injEq,Prod.mk.injEq] at h;obtain ⟨_,rfl⟩:=h;exact .refl _
 |eP=>exact fw sh v H y H1 h
 |io=>
  cases v<;>simp only [e9] at h
  case nil=>simp only [Option.some.injEq,Prod.mk.injEq] at h;obtain ⟨_,rfl⟩:=h;exact .refl _
  case e0=>simp only [Option.some.injEq,Prod.mk.injEq] at h;obtain ⟨_,rfl⟩:=h;exact .refl _
  case ref=>
   split at h
   ·split at h
    ·simp only [Option.some.injEq,Prod.mk.injEq] at h;obtain ⟨_,rfl⟩:=h;exact .refl _
    ·split at h
     ·exact fw _ _ H y H1 h
     ·simp at h
   ·simp at h
  case ptr=>exact fw _ _ H y H1 h
  all_goals simp at h
theorem rC: ∀(ms:List Mode) (sh:List (List Sh)) (as:List AV) (H:J) (zs:List AV) (H1:J),fI ms sh as H=some (zs,H1)→bD H H1
 |[],sh,as,H,zs,H1,h=>by
  simp only [fI,Option.some.injEq,Prod.mk.injEq] at h;obtain ⟨_,rfl⟩:=h;exact .refl _
 |m::ms,sh,[],H,zs,H1,h=>by
  simp only [fI,Option.some.injEq,Prod.mk.injEq] at h;obtain ⟨_,rfl⟩:=h;exact .refl _
 |m::ms,sh,a::as,H,zs,H1,h=>by
  simp only [fI] at h;split at h
  ·rename_i y H' h1
   split at h
   ·rename_i ys gA h2
    simp only [Option.some.injEq,Prod.mk.injEq] at h;obtain ⟨_,rfl⟩:=h;exact (rB h1).trans (rC ms _ as H' ys _ h2)
   ·simp at h
  ·simp at h
def gB (w:World) (A:ah) (B:ah) (L0:J) (aC:ag) (bV:Bool) (vs:List AV) (us:List Value):Prop:=
 vs.length=us.length∧ ∀A0:ah,(∀c,A0 c→A c)→(bV=true→ ∀c,A0 c→B c)→ ∀(i:Nat) (x:AV) (u:Value),vs[i]? =some x→us[i]? =some u→R w L0 aC A0 x u
theorem gB.cons {B:ah} {L L0:J} {φL aC:ag} {l1 l2:Bool} {x:AV} {u:Value} {vs:List AV} {us:List Value} (hx: ∀A0:ah,(∀c,A0 c→A c)→(l1=true→ ∀c,A0 c→B c)→R w L φL A0 x u)
 (he: ∀A0,bH w L φL A0 w L0 aC A0) (h:gB w A B L0 aC l2 vs us):gB w A B L0 aC (l1||l2) (x::vs) (u::us):=by
 refine ⟨by simp [h.1],fun A0 h1 h2 i x' u' bF aM=> ?_⟩
 cases i with
 |zero=>simp at bF aM;subst bF;subst aM;exact (hx A0 h1 (fun hl=>h2 (by simp [hl]))).mono (he A0)
 |succ i=>exact h.2 A0 h1 (fun hl=>h2 (by simp [hl])) i x' u' bF aM
theorem bH.any {L L0:J} {φL aC:ag} {A1:ah} (h:bH w L φL A1 w L0 aC A1) (A0:ah):bH w L φL A0 w L0 aC A0:=
 ⟨fun _c _a _t fr hc hn=>⟨⟨fr,hc⟩,hn⟩,h.st,h.ids,h.sz⟩
theorem rD {H:J} {φ :ag} {H1:J} {L:J} {φL:ag} (ae:St w H φ A) (hl:bD H H1) {a:AV} {u:Value} (ha:R w H φ A a u) {y:AV} (hs:aO 8 H1 a=some y):
 ∀A0:ah,(∀c,A0 c→A c)→(eQ a=true→ ∀c,A0 c→fy (aE φ H1) A c)→R w L φL A0 y u:=by
 intro A0 h1 h2;obtain ⟨s1,s2,_⟩:=(ru (ef ae hl) 8).1 a u y (ha.mono (c5 hl)) hs;cases hle:eQ a with
 |false=>exact .fr _ _ ((s2 hle).shrink h1)
 |true=>exact .fr _ _ (s1.shrink (h2 hle))
theorem mv: ∀(as:List AV) (ms:List Mode) (fE:List (List Sh)) (us:List Value) (H:J) (φ :ag) (zs:List AV) (H1:J) (ys:List AV) (bV:Bool) (L:J) (φL:ag) (vs:List AV) (L0:J),
 bZ w H φ A L φL A→as.length=us.length→(∀(i:Nat) (x:AV) (u:Value),as[i]? =some x→us[i]? =some u→R w H φ A x u)→fI ms fE as H=some (zs,H1)→b9 ms zs H1=some (ys,bV)→cd ms ys L=(vs,L0)→
 ∃aC,ca w H φ A L φL A H1 L0 aC∧gB w A (fy (aE φ H1) A) L0 aC bV vs us∧b8 H φ L0 aC ms as vs
 |[],ms,fE,us,H,φ,zs,H1,ys,bV,L,φL,vs,L0,hd,hl,hr,h1,h2,h3=>by
  have gZ:zs=[]∧H1=H:=by
   cases ms<;>simp only [fI,Option.some.injEq,Prod.mk.injEq] at h1<;>exact ⟨h1.1.symm,h1.2.symm⟩
  obtain ⟨rfl,rfl⟩:=gZ;have cx:ys=[]∧bV=false:=by
   cases ms<;>simp only [b9,Option.some.injEq,Prod.mk.injEq] at h2<;>exact ⟨h2.1.symm,h2.2.symm⟩
  obtain ⟨rfl,rfl⟩:=cx;have dC:vs=[]∧L0=L:=by
   cases ms<;>simp only [cd,Prod.mk.injEq] at h3<;>exact ⟨h3.1.symm,h3.2.symm⟩
  obtain ⟨rfl,rfl⟩:=dC;refine ⟨φL,.refl hd,⟨by simpa using hl,by simp⟩,?_⟩
  cases ms with
  |nil=>simp [b8]
  |cons m ms=>cases m<;>simp [b8]
 |a::as,[],fE,us,H,φ,zs,H1,ys,bV,L,φL,vs,L0,hd,hl,hr,h1,h2,h3=>by
  match us,hl with
  |u::us,hl=>
  simp only [fI,Option.some.injEq,Prod.mk.injEq] at h1;obtain ⟨rfl,rfl⟩:=h1;simp only [b9] at h2;split at h2
  ·rename_i y hy;split at h2
   ·rename_i aU b cx
    simp only [Option.some.injEq,Prod.mk.injEq] at h2;obtain ⟨rfl,rfl⟩:=h2;simp only [cd,mr _ _ _ _ hy,List.tail_nil,Prod.mk.injEq] at h3;obtain ⟨rfl,rfl⟩:=h3;obtain ⟨aC,m,cA,_⟩:=mv as [] fE us H φ as H aU b L φL _ _ hd (by simpa using hl) (fun i x u hx hu=>hr (i+1) x u hx hu) rfl cx rfl
    exact ⟨aC,m,gB.cons (rD (L:=L) (φL:= φL) hd.sl (.refl _) (hr 0 a u rfl rfl) hy) (fun A0=>m.eh.any A0) cA,by simp [b8]⟩
   ·simp at h2
  ·simp at h2
 |a::as,md::ms,fE,us,H,φ,zs,H1,ys,bV,L,φL,vs,L0,hd,hl,hr,h1,h2,h3=>by
  match us,hl with
  |u::us,hl=>
  simp only [fI] at h1;split at h1
  rotate_left
  ·simp at h1
  rename_i z H' hz
  split at h1
  rotate_left
  ·simp at h1
  rename_i gD gA gZ
  simp only [Option.some.injEq,Prod.mk.injEq] at h1;obtain ⟨rfl,rfl⟩:=h1;have da:=rB hz;have dg:=rC _ _ _ _ _ _ gZ;have ha:=hr 0 a u rfl rfl;have rest: ∀{aU:List AV} {b:Bool} {L' :J} {ak:ag} (m1:ca w H φ A L φL A H' L' ak) (cx:b9 ms gD gA=some (aU,b)),
   ∃aC,ca w H' (aE φ H') A L' ak A gA (cd ms aU L').2 aC∧gB w A (fy (aE φ gA) A) (cd ms aU L').2 aC b (cd ms aU L').1 us∧b8 H' (aE φ H') (cd ms aU L').2 aC ms as (cd ms aU L').1:=by
   intro aU b L' ak m1 cx
   obtain ⟨aC,m,cA,dR⟩:=mv as ms fE.tail us H' (aE φ H') gD gA aU b L' ak _ _ m1.bz (by simpa using hl) (fun i x u hx hu=>(hr (i+1) x u hx hu).mono (c5 da)) gZ cx rfl
   refine ⟨aC,m,?_,dR⟩;rw [fT dg] at cA;exact cA
  cases md with
  |val=>
   simp only [e9,Option.some.injEq,Prod.mk.injEq] at hz;obtain ⟨rfl,rfl⟩:=hz;simp only [b9] at h2;split at h2
   rotate_left
   ·simp at h2
   rename_i y hy;split at h2
   rotate_left
   ·simp at h2
   rename_i aU b cx
   simp only [Option.some.injEq,Prod.mk.injEq] at h2;obtain ⟨rfl,rfl⟩:=h2;have jn:cd (.val::ms) (y::aU) L=(y::(cd ms aU L).1,(cd ms aU L).2):=by
    simp only [cd,mr _ _ _ _ hy,List.tail_cons]
   rw [jn] at h3;simp only [Prod.mk.injEq] at h3;obtain ⟨rfl,rfl⟩:=h3;obtain ⟨aC,m,cA,dR⟩:=rest (ca.refl hd) cx;refine ⟨aC,(ca.refl hd).trans m,gB.cons (L:=L) (φL:= φL) (fun A0 q1 q2=> ?_) (fun A0=>m.eh.any A0) cA,?_⟩
   ·exact rD (L:=L) (φL:= φL) hd.sl dg ha hy A0 q1 q2
   ·simp only [b8];exact b8.mono (.refl _) (fun _ _ h=>h) (fun _ _ h=>h) dR
  |eP=>
   have dL:aY (fE.headD []) a H=some (z,H'):=hz
   simp only [b9] at h2;split at h2
   rotate_left
   ·simp at h2
   rename_i aU b cx
   simp only [Option.some.injEq,Prod.mk.injEq] at h2;obtain ⟨rfl,rfl⟩:=h2;have jn:cd (.eP::ms) (z::aU) L=((aF z L).1::(cd ms aU (aF z L).2).1,(cd ms aU (aF z L).2).2):=by
    simp only [cd,List.tail_cons]
   rw [jn] at h3;simp only [Prod.mk.injEq] at h3;obtain ⟨rfl,rfl⟩:=h3;obtain ⟨φ1,m1,r1⟩:=rk hd ha dL rfl (.inl fun _ h=>h)
   obtain ⟨aC,m,cA,dR⟩:=rest m1 cx;have:=gB.cons (l1:=false) (L:=(aF z L).2) (φL:= φ1) (x:=(aF z L).1) (u:=u) (fun A0 q1 _=>r1.mn q1) (fun A0=>m.eh.any A0) cA;refine ⟨aC,m1.trans m,by simpa using this,?_⟩
   simp only [b8];exact b8.mono da (fun _ _ h=>h) (fun _ _ h=>h) dR
  |io=>
   simp only [b9] at h2;split at h2
   rotate_left
   ·simp at h2
   rename_i aU b cx
   simp only [Option.some.injEq,Prod.mk.injEq] at h2;obtain ⟨rfl,rfl⟩:=h2;rcases yI hd ha hz with ⟨sz,xs,φ1,rfl,m1,r1,ro⟩|⟨sz,x,φ1,rfl,m1,r1,ro⟩
   ·have jn:cd (.io::ms) (.own sz xs::aU) L=(.ref (aH xs L).2.bs.length (aH xs L).2.st 0 (aH xs L).1.length::(cd ms aU ((aH xs L).2.new sz true (aH xs L).1)).1,(cd ms aU ((aH xs L).2.new sz true (aH xs L).1)).2):=by
     simp only [cd]
    rw [jn] at h3;simp only [Prod.mk.injEq] at h3;obtain ⟨rfl,rfl⟩:=h3;obtain ⟨aC,m,cA,dR⟩:=rest m1 cx;have:=gB.cons (l1:=false) (φL:= φ1) (u:=u) (fun A0 q1 _=>r1.mn q1) (fun A0=>m.eh.any A0) cA;refine ⟨aC,m1.trans m,by simpa using this,?_⟩
    simp only [b8];refine ⟨?_,b8.mono da (fun _ _ h=>h) (fun _ _ h=>h) dR⟩;obtain ⟨k,kv,bk,e1,e2,⟨loc,hZ⟩,e3,e4⟩:=ro;exact ⟨k,kv,bk,e1,o8 m.bC e2,⟨loc,m.b4 _ _ hZ⟩,e3,fun id ad hr=>by obtain ⟨b,c,b0,q1,q2,q3,q4,q5⟩:=e4 id ad hr;exact ⟨b,c,b0,q1,q2,q3,q4,m.b4 _ _ q5⟩⟩
   ·have jn:cd (.io::ms) (.dm sz x::aU) L=((aF (.dm sz x) L).1::(cd ms aU (aF (.dm sz x) L).2).1,(cd ms aU (aF (.dm sz x) L).2).2):=by
     simp only [cd,List.tail_cons]
    rw [jn] at h3;simp only [Prod.mk.injEq] at h3;obtain ⟨rfl,rfl⟩:=h3;obtain ⟨aC,m,cA,dR⟩:=rest m1 cx;have:=gB.cons (l1:=false) (φL:= φ1) (u:=u) (fun A0 q1 _=>r1.mn q1) (fun A0=>m.eh.any A0) cA;refine ⟨aC,m1.trans m,by simpa using this,?_⟩
    simp only [b8];refine ⟨?_,b8.mono da (fun _ _ h=>h) (fun _ _ h=>h) dR⟩;obtain ⟨k,kv,bk,e1,e2,⟨loc,hZ⟩,e3,e4⟩:=ro;exact ⟨k,kv,bk,e1,o8 m.bC e2,⟨loc,m.b4 _ _ hZ⟩,e3,fun id ad hr=>by obtain ⟨b,c,b0,q1,q2,q3,q4,q5⟩:=e4 id ad hr;exact ⟨b,c,b0,q1,q2,q3,q4,m.b4 _ _ q5⟩⟩
end bz
end Go.VS
namespace Go.VS
def cS (L Lm:J):List Mode→List AV→List (List AV)→Prop
 | .io::ms,x::xs,l::ls=>(∃k kv b,kB x=some (k,kv)∧L.ap k kv=some b∧b.el=l∧Lm.get k=none)∧cS L Lm ms xs ls
 | .io::_,_::_,[]=>False
 | .val::ms,_::xs,ls=>cS L Lm ms xs ls
 | .eP::ms,_::xs,ls=>cS L Lm ms xs ls
 |_,_,_=>True
theorem cS.mono {L0 L Lm:J} (h:bD L0 L): ∀{ms:List Mode} {xs:List AV} {ls:List (List AV)},cS L Lm ms xs ls→cS L0 Lm ms xs ls
 |[],xs,ls,_=>by simp [cS]
 |m::ms,[],ls,_=>by cases m<;>simp [cS]
 | .val::ms,x::xs,ls,hr=>by simp only [cS] at hr⊢;exact hr.mono h
 | .eP::ms,x::xs,ls,hr=>by simp only [cS] at hr⊢;exact hr.mono h
 | .io::ms,x::xs,[],hr=>by simp only [cS] at hr
 | .io::ms,x::xs,l::ls,hr=>by
  simp only [cS] at hr⊢;obtain ⟨⟨k,kv,b,h1,h2,h3,h4⟩,h5⟩:=hr;exact ⟨⟨k,kv,b,h1,J.rA h h2,h3,h4⟩,h5.mono h⟩
theorem mw: ∀(ms:List Mode) (vs:List AV) (L:J) (ls:List (List AV)) (Lm:J),fg ms vs L=some (ls,Lm)→bD L Lm∧cS L Lm ms vs ls
 |[],vs,L,ls,Lm,h=>by
  simp only [fg,Option.some.injEq,Prod.mk.injEq] at h;obtain ⟨rfl,rfl⟩:=h;exact ⟨.refl _,by simp [cS]⟩
 |m::ms,[],L,ls,Lm,h=>by
  cases m<;>(simp only [fg,Option.some.injEq,Prod.mk.injEq] at h;obtain ⟨rfl,rfl⟩:=h;exact ⟨.refl _,by simp [cS]⟩)
 | .val::ms,x::xs,L,ls,Lm,h=>by simp only [fg] at h;simpa only [cS] using mw ms xs L ls Lm h
 | .eP::ms,x::xs,L,ls,Lm,h=>by simp only [fg] at h;simpa only [cS] using mw ms xs L ls Lm h
 | .io::ms,x::xs,L,ls,Lm,h=>by
  simp only [fg] at h;split at h
  ·rename_i id ad hk;split at h
   ·rename_i b hb;split at h
    ·rename_i r H' hr
     simp only [Option.some.injEq,Prod.mk.injEq] at h;obtain ⟨rfl,rfl⟩:=h;obtain ⟨h1,h2⟩:=mw ms xs _ _ _ hr;refine ⟨(bD.del L id).trans h1,?_⟩;simp only [cS];refine ⟨⟨id,ad,b,hk,hb,rfl,?_⟩,h2.mono (bD.del L id)⟩;cases hq:H'.get id with
     |none=>rfl
     |some b=>have:=h1.get _ _ hq;rw [J.iK,if_pos rfl] at this;simp at this
    ·simp at h
   ·simp at h
  ·simp at h
def junk (b:bB):bB:={b with el:=b.el.map fun _=> .agg (List.replicate b.sz .undef)}
theorem yK {H:J} {id k:Nat} {b b' :bB} (h:(H.a7 id b).get k=some b'):(k=id∧b' =b)∨H.get k=some b' :=by
 unfold J.a7 J.get at h;simp only [List.getElem?_set] at h;by_cases hk:id=k
 ·subst hk;simp only [if_true] at h;split at h
  ·simp at h;exact .inl ⟨rfl,h.symm⟩
  ·simp at h
 ·rw [if_neg hk] at h;exact .inr h
theorem yL {H:J} {id:Nat} {b:bB} (h:id<H.bs.length) (k:Nat):(H.a7 id b).get k=if k=id then some b else H.get k:=by
 unfold J.a7 J.get;simp only [List.getElem?_set];by_cases hk:id=k
 ·subst hk;simp [h]
 ·rw [if_neg hk,if_neg (fun e=>hk e.symm)]
def gE (H0:J) (v:AV) (H:J):J:=
 match dH v with
 |some (id,ad)=>match H0.ap id ad with
  |some b=>H.a7 id (junk b)
  |none=>H
 |none=>H
theorem yM (H0:J) (v:AV) (H:J):(gE H0 v H).bs.length=H.bs.length∧(gE H0 v H).st=H.st:=by
 unfold gE;split
 ·split
  ·simp [J.a7]
  ·exact ⟨rfl,rfl⟩
 ·exact ⟨rfl,rfl⟩
theorem rE (H0:J) (ms:List Mode) (v:AV) (vs:List AV) (H:J):cD H0 (.io::ms) (v::vs) H=cD H0 ms vs (gE H0 v H):=rfl
theorem yN {H0:J} {v:AV} {H:J} {k:Nat} {b' :bB} (h:(gE H0 v H).get k=some b'):H.get k=some b' ∨ ∃ad b,dH v=some (k,ad)∧H0.ap k ad=some b∧b' =junk b:=by
 unfold gE at h;split at h
 ·rename_i id ad hr;split at h
  ·rename_i b hb;rcases yK h with ⟨rfl,rfl⟩|h
   ·exact .inr ⟨ad,b,hr,hb,rfl⟩
   ·exact .inl h
  ·exact .inl h
 ·exact .inl h
theorem my (H0:J): ∀(ms:List Mode) (as:List AV) (H:J),(cD H0 ms as H).bs.length=H.bs.length∧(cD H0 ms as H).st=H.st
 |[],as,H=>by simp [cD]
 |m::ms,[],H=>by cases m<;>simp [cD]
 | .val::ms,a::as,H=>by simp only [cD];exact my H0 ms as H
 | .eP::ms,a::as,H=>by simp only [cD];exact my H0 ms as H
 | .io::ms,a::as,H=>by
  rw [rE];have:=my H0 ms as (gE H0 a H);have h2:=yM H0 a H;exact ⟨this.1.trans h2.1,this.2.trans h2.2⟩
theorem mz (H0:J) {Lx Lm:J} {φ :ag} {L0:J} {aC:ag}: ∀(ms:List Mode) (as vs:List AV) (ls:List (List AV)) (H:J) (k:Nat) (b' :bB),as.length=vs.length→b8 H0 φ L0 aC ms as vs→cS Lx Lm ms vs ls→
 (cD H0 ms as H).get k=some b' →H.get k=some b' ∨ ∃a x ad b kk kv bk,dH a=some (k,ad)∧H0.ap k ad=some b∧b' =junk b∧hN H0 φ L0 aC a x∧kB x=some (kk,kv)∧Lx.ap kk kv=some bk∧Lm.get kk=none
 |[],as,vs,ls,H,k,b',_,_,_,h=>by simp only [cD] at h;exact .inl h
 |m::ms,[],vs,ls,H,k,b',_,_,_,h=>by cases m<;>(simp only [cD] at h;exact .inl h)
 |m::ms,a::as,[],ls,H,k,b',hl,_,_,h=>by simp at hl
 | .val::ms,a::as,x::vs,ls,H,k,b',hl,h1,h2,h=>by
  simp only [cD] at h;exact mz H0 ms as vs ls H k b' (by simpa using hl) (by simpa only [b8] using h1) (by simpa only [cS] using h2) h
 | .eP::ms,a::as,x::vs,ls,H,k,b',hl,h1,h2,h=>by
  simp only [cD] at h;exact mz H0 ms as vs ls H k b' (by simpa using hl) (by simpa only [b8] using h1) (by simpa only [cS] using h2) h
 | .io::ms,a::as,x::vs,[],H,k,b',hl,h1,h2,h=>by simp only [cS] at h2
 | .io::ms,a::as,x::vs,l::ls,H,k,b',hl,h1,h2,h=>by
  rw [rE] at h;simp only [b8] at h1;simp only [cS] at h2;rcases mz H0 ms as vs ls _ k b' (by simpa using hl) h1.2 h2.2 h with h3|h3
  ·rcases yN h3 with h4|⟨ad,b,q1,q2,q3⟩
   ·exact .inl h4
   ·obtain ⟨kk,kv,bk,p1,p2,_,p4⟩:=h2.1;exact .inr ⟨a,x,ad,b,kk,kv,bk,q1,q2,q3,h1.1,p1,p2,p4⟩
  ·exact .inr h3
def Has (Hx:J) (id ad:Nat) (b:bB):Prop:= ∃b',Hx.ap id ad=some b' ∧b'.sz=b.sz∧b'.el.length=b.el.length
theorem Has.gE {H0 Hx:J} {id ad:Nat} {b:bB} (h0:H0.ap id ad=some b) (h:Has Hx id ad b) (v:AV):Has (gE H0 v Hx) id ad b:=by
 obtain ⟨b',h1,h2,h3⟩:=h;unfold VS.gE;split
 ·rename_i mA BR hr;split
  ·rename_i b2 iG;have ax:id<Hx.bs.length:=J.gp (J.bn h1).1;by_cases bN:mA=id
   ·subst bN;have g1:=J.bn h0;have g2:=J.bn iG;have:b2=b:=by have:=g1.1.symm.trans g2.1;simp only [Option.some.injEq] at this;exact this.symm
    subst this;refine ⟨junk b2,?_,rfl,by simp [junk]⟩
    have:=J.gn (H:=Hx.a7 mA (junk b2)) (id:=mA) (b:=junk b2) (by rw [yL ax,if_pos rfl])
    rw [←g1.2];exact this
   ·refine ⟨b',?_,h2,h3⟩;have g:=J.bn h1;have:(Hx.a7 mA (junk b2)).get id=some b' :=by
     unfold J.a7 J.get;simp only [List.getElem?_set];rw [if_neg bN];exact g.1
    rw [←g.2];exact J.gn this
  ·exact ⟨b',h1,h2,h3⟩
 ·exact ⟨b',h1,h2,h3⟩
structure o_ (w:World) (A:ah) (aC:ag) (w' :World) (ak:ag) (AH:ah):Prop where
 own: ∀c,A c→ ¬Ow aC c→AH c
 er: ∀c,Ow ak c→AH c
 bY: ∀c,AH c→c<w'.heap.size
 fz: ∀c arr T fr,w.heap[c]? =some (.cells arr T fr)→ ¬A c→(∃eS,w'.heap[c]? =some (.cells arr T eS))∧ ¬AH c
def yO (w:World) (L:J) (φL:ag) (AL:ah) (H:J) (φ :ag) (a:AV) (l:List AV):Prop:=
 (dH a=none→l=[])∧ ∀id ad,dH a=some (id,ad)→ ∃c b0 b arr T fr,H.ap id ad=some b∧ φ id=some (.at_ c b0)∧w.heap[c]? =some (.cells arr T fr)∧l.length=b.el.length∧
  (∀(i:Nat) (x:AV),l[i]? =some x→x.cells.length=b.sz)∧ ∀(i:Nat) (x:AV) (j:Nat) (y:AV) (v:Value),l[i]? =some x→x.cells[j]? =some y→arr[b0+i*b.sz+j]? =some v→R w L φL AL y v
def ew (w:World) (L:J) (φL:ag) (AL:ah) (H:J) (φ :ag):List Mode→List AV→List (List AV)→Prop
 | .io::ms,a::as,l::ls=>yO w L φL AL H φ a l∧ew w L φL AL H φ ms as ls
 | .val::ms,_::as,ls=>ew w L φL AL H φ ms as ls
 | .eP::ms,_::as,ls=>ew w L φL AL H φ ms as ls
 |_,_,_=>True
section back
variable {w w' :World} {A:ah} {H:J} {φ :ag} {H1 L0:J} {aC:ag} {A0:ah} {L:J} {ak:ag} {A' AH:ah} {ms:List Mode} {as vs:List AV} {ls:List (List AV)} {Lm:J}
theorem pa (m:ca w H φ A ⟨0,[]⟩ (fun _=>none) A H1 L0 aC) (ho:Out w L0 aC A0 w' L ak A') {a x:AV} (hr:hN H φ L0 aC a x) {kk kv:Nat} {bk:bB} (hk:kB x=some (kk,kv)) (hb:L.ap kk kv=some bk):
 (dH a=none→bk.el=[])∧ ∀id ad,dH a=some (id,ad)→ ∃b c b0,H.ap id ad=some b∧bk.sz=b.sz∧bk.el.length=b.el.length∧ φ id=some (.at_ c b0)∧ak kk=some (.at_ c b0)∧qt w' L ak A' bk (.at_ c b0):=by
 obtain ⟨k,BS,b1,e1,e2,⟨loc,hZ⟩,e3,e4⟩:=hr;rw [hk] at e1;simp only [Option.some.injEq,Prod.mk.injEq] at e1;obtain ⟨rfl,rfl⟩:=e1;obtain ⟨g1,g2⟩:=J.bn hb;obtain ⟨f1,f2⟩:=J.bn e2;have ax:kv<L0.st:=by
  obtain ⟨bb,p1,p2⟩:=m.bz.sh.ap kk loc hZ;rw [f1] at p1;simp only [Option.some.injEq] at p1;subst p1;rw [←f2];exact p2.ad
 ·obtain ⟨b2,i1,i2,i3,i4,i5,i6⟩:=ho.bQ.ids kk bk g1 (by omega)
  rw [f1] at i1;simp only [Option.some.injEq] at i1;subst i1;refine ⟨fun h=>List.eq_nil_of_length_eq_zero (by rw [i5,e3 h];rfl),fun id ad h=> ?_⟩
  obtain ⟨b,c,b0,q1,q2,q3,q4,q5⟩:=e4 id ad h;have hp:=i6 _ q5;obtain ⟨bb,p1,p2⟩:=ho.st.ap kk _ hp;rw [g1] at p1;simp only [Option.some.injEq] at p1;subst p1;exact ⟨b,c,b0,q1,i3.trans q2,i5.trans q3,q4,hp,p2⟩
theorem rF (ae:St w H φ A) (m:ca w H φ A ⟨0,[]⟩ (fun _=>none) A H1 L0 aC) (hlen:as.length=vs.length) (dR:b8 H φ L0 aC ms as vs) (ho:Out w L0 aC A0 w' L ak A') (ha:o_ w A aC w' ak AH) (ht:fg ms vs L=some (ls,Lm)):
 bZ w' Lm (aE ak Lm) A' (cD H ms as H1) (aE φ (cD H ms as H1)) AH∧bH w H φ A w' (cD H ms as H1) (aE φ (cD H ms as H1)) AH:=by
 obtain ⟨da,pb⟩:=mw _ _ _ _ _ ht;have bw: ∀c,Ow aC c→Ow φ c:=fun c hc=>by
  rcases m.oh c hc with ⟨i,b,h⟩|h
  ·simp at h
  ·exact h.1
 have bC:=fun k b' =>mz H ms as vs ls H1 k b' hlen dR pb
 have pc:=(my H ms as H1).2;have aR:bH w H φ A w' (cD H ms as H1) (aE φ (cD H ms as H1)) AH:=by
  refine ⟨ha.fz,by rw [pc,m.less.st];exact Nat.le_refl _,fun id b' aw _=> ?_,fun c hc=>ho.post.a8 c (Ow.lt ae hc)⟩
  have b4: ∀loc,φ id=some loc→aE φ (cD H ms as H1) id=some loc:=fun loc h=>by simp [aE,aw,h]
  rcases bC id b' aw with h|⟨a,x,ad,b,kk,kv,bk,q1,q2,rfl,q4,q5,q6,q7⟩
  ·exact ⟨b',m.less.get _ _ h,rfl,rfl,rfl,rfl,b4⟩
  ·exact ⟨b,(J.bn q2).1,rfl,rfl,rfl,by simp [junk],b4⟩
 refine ⟨⟨ef ho.st da,⟨fun i i' c b b' h1 h2=>ae.inj _ _ _ _ _ (dh h1).1 (dh h2).1,fun c hc=> ?_,ha.bY,fun id loc hl=> ?_⟩,fun c hc hj=> ?_,fun c hc=>ha.er c (bJ hc)⟩,aR⟩
 ·obtain ⟨id,b0,h⟩:=hc;obtain ⟨h1,b',aw⟩:=dh h;rcases bC id b' aw with h2|⟨a,x,ad,b,kk,kv,bk,q1,q2,rfl,q4,q5,q6,q7⟩
  ·refine ha.own c (ae.own c ⟨id,b0,h1⟩) (m.bz.b_ c ⟨id,b0,?_⟩);simp [aE,h2,h1]
  ·obtain ⟨_,re⟩:=pa m ho q4 q5 q6;obtain ⟨b2,c2,pd,_,_,_,r4,r5,_⟩:=re id _ q1;rw [h1] at r4;simp only [Option.some.injEq,Loc.at_.injEq] at r4;obtain ⟨rfl,rfl⟩:=r4;exact ha.er c ⟨kk,b0,r5⟩
 ·obtain ⟨h1,b',aw⟩:=dh hl;refine ⟨b',aw,?_⟩;rcases bC id b' aw with h2|⟨a,x,ad,b,kk,kv,bk,q1,q2,rfl,q4,q5,q6,q7⟩
  ·obtain ⟨b2,iG,af⟩:=ae.ap id loc h1;rw [m.less.get _ _ h2] at iG;simp only [Option.some.injEq] at iG;subst iG;refine ⟨by rw [pc,m.less.st];exact af.ad,af.sized,af.aQ,fun c b0 he=> ?_⟩
   subst he;obtain ⟨arr,T,fr,k1,k2,k3,k4⟩:=af.here c b0 rfl;have hn: ¬Ow aC c:=m.bz.b_ c ⟨id,b0,by simp [aE,h2,h1]⟩
   refine ⟨arr,T,fr,?_,k2,k3,fun i x j y v hx hy hv=>⟨(k4 i x j y v hx hy hv).1.mono aR,(k4 i x j y v hx hy hv).2⟩⟩;rw [ho.post.kept c (Ow.lt ae ⟨id,b0,h1⟩) hn];exact k1
  ·obtain ⟨_,re⟩:=pa m ho q4 q5 q6;obtain ⟨b2,c2,pd,r1,r2,r3,r4,r5,af⟩:=re id _ q1;rw [h1] at r4;simp only [Option.some.injEq] at r4;subst r4;rw [q2] at r1;simp only [Option.some.injEq] at r1;subst r1;obtain ⟨b3,kQ,yP⟩:=ae.ap id _ h1;rw [(J.bn q2).1] at kQ;simp only [Option.some.injEq] at kQ;subst kQ;have hcs: ∀(i:Nat) (x:AV),(junk b).el[i]? =some x→i<b.el.length∧x= .agg (List.replicate b.sz .undef):=by
    intro i x hx;simp only [junk,List.getElem?_map,Option.map_eq_some_iff] at hx;obtain ⟨z,hz,rfl⟩:=hx;exact ⟨(List.getElem?_eq_some_iff.1 hz).1,rfl⟩
   refine ⟨by rw [pc,m.less.st];exact yP.ad,fun i x hx=>by rw [(hcs i x hx).2];simp [AV.cells,junk],fun h=>by simp at h,fun c b0 he=> ?_⟩
   simp only [Loc.at_.injEq] at he;obtain ⟨rfl,rfl⟩:=he;obtain ⟨arr,T,fr,k1,k2,k3,k4⟩:=af.here c2 pd rfl;refine ⟨arr,T,fr,k1,k2,by simp only [junk,List.length_map];rw [←r3,←r2];exact k3,fun i x j y v hx hy hv=> ?_⟩
   obtain ⟨hi,rfl⟩:=hcs i x hx;have hj:j<b.sz:=by have:=(List.getElem?_eq_some_iff.1 hy).1;simpa [AV.cells] using this
   have yQ:y= .undef:=by simp only [AV.cells] at hy;rw [List.getElem?_replicate,if_pos hj] at hy;simpa using hy.symm
   subst yQ;refine ⟨.fr _ _ (.undef _),?_⟩;have rG:=List.getElem?_eq_getElem (show i<bk.el.length by omega)
   exact (k4 i _ j _ v rG (List.getElem?_eq_getElem (show j<_ by rw [af.sized _ _ rG,r2];exact hj)) (by rw [r2];exact hv)).2
 ·obtain ⟨id,b0,h⟩:=hj;obtain ⟨h1,b',aw⟩:=dh h;rcases bC id b' aw with h2|⟨a,x,ad,b,kk,kv,bk,q1,q2,rfl,q4,q5,q6,q7⟩
  ·rcases ho.post.own c (bJ hc) with h3|h3
   ·exact m.bz.b_ c ⟨id,b0,by simp [aE,h2,h1]⟩ h3
   ·have:=Ow.lt ae ⟨id,b0,h1⟩;omega
  ·obtain ⟨_,re⟩:=pa m ho q4 q5 q6;obtain ⟨b2,c2,pd,_,_,_,r4,r5,_⟩:=re id _ q1;rw [h1] at r4;simp only [Option.some.injEq,Loc.at_.injEq] at r4;obtain ⟨rfl,rfl⟩:=r4;obtain ⟨i,bb,hi⟩:=hc;obtain ⟨fu,bx,rH⟩:=dh hi;have:=ho.st.inj _ _ _ _ _ fu r5;subst this;rw [q7] at rH;simp at rH
end back
end Go.VS
namespace Go.VS
section back
variable {w:World} {AL AH:ah}
structure Mv (w:World) (L:J) (φL:ag) (AL:ah) (H:J) (φ :ag) (AH:ah) (L1 H1:J) (φ1:ag):Prop where
 less:bD L L1
 bz:bZ w L1 (aE φL L1) AL H1 φ1 AH
 eh:bH w H φ AH w H1 φ1 AH
 oh: ∀c,Ow φ1 c→Ow φ c∨(Ow φL c∧ ¬Ow (aE φL L1) c)
 has: ∀id ad b,H.ap id ad=some b→ ∃b',H1.ap id ad=some b' ∧b'.sz=b.sz∧b'.el.length=b.el.length
 b4: ∀id loc,φ id=some loc→ φ1 id=some loc
theorem Mv.trans {L L1 L2:J} {φL:ag} {H H1 H2:J} {φ φ1 bd:ag} (h:Mv w L φL AL H φ AH L1 H1 φ1) (k:Mv w L1 (aE φL L1) AL H1 φ1 AH L2 H2 bd):Mv w L φL AL H φ AH L2 H2 bd:=by
 have hr:=fT (φ := φL) k.less;refine ⟨h.less.trans k.less,by rw [←hr];exact k.bz,h.eh.trans k.eh (fun _ _=>rfl),fun c hc=> ?_,fun id ad b hb=> ?_,fun id loc hl=>k.b4 id loc (h.b4 id loc hl)⟩
 ·rcases k.oh c hc with h1|⟨h1,h2⟩
  ·rcases h.oh c h1 with h3|⟨h3,h4⟩
   ·exact .inl h3
   ·refine .inr ⟨h3,fun h5=>h4 ?_⟩;rw [←hr] at h5;exact bJ h5
  ·rw [hr] at h2;exact .inr ⟨bJ h1,h2⟩
 ·obtain ⟨b1,e1,e2,e3⟩:=h.has id ad b hb;obtain ⟨b2,f1,f2,f3⟩:=k.has id ad b1 e1;exact ⟨b2,f1,f2.trans e2,f3.trans e3⟩
theorem iH.refl {w:World} {c:Nat} {o:Obj} (h:w.heap[c]? =some o):iH w c o w:=⟨h,fun _ _=>rfl,rfl,rfl,rfl,rfl⟩
theorem ew.mono {L L1:J} {φL:ag} {H H1:J} {φ φ1:ag} (hl:bD L L1) (has: ∀id ad b,H.ap id ad=some b→ ∃b',H1.ap id ad=some b' ∧b'.sz=b.sz∧b'.el.length=b.el.length) (b4: ∀id loc,φ id=some loc→ φ1 id=some loc):
 ∀{ms:List Mode} {as:List AV} {ls:List (List AV)},ew w L φL AL H φ ms as ls→ew w L1 (aE φL L1) AL H1 φ1 ms as ls
 |[],as,ls,_=>by simp [ew]
 |m::ms,[],ls,_=>by cases m<;>simp [ew]
 | .val::ms,a::as,ls,h=>by simp only [ew] at h⊢;exact ew.mono hl has b4 h
 | .eP::ms,a::as,ls,h=>by simp only [ew] at h⊢;exact ew.mono hl has b4 h
 | .io::ms,a::as,[],h=>by simp [ew]
 | .io::ms,a::as,l::ls,h=>by
  simp only [ew] at h⊢;refine ⟨⟨h.1.1,fun id ad hr=> ?_⟩,ew.mono hl has b4 h.2⟩;obtain ⟨c,b0,b,arr,T,fr,k1,k2,k3,k4,k5,k6⟩:=h.1.2 id ad hr;obtain ⟨b',e1,e2,e3⟩:=has id ad b k1;exact ⟨c,b0,b',arr,T,fr,e1,b4 _ _ k2,k3,by rw [k4,e3],fun i x hx=>by rw [e2];exact k5 i x hx,fun i x j y v hx hy hv=>(k6 i x j y v hx hy (by rw [←e2];exact hv)).mono (c5 hl)⟩
theorem rI: ∀(sh:List (List Sh)) (rs:List AV) (us:List Value) (L:J) (φL:ag) (H:J) (φ :ag) (ys:List AV) (L1:J),bZ w L φL AL H φ AH→rs.length=us.length→
 (∀(i:Nat) (x:AV) (u:Value),rs[i]? =some x→us[i]? =some u→R w L φL AL x u)→c7 sh rs L=some (ys,L1)→dQ AL AH ys→
 ∃ φ1,ca w L φL AL H φ AH L1 (aH ys H).2 φ1∧(aH ys H).1.length=us.length∧ ∀(i:Nat) (x:AV) (u:Value),(aH ys H).1[i]? =some x→us[i]? =some u→R w (aH ys H).2 φ1 AH x u
 |sh,[],us,L,φL,H,φ,ys,L1,hd,hl,hr,ht,hk=>by
  simp only [c7,Option.some.injEq,Prod.mk.injEq] at ht;obtain ⟨rfl,rfl⟩:=ht;exact ⟨φ,.refl hd,hl,by simp [aH]⟩
 |sh,x::rs,u::us,L,φL,H,φ,ys,L1,hd,hl,hr,ht,hk=>by
  simp only [c7] at ht;split at ht
  rotate_left
  ·simp at ht
  rename_i y L' h1
  split at ht
  rotate_left
  ·simp at ht
  rename_i aU c9 h2
  simp only [Option.some.injEq,Prod.mk.injEq] at ht;obtain ⟨rfl,rfl⟩:=ht;obtain ⟨k1,k2⟩:=hk.cons;obtain ⟨φ1,m1,r1⟩:=rk hd (hr 0 x u rfl rfl) h1 rfl k1;obtain ⟨bd,m2,l2,r2⟩:=rI sh.tail rs us L' (aE φL L') (aF y H).2 φ1 aU c9 m1.bz (by simpa using hl) (fun i x u hx hu=>(hr (i+1) x u hx hu).mono (c5 m1.less)) h2 k2
  refine ⟨bd,m1.trans m2,by simp [aH,l2],fun i x' u' hx hu=> ?_⟩
  cases i with
  |zero=>simp [aH] at hx hu;subst hx;subst hu;exact r1.mono m2.eh
  |succ i=>simp only [aH,List.getElem?_cons_succ] at hx hu;exact r2 i x' u' hx hu
 |sh,x::rs,[],L,φL,H,φ,ys,L1,hd,hl,hr,ht,hk=>by simp at hl
theorem rJ: ∀(sh:List (List Sh)) (rs:List AV) (L:J) (ys:List AV) (L1:J),c7 sh rs L=some (ys,L1)→bD L L1
 |sh,[],L,ys,L1,ht=>by simp only [c7,Option.some.injEq,Prod.mk.injEq] at ht;obtain ⟨rfl,rfl⟩:=ht;exact .refl _
 |sh,x::rs,L,ys,L1,ht=>by
  simp only [c7] at ht;split at ht
  ·rename_i y L' h1
   split at ht
   ·rename_i aU c9 h2
    simp only [Option.some.injEq,Prod.mk.injEq] at ht;obtain ⟨rfl,rfl⟩:=ht;exact (fw _ _ _ _ _ h1).trans (rJ _ rs _ _ _ h2)
   ·simp at ht
  ·simp at ht
theorem rK {es:List Sh} {x:AV} {v:Value} {L:J} {φL:ag} {A' :ah} {y:AV} {L1:J} (ae:St w L φL AL) (hx:R w L φL AL x v) (ht:aY es x L=some (y,L1)) (hk: ∀c,A' c→gone φL AL L1 c):FR w A' (br y) v:=by
 by_cases bX: ∃cs,x= .agg cs
 ·obtain ⟨cs,rfl⟩:=bX;obtain ⟨aW,hc,rfl⟩:=k9 ht;obtain ⟨vs,rfl,hl,ho,hp⟩:=hx.fM;obtain ⟨l1,r1⟩:=o0 es cs vs.toList L φL AL A' aW L1 ae (by simpa using hl) (fun j c u hj hu=>hp j c u hj (by simpa using hu)) hc hk
  exact .agg _ _ (by rw [l1,hl]) ho fun i x v hx hv=>r1 i x v hx (by simpa using hv)
 ·obtain ⟨e,rfl,cz⟩:=jm (fun cs h=>bX ⟨cs,h⟩) ht;exact (mq e x v L φL AL A' y L1 ae hx cz hk).1
theorem pe {A' :ah}: ∀(sh:List (List Sh)) (rs:List AV) (us:List Value) (L:J) (φL:ag) (ys:List AV) (L1:J),St w L φL AL→rs.length=us.length→
 (∀(i:Nat) (x:AV) (u:Value),rs[i]? =some x→us[i]? =some u→R w L φL AL x u)→c7 sh rs L=some (ys,L1)→(∀c,A' c→gone φL AL L1 c)→
 (bU ys).length=us.length∧ ∀(i:Nat) (x:AV) (u:Value),(bU ys)[i]? =some x→us[i]? =some u→FR w A' x u
 |sh,[],us,L,φL,ys,L1,hd,hl,hr,ht,hk=>by
  simp only [c7,Option.some.injEq,Prod.mk.injEq] at ht;obtain ⟨rfl,rfl⟩:=ht;exact ⟨hl,by simp [bU]⟩
 |sh,x::rs,u::us,L,φL,ys,L1,hd,hl,hr,ht,hk=>by
  simp only [c7] at ht;split at ht
  rotate_left
  ·simp at ht
  rename_i y L' h1
  split at ht
  rotate_left
  ·simp at ht
  rename_i aU c9 h2
  simp only [Option.some.injEq,Prod.mk.injEq] at ht;obtain ⟨rfl,rfl⟩:=ht;have da:=fw _ _ _ _ _ h1;have dg:=rJ _ _ _ _ _ h2;have r1:=rK (A' :=A') hd (hr 0 x u rfl rfl) h1 (fun c hc=>oW dg (hk c hc))
  obtain ⟨l2,r2⟩:=pe sh.tail rs us L' (aE φL L') aU c9 (ef hd da) (by simpa using hl) (fun i x u hx hu=>(hr (i+1) x u hx hu).mono (c5 da)) h2 (fun c hc=>by
   obtain ⟨k1,k2⟩:=hk c hc;exact ⟨k1,fun ho=>by rw [fT dg];exact k2 (bJ ho)⟩)
  refine ⟨by simp [bU,l2],fun i x' u' hx hu=> ?_⟩
  cases i with
  |zero=>simp [bU] at hx hu;subst hx;subst hu;exact r1
  |succ i=>simp only [bU,List.getElem?_cons_succ] at hx hu;exact r2 i x' u' hx hu
 |sh,x::rs,[],L,φL,ys,L1,hd,hl,hr,ht,hk=>by simp at hl
end back
end Go.VS
namespace Go.VS
def h_:List Value→Value
 |[v]=>v
 |vs=> .tuple vs.toArray
def gF (P:Program) (f:FuncId):Prop:= ∃fn,P.funcs[f]? =some fn∧(fn.name== "runtime.NumGoroutine")=false∧fn.body.isNone=false
def iM (w:World) (H:J) (φ :ag) (A:ah) (K:AV→J→Prop) (e:Ending) (w' :World):Prop:=
 match e with
 | .returned v' => ∃x H' ak A',Out w H φ A w' H' ak A' ∧R w' H' ak A' x v' ∧K x H'
 |_=>False
theorem iM.mono {w:World} {H:J} {φ :ag} {A:ah} {K K' :AV→J→Prop} (h: ∀v H,K v H→K' v H) {e:Ending} {w' :World} (k:iM w H φ A K e w'):iM w H φ A K' e w' :=by
 cases e with
 |returned v' =>obtain ⟨x,H',ak,A',h1,h2,h3⟩:=k;exact ⟨x,H',ak,A',h1,h2,h _ _ h3⟩
 |panicked c=>exact k
 |outgrown=>exact k
def cb (P:Program):bq:=fun f ys H K=>gF P f∧
 ∀(w:World) (A:ah) (φ :ag) (us:Array Value),St w H φ A→ys.length=us.size→
  (∀(i:Nat) (x:AV) (u:Value),ys[i]? =some x→us[i]? =some u→R w H φ A x u)→Calls P f us w (iM w H φ A K)
theorem cb.mono {P:Program} {f:FuncId} {ys:List AV} {H:J} {K K' :AV→J→Prop} (h: ∀v H,K v H→K' v H) (k:cb P f ys H K):cb P f ys H K' :=
 ⟨k.1,fun w A φ us h1 h2 h3=>(k.2 w A φ us h1 h2 h3).mono fun _ _ he=>he.mono h⟩
def Exact (X:bq):Prop:= ∀f ys H K,X f ys H K→ ∃v H',X f ys H (fun v1 H1=>v1=v∧H1=H')∧K v H'
theorem St.shrink {w:World} {H:J} {φ :ag} {A A' :ah} (h:St w H φ A) (h1: ∀c,A' c→A c) (h2: ∀c,Ow φ c→A' c):St w H φ A' :=by
 refine ⟨h.inj,h2,fun c hc=>h.bY c (h1 c hc),fun id loc hl=> ?_⟩;obtain ⟨b,hb,af⟩:=h.ap id loc hl;refine ⟨b,hb,af.ad,af.sized,af.aQ,fun c b0 he=> ?_⟩;obtain ⟨arr,T,fr,k1,k2,k3,k4⟩:=af.here c b0 he;exact ⟨arr,T,fr,k1,k2,k3,fun i x j y v hx hy hv=>⟨(k4 i x j y v hx hy hv).1.mn h1,(k4 i x j y v hx hy hv).2⟩⟩
section
variable {w:World} {H:J} {φ :ag} {A:ah}
theorem pf {xs:List AV} {us:List Value} (hl:xs.length=us.length) (h: ∀(i:Nat) (x:AV) (u:Value),xs[i]? =some x→us[i]? =some u→R w H φ A x u):R w H φ A (cc xs) (h_ us):=by
 have key: ∀{xs:List AV} {us:List Value},xs.length=us.length→(∀(i:Nat) (x:AV) (u:Value),xs[i]? =some x→us[i]? =some u→R w H φ A x u)→R w H φ A (.ay xs) (.tuple us.toArray):=
  fun hl h=> .ay _ _ (by simpa using hl) fun i x v hx hv=>h i x v hx (by simpa using hv)
 match xs,us,hl with
 |[],[],hl=>exact key hl h
 |[x],[u],_=>exact h 0 x u rfl rfl
 |x::x' ::xs,u::u' ::us,hl=>exact key hl h
theorem rL {xs:List AV} {us:List Value} (hl:xs.length=us.length) (h: ∀(i:Nat) (x:AV) (u:Value),xs[i]? =some x→us[i]? =some u→FR w A x u):FR w A (cc xs) (h_ us):=by
 have key: ∀{xs:List AV} {us:List Value},xs.length=us.length→(∀(i:Nat) (x:AV) (u:Value),xs[i]? =some x→us[i]? =some u→FR w A x u)→FR w A (.ay xs) (.tuple us.toArray):=
  fun hl h=> .ay _ _ (by simpa using hl) fun i x v hx hv=>h i x v hx (by simpa using hv)
 match xs,us,hl with
 |[],[],hl=>exact key hl h
 |[x],[u],_=>exact h 0 x u rfl rfl
 |x::x' ::xs,u::u' ::us,hl=>exact key hl h
end
theorem rM (zs:List AV) (H:J):aF (cc zs) H=(cc (aH zs H).1,(aH zs H).2):=by
 match zs with
 |[]=>rfl
 |[z]=>rfl
 |z::z' ::zs=>rfl
theorem rN (zs:List AV):br (cc zs)=cc (bU zs):=by
 match zs with
 |[]=>rfl
 |[z]=>rfl
 |z::z' ::zs=>rfl
theorem rO (zs:List AV):cf (cc zs)=dY zs:=by
 match zs with
 |[]=>rfl
 |[z]=>simp [cc,dY]
 |z::z' ::zs=>rfl
theorem rP {xs:List AV} {v:Value} {w:World} {H:J} {φ :ag} {A:ah} (h:R w H φ A (cc xs) v): ∃us:List Value,v=h_ us∧xs.length=us.length∧ ∀(i:Nat) (x:AV) (u:Value),xs[i]? =some x→us[i]? =some u→R w H φ A x u:=by
 have key: ∀{xs:List AV},xs.length≠1→R w H φ A (.ay xs) v→ ∃us:List Value,v=h_ us∧xs.length=us.length∧ ∀(i:Nat) (x:AV) (u:Value),xs[i]? =some x→us[i]? =some u→R w H φ A x u:=by
  intro xs hl h;obtain ⟨vs,rfl,h1,h2⟩:=h.lR;refine ⟨vs.toList,?_,by simpa using h1,fun i x u hx hu=>h2 i x u hx (by simpa using hu)⟩
  have cZ:vs.toList.length≠1:=by simp only [Array.length_toList];omega
  generalize hv:vs.toList=l at cZ;have:Value.tuple vs= .tuple l.toArray:=by rw [←hv]
  rw [this]
  match l with
  |[]=>rfl
  |[u]=>exact absurd rfl cZ
  |u::u' ::l=>rfl
 match xs with
 |[]=>exact key (by simp) h
 |[x]=>exact ⟨[v],rfl,rfl,fun i x' u hx hu=>by
  cases i with
  |zero=>simp at hx hu;subst hx;subst hu;exact h
  |succ i=>simp at hx⟩
 |x::x' ::xs=>exact key (by simp) h
def mB (ms:List Mode):Prop:= ∀m∈ms,m= .val
theorem pg: ∀(ms:List Mode) (sh:List (List Sh)) (as:List AV) (H:J),mB ms→fI ms sh as H=some (as,H)
 |[],sh,as,H,_=>rfl
 |m::ms,sh,[],H,_=>rfl
 |m::ms,sh,a::as,H,h=>by
  have hm:=h m (by simp)
  subst hm;simp only [fI,e9,pg ms sh.tail as H (fun m hm=>h m (by simp [hm]))]
theorem ph (H0:J): ∀(ms:List Mode) (as:List AV) (H:J),mB ms→cD H0 ms as H=H
 |[],as,H,_=>by simp [cD]
 |m::ms,[],H,_=>by cases m<;>simp [cD]
 |m::ms,a::as,H,h=>by
  have hm:=h m (by simp)
  subst hm;simp only [cD];exact ph H0 ms as H (fun m hm=>h m (by simp [hm]))
theorem j7 {w:World} {H:J} {φ :ag} {A:ah} (ae:St w H φ A):aE φ H= φ :=by
 funext id
 unfold aE;cases hp: φ id with
 |none=>simp
 |some loc=>obtain ⟨b,hb,_⟩:=ae.ap id loc hp;simp [hb]
theorem pj {H:J}: ∀(as ys:List AV) (b:Bool),b9 [] as H=some (ys,b)→ ∀L,cd [] ys L=(ys,L)
 |[],ys,b,h,L=>by simp only [b9,Option.some.injEq,Prod.mk.injEq] at h;obtain ⟨rfl,_⟩:=h;rfl
 |a::as,ys,b,h,L=>by
  simp only [b9] at h;split at h
  ·rename_i y hy;split at h
   ·rename_i aU b' cx
    simp only [Option.some.injEq,Prod.mk.injEq] at h;obtain ⟨rfl,_⟩:=h;simp only [cd,mr H 8 a y hy,List.tail_nil,pj as aU b' cx]
   ·simp at h
  ·simp at h
theorem yR {P:Program} {C:aG} {X:bq} (hX: ∀f ys H K,X f ys H K→cb P f ys H K) {w:World} {H:J} {φ :ag} {A:ah} (ae:St w H φ A) {f:FuncId} {as:List AV} {us:Array Value} (hl:as.length=us.size)
 (hr: ∀(i:Nat) (x:AV) (u:Value),as[i]? =some x→us[i]? =some u→R w H φ A x u) {th:Bool} {K:AV→J→Prop} (h:dq X C f as th H K):gF P f∧Calls P f us w (iM w H φ A K):=by
 unfold dq at h;split at h
 ·exact h.elim
 rename_i ys bV hy;obtain ⟨y,lb,hM,hp⟩:=h;have hm:mB []:=fun m hm=>by simp at hm
 have pk:bZ w H φ A ⟨0,[]⟩ (fun _=>none) A:=by
  refine ⟨ae,⟨fun i i' c b b' h=>by simp at h,fun c hc=> ?_,ae.bY,fun id loc h=>by simp at h⟩,fun c _ hc=> ?_,ae.own⟩
  ·obtain ⟨i,b,h⟩:=hc;simp at h
  ·obtain ⟨i,b,h⟩:=hc;simp at h
 have po:cd [] ys ⟨0,[]⟩=(ys,⟨0,[]⟩):=pj _ _ _ hy _;obtain ⟨aC,m,cA,dR⟩:=mv as [] [] us.toList H φ as H ys bV ⟨0,[]⟩ (fun _=>none) ys ⟨0,[]⟩ pk (by simpa using hl) (fun i x u hx hu=>hr i x u hx (by simpa using hu)) (pg _ _ _ _ hm) hy po
 have bw: ∀c,¬Ow aC c:=fun c hc=>by
  rcases m.oh c hc with ⟨i,b,h⟩|⟨h1,h2⟩
  ·simp at h
  ·rw [j7 ae] at h2;exact h2 h1
 let A0:ah:=if bV=true then Ow aC else A
 have jo: ∀c,A0 c→A c:=by
  intro c hc;simp only [A0] at hc;split at hc
  ·exact absurd hc (bw c)
  ·exact hc
 have pq:bV=true→ ∀c,A0 c→fy (aE φ H) A c:=by
  intro ax c hc;simp only [A0,ax,if_true] at hc;exact absurd hc (bw c)
 have cT:St w ⟨0,[]⟩ aC A0:=m.bz.sh.shrink jo (fun c hc=>absurd hc (bw c));have eX:ys.length=us.size:=by simpa using cA.1
 refine ⟨(hX _ _ _ _ lb).1,((hX _ _ _ _ lb).2 w A0 aC us cT eX (fun i x u hx hu=>cA.2 A0 jo pq i x u hx (by simpa using hu))).mono fun e w' he=> ?_⟩
 cases e with
 |panicked c=>exact he.elim
 |outgrown=>exact he.elim
 |returned v' =>
 obtain ⟨x0,L,ak,A',ho,pr,rs,gD,L2,rfl,lf,rfl⟩:=he;obtain ⟨cF,rfl,fA,hI⟩:=rP pr
 let AH:ah:=if bV=true then fun c=>A c∨(A' c∧w.heap.size≤c) else A'
 have jp: ∀c,Ow ak c→w.heap.size≤c:=fun c hc=>(ho.post.own c hc).resolve_left (bw c)
 have ha:o_ w A aC w' ak AH:=by
  refine ⟨fun c hc hn=> ?_,fun c hc=> ?_,fun c hc=> ?_,fun c arr T fr hc hn=> ?_⟩
  ·simp only [AH];split
   ·exact .inl hc
   ·rename_i ax;refine ho.keep c ?_ hn;simp only [A0,ax];exact hc
  ·simp only [AH];split
   ·exact .inr ⟨ho.st.own c hc,jp c hc⟩
   ·exact ho.st.own c hc
  ·simp only [AH] at hc;split at hc
   ·rcases hc with h|⟨h,_⟩
    ·exact Nat.lt_of_lt_of_le (ae.bY c h) ho.post.size
    ·exact ho.st.bY c h
   ·exact ho.st.bY c hc
  ·obtain ⟨h1,h2⟩:=ho.bQ.fz c arr T fr hc (fun h=>hn (jo c h));refine ⟨h1,?_⟩;simp only [AH];split
   ·rintro (h|⟨_,h⟩)
    ·exact hn h
    ·have:c<w.heap.size:=by
      rcases Nat.lt_or_ge c w.heap.size with h' |h'
      ·exact h'
      ·rw [Array.getElem?_eq_none h'] at hc;simp at hc
     omega
   ·exact h2
 obtain ⟨D,E⟩:=rF (ls:=[]) (Lm:=L) ae m (by rw [hl,eX]) dR ho ha (by simp [fg])
 rw [ph _ _ _ _ hm,j7 ae] at D E;have pu:dQ A' AH gD:=by
  cases ax:bV with
  |false=>exact .inl fun c h=>by simpa [AH,ax] using h
  |true=>
   rcases hM with h|h
   ·rw [ax] at h;simp at h
   ·rw [rO] at h;exact .inr h
 have jq: ∀(i:Nat) (x:AV) (u:Value),rs[i]? =some x→cF[i]? =some u→R w' L (aE ak L) A' x u:=fun i x u hx hu=>by
  rw [j7 ho.st];exact hI i x u hx hu
 have fl: ∀{cU:ag},(∀c,Ow cU c→Ow φ c∨Ow ak c)→fi w φ w' cU:=fun hq=>
  ⟨ho.post.os,ho.post.tape,ho.post.output,ho.post.size,fun c hc _=>ho.post.kept c hc (bw c),ho.post.a8,fun c hc=>by
   rcases hq c hc with h|h
   ·exact .inl h
   ·exact .inr (jp c h)⟩
 have jr: ∀c,A c→ ¬Ow φ c→AH c:=fun c hc _=>ha.own c hc (bw c);have cw: ∀c,Ow φ c→a8 w' c=a8 w c:=fun c hc=>ho.post.a8 c (Ow.lt ae hc)
 cases fS:(th||bV) with
 |true=>
  rw [fS] at hp;simp only [if_true,rM] at hp;obtain ⟨cU,m3,l3,r3⟩:=rI _ rs cF L _ H φ gD L2 D fA jq lf pu
  refine ⟨_,_,cU,AH,⟨m3.bz.sh,fl fun c hc=> ?_,E.trans m3.eh cw,jr⟩,pf l3 r3,hp⟩;rcases m3.oh c hc with h|⟨h,_⟩
  ·exact .inl h
  ·exact .inr (bJ h)
 |false=>
  rw [fS] at hp;simp only [Bool.false_eq_true,if_false,rN] at hp;simp only [Bool.or_eq_false_iff] at fS;have pv:AH=A' :=by simp [AH,fS.2]
  rw [pv] at D E jr
  let A2:ah:=gone (aE ak L) A' L2
  obtain ⟨l3,r3⟩:=pe (A' :=A2) _ rs cF L (aE ak L) gD L2 D.sl fA jq lf (fun c h=>h)
  have pw: ∀c,Ow φ c→A2 c:=fun c hc=>⟨D.sh.own c hc,fun h=>absurd hc (D.b_ c h)⟩;have px:bH w H φ A w' H φ A2:=⟨fun c arr T fr hc hn=>⟨(E.fz c arr T fr hc hn).1,fun h2=>(E.fz c arr T fr hc hn).2 h2.1⟩,E.st,E.ids,E.sz⟩
  refine ⟨_,_,φ,A2,⟨D.sh.shrink (fun c h=>h.1) pw,fl fun c hc=> .inl hc,px,fun c hc hn=>⟨jr c hc hn,fun h=> ?_⟩⟩,.fr _ _ (rL l3 r3),hp⟩;have:=jp c (bJ h)
  have:=ae.bY c hc;omega
end Go.VS
namespace Go.VS
section ops
variable {P:Program} {C:aG} {X:bq} {w:World} {H:J} {φ :ag} {A:ah}
theorem yS {f:FuncId} (h:gF P f) (args:Array Value) (w:World):(callFunc f args).run P w= .ok (.enter f args) w:=by
 obtain ⟨fn,h1,h2,h3⟩:=h;have la:fn.name≠ "runtime.NumGoroutine" :=by simpa using h2
 have yT:fn.body≠none:=by intro e;rw [e] at h3;simp at h3
 simp [callFunc,h1,la,yT]
theorem rQ {o:Oper} {ρ :Operand→Value} {x:Operand} {args:Array Operand} {tys:Array TypeId} (ho:o.op= .call {callee:= .value x,args,argTypes:=tys}) {g:FuncId} {bM:Array Value} (hx: ρ x= .func (.func g) #[] bM) (hc:gF P g):
 (execOp ρ o).run P w= .ok (.enter g (args.map ρ ++ bM)) w:=by
 simp [execOp,ho,resolve,hx,Deferred.ofValue,invoke,yS hc]
theorem rR {o:Oper} {ρ :Operand→Value} {b:Builtin} {args:Array Operand} {tys:Array TypeId} (ho:o.op= .call {callee:= .builtin b,args,argTypes:=tys}):
 ∃consts,(execOp ρ o).run P w=(builtin b tys o.type consts (args.map ρ)).run P w:=
 ⟨_,by simp only [execOp,ho,resolve,invoke,Sem.run_bind,Sem.run_pure,Result.andThen_ok];rfl⟩
theorem ci.upon {H' :J} {r:Result Next} {x:AV} (h:ci w H φ A H' r x) {o:Oper} {a:Act} {next:Act→World→Prop} {Q:Exit→Act→World→Prop}
 (hn: ∀v w' ak A',Out w H φ A w' H' ak A' →R w' H' ak A' x v→next (a.put o.dst v) w'):o.upon P a next Q r:=by
 obtain ⟨n,v,w',ak,A',rfl,hv,hr,ho⟩:=h;rcases hv with rfl|⟨rfl,rfl⟩
 ·exact hn v w' ak A' ho hr
 ·exact hn _ w' ak A' ho hr
theorem mC (hE: ∀t ti,C.E t=some ti→aS P t ti) (hX: ∀f ys H K,X f ys H K→cb P f ys H K) (ae:St w H φ A) {o:Oper} {s:aj} {a:Act} (hs: ∀x∈o.op.operands,R w H φ A (ev s x) (a.eval x)) {th:Bool} {K:AV→J→Prop} (h:wpOp X C false th o s H K)
 {next:Act→World→Prop} {Q:Exit→Act→World→Prop} (hn: ∀x v w' H' ak A',Out w H φ A w' H' ak A' →R w' H' ak A' x v→K x H' →next (a.put o.dst v) w'):o.wp P a w next Q:=by
 have lg: ∀(hh:(match aP C.E o.op s H with|some (v,H')=>K v H' |none=>False)),o.wp P a w next Q:=by
  intro hh;split at hh
  ·rename_i v H' he
   exact (yx hE ae hs he).upon (fun u w' ak A' h1 h2=>hn v u w' H' ak A' h1 h2 hh)
  ·exact hh.elim
 unfold wpOp at h;split at h
 ·rename_i b args tys bh;obtain ⟨_,h⟩:=h;split at h
  ·rename_i v H' he
   obtain ⟨consts,cP⟩:=rR (P:=P) (w:=w) (ρ :=a.eval) bh;have:=yy hE ae (ty:=o.type) (consts:=consts) (vs:=args.map a.eval) (by simp) (fun i x u hx hu=>by
    simp only [List.getElem?_map,Option.map_eq_some_iff] at hx;obtain ⟨y,hy,rfl⟩:=hx;simp only [Array.getElem?_map,Option.map_eq_some_iff] at hu;obtain ⟨y',ep,rfl⟩:=hu;have:y' =y:=by simp at hy;rw [hy] at ep;simpa using ep.symm
    subst this;exact hs y' (by rw [bh];simp only [Op.operands,Call.operands];simp [Array.mem_of_getElem? ep])) he
   rw [←cP] at this;exact this.upon (fun u w' ak A' h1 h2=>hn v u w' H' ak A' h1 h2 h)
  ·exact h.elim
 ·rename_i x args tys bh;split at h
  ·rename_i g bM hg;simp only [Bool.false_eq_true,if_false] at h;have hx:=hs x (by rw [bh];simp [Op.operands,Call.operands])
   rw [hg] at hx;obtain ⟨vs,hv,hl,hp⟩:=hx.kD;have rS: ∀(i:Nat) (y:AV) (u:Value),(args.toList.map (ev s) ++ bM)[i]? =some y→(args.map a.eval ++ vs)[i]? =some u→R w H φ A y u:=fun i y u hy hu=>by
    rcases Nat.lt_or_ge i args.size with hi|hi
    ·rw [List.getElem?_append_left (by simpa using hi)] at hy
     rw [Array.getElem?_append_left (by simpa using hi)] at hu
     simp only [List.getElem?_map,Option.map_eq_some_iff] at hy;obtain ⟨z,hz,rfl⟩:=hy;simp only [Array.getElem?_map,Option.map_eq_some_iff] at hu;obtain ⟨z',dL,rfl⟩:=hu;have:z' =z:=by simp at hz;rw [hz] at dL;simpa using dL.symm
     subst this;exact hs z' (by rw [bh];simp only [Op.operands,Call.operands];simp [Array.mem_of_getElem? dL])
    ·rw [List.getElem?_append_right (by simpa using hi)] at hy
     rw [Array.getElem?_append_right (by simpa using hi)] at hu
     exact hp _ y u (by simpa using hy) (by simpa using hu)
   have hc:gF P g∧Calls P g (args.map a.eval ++ vs) w (iM w H φ A K):=by
    rcases h with h|h
    ·exact ⟨(hX _ _ _ _ h).1,(hX _ _ _ _ h).2 w A φ (args.map a.eval ++ vs) ae (by simp [hl]) rS⟩
    ·exact yR hX ae (us:=args.map a.eval ++ vs) (by simp [hl]) rS h
   unfold Oper.wp;rw [rQ bh hv hc.1,Oper.upon_enter];refine hc.2.mono fun e w' he=> ?_
   cases e with
   |returned v' =>
    obtain ⟨x',H',ak,A',h1,h2,h3⟩:=he;exact hn x' v' w' H' ak A' h1 h2 h3
   |panicked c=>exact he.elim
   |outgrown=>exact he.elim
  ·exact h.elim
 ·exact lg h.2
end ops
end Go.VS
namespace Go.VS
structure j8 (π :List Nat) (ops:Array Oper):Prop where
 len: π.length=ops.size
 nodup: π.Nodup
 lt: ∀i∈ π,i<ops.size
 mem: ∀i,i<ops.size→i∈ π
 rT: ∀(i:Nat) (o:Oper),ops[i]? =some o→ ∀e∈o.after.toList,Region.binds .any e=true→e.on<ops.size
 ia: ∀(i:Nat) (o:Oper) (j:Nat) (b:Bool),ops[i]? =some o→o.guard=some (j,b)→j<ops.size
theorem yU {π :List Nat} {ops:Array Oper} (h:nM π ops=true):j8 π ops:=by
 simp only [nM,Bool.and_eq_true,beq_iff_eq,List.all_eq_true,decide_eq_true_eq,List.mem_range,List.contains_iff_mem] at h;obtain ⟨⟨⟨⟨h1,h0⟩,h2⟩,h3⟩,h4⟩:=h;refine ⟨h1,h0,h2,h3,fun i o ho e he hb=> ?_,fun i o j b ho hg=> ?_⟩
 ·have:=(h4 o (by rw [←Array.getElem?_toList] at ho;exact List.mem_of_getElem? ho)).1
  rw [Array.all_eq_true_iff_forall_mem] at this;have:=this e (by simpa using he)
  rw [hb] at this;simpa using this
 ·have:=(h4 o (by rw [←Array.getElem?_toList] at ho;exact List.mem_of_getElem? ho)).2
  rw [hg] at this;simpa using this
section
variable {π :List Nat} {ops:Array Oper} (hp:j8 π ops)
include hp
theorem j8.at_ {k:Nat} (hk:k< π.length): ∃o,ops[π[k]]? =some o∧(eC π ops)[k]? =some (iA π o):=by
 have:=hp.lt _ (List.getElem_mem hk);refine ⟨ops[π[k]],by simp [this],?_⟩
 unfold eC nL;rw [List.getElem?_toArray,List.getElem?_map,List.getElem?_eq_getElem hk];simp [List.getD,this]
theorem j8.size:(eC π ops).size=ops.size:=by
 simp [eC,nL,hp.len]
theorem j8.j9 {i:Nat} (hi:i<ops.size):dG π i< π.length∧ π[dG π i]? =some i:=by
 have:=hp.mem i hi;unfold dG;have h:=List.idxOf_lt_length_of_mem this;exact ⟨h,by rw [List.getElem?_eq_getElem h,List.getElem_idxOf]⟩
theorem j8.get {i:Nat} {o:Oper} (ho:ops[i]? =some o):(eC π ops)[dG π i]? =some (iA π o):=by
 have hi:i<ops.size:=(Array.getElem?_eq_some_iff.1 ho).1;obtain ⟨h1,h2⟩:=hp.j9 hi;obtain ⟨o',h3,h4⟩:=hp.at_ h1;have: π[dG π i]=i:=by rw [List.getElem?_eq_getElem h1] at h2;simpa using h2
 rw [this,ho] at h3;simp only [Option.some.injEq] at h3;subst h3;exact h4
def PL (π :List Nat) (n:Nat) (l l' :Array Bool):Prop:=l.size=n∧l'.size=n∧ ∀i,i<n→l'[dG π i]? =l[i]?
theorem PL.set {l l' :Array Bool} (h:PL π ops.size l l') {i:Nat} (hi:i<ops.size):PL π ops.size (l.setIfInBounds i true) (l'.setIfInBounds (dG π i) true):=by
 obtain ⟨h1,h2,h3⟩:=h;refine ⟨by simp [h1],by simp [h2],fun j hj=> ?_⟩
 obtain ⟨yV,py⟩:=hp.j9 hi;obtain ⟨BT,yW⟩:=hp.j9 hj;rw [Array.getElem?_setIfInBounds,Array.getElem?_setIfInBounds];by_cases e:i=j
 ·subst e;rw [if_pos rfl,if_pos rfl,if_pos (by rw [h2,←hp.len];exact yV),if_pos (by rw [h1];exact hi)]
 ·have: ¬dG π i=dG π j:=by
   intro e2;rw [e2,yW] at py;simp at py;exact e py.symm
  rw [if_neg this,if_neg e];exact h3 j hj
omit hp in
theorem PL.getD {l l' :Array Bool} (h:PL π ops.size l l') {i:Nat} (hi:i<ops.size) (b:Bool):l'.getD (dG π i) b=l.getD i b:=by
 have:=h.2.2 i hi;rw [Array.getD_eq_getD_getElem?,Array.getD_eq_getD_getElem?,this]
theorem rU {l l' :Array Bool} (h:PL π ops.size l l') {i:Nat} (hi:i∈Region.ready .any ops l):i<ops.size∧dG π i∈Region.ready .any (eC π ops) l' :=by
 unfold Region.ready at hi⊢;simp only [List.mem_filter,List.mem_range,Bool.and_eq_true] at hi⊢;obtain ⟨h1,h2,h3⟩:=hi;have ho:ops[i]? =some ops[i]:=by simp [h1]
 obtain ⟨r1,r2⟩:=hp.j9 h1;refine ⟨h1,by rw [hp.size,←hp.len];exact r1,by rw [h.getD h1];exact h2,?_⟩
 rw [hp.get ho];rw [ho] at h3;simp only [Option.map_some,Option.getD_some,Array.all_eq_true_iff_forall_mem] at h3⊢;intro e he;simp only [iA,List.mem_toArray,List.mem_filterMap] at he;obtain ⟨e0,rV,mD⟩:=he;split at mD
 ·rename_i hb;simp only [Option.some.injEq] at mD;subst mD;have:=h3 e0 (by simpa using rV)
  rw [hb] at this;simp only [Bool.not_true,Bool.false_or] at this;rw [h.getD (hp.rT i _ ho e0 rV hb)];simp [this]
 ·simp at mD
theorem yX {i:Nat} {o:Oper} (ho:ops[i]? =some o) (t:Array Value):Region.wanted (iA π o) (yielded (eC π ops) t)=Region.wanted o (yielded ops t):=by
 unfold Region.wanted iA;simp only;cases hg:o.guard with
 |none=>rfl
 |some p=>
  obtain ⟨j,b⟩:=p;have hj:=hp.ia i o j b ho hg;simp only [Option.map_some];congr 1;unfold yielded;have rW:ops[j]? =some ops[j]:=by simp [hj]
  rw [hp.get rW,rW];rfl
omit hp in
theorem rX (ρ :Operand→Value) (o:Oper):execOp ρ (iA π o)=execOp ρ o:=by
 cases o;rfl
theorem yY {P:Program} {Q:Exit→Act→World→Prop} {i:Nat} {o:Oper} (ho:ops[i]? =some o) {K K' :Act→World→Prop} (hK: ∀a w,K' a w→K a w) {a:Act} {w:World} (h:Go.wpOp P (eC π ops) Q (dG π i) K' a w):Go.wpOp P ops Q i K a w:=by
 unfold Go.wpOp at h⊢;rw [hp.get ho] at h;rw [ho];simp only at h⊢;rw [yX hp ho] at h;split at h
 ·rename_i hw;rw [if_pos hw];rcases h with h|⟨h1,h2⟩
  ·refine .inl (Oper.wp_mono hK ?_);unfold Oper.wp at h⊢;rw [rX] at h;exact h
  ·refine .inr ⟨?_,h2⟩;unfold Oper.asks at h1⊢;rw [rX] at h1;exact h1
 ·rename_i hw;rw [if_neg hw];exact hK _ _ h
theorem yZ {l l' :Array Bool} (h:PL π ops.size l l') {k:Nat} (hk:k∈Region.ready .any (eC π ops) l'): ∃i,i∈Region.ready .any ops l:=by
 unfold Region.ready at hk⊢;simp only [List.mem_filter,List.mem_range,Bool.and_eq_true] at hk;obtain ⟨h1,h2,h3⟩:=hk;rw [hp.size,←hp.len] at h1;obtain ⟨o,ho,af⟩:=hp.at_ h1;have hi:=hp.lt _ (List.getElem_mem h1);have hr:dG π π[k]=k:=by
  obtain ⟨r1,r2⟩:=hp.j9 hi;rw [List.getElem?_eq_getElem r1] at r2;simp only [Option.some.injEq] at r2;exact (List.getElem_inj hp.nodup).1 r2
 refine ⟨π[k],?_⟩;simp only [List.mem_filter,List.mem_range,Bool.and_eq_true];refine ⟨hi,by rw [←h.getD hi,hr];exact h2,?_⟩
 rw [af] at h3;rw [ho];simp only [Option.map_some,Option.getD_some,Array.all_eq_true_iff_forall_mem] at h3⊢;intro e he;by_cases hb:Region.binds .any e=true
 ·have hl:=hp.rT _ o ho e (by simpa using he) hb
  have:=h3 {e with on:=dG π e.on} (by
   simp only [iA,List.mem_toArray,List.mem_filterMap];exact ⟨e,by simpa using he,by rw [if_pos hb]⟩)
  have aw:Region.binds .any {e with on:=dG π e.on}=true:=hb
  rw [aw] at this;simp only [Bool.not_true,Bool.false_or] at this;rw [h.getD hl] at this;simp [this]
 ·simp [hb]
theorem rY {P:Program} {Q:Exit→Act→World→Prop}: ∀(n:Nat) (l l' :Array Bool) (a:Act) (w:World),PL π ops.size l l' →wpAny P .any (eC π ops) Q n l' a w→wpAny P .any ops Q n l a w
 |0,l,l',a,w,hl,h=>by
  simp only [wpAny] at h⊢;refine ⟨?_,h.2⟩;rw [List.eq_nil_iff_forall_not_mem];intro i hi;have:=(rU hp hl hi).2;rw [h.1] at this;simp at this
 |n+1,l,l',a,w,hl,h=>by
  simp only [wpAny] at h⊢;refine ⟨fun he=>h.1 ?_,fun i hi=> ?_⟩
  ·rw [List.eq_nil_iff_forall_not_mem];intro k hk;obtain ⟨i,hi⟩:=yZ hp hl hk;rw [he] at hi;simp at hi
  ·obtain ⟨h1,h2⟩:=rU hp hl hi;have ho:ops[i]? =some ops[i]:=by simp [h1]
   exact yY hp ho (fun a w hh=>rY n _ _ a w (hl.set hp h1) hh) (h.2 _ h2)
theorem y0 {P:Program} {Q:Exit→Act→World→Prop} {a:Act} {w:World} (h:wpAny P .any (eC π ops) Q (eC π ops).size (Array.replicate (eC π ops).size false) a w):wpAny P .any ops Q ops.size (Array.replicate ops.size false) a w:=by
 rw [hp.size] at h;refine rY hp _ _ _ a w ⟨by simp,by simp,fun i hi=> ?_⟩ h
 obtain ⟨r1,_⟩:=hp.j9 hi;rw [hp.len] at r1;simp [hi,r1]
end
theorem SF.kill {w:World} {H:J} {φ :ag} {A:ah} {s:aj} {a:Act} (h:SF w H φ A s a) (l:List Nat):SF w H φ A (eE l s) a:=by
 have key: ∀(s:aj) (i:Nat),(eE.go l i s).length=s.length∧ ∀(t:Nat) (x:AV),(eE.go l i s)[t]? =some x→x= .undef∨s[t]? =some x:=by
  intro s;induction s with
  |nil=>intro i;simp [eE.go]
  |cons y s ih=>
   intro i;obtain ⟨h1,h2⟩:=ih (i+1);refine ⟨by simp [eE.go,h1],fun t x hx=> ?_⟩
   cases t with
   |zero=>
    simp only [eE.go,List.getElem?_cons_zero,Option.some.injEq] at hx;split at hx
    ·exact .inr (by simp [hx])
    ·exact .inl hx.symm
   |succ t=>simp only [eE.go,List.getElem?_cons_succ] at hx⊢;exact h2 t x hx
 obtain ⟨h1,h2⟩:=key s 0;refine ⟨h1.trans h.len,fun t x v hx hv=> ?_,h.eJ⟩;rcases h2 t x hx with rfl|hx
 ·exact .fr _ _ (.undef _)
 ·exact h.val t x v hx hv
theorem y1 {w:World} {H:J} {φ :ag} {A:ah} (ae:St w H φ A) (n:Nat):Out w H φ A w (H.trim n) (aE φ (H.trim n)) A:=by
 have hg: ∀id b,(H.trim n).get id=some b→H.get id=some b:=by
  intro id b h;unfold J.trim J.get at h;unfold J.get;simp only [List.getElem?_take] at h;split at h
  ·exact h
  ·simp at h
 have aR:bH w H φ A w (H.trim n) (aE φ (H.trim n)) A:=
  ⟨fun c arr T fr hc hn=>⟨⟨fr,hc⟩,hn⟩,Nat.le_refl _,fun id b hb _=>⟨b,hg id b hb,rfl,rfl,rfl,rfl,fun loc hl=>by simp [aE,hb,hl]⟩,fun _ _=>rfl⟩
 refine ⟨⟨fun i i' c b b' h h' =>ae.inj _ _ _ _ _ (dh h).1 (dh h').1,fun c hc=>ae.own c (bJ hc),ae.bY,fun id loc h=> ?_⟩,⟨rfl,rfl,rfl,Nat.le_refl _,fun _ _ _=>rfl,fun _ _=>rfl,fun c hc=> .inl (bJ hc)⟩,aR,fun c hc _=>hc⟩
 obtain ⟨h1,b,hb⟩:=dh h;obtain ⟨b',aw,af⟩:=ae.ap id loc h1;rw [hg id b hb] at aw;simp only [Option.some.injEq] at aw;subst aw;refine ⟨b,hb,af.ad,af.sized,af.aQ,fun c b0 he=> ?_⟩;obtain ⟨arr,T,fr,k1,k2,k3,k4⟩:=af.here c b0 he;exact ⟨arr,T,fr,k1,k2,k3,fun i x j y v hx hy hv=>⟨(k4 i x j y v hx hy hv).1.mono aR,(k4 i x j y v hx hy hv).2⟩⟩
def rZ:Ex→Exit
 | .normal=> .normal
 | .exit id=> .exit id
 | .ret=> .ret
theorem mE {x y:AV} (h:ff x y=true):x=y:=by
 unfold ff at h;split at h
 ·simp only [Bool.and_eq_true,beq_iff_eq] at h;obtain ⟨⟨⟨rfl,rfl⟩,rfl⟩,rfl⟩:=h;rfl
 ·rfl
 ·rfl
 ·simp at h
theorem y2 {w:World} {H:J} {φ :ag} {A:ah} {s:aj} {a:Act} (ae:St w H φ A) (hs:SF w H φ A s a) {t:Nat} {ts:List Nat} {sh:List Sh} {y:AV} {H1:J} (h:aY sh (s.getD t .undef) H=some (y,H1)):
 Out w H φ A w H1 (aE φ H1) (gone φ A H1)∧SF w H1 (aE φ H1) (gone φ A H1) (fK (s.getD t .undef) (br y) ts (s.set t (br y))) a:=by
 have hl:=fw _ _ _ _ _ h;have aR:bH w H φ A w H1 (aE φ H1) (gone φ A H1):=by
  have e:=c5 (w:=w) (φ := φ) (A:=A) hl;exact ⟨fun c arr T fr hc hn=>⟨(e.fz c arr T fr hc hn).1,fun h2=>hn h2.1⟩,e.st,e.ids,e.sz⟩
 refine ⟨⟨(ef ae hl).shrink (fun c hc=>hc.1) (fun c hc=>⟨ae.own c (bJ hc),fun _=>hc⟩),⟨rfl,rfl,rfl,Nat.le_refl _,fun _ _ _=>rfl,fun _ _=>rfl,fun c hc=> .inl (bJ hc)⟩,aR,fun c hc hn=>⟨hc,fun ho=>absurd ho hn⟩⟩,?_⟩;have cI:=hs.mono aR;have one: ∀(k:Nat) (v:Value),s.getD k .undef=s.getD t .undef→a.tmps[k]? =some v→R w H1 (aE φ H1) (gone φ A H1) (br y) v:=by
  intro k v hk hv;have hr:=hs.ev (.tmp k);simp only [ev,Act.eval] at hr;rw [Array.getD_eq_getD_getElem?,hv,hk] at hr;exact .fr _ _ (rK ae hr h (fun c hc=>hc))
 have base:SF w H1 (aE φ H1) (gone φ A H1) (s.set t (br y)) a∧ ∀k,(s.set t (br y)).getD k .undef=br y∨(s.set t (br y)).getD k .undef=s.getD k .undef:=by
  refine ⟨⟨by simpa using cI.len,fun k x v hx hv=> ?_,cI.eJ⟩,fun k=> ?_⟩
  ·rw [List.getElem?_set] at hx;split at hx
   ·rename_i hk;subst hk;split at hx
    ·simp only [Option.some.injEq] at hx;subst hx;exact one t v rfl hv
    ·simp at hx
   ·exact cI.val k x v hx hv
  ·simp only [List.getD_eq_getElem?_getD,List.getElem?_set];split
   ·rename_i hk;subst hk;split
    ·exact .inl rfl
    ·rename_i ax;right;rw [List.getElem?_eq_none (by omega)]
   ·exact .inr rfl
 have gen: ∀(ts:List Nat) (s' :aj),SF w H1 (aE φ H1) (gone φ A H1) s' a→(∀k,ff (s'.getD k .undef) (s.getD t .undef)=true→s.getD k .undef=s.getD t .undef∨br y=s.getD t .undef)→SF w H1 (aE φ H1) (gone φ A H1) (fK (s.getD t .undef) (br y) ts s') a:=by
  intro ts;induction ts with
  |nil=>intro s' h _;exact h
  |cons k ks ih=>
   intro s' h1 h2
   simp only [fK];split
   ·rename_i r6;have hval: ∀v,a.tmps[k]? =some v→R w H1 (aE φ H1) (gone φ A H1) (br y) v:=by
     intro v hv;rcases h2 k r6 with e|e
     ·exact one k v e hv
     ·have:=h1.ev (.tmp k);simp only [ev,Act.eval] at this;rw [Array.getD_eq_getD_getElem?,hv,mE r6,←e] at this;exact this
    refine ih _ ⟨by simpa using h1.len,fun m x v hx hv=> ?_,h1.eJ⟩ (fun m hm=> ?_)
    ·rw [List.getElem?_set] at hx;split at hx
     ·rename_i hk;subst hk;split at hx
      ·simp only [Option.some.injEq] at hx;subst hx;exact hval v hv
      ·simp at hx
     ·exact h1.val m x v hx hv
    ·simp only [List.getD_eq_getElem?_getD,List.getElem?_set] at hm;split at hm
     ·split at hm
      ·exact .inr (mE hm)
      ·rename_i hk ax;refine h2 m ?_;subst hk;rw [List.getD_eq_getElem?_getD,List.getElem?_eq_none (by omega)]
       exact hm
     ·exact h2 m (by rw [List.getD_eq_getElem?_getD];exact hm)
   ·exact ih s' h1 h2
 refine gen ts _ base.1 fun k hk=> ?_;rcases base.2 k with e|e
 ·rw [e] at hk;exact .inr (mE hk)
 ·rw [e] at hk;exact .inl (mE hk)
theorem pz {w:World} {H:J} {φ :ag} {A:ah} {x:AV} {v:Value} (h:R w H φ A x v):R w H φ A (kz x) v:=by
 cases x with
 |nil=>have:=h.c8;subst this;exact .fr _ _ (.cH none 0)
 |e0=>obtain ⟨a,rfl⟩:=h.eH;exact .fr _ _ (.cH a 0)
 |_=>exact h
theorem y3 {w:World} {H:J} {φ :ag} {A:ah} {x:AV} {v:Value} (h:R w H φ A x v):R w H φ A (dF x) v:=by
 cases x with
 |agg cs=>
  obtain ⟨vs,rfl,h1,h2,h3⟩:=h.fM;refine .agg _ _ (by simpa using h1) h2 fun i x v hx hv=> ?_
  simp only [List.getElem?_map,Option.map_eq_some_iff] at hx;obtain ⟨y,hy,rfl⟩:=hx;exact pz (h3 i y v hy hv)
 |_=>exact pz h
theorem y4 {w:World} {H:J} {φ :ag} {A:ah} {s:aj} {a:Act} (t:Nat) (ae:St w H φ A) (hs:SF w H φ A s a): ∃ak A',Out w H φ A w (jN t s H).2 ak A' ∧SF w (jN t s H).2 ak A' (jN t s H).1 a:=by
 have plain: ∀v,s.getD t .undef=v→SF w H φ A (s.set t (dF v)) a:=by
  intro v hv;refine ⟨by simpa using hs.len,fun k x u hx hu=> ?_,hs.eJ⟩
  rw [List.getElem?_set] at hx;split at hx
  ·rename_i hk;subst hk;split at hx
   ·simp only [Option.some.injEq] at hx;subst hx;have hr:=hs.ev (.tmp t);simp only [ev,Act.eval] at hr;rw [Array.getD_eq_getD_getElem?,hu,hv] at hr;exact y3 hr
   ·simp at hx
  ·exact hs.val k x u hx hu
 have key: ∀v,s.getD t .undef=v→ ∃ak A',Out w H φ A w (match v with
  | .ref id ad _ _=>match H.ap id ad with
   |some b=>(s,H.a7 id {b with el:=b.el.map dF})
   |none=>(s,H)
  |v=>(s.set t (dF v),H)).2 ak A' ∧SF w (match v with
  | .ref id ad _ _=>match H.ap id ad with
   |some b=>(s,H.a7 id {b with el:=b.el.map dF})
   |none=>(s,H)
  |v=>(s.set t (dF v),H)).2 ak A' (match v with
  | .ref id ad _ _=>match H.ap id ad with
   |some b=>(s,H.a7 id {b with el:=b.el.map dF})
   |none=>(s,H)
  |v=>(s.set t (dF v),H)).1 a:=by
  intro v hv;cases v with
  |ref id ad off len=>
   simp only;cases hb:H.ap id ad with
   |none=>exact ⟨φ,A,.refl ae,hs⟩
   |some b=>
    simp only;have hg:=(J.bn hb).1;have ax:=J.gp hg;have bC: ∀k,(H.a7 id {b with el:=b.el.map dF}).get k=if k=id then some {b with el:=b.el.map dF} else H.get k:=by
     intro k;simp only [J.get,J.a7,List.getElem?_set];by_cases h:id=k
     ·subst h;simp [ax]
     ·have h' : ¬k=id:=fun e=>h e.symm
      simp [h,h']
    have aR:bH w H φ A w (H.a7 id {b with el:=b.el.map dF}) φ A:=by
     refine ⟨fun c arr T fr hc hn=>⟨⟨fr,hc⟩,hn⟩,Nat.le_refl _,fun k b' hk _=> ?_,fun _ _=>rfl⟩
     rw [bC] at hk;split at hk
     ·rename_i e;subst e;simp only [Option.some.injEq] at hk;subst hk;exact ⟨b,hg,rfl,rfl,rfl,by simp,fun _ h=>h⟩
     ·exact ⟨b',hk,rfl,rfl,rfl,rfl,fun _ h=>h⟩
    have y5:St w (H.a7 id {b with el:=b.el.map dF}) φ A:=by
     refine ⟨ae.inj,ae.own,ae.bY,fun k loc hk=> ?_⟩;obtain ⟨b0,mF,af⟩:=ae.ap k loc hk;by_cases h:k=id
     ·subst h;rw [hg] at mF;simp only [Option.some.injEq] at mF;subst mF;refine ⟨{b with el:=b.el.map dF},by rw [bC,if_pos rfl],af.ad,fun i x hx=> ?_,fun h=>by simp [af.aQ h],fun c b0 he=> ?_⟩
      ·simp only [List.getElem?_map,Option.map_eq_some_iff] at hx;obtain ⟨y,hy,rfl⟩:=hx;rw [kO,List.length_map];exact af.sized i y hy
      ·obtain ⟨arr,T,fr,k1,k2,k3,k4⟩:=af.here c b0 he;refine ⟨arr,T,fr,k1,k2,by simpa using k3,fun i x j y v hx hy hv=> ?_⟩
       simp only [List.getElem?_map,Option.map_eq_some_iff] at hx;obtain ⟨x',bF,rfl⟩:=hx;rw [kO] at hy;simp only [List.getElem?_map,Option.map_eq_some_iff] at hy;obtain ⟨y',ep,rfl⟩:=hy;have:=k4 i x' j y' v bF ep hv
       exact ⟨pz (this.1.mono aR),this.2⟩
     ·refine ⟨b0,by rw [bC,if_neg h];exact mF,af.ad,af.sized,af.aQ,fun c b1 he=> ?_⟩
      obtain ⟨arr,T,fr,k1,k2,k3,k4⟩:=af.here c b1 he;exact ⟨arr,T,fr,k1,k2,k3,fun i x j y v hx hy hv=>⟨(k4 i x j y v hx hy hv).1.mono aR,(k4 i x j y v hx hy hv).2⟩⟩
    exact ⟨φ,A,⟨y5,.refl _ _,aR,fun c hc _=>hc⟩,hs.mono aR⟩
  |_=>exact ⟨φ,A,.refl ae,plain _ hv⟩
 unfold jN;exact key _ rfl
theorem mG {w:World} {a:Act}: ∀(l:List (List Nat×List Sh)) {H:J} {φ :ag} {A:ah} {s s' :aj} {H' :J},St w H φ A→SF w H φ A s a→dt l s H=some (s',H')→
 ∃ak A',Out w H φ A w H' ak A' ∧SF w H' ak A' s' a
 |[],H,φ,A,s,s',H',ae,hs,h=>by
  simp only [dt,Option.some.injEq,Prod.mk.injEq] at h;obtain ⟨rfl,rfl⟩:=h;exact ⟨φ,A,.refl ae,hs⟩
 |([],sh)::l,H,φ,A,s,s',H',ae,hs,h=>by simp [dt] at h
 |(t::ts,[])::l,H,φ,A,s,s',H',ae,hs,h=>by
  simp only [dt] at h;obtain ⟨φ1,A1,h1,h2⟩:=y4 t ae hs;obtain ⟨ak,A',h3,h4⟩:=mG l h1.st h2 h;exact ⟨ak,A',h1.trans ae h3,h4⟩
 |(t::ts,e::sh)::l,H,φ,A,s,s',H',ae,hs,h=>by
  simp only [dt] at h;split at h
  ·rename_i y H1 hy;obtain ⟨h1,h2⟩:=y2 (ts:=ts) ae hs hy;obtain ⟨ak,A',h3,h4⟩:=mG l h1.st h2 h;exact ⟨ak,A',h1.trans ae h3,h4⟩
  ·simp at h
section code
variable {P:Program} {C:aG} {X:bq}
def Ends (Q:Exit→Act→World→Prop) (K:Ex→aj→J→Prop) (w:World) (H:J) (φ :ag) (A:ah):Prop:=
 ∀e s' H' ak A' a' w',Out w H φ A w' H' ak A' →SF w' H' ak A' s' a' →K e s' H' →Q (rZ e) a' w'
theorem pA {w:World} {H:J} {φ :ag} {A:ah} {s:aj} {a:Act} {ops:Array Oper} {o:Oper} {b:Bool} (hs: ∀j want t,o.guard=some (j,want)→(ops[j]?).bind (·.dst)=some t→R w H φ A (ev s (.tmp t)) (a.eval (.tmp t))) (h:dr ops o s=some b):Region.wanted o (yielded ops a.tmps)=b:=by
 unfold dr at h;unfold Region.wanted;cases hg:o.guard with
 |none=>rw [hg] at h;simp at h;subst h;simp
 |some p=>
  obtain ⟨j,want⟩:=p;rw [hg] at h;simp only at h⊢;split at h
  ·rename_i t ht;have hv:=hs j want t hg ht;simp only [ev,Act.eval] at hv;split at h
   ·rename_i c hc;rw [hc] at hv;simp only [Option.some.injEq] at h;subst h;have:=hv.eT;have hy:yielded ops a.tmps j=some c:=by
     unfold yielded;rw [ht];simp only [Option.bind_some];rw [Array.getD_eq_getD_getElem?] at this;cases hq:a.tmps[t]? with
     |none=>rw [hq] at this;simp [undef] at this
     |some v=>rw [hq] at this;simp at this;subst this;rfl
    rw [hy];cases c<;>cases want<;>rfl
   ·rename_i cs hc;rw [hc] at hv;simp only [Option.some.injEq] at h;subst h;obtain ⟨vs,bu,_⟩:=hv.lR;have hy:yielded ops a.tmps j=none:=by
     unfold yielded;rw [ht];simp only [Option.bind_some];rw [Array.getD_eq_getD_getElem?] at bu;cases hq:a.tmps[t]? with
     |none=>rfl
     |some v=>rw [hq] at bu;simp at bu;subst bu;rfl
    rw [hy];cases want<;>rfl
   ·simp at h
  ·simp at h
theorem r7 (hE: ∀t ti,C.E t=some ti→aS P t ti) (hX: ∀f ys H K,X f ys H K→cb P f ys H K) {ops:Array Oper} {th:List Nat} {fz:List (Nat×List (List Nat×List Sh))} {K:aj→J→Prop} {Q:Exit→Act→World→Prop}:
 ∀(l:List Oper) (i:Nat) (s:aj) (H:J) (w:World) (φ :ag) (A:ah) (a:Act),cO X C ops th fz K l i s H→St w H φ A→SF w H φ A s a→
  (∀s' H' ak A' a' w',Out w H φ A w' H' ak A' →SF w' H' ak A' s' a' →K s' H' →Q .normal a' w')→wpList P ops Q l a w
 |[],i,s,H,w,φ,A,a,h,ae,hs,hq=>hq s H φ A a w (.refl ae) hs h
 |o::rest,i,s0,H0,w,aC,A0,a,h,cT,en,y6=>by
  simp only [cO] at h;obtain ⟨s,H,hf,h⟩:=h;obtain ⟨φ,A,ho,hs⟩:=mG _ cT en hf;have ae:=ho.st;have hq: ∀s' H' ak A' a' w',Out w H φ A w' H' ak A' →SF w' H' ak A' s' a' →K s' H' →Q .normal a' w' :=fun s' H' ak A' a' w' k1 k2 k3=>y6 s' H' ak A' a' w' (ho.trans cT k1) k2 k3
  have next: ∀{x:AV} {v:Value} {w' :World} {H' :J} {ak:ag} {A' :ah},Out w H φ A w' H' ak A' →R w' H' ak A' x v→cO X C ops th fz K rest (i+1) (bj s o.dst x) H' →wpList P ops Q rest (a.put o.dst v) w' :=by
   intro x v w' H' ak A' h1 h2 h3
   exact r7 hE hX rest (i+1) _ H' w' ak A' _ h3 h1.st ((hs.mono h1.bQ).set o.dst h2) fun s2 H2 bd A2 a2 w2 k1 k2 k3=>hq s2 H2 bd A2 a2 w2 (h1.trans ae k1) k2 k3
  simp only [wpList];cases hg:o.guard with
  |none=>
   rw [hg] at h;simp only at h;have hw:Region.wanted o (yielded ops a.tmps)=true:=by simp [Region.wanted,hg]
   rw [if_pos hw];exact .inl (mC hE hX ae (fun x _=>hs.ev x) h fun x v w' H' ak A' h1 h2 h3=>next h1 h2 h3)
  |some p=>
   rw [hg] at h;simp only at h;obtain ⟨v,H',h1,h2⟩:=h;split at h1
   ·rename_i b hb;have hw:=pA (fun _ _ t _ _=>hs.ev (.tmp t)) hb;cases b with
    |true=>
     rw [if_pos hw];simp only [if_true] at h1;exact .inl (mC hE hX ae (fun x _=>hs.ev x) h1 fun x u w' gA ak A' k1 k2 k3=>by obtain ⟨rfl,rfl⟩:=k3;exact next k1 k2 h2)
    |false=>
     rw [if_neg (by rw [hw];simp)]
     simp only [Bool.false_eq_true,if_false] at h1;obtain ⟨rfl,rfl⟩:=h1;exact next (.refl ae) (.fr _ _ (.ay [] #[] rfl (by simp))) h2
   ·exact h1.elim
def mH (P:Program) (C:aG) (X:bq):Prop:=
 ∀(ops:Array Oper) (aB:List Nat) (th:List Nat) (s:aj) (H:J) (K:aj→J→Prop) (Q:Exit→Act→World→Prop) (w:World) (φ :ag) (A:ah) (a:Act),iC ops aB=true→
  cY X C ops (fun i=> !aB.contains i) (fJ ops aB) th K ops.toList 0 s H→St w H φ A→SF w H φ A s a→(∀s' H' ak A' a' w',Out w H φ A w' H' ak A' →SF w' H' ak A' s' a' →K s' H' →Q .normal a' w')→wpAny P .any ops Q ops.size (Array.replicate ops.size false) a {w with drawn:=w.drawn+1}
theorem Ends.trans {Q:Exit→Act→World→Prop} {K:Ex→aj→J→Prop} {w w1:World} {H H1:J} {φ φ1:ag} {A A1:ah} (ae:St w H φ A) (h:Out w H φ A w1 H1 φ1 A1) (k:Ends Q K w H φ A):Ends Q K w1 H1 φ1 A1:=
 fun e s' H' ak A' a' w' h1 h2 h3=>k e s' H' ak A' a' w' (h.trans ae h1) h2 h3
theorem r8 (hm:P.follows .mixedOrders=true) (hE: ∀t ti,C.E t=some ti→aS P t ti) (hX: ∀f ys H K,X f ys H K→cb P f ys H K) (hD:mH P C X) (p:kA):
 ∀(c:Code) (cC:Nat) (s:aj) (H:J) (K:Ex→aj→J→Prop) (Q:Exit→Act→World→Prop) (w:World) (φ :ag) (A:ah) (a:Act),cW p c=true→aJ X C (cX p cC c) s H K→St w H φ A→SF w H φ A s a→Ends Q K w H φ A→c.wp P Q a w:=by
 intro c;induction c with
 |skip=>intro cC s H K Q w φ A a ho h ae hs hq;exact wp_skip (hq .normal s H φ A a w (.refl ae) hs h)
 |ret=>intro cC s H K Q w φ A a ho h ae hs hq;exact wp_ret (hq .ret s H φ A a w (.refl ae) hs h)
 |exit id=>intro cC s H K Q w φ A a ho h ae hs hq;exact wp_exit (hq (.exit id) s H φ A a w (.refl ae) hs h)
 |seq x y y7 pB=>
  intro cC s H K Q w φ A a ho h ae hs hq;simp only [cX,aJ] at h;simp only [cW,Bool.and_eq_true] at ho;refine wp_seq (y7 cC s H _ _ w φ A a ho.1 h ae hs fun e s' H' ak A' a' w' h1 h2 h3=> ?_)
  cases e with
  |normal=>exact pB cC s' H' K Q w' ak A' a' ho.2 h3 h1.st h2 (Ends.trans ae h1 hq)
  |exit id=>exact hq (.exit id) s' H' ak A' a' w' h1 h2 h3
  |ret=>exact hq .ret s' H' ak A' a' w' h1 h2 h3
 |cond x y z pB y8=>
  intro cC s H K Q w φ A a ho h ae hs hq;simp only [cW,Bool.and_eq_true] at ho;have key: ∀(K:Ex→aj→J→Prop),aJ X C (.cond x (cX p cC y) (cX p cC z)) s H K→Ends Q K w H φ A→(Code.cond x y z).wp P Q a w:=by
   intro K h hq;simp only [aJ] at h;split at h
   ·rename_i t ht;have hv:=hs.ev x;rw [ht] at hv;refine wp_cond hv.eT ?_;cases t with
    |true=>exact pB cC s H K Q w φ A a ho.1 h ae hs hq
    |false=>exact y8 cC s H K Q w φ A a ho.2 h ae hs hq
   ·exact h.elim
  simp only [cX] at h;unfold lP at h;split at h
  ·rename_i kp _;simp only [aJ,dt] at h;refine key _ h fun e s' H' ak A' a' w' h1 h2 h3=> ?_
   cases e with
   |normal=>exact hq .normal _ H' ak A' a' w' h1 (h2.kill kp) h3
   |exit id=>exact hq (.exit id) s' H' ak A' a' w' h1 h2 h3
   |ret=>exact hq .ret s' H' ak A' a' w' h1 h2 h3
  ·exact key K h hq
 |block id x ih=>
  intro cC s H K Q w φ A a ho h ae hs hq;simp only [cX,aJ] at h;have mI: ∀{w:World} {H:J} {φ :ag} {A:ah} {s:aj} {a:Act} (kp:Option (List Nat)),SF w H φ A s a→SF w H φ A (dZ kp s) a:=by
   intro w H φ A s a kp h;cases kp with
   |none=>exact h
   |some l=>exact h.kill l
  simp only [cW] at ho;refine wp_block (ih id s H _ _ w φ A a ho h ae hs fun e s' H' ak A' a' w' h1 h2 h3=> ?_)
  cases e with
  |normal=>exact hq .normal _ H' ak A' a' w' h1 (mI _ h2) h3
  |exit j=>
   simp only at h3;simp only [rZ,Exit.inBlock];split at h3
   ·rename_i hj;rw [if_pos hj];exact hq .normal _ H' ak A' a' w' h1 (mI _ h2) h3
   ·rename_i hj;rw [if_neg hj];exact hq (.exit j) s' H' ak A' a' w' h1 h2 h3
  |ret=>exact hq .ret s' H' ak A' a' w' h1 h2 h3
 |loop c ih=>
  intro cC s H K Q w φ A a ho h ae hs hq;simp only [cX,aJ] at h;have r9: ∀{w:World} {H:J} {φ :ag} {A:ah} {s:aj} {a:Act} (sp:lO) (n:Nat),St w H φ A→SF w H φ A s a→ ∃ φ1,Out w H φ A w (gT sp n s H).2 φ1 A∧SF w (gT sp n s H).2 φ1 A (gT sp n s H).1 a:=by
   intro w H φ A s a sp n h1 h2;unfold gT;by_cases ht:sp.trim=true
   ·have ho:=y1 h1 n;simp only [ht,if_true];exact ⟨_,ho,(h2.mono ho.bQ).kill _⟩
   ·simp only [ht];exact ⟨φ,.refl h1,h2.kill _⟩
  intro b k cs;have main:=h (fun s H=> ∀(w:World) (φ :ag) (A:ah) (a:Act),St w H φ A→SF w H φ A s a→Ends Q K w H φ A→
   ∀(b:Frame) (k:List Item) (cs:List Frame),∃e a' w',Q e a' w' ∧Arrives P (lone (b.at a (.code c:: .inLoop c::k)) cs w) b k cs e a' w') (fun s H hB w φ A a ae hs hq b k cs=>by
    obtain ⟨e,a1,w1,ib,dK⟩:=ih cC s H _ (Exit.then (fun a1 w1=> ∀(b:Frame) (k:List Item) (cs:List Frame),∃e a' w',Q e a' w' ∧Arrives P (lone (b.at a1 (.code c:: .inLoop c::k)) cs w1) b k cs e a' w') Q) w φ A a (by simpa only [cW] using ho) hB ae hs (fun e s' H' ak A' a' w' h1 h2 h3=>by
     cases e with
     |normal=>
      obtain ⟨φ1,k1,k2⟩:=r9 ((p.loops.lookup cC).getD {}) _ h1.st h2;exact h3 w' φ1 A' a' k1.st k2 (Ends.trans ae (h1.trans ae k1) hq)
     |exit id=>exact hq (.exit id) s' H' ak A' a' w' h1 h2 h3
     |ret=>exact hq .ret s' H' ak A' a' w' h1 h2 h3) b (.inLoop c::k) cs
    cases e with
    |normal=>
     obtain ⟨y9,a₂,y_,za,zb⟩:=ib b k cs;exact ⟨y9,a₂,y_,za,.of_steps (Steps.trans dK (.one step_inLoop)) zb⟩
    |exit id=>exact ⟨_,a1,w1,ib,.pass (x:= .inLoop c) rfl (fun _ _=> .inl (by simp)) dK⟩
    |goto l=>exact ⟨_,a1,w1,ib,.pass (x:= .inLoop c) rfl (fun _ _=> .inl (by simp)) dK⟩
    |ret=>exact ⟨_,a1,w1,ib,.pass (x:= .inLoop c) rfl (fun _ _=> .inl (by simp)) dK⟩
    |panic ch=>exact ⟨_,a1,w1,ib,.pass (x:= .inLoop c) rfl (fun _ _=> .inl (by simp)) dK⟩
    |outgrown=>exact ⟨_,a1,w1,ib,.pass (x:= .inLoop c) rfl (fun _ _=> .inl (by simp)) dK⟩)
  obtain ⟨φ1,k1,k2⟩:=r9 ((p.loops.lookup cC).getD {}) H.bs.length ae hs;obtain ⟨e,a',w',zd,dK⟩:=main w φ1 A a k1.st k2 (Ends.trans ae k1 hq) b k cs;exact ⟨e,a',w',zd,.of_steps (.one step_loop) dK⟩
 |region id ops draw=>
  intro cC s H K Q w φ A a ho h ae hs hq;have key: ∀(K:Ex→aj→J→Prop),aJ X C (iz (p.nK.lookup id) ((p.fz.lookup id).getD []) id (fG (p.gi.lookup id) ops) draw) s H K→Ends Q K w H φ A→(Code.region id ops draw).wp P Q a w:=by
   intro K h hq;cases draw with
   |false=>
    have eY:fG (p.gi.lookup id) ops=ops:=by
     simp only [cW] at ho;cases hl:p.gi.lookup id with
     |none=>rfl
     |some π =>rw [hl] at ho;simp at ho
    rw [eY] at h;have h' :cO X C ops (match p.nK.lookup id with|some (_,th)=>th|none=>[]) ((p.fz.lookup id).getD []) (fun s H=>K .normal s H) ops.toList 0 s H:=by
     unfold iz at h;split at h
     ·rename_i n th he;rw [he];exact h
     ·rename_i he;rw [he];exact h
    exact wp_region_list (r7 hE hX ops.toList 0 s H w φ A a h' ae hs fun s' H' ak A' a' w' h1 h2 h3=>hq .normal s' H' ak A' a' w' h1 h2 h3)
   |true=>
    have h' : ∃q th,iC (fG (p.gi.lookup id) ops) q=true∧cY X C (fG (p.gi.lookup id) ops) (fun i=> !q.contains i) (fJ (fG (p.gi.lookup id) ops) q) th (fun s H=>K .normal s H) (fG (p.gi.lookup id) ops).toList 0 s H:=by
     unfold iz at h;split at h
     ·exact ⟨_,_,h.1,h.2⟩
     ·exact ⟨_,_,h.1,h.2⟩
    obtain ⟨q,th,hd,h'⟩:=h';have hw:=hD _ q th s H _ Q w φ A a hd h' ae hs fun s' H' ak A' a' w' h1 h2 h3=>hq .normal s' H' ak A' a' w' h1 h2 h3
    refine wp_region_any hm ?_;simp only [cW] at ho;cases hl:p.gi.lookup id with
    |none=>rw [hl] at hw;exact hw
    |some π =>
     rw [hl] at hw ho;simp only [Bool.true_and] at ho;exact y0 (yU ho) hw
  simp only [cX] at h;unfold jL at h;split at h
  ·rename_i l kp _;have mI: ∀{w:World} {H:J} {φ :ag} {A:ah} {s:aj} {a:Act} (kp:Option (List Nat)),SF w H φ A s a→SF w H φ A (dZ kp s) a:=by
    intro w H φ A s a kp h;cases kp with
    |none=>exact h
    |some l=>exact h.kill l
   simp only [aJ] at h;refine key _ h fun e s' H' ak A' a' w' h1 h2 h3=> ?_
   cases e with
   |normal=>
    simp only at h3;split at h3
    ·rename_i s2 H2 hf;obtain ⟨bd,A2,k1,k2⟩:=mG l h1.st h2 hf;exact hq .normal _ H2 bd A2 a' w' (h1.trans ae k1) (mI kp k2) h3
    ·exact h3.elim
   |exit id=>exact hq (.exit id) s' H' ak A' a' w' h1 h2 h3
   |ret=>exact hq .ret s' H' ak A' a' w' h1 h2 h3
  ·exact key K h hq
 |_=>intro cC s H K Q w φ A a ho h ae hs hq;simp only [cX,aJ] at h
end code
end Go.VS
namespace Go.VS
section body
variable {P:Program} {C:aG} {X:bq}
theorem pC (hE: ∀t ti,C.E t=some ti→aS P t ti) {w:World} {H:J} {φ :ag} {A:ah} {s:aj} {a:Act} (ae:St w H φ A) (hs:SF w H φ A s a) {f:ResultVar→Sem Value} (lh: ∀t,f (.tmp t)=pure (a.tmps.getD t undef)) (li: ∀x t,f (.cell x t)=(do loadVar t (←asAddr (a.tmps.getD x undef)))):
 ∀(l:List ResultVar) (rs:List AV),dz C.E s H l=some rs→
 ∃cF:List Value,(l.mapM f).run P w= .ok cF w∧rs.length=cF.length∧ ∀(i:Nat) (x:AV) (u:Value),rs[i]? =some x→cF[i]? =some u→R w H φ A x u
 |[],rs,h=>by
  simp only [dz,Option.some.injEq] at h;subst h;exact ⟨[],by simp,rfl,by simp⟩
 | .tmp t::l,rs,h=>by
  simp only [dz,Option.map_eq_some_iff] at h;obtain ⟨pD,h1,rfl⟩:=h;obtain ⟨cF,k1,k2,k3⟩:=pC hE ae hs lh li l pD h1
  refine ⟨a.tmps.getD t undef::cF,by simp [List.mapM_cons,k1,lh],by simp [k2],fun i x u hx hu=> ?_⟩
  cases i with
  |zero=>simp at hx hu;subst hx;subst hu;have:=hs.ev (.tmp t);simpa [ev,Act.eval] using this
  |succ i=>exact k3 i x u hx hu
 | .cell b t::l,rs,h=>by
  simp only [dz] at h;split at h
  ·rename_i v H' he
   simp only [Option.map_eq_some_iff] at h;obtain ⟨pD,h1,rfl⟩:=h;obtain ⟨cF,k1,k2,k3⟩:=pC hE ae hs lh li l pD h1
   have hb:=hs.ev (.tmp b);simp only [aP] at he;obtain ⟨u,hu,hr⟩:=qJ (P:=P) hE ae (a_.refl H) hb he;have aM:(do loadVar t (←asAddr (a.tmps.getD b undef)):Sem Value).run P w= .ok u w:=by
    revert hu;simp only [Act.eval];unfold Instr.loadAt;generalize a.tmps.getD b undef=q;intro hu;cases q with
    |pointer o=>cases o with
     |none=>simp [Instr.sureAddr] at hu
     |some o=>simpa [Instr.sureAddr,asAddr] using hu
    |_=>simp [Instr.sureAddr] at hu
   refine ⟨u::cF,by rw [List.mapM_cons,li,Sem.run_bind,aM];simp [k1],by simp [k2],fun i x u' hx aM=> ?_⟩
   cases i with
   |zero=>simp at hx aM;subst hx;subst aM;exact hr
   |succ i=>exact k3 i x u' hx aM
  ·simp at h
theorem r_ (hE: ∀t ti,C.E t=some ti→aS P t ti) {w:World} {H:J} {φ :ag} {A:ah} {s:aj} {a:Act} (ae:St w H φ A) (hs:SF w H φ A s a) {fn:Func} {rs:List AV} (h:dz C.E s H fn.results.toList=some rs):
 ∃cF:List Value,(results fn a.tmps).run P w= .ok (h_ cF) w∧rs.length=cF.length∧ ∀(i:Nat) (x:AV) (u:Value),rs[i]? =some x→cF[i]? =some u→R w H φ A x u:=by
 obtain ⟨f,lh,li,ze⟩: ∃f:ResultVar→Sem Value,(∀t,f (.tmp t)=pure (a.tmps.getD t undef))∧(∀x t,f (.cell x t)=(do loadVar t (←asAddr (a.tmps.getD x undef))))∧
  results fn a.tmps=(do let vs←fn.results.mapM f;pure (if h:vs.size=1 then vs[0] else .tuple vs)):=⟨_,fun _=>rfl,fun _ _=>rfl,rfl⟩
 obtain ⟨cF,h1,h2,h3⟩:=pC hE ae hs lh li fn.results.toList rs h;refine ⟨cF,?_,h2,h3⟩;rw [ze,Sem.run_bind,Array.mapM_eq_mapM_toList,Sem.run_map,h1]
 match cF with
 |[]=>simp [h_]
 |[u]=>simp [h_]
 |u::u' ::us=>simp [h_]
theorem zf (hm:P.follows .mixedOrders=true) (hE: ∀t ti,C.E t=some ti→aS P t ti) (hC: ∀f fn,C.code f=some fn→P.funcs[f]? =some fn∧(fn.name== "runtime.NumGoroutine")=false∧nN (C.fH f) fn=true) (hX: ∀f ys H K,X f ys H K→cb P f ys H K) (hD:mH P C X)
 {f:FuncId} {ys:List AV} {H:J} {K:AV→J→Prop} (h:Body X C f ys H K):cb P f ys H K:=by
 unfold Body at h;split at h
 ·exact h.elim
 rename_i fn kG;split at h
 ·exact h.elim
 rename_i c hc;obtain ⟨hf,pE,lj⟩:=hC f fn kG;have lj:cW (C.fH f) c=true:=by unfold nN at lj;rw [hc] at lj;exact lj
 refine ⟨⟨fn,hf,pE,by simp [hc]⟩,fun w A φ us ae hl hr=> ?_⟩
 refine calls_of_wp hf hc (r8 hm hE hX hD (C.fH f) c 0 _ H _ _ w φ A _ lj h ae ⟨by simp [hl],fun t x v hx hv=> ?_,rfl⟩ ?_)
 ·rcases Nat.lt_or_ge t us.size with ht|ht
  ·rw [List.getElem?_append_left (by rw [hl];exact ht)] at hx
   rw [Array.getElem?_append_left ht] at hv;exact hr t x v hx hv
  ·rw [List.getElem?_append_right (by rw [hl];exact ht)] at hx
   have:x= .undef:=by
    rw [List.getElem?_replicate] at hx;split at hx<;>simp at hx;exact hx.symm
   subst this;exact .fr _ _ (.undef _)
 ·intro e s' H' ak A' a' w' h1 h2 h3
  have fin:(∃rs,dz C.E s' H' fn.results.toList=some rs∧K (cc rs) H')→a'.defers=[]∧ ∃v,(results fn a'.tmps).run P w' = .ok v w' ∧iM w H φ A K (.returned v) w' :=by
   rintro ⟨rs,jq,hk⟩;refine ⟨h2.eJ,?_⟩;obtain ⟨cF,k1,k2,k3⟩:=r_ (P:=P) hE h1.st h2 jq;exact ⟨_,k1,_,H',ak,A',h1,pf k2 k3,hk⟩
  cases e with
  |normal=>exact fin h3
  |ret=>exact fin h3
  |exit id=>exact h3.elim
end body
end Go.VS
namespace Go.VS
def fB (H H1:J):Prop:=a_ H H1∧H.bs.length≤H1.bs.length
theorem a_.trans {H H1 H2:J} (h:a_ H H1) (k:a_ H1 H2):a_ H H2:=⟨fun id b hb=>k.1 id b (h.1 id b hb),Nat.le_trans h.2 k.2⟩
theorem fB.refl (H:J):fB H H:=⟨a_.refl _,Nat.le_refl _⟩
theorem fB.trans {H H1 H2:J} (h:fB H H1) (k:fB H1 H2):fB H H2:=⟨h.1.trans k.1,Nat.le_trans h.2 k.2⟩
theorem fB.new (H:J) (sz:Nat) (fx:Bool) (el:List AV):fB H (H.new sz fx el):=⟨J.oa H sz fx el,by simp [J.new]⟩
mutual
theorem pF: ∀(y:AV) (H:J),fB H (aF y H).2
 | .own sz xs,H=>by simp only [aF];exact (iN xs H).trans (.new _ _ _ _)
 | .dm sz x,H=>by simp only [aF];exact (pF x H).trans (.new _ _ _ _)
 | .agg xs,H=>by simp only [aF];exact iN xs H
 | .ay xs,H=>by simp only [aF];exact iN xs H
 | .undef,H=> .refl _
 | .int _ _,H=> .refl _
 | .bool _,H=> .refl _
 | .str _,H=> .refl _
 | .nil,H=> .refl _
 | .e0,H=> .refl _
 | .fz _,H=> .refl _
 | .ref _ _ _ _,H=> .refl _
 | .ptr _ _ _ _,H=> .refl _
 | .fe _ _,H=> .refl _
 | .fn _ _,H=> .refl _
 | .cj _,H=> .refl _
 | .dy,H=> .refl _
theorem iN: ∀(ys:List AV) (H:J),fB H (aH ys H).2
 |[],H=> .refl _
 |y::ys,H=>by simp only [aH];exact (pF y H).trans (iN ys _)
end
structure GH (G:J) (φ :ag) (H H1:J):Prop where
 ext:a_ H1 G
 none: ∀id,H.bs.length≤id→id<H1.bs.length→ φ id=none
theorem j_ (H:J) (sz:Nat) (fx:Bool) (el:List AV):(H.new sz fx el).bs.length=H.bs.length+1:=by simp [J.new]
theorem GH.fst {G:J} {φ :ag} {H H1 H2:J} (h:GH G φ H H2) (k:fB H1 H2):GH G φ H H1:=⟨k.1.trans h.ext,fun id h1 h2=>h.none id h1 (Nat.lt_of_lt_of_le h2 k.2)⟩
section bz
variable {w:World}
structure MG (w:World) (L:J) (φL:ag) (AL:ah) (G:J) (φ :ag) (AH:ah) (L1:J) (φ1:ag) (lo hi:Nat):Prop where
 less:bD L L1
 bz:bZ w L1 (aE φL L1) AL G φ1 AH
 oh: ∀c,Ow φ1 c→Ow φ c∨(Ow φL c∧ ¬Ow (aE φL L1) c)
 g_: ∀c,Ow φ c→Ow φ1 c
 b4: ∀id loc,φ id=some loc→ φ1 id=some loc
 new: ∀id loc,φ1 id=some loc→ φ id=some loc∨(lo≤id∧id<hi)
 le:lo≤hi
theorem MG.eh {L:J} {φL:ag} {AL:ah} {G:J} {φ :ag} {AH:ah} {L1:J} {φ1:ag} {lo hi:Nat} (m:MG w L φL AL G φ AH L1 φ1 lo hi):bH w G φ AH w G φ1 AH:=
 ⟨fun _c _arr _T fr hc hn=>⟨⟨fr,hc⟩,hn⟩,Nat.le_refl _,fun id b hb _=>⟨b,hb,rfl,rfl,rfl,rfl,fun loc h=>m.b4 id loc h⟩,fun _ _=>rfl⟩
theorem MG.refl {L:J} {φL:ag} {AL:ah} {G:J} {φ :ag} {AH:ah} (h:bZ w L φL AL G φ AH) (lo:Nat):MG w L φL AL G φ AH L φ lo lo:=
 ⟨.refl _,⟨ef h.sl (.refl _),h.sh,fun c hc=>h.b_ c (bJ hc),fun c hc=>h.er c (bJ hc)⟩,fun _c hc=> .inl hc,fun _c hc=>hc,fun _ _ h=>h,fun _ _ h=> .inl h,Nat.le_refl _⟩
theorem MG.trans {L L1 L2:J} {φL:ag} {AL:ah} {G:J} {φ φ1 bd:ag} {AH:ah} {lo mi hi:Nat} (h:MG w L φL AL G φ AH L1 φ1 lo mi) (k:MG w L1 (aE φL L1) AL G φ1 AH L2 bd mi hi):MG w L φL AL G φ AH L2 bd lo hi:=by
 have hr:=fT (φ := φL) k.less;refine ⟨h.less.trans k.less,by rw [←hr];exact k.bz,fun c hc=> ?_,fun c hc=>k.g_ c (h.g_ c hc),fun id loc hl=>k.b4 id loc (h.b4 id loc hl),fun id loc hl=> ?_,Nat.le_trans h.le k.le⟩
 ·rcases k.oh c hc with h1|⟨h1,h2⟩
  ·rcases h.oh c h1 with h3|⟨h3,h4⟩
   ·exact .inl h3
   ·refine .inr ⟨h3,fun h5=>h4 ?_⟩;rw [←hr] at h5;exact bJ h5
  ·rw [hr] at h2;exact .inr ⟨bJ h1,h2⟩
 ·have h1:=h.le;have h2:=k.le;rcases k.new id loc hl with h3|⟨h3,h4⟩
  ·rcases h.new id loc h3 with h5|⟨h5,h6⟩
   ·exact .inl h5
   ·exact .inr ⟨h5,by omega⟩
  ·exact .inr ⟨by omega,h4⟩
theorem GH.snd {L L1:J} {φL:ag} {AL:ah} {G:J} {φ φ1:ag} {AH:ah} {H H1 H2:J} (h:GH G φ H H2) (m:MG w L φL AL G φ AH L1 φ1 H.bs.length H1.bs.length):GH G φ1 H1 H2:=by
 refine ⟨h.ext,fun id h1 h2=> ?_⟩;cases hp: φ1 id with
 |none=>rfl
 |some loc=>
  have hle:=m.le;rcases m.new id loc hp with h3|⟨_,h3⟩
  ·rw [h.none id (by omega) h2] at h3;simp at h3
  ·omega
theorem sa {L L1:J} {φL:ag} {AL:ah} {G:J} {φ φ1:ag} {AH:ah} {lo hi:Nat} (m:MG w L φL AL G φ AH L1 φ1 lo hi) {ad sz:Nat} {fx:Bool} {el:List AV} {loc:Loc} (hg:G.get hi=some ⟨ad,sz,fx,el⟩) (bE:ad<G.st) (hJ: φ hi=none)
 (eb: ∀(i:Nat) (x:AV),el[i]? =some x→x.cells.length=sz) (hv:loc= .aQ→el=[])
 (et: ∀c b0,loc= .at_ c b0→Ow φL c∧ ¬Ow (aE φL L1) c∧ ¬Ow φ1 c∧AH c∧ ∃arr T fr,w.heap[c]? =some (.cells arr T fr)∧(∀j,j<arr.size→ ¬(fr.1≤j∧j<fr.2))∧b0+el.length*sz≤arr.size∧
  ∀(i:Nat) (x:AV) (j:Nat) (y:AV) (v:Value),el[i]? =some x→x.cells[j]? =some y→arr[b0+i*sz+j]? =some v→R w G φ1 AH y v∧v.oneCell' =true):
 MG w L φL AL G φ AH L1 (fun i=>if i=hi then some loc else φ1 i) lo (hi+1):=by
 have fp:=m.bz.sh;have hle:=m.le;have bp: φ1 hi=none:=by
  cases hp: φ1 hi with
  |none=>rfl
  |some l=>
   rcases m.new hi l hp with h|⟨_,h⟩
   ·rw [hJ] at h;simp at h
   ·omega
 have aR:bH w G φ1 AH w G (fun i=>if i=hi then some loc else φ1 i) AH:=by
  refine ⟨fun c a t fr hc hn=>⟨⟨fr,hc⟩,hn⟩,Nat.le_refl _,fun id b hb ax=>⟨b,hb,rfl,rfl,rfl,rfl,fun l hl=> ?_⟩,fun _ _=>rfl⟩;rw [if_neg (by rintro rfl;rw [bp] at hl;simp at hl)];exact hl
 have dJ: ∀c,Ow (fun i=>if i=hi then some loc else φ1 i) c→Ow φ1 c∨ ∃b0,loc= .at_ c b0:=by
  rintro c ⟨i,b,h⟩;try simp only at h
  split at h
  ·simp only [Option.some.injEq] at h;exact .inr ⟨b,h⟩
  ·exact .inl ⟨i,b,h⟩
 refine ⟨m.less,⟨m.bz.sl,⟨fun i i' c b b' h1 h2=> ?_,fun c hc=> ?_,fp.bY,fun i l hl=> ?_⟩,fun c hc ho=> ?_,m.bz.er⟩,fun c hc=> ?_,fun c hc=> ?_,fun id l hl=> ?_,fun id l hl=> ?_,by omega⟩
 ·try simp only at h1 h2
  split at h1
  ·rename_i hi;split at h2
   ·rename_i gX;omega
   ·simp only [Option.some.injEq] at h1;exact absurd ⟨i',b',h2⟩ (et c b h1).2.2.1
  ·split at h2
   ·simp only [Option.some.injEq] at h2;exact absurd ⟨i,b,h1⟩ (et c b' h2).2.2.1
   ·exact fp.inj _ _ _ _ _ h1 h2
 ·rcases dJ c hc with h|⟨b0,h⟩
  ·exact fp.own c h
  ·exact (et c b0 h).2.2.2.1
 ·try simp only at hl
  split at hl
  ·rename_i hi;subst hi;simp only [Option.some.injEq] at hl;subst hl;refine ⟨_,hg,bE,eb,hv,fun c b0 he=> ?_⟩;obtain ⟨_,_,_,_,arr,T,fr,k1,k2,k3,k4⟩:=et c b0 he;exact ⟨arr,T,fr,k1,k2,k3,fun j x q y v bF hy cr=>⟨(k4 j x q y v bF hy cr).1.mono aR,(k4 j x q y v bF hy cr).2⟩⟩
  ·obtain ⟨bb,hb,af⟩:=fp.ap i l hl;refine ⟨bb,hb,af.ad,af.sized,af.aQ,fun c b0 he=> ?_⟩;obtain ⟨arr,T,fr,k1,k2,k3,k4⟩:=af.here c b0 he;exact ⟨arr,T,fr,k1,k2,k3,fun j x q y v bF hy cr=>⟨(k4 j x q y v bF hy cr).1.mono aR,(k4 j x q y v bF hy cr).2⟩⟩
 ·rcases dJ c ho with h|⟨b0,h⟩
  ·exact m.bz.b_ c hc h
  ·exact (et c b0 h).2.1 hc
 ·rcases dJ c hc with h|⟨b0,h⟩
  ·exact m.oh c h
  ·exact .inr ⟨(et c b0 h).1,(et c b0 h).2.1⟩
 ·obtain ⟨i,b,h⟩:=m.g_ c hc
  exact ⟨i,b,by show (if i=hi then some loc else φ1 i)=_;rw [if_neg (by rintro rfl;rw [bp] at h;simp at h)];exact h⟩
 ·have:=m.b4 id l hl;rw [if_neg (by rintro rfl;rw [bp] at this;simp at this)];exact this
 ·try simp only at hl
  split at hl
  ·rename_i hi;subst hi;exact .inr ⟨hle,Nat.lt_succ_self _⟩
  ·rcases m.new id l hl with h|⟨h1,h2⟩
   ·exact .inl h
   ·exact .inr ⟨h1,by omega⟩
set_option maxRecDepth 4000
theorem sb {es:List Sh} (hE: ∀(x:AV) (vs:List Value) (L:J) (φL:ag) (AL:ah) (H G:J) (φ :ag) (AH:ah) (y:AV) (L1:J) (a:AV) (H1:J),bZ w L φL AL G φ AH→GH G φ H H1→x.cells.length=vs.length→
 (∀(j:Nat) (c:AV) (u:Value),x.cells[j]? =some c→vs[j]? =some u→R w L φL AL c u)→aY es x L=some (y,L1)→aF y H=(a,H1)→fU AL AH y→
 ∃ φ1,MG w L φL AL G φ AH L1 φ1 H.bs.length H1.bs.length∧a.cells.length=x.cells.length∧ ∀(j:Nat) (c:AV) (u:Value),a.cells[j]? =some c→vs[j]? =some u→R w G φ1 AH c u):
 ∀(xs:List AV) (g:Nat→Nat→Value) (L:J) (φL:ag) (AL:ah) (H G:J) (φ :ag) (AH:ah) (ys:List AV) (L1:J) (as:List AV) (H1:J),bZ w L φL AL G φ AH→GH G φ H H1→
  (∀(i:Nat) (x:AV) (j:Nat) (c:AV),xs[i]? =some x→x.cells[j]? =some c→R w L φL AL c (g i j))→dn (aY es) xs L=some (ys,L1)→aH ys H=(as,H1)→dQ AL AH ys→
  ∃ φ1,MG w L φL AL G φ AH L1 φ1 H.bs.length H1.bs.length∧as.length=xs.length∧(∀(i:Nat) (x a:AV),xs[i]? =some x→as[i]? =some a→a.cells.length=x.cells.length)∧
   ∀(i:Nat) (a:AV) (j:Nat) (c:AV),as[i]? =some a→a.cells[j]? =some c→R w G φ1 AH c (g i j)
 |[],g,L,φL,AL,H,G,φ,AH,ys,L1,as,H1,hd,hh,_,ht,hw,_=>by
  simp only [dn,Option.some.injEq,Prod.mk.injEq] at ht;obtain ⟨rfl,rfl⟩:=ht;simp only [aH,Prod.mk.injEq] at hw;obtain ⟨rfl,rfl⟩:=hw;exact ⟨φ,.refl hd _,rfl,by simp,by simp⟩
 |x::xs,g,L,φL,AL,H,G,φ,AH,ys,L1,as,H1,hd,hh,hr,ht,hw,hk=>by
  simp only [dn] at ht;split at ht
  ·rename_i y L' h1
   split at ht
   ·rename_i aU c9 h2
    simp only [Option.some.injEq,Prod.mk.injEq] at ht;obtain ⟨rfl,rfl⟩:=ht;obtain ⟨k1,k2⟩:=hk.cons;simp only [aH,Prod.mk.injEq] at hw;obtain ⟨rfl,rfl⟩:=hw
    let vs:List Value:=(List.range x.cells.length).map (g 0)
    obtain ⟨φ1,m1,l1,r1⟩:=hE x vs L φL AL H G φ AH y L' _ _ hd (hh.fst (iN _ _)) (by simp [vs]) (fun j c u hj hu=>by
     have dP:j<x.cells.length:=(List.getElem?_eq_some_iff.1 hj).1;have:vs[j]? =some (g 0 j):=by simp [vs,dP]
     rw [this] at hu;simp only [Option.some.injEq] at hu;subst hu;exact hr 0 x j c rfl hj) h1 rfl k1
    obtain ⟨bd,m2,l2,s2,r2⟩:=sb hE xs (fun i j=>g (i+1) j) L' (aE φL L') AL _ G φ1 AH aU c9 _ _ m1.bz (hh.snd m1) (fun i x' j c hi hj=>(hr (i+1) x' j c hi hj).mono (c5 m1.less)) h2 rfl k2
    refine ⟨bd,m1.trans m2,by simp [l2],fun i x' a hx ha=> ?_,fun i a j c ha hc=> ?_⟩
    ·cases i with
     |zero=>simp at hx ha;subst hx;subst ha;exact l1
     |succ i=>exact s2 i x' a hx ha
    ·cases i with
     |zero=>
      simp only [List.getElem?_cons_zero,Option.some.injEq] at ha;subst ha;have hj:j<x.cells.length:=by rw [←l1];exact (List.getElem?_eq_some_iff.1 hc).1
      exact (r1 j c (g 0 j) hc (by simp [vs,hj])).mono m2.eh
     |succ i=>exact r2 i a j c ha hc
   ·simp at ht
  ·simp at ht
theorem sd {L:J} {φL:ag} {AL:ah} {G:J} {φ :ag} {AH:ah} (hd:bZ w L φL AL G φ AH) {id ad:Nat} {b:bB} (hb:L.ap id ad=some b) {off n:Nat} (hle:off+n≤b.el.length) {sz:Nat} (hs:b.sz=sz) {loc:Loc} (aV: φL id=some loc)
 {L1:J} {as:List AV} {lo hi:Nat} {g:Nat→Nat→Value} {φ1:ag} (hg: ∀c b0 arr T fr,loc= .at_ c b0→w.heap[c]? =some (.cells arr T fr)→ ∀(i j:Nat) (v:Value),i<n→j<sz→arr[b0+(off+i)*sz+j]? =some v→g i j=v)
 (m:MG w (L.del id) (aE φL (L.del id)) AL G φ AH L1 φ1 lo hi) (hl:as.length=n) (eb: ∀(i:Nat) (a:AV),as[i]? =some a→a.cells.length=sz)
 (hr: ∀(i:Nat) (a:AV) (j:Nat) (c:AV),as[i]? =some a→a.cells[j]? =some c→R w G φ1 AH c (g i j)) {fX:Nat} (fx:Bool) (ic:G.get hi=some ⟨fX,sz,fx,as⟩) (bE:fX<G.st) (hJ: φ hi=none) (loc' :Loc) (hG:loc' = .aQ∧n=0∨ ∃c b0,loc= .at_ c b0∧loc' = .at_ c (b0+off*sz)):
 MG w L φL AL G φ AH L1 (fun i=>if i=hi then some loc' else φ1 i) lo (hi+1):=by
 have oN:=(J.bn hb).1;have oO:=(bD.del L id).trans m.less;have hI:aE (aE φL (L.del id)) L1=aE φL L1:=fT m.less;have m' :MG w L φL AL G φ AH L1 φ1 lo hi:=by
  refine ⟨oO,by have:=m.bz;rwa [hI] at this,fun c hc=> ?_,m.g_,m.b4,m.new,m.le⟩
  rcases m.oh c hc with h|⟨h1,h2⟩
  ·exact .inl h
  ·rw [hI] at h2;exact .inr ⟨bJ h1,h2⟩
 refine sa m' ic bE hJ eb (fun hv=> ?_) (fun c b1 he=> ?_)
 ·rcases hG with ⟨_,h0⟩|⟨c,b0,_,h2⟩
  ·exact List.eq_nil_of_length_eq_zero (by omega)
  ·rw [h2] at hv;simp at hv
 ·rcases hG with ⟨h1,_⟩|⟨c',b0,h1,h2⟩
  ·rw [h1] at he;simp at he
  ·rw [h2] at he;simp only [Loc.at_.injEq] at he;obtain ⟨rfl,rfl⟩:=he;subst h1;have jk:Ow φL c' :=⟨id,b0,aV⟩
   have oP: ¬Ow (aE φL L1) c' :=by
    rintro ⟨i,bb,hi⟩;obtain ⟨fu,bk,aX⟩:=dh hi;have:=hd.sl.inj _ _ _ _ _ fu aV;subst this;have:=m.less.get _ _ aX;rw [J.iK,if_pos rfl] at this;simp at this
   refine ⟨jk,oP,fun ho=> ?_,hd.er _ jk,?_⟩
   ·rcases m.oh c' ho with h|⟨⟨i,bb,hi⟩,_⟩
    ·exact hd.b_ c' jk h
    ·obtain ⟨fu,bk,aX⟩:=dh hi;have:=hd.sl.inj _ _ _ _ _ fu aV;subst this;rw [J.iK,if_pos rfl] at aX;simp at aX
   ·obtain ⟨bk,aX,af⟩:=hd.sl.ap id _ aV;rw [oN] at aX;simp only [Option.some.injEq] at aX;subst aX;obtain ⟨arr,T,fr,k1,k2,k3,k4⟩:=af.here c' b0 rfl
    have hmul:off*sz+n*sz≤b.el.length*sz:=by rw [←Nat.add_mul];exact Nat.mul_le_mul_right _ hle
    refine ⟨arr,T,fr,k1,k2,by rw [hl];rw [hs] at k3;omega,fun i a j c v ha hc hv=> ?_⟩
    have hi:i<n:=by rw [←hl];exact (List.getElem?_eq_some_iff.1 ha).1
    have hj:j<sz:=by rw [←eb i a ha];exact (List.getElem?_eq_some_iff.1 hc).1
    have e:b0+off*sz+i*sz+j=b0+(off+i)*sz+j:=by rw [Nat.add_mul];omega
    rw [e] at hv;have oQ:=hg c' b0 arr T fr rfl k1 i j v hi hj hv
    refine ⟨by rw [←oQ];exact hr i a j c ha hc,?_⟩
    have bR:off+i<b.el.length:=by omega
    have hx:=List.getElem?_eq_getElem bR;have cq:=af.sized _ _ hx;exact (k4 (off+i) _ j _ v hx (List.getElem?_eq_getElem (by omega)) (by rw [hs];exact hv)).2
mutual
theorem mJ (sh:Sh) (x:AV) (v:Value) (L:J) (φL:ag) (AL:ah) (H G:J) (φ :ag) (AH:ah) (y:AV) (L1:J) (a:AV) (H1:J) (hd:bZ w L φL AL G φ AH) (hh:GH G φ H H1) (hx:R w L φL AL x v)
 (ht:aN sh x L=some (y,L1)) (hw:aF y H=(a,H1)) (hk:fU AL AH y): ∃ φ1,MG w L φL AL G φ AH L1 φ1 H.bs.length H1.bs.length∧R w G φ1 AH a v∧(x≠ .undef→a.cells=[a])∧(x= .undef→a= .undef):=by
 cases sh with
 |sc=>
  simp only [aN] at ht;split at ht
  ·rename_i hp;simp only [Option.some.injEq,Prod.mk.injEq] at ht;obtain ⟨rfl,rfl⟩:=ht;rw [rj hp] at hw;simp only [Prod.mk.injEq] at hw;obtain ⟨rfl,rfl⟩:=hw;exact ⟨φ,.refl hd _,ri hp hx,fun hu=>cells_one hu (by rintro cs rfl;simp [dp] at hp),fun h=>h⟩
  ·simp at ht
 |sl es=>
  have kX: ∀{v0:Option Addr},v= .slice v0 0 0→aF (.own es.length []) H=(a,H1)→L1=L→ ∃ φ1,MG w L φL AL G φ AH L1 φ1 H.bs.length H1.bs.length∧R w G φ1 AH a v∧a.cells=[a]:=by
   intro v0 hv hw hL;subst hL;simp only [aF,aH,Prod.mk.injEq] at hw;obtain ⟨rfl,rfl⟩:=hw;have ic:=hh.ext.1 _ _ (J.ea H es.length false []);have bE:H.st<G.st:=Nat.lt_of_lt_of_le (Nat.lt_succ_self _) hh.ext.2;have m:=sa (MG.refl hd H.bs.length) ic bE (hh.none _ (Nat.le_refl _) (by rw [j_];exact Nat.lt_succ_self _)) (loc:= .aQ) (by simp) (fun _=>rfl) (by simp)
   rw [←j_ H es.length false []] at m;refine ⟨_,m,?_,rfl⟩;refine .ref _ _ _ _ _ bE ⟨_,_,hv⟩ fun b hb=> ?_;have:=j6 ic hb;subst this;exact ⟨.aQ,v0,0,by simp,hv,by simp,Nat.le_refl _,by simp,rfl,fun _=>rfl⟩
  cases x with
  |nil=>
   simp only [aN,Option.some.injEq,Prod.mk.injEq] at ht;obtain ⟨rfl,rfl⟩:=ht;obtain ⟨φ1,h1,h2,h3⟩:=kX hx.c8 hw rfl;exact ⟨φ1,h1,h2,fun _=>h3,fun h=>by simp at h⟩
  |e0=>
   simp only [aN,Option.some.injEq,Prod.mk.injEq] at ht;obtain ⟨rfl,rfl⟩:=ht;obtain ⟨a0,kY⟩:=hx.eH;obtain ⟨φ1,h1,h2,h3⟩:=kX kY hw rfl;exact ⟨φ1,h1,h2,fun _=>h3,fun h=>by simp at h⟩
  |fz xs=>
   simp only [aN,Option.some.injEq,Prod.mk.injEq] at ht;obtain ⟨rfl,rfl⟩:=ht;simp only [aF,Prod.mk.injEq] at hw;obtain ⟨rfl,rfl⟩:=hw;rcases hk with hk|hk
   ·exact ⟨φ,.refl hd _,.fr _ _ (hx.dA.shrink hk),fun _=>rfl,fun h=>by simp at h⟩
   ·simp [cf] at hk
  |ref id ad off len=>
   simp only [aN] at ht;split at ht
   ·rename_i b hb;split at ht
    ·rename_i hc;obtain ⟨c1,c2,c3⟩:=hc;split at ht
     ·rename_i ys L' hm
      simp only [Option.some.injEq,Prod.mk.injEq] at ht;obtain ⟨rfl,rfl⟩:=ht;simp only [aF,Prod.mk.injEq] at hw;obtain ⟨rfl,rfl⟩:=hw;have hg:=(J.bn hb).1;obtain ⟨bE,_,hr⟩:=hx.df;obtain ⟨loc,a0,cap,q1,rfl,q3,q4,q5,q6⟩:=(hr b hb).out;obtain ⟨bk,aX,af⟩:=hd.sl.ap id _ q1;rw [hg] at aX;simp only [Option.some.injEq] at aX;subst aX;have bG:dQ AL AH ys:=by
       rcases hk with h|h
       ·exact .inl h
       ·exact .inr (by simpa [cf] using h)
      have cR:=bD.del L id;have b5:bZ w (L.del id) (aE φL (L.del id)) AL G φ AH:=⟨ef hd.sl cR,hd.sh,fun c hc=>hd.b_ c (bJ hc),fun c hc=>hd.er c (bJ hc)⟩
      have bw:(aD b.el off len).length=len:=by simp [aD];omega
      have fV: ∀(i:Nat) (x:AV),(aD b.el off len)[i]? =some x→b.el[off+i]? =some x:=by
       intro i x hi;simp only [aD,List.getElem?_take,List.getElem?_drop] at hi;split at hi
       ·exact hi
       ·simp at hi
      let g:Nat→Nat→Value:=match loc with
       | .aQ=>fun _ _=>undef
       | .at_ c b0=>fun i j=>match w.heap[c]? with
        |some (.cells arr _ _)=>arr.getD (b0+(off+i)*es.length+j) undef
        |_=>undef
      have cy: ∀(i:Nat) (x:AV) (j:Nat) (c:AV),(aD b.el off len)[i]? =some x→x.cells[j]? =some c→R w (L.del id) (aE φL (L.del id)) AL c (g i j):=by
       intro i x j c hi hj;have bF:=fV i x hi
       have cg:i<len:=by rw [←bw];exact (List.getElem?_eq_some_iff.1 hi).1
       cases loc with
       |aQ=>have:=af.aQ rfl;rw [this] at bF;simp at bF
       |at_ c0 b0=>
        obtain ⟨arr,T,fr,k1,k2,k3,k4⟩:=af.here c0 b0 rfl;have dP:j<b.sz:=by rw [←af.sized _ _ bF];exact (List.getElem?_eq_some_iff.1 hj).1
        have hle:=cK (n:=b.sz) (show off+i<b.el.length by omega)
        have ax:b0+(off+i)*b.sz+j<arr.size:=by omega
        have:g i j=arr[b0+(off+i)*b.sz+j]:=by
         simp only [g,k1,←c1,Array.getD_eq_getD_getElem?,Array.getElem?_eq_getElem ax,Option.getD_some]
        rw [this];exact ((k4 _ _ _ _ _ bF hj (Array.getElem?_eq_getElem ax)).1).mono (c5 cR)
      obtain ⟨φ1,m,l1,s1,r1⟩:=sb (w:=w) (es:=es) (fun x vs L φL AL H G φ AH y L1 a H1=>se es x vs L φL AL H G φ AH y L1 a H1) _ g _ _ _ _ _ _ _ _ _ _ _ b5 (hh.fst (.new _ _ _ _)) cy hm rfl bG
      rw [bw] at l1;have kZ: ∀(i:Nat) (a:AV),(aH ys H).1[i]? =some a→a.cells.length=b.sz:=by
       intro i a ha;have cg:i<(aD b.el off len).length:=by rw [bw,←l1];exact (List.getElem?_eq_some_iff.1 ha).1
       have iL:=List.getElem?_eq_getElem cg;rw [s1 i _ a iL ha];exact af.sized _ _ (fV i _ iL)
      have oR: ∀c b0 arr T fr,loc= .at_ c b0→w.heap[c]? =some (.cells arr T fr)→ ∀(i j:Nat) (v:Value),i<len→j<b.sz→arr[b0+(off+i)*b.sz+j]? =some v→g i j=v:=by
       intro c b0 arr T fr hl hh i j v _ _ hv;subst hl;simp only [g,hh,←c1,Array.getD_eq_getD_getElem?,hv,Option.getD_some]
      let loc' :Loc:=match loc with
       | .aQ=> .aQ
       | .at_ c b0=>if cap=0 then .aQ else .at_ c (b0+off*b.sz)
      have hG:loc' = .aQ∧len=0∨ ∃c b0,loc= .at_ c b0∧loc' = .at_ c (b0+off*b.sz):=by
       cases loc with
       |aQ=>left;refine ⟨rfl,?_⟩;have:=af.aQ rfl;rw [this] at q3;simp at q3;omega
       |at_ c b0=>
        by_cases eu:cap=0
        ·left;exact ⟨by simp [loc',eu],by omega⟩
        ·right;exact ⟨c,b0,rfl,by simp [loc',eu]⟩
      have ic:=hh.ext.1 _ _ (J.ea (aH ys H).2 es.length false (aH ys H).1);have bE:(aH ys H).2.st<G.st:=Nat.lt_of_lt_of_le (Nat.lt_succ_self _) hh.ext.2;have M:=sd hd hb c2 rfl q1 oR m l1 kZ r1 false (by rw [c1];exact ic) bE (hh.none _ (iN ys H).2 (by rw [j_];exact Nat.lt_succ_self _)) loc' hG
      rw [←j_ (aH ys H).2 es.length false (aH ys H).1] at M;refine ⟨_,M,?_,fun _=>rfl,fun h=>by simp at h⟩
      refine .ref _ _ _ _ _ bE ⟨a0,cap,by rw [l1]⟩ fun b' aw=> ?_
      have:=j6 ic aw;subst this;refine ⟨loc',a0,cap,by simp,by rw [l1],by simp,by omega,by simp only;omega,?_⟩
      cases loc with
      |aQ=>
       simp only at q6;have cv:len=0:=by have:=af.aQ rfl;rw [this] at q3;simp at q3;omega
       refine ⟨List.eq_nil_of_length_eq_zero (by rw [l1,cv]),fun _=> ?_⟩
       rcases c3 with c3|c3
       ·exact q6.2 c3
       ·omega
      |at_ c b0=>
       simp only at q6;by_cases eu:cap=0
       ·simp only [loc',eu,if_true];exact ⟨List.eq_nil_of_length_eq_zero (by omega),fun _=>by first|trivial|omega|rfl⟩
       ·simp only [loc',eu,if_false];rcases q6 with q6|⟨h1,h2⟩
        ·exact absurd q6 eu
        ·refine Or.inr ⟨by rw [h1];simp,?_⟩
         rw [c1] at h2⊢;have:(off+cap)*es.length=off*es.length+cap*es.length:=Nat.add_mul _ _ _;simp only [Nat.zero_add];omega
     ·simp at ht
    ·simp at ht
   ·simp at ht
  |_=>simp [aN] at ht
 |pt es=>
  cases x with
  |fe z o=>
   simp only [aN,Option.some.injEq,Prod.mk.injEq] at ht;obtain ⟨rfl,rfl⟩:=ht;simp only [aF,Prod.mk.injEq] at hw;obtain ⟨rfl,rfl⟩:=hw;rcases hk with hk|hk
   ·exact ⟨φ,.refl hd _,.fr _ _ (hx.eG.shrink hk),fun _=>rfl,fun h=>by simp at h⟩
   ·simp [cf] at hk
  |ptr id ad idx off=>
   rcases idx with _|idx
   rotate_left
   ·simp [aN] at ht
   rcases off with _|off
   rotate_left
   ·simp [aN] at ht
   simp only [aN] at ht;split at ht
   ·rename_i oS sz oT z hb;split at ht
    ·rename_i y' L' hm
     simp only [Option.some.injEq,Prod.mk.injEq] at ht;obtain ⟨rfl,rfl⟩:=ht;simp only [aF,Prod.mk.injEq] at hw;obtain ⟨rfl,rfl⟩:=hw;have hg:=(J.bn hb).1;obtain ⟨bE,_,hr⟩:=hx.fk;obtain ⟨c,b0,q1,rfl⟩:=hr _ hb;obtain ⟨bk,aX,af⟩:=hd.sl.ap id _ q1;rw [hg] at aX;simp only [Option.some.injEq] at aX;subst aX;obtain ⟨arr,T,fr,k1,k2,k3,k4⟩:=af.here c b0 rfl;have bG:fU AL AH y' :=by
      rcases hk with h|h
      ·exact .inl h
      ·exact .inr (by simpa [cf] using h)
     have cR:=bD.del L id;have b5:bZ w (L.del id) (aE φL (L.del id)) AL G φ AH:=⟨ef hd.sl cR,hd.sh,fun c hc=>hd.b_ c (bJ hc),fun c hc=>hd.er c (bJ hc)⟩
     have cu:z.cells.length=sz:=af.sized 0 z rfl;simp only [List.length_singleton,Nat.one_mul] at k3
     let vs:List Value:=(arr.extract b0 (b0+sz)).toList
     have dC:vs.length=sz:=by simp [vs];omega
     have fW: ∀j u,vs[j]? =some u→arr[b0+j]? =some u:=by
      intro j u hu;simp only [vs,Array.getElem?_toList,Array.getElem?_extract] at hu;split at hu
      ·exact hu
      ·simp at hu
     obtain ⟨φ1,m,l1,r1⟩:=se es z vs _ _ _ _ _ _ _ _ _ _ _ b5 (hh.fst (.new _ _ _ _)) (by rw [dC,cu]) (fun j c' u hj hu=>((k4 0 z j c' u rfl hj (by simpa using fW j u hu)).1).mono (c5 cR)) hm rfl bG
     have ic:=hh.ext.1 _ _ (J.ea (aF y' H).2 sz false [(aF y' H).1])
     have bE:(aF y' H).2.st<G.st:=Nat.lt_of_lt_of_le (Nat.lt_succ_self _) hh.ext.2
     have M:=sd (as:=[(aF y' H).1]) (n:=1) (off:=0) (sz:=sz) (loc' := .at_ c b0) (g:=fun i j=>vs.getD j undef) hd hb (by simp) rfl q1 (fun c' oU arr' T' eS hl hh i j v hi hj hv=>by
      simp only [Loc.at_.injEq] at hl;obtain ⟨rfl,rfl⟩:=hl;rw [k1] at hh;simp only [Option.some.injEq,Obj.cells.injEq] at hh;obtain ⟨rfl,_,_⟩:=hh;have jl:i=0:=by omega
      subst jl;simp only [Nat.zero_mul,Nat.add_zero] at hv;have:vs[j]? =some v:=by
       simp only [vs,Array.getElem?_toList,Array.getElem?_extract];rw [if_pos (by omega)];exact hv
      simp [List.getD,this]) m rfl (fun i a ha=>by
      cases i with
      |zero=>simp at ha;subst ha;rw [l1,cu]
      |succ i=>simp at ha) (fun i a j c' ha hc=>by
      cases i with
      |zero=>
       simp at ha;subst ha;have hj:j<vs.length:=by rw [dC,←cu,←l1];exact (List.getElem?_eq_some_iff.1 hc).1
       have:=r1 j c' vs[j] hc (List.getElem?_eq_getElem hj)
       simpa [List.getD,hj] using this
      |succ i=>simp at ha) false ic bE (hh.none _ (pF y' H).2 (by rw [j_];exact Nat.lt_succ_self _)) (.inr ⟨c,b0,rfl,by simp⟩)
     rw [←j_ (aF y' H).2 sz false [(aF y' H).1]] at M
     refine ⟨_,M,?_,fun _=>rfl,fun h=>by simp at h⟩
     refine .ptr _ _ _ _ _ bE ⟨_,rfl⟩ fun b' aw=>⟨c,b0,by simp,?_⟩
     simp
    ·simp at ht
   ·simp at ht
  |_=>simp [aN] at ht
 termination_by (SizeOf.sizeOf sh,0)
theorem se (es:List Sh) (x:AV) (vs:List Value) (L:J) (φL:ag) (AL:ah) (H G:J) (φ :ag) (AH:ah) (y:AV) (L1:J) (a:AV) (H1:J) (hd:bZ w L φL AL G φ AH) (hh:GH G φ H H1) (hl:x.cells.length=vs.length)
 (hx: ∀(j:Nat) (c:AV) (u:Value),x.cells[j]? =some c→vs[j]? =some u→R w L φL AL c u) (ht:aY es x L=some (y,L1)) (hw:aF y H=(a,H1)) (hk:fU AL AH y):
 ∃ φ1,MG w L φL AL G φ AH L1 φ1 H.bs.length H1.bs.length∧a.cells.length=x.cells.length∧ ∀(j:Nat) (c:AV) (u:Value),a.cells[j]? =some c→vs[j]? =some u→R w G φ1 AH c u:=by
 by_cases bX: ∃cs,x= .agg cs
 ·obtain ⟨cs,rfl⟩:=bX;have cz: ∃aW,ck es cs L=some (aW,L1)∧y= .agg aW:=by
   match es,ht with
   |[],ht=>
    simp only [aY] at ht;split at ht
    ·rename_i aW L' hc
     simp only [Option.some.injEq,Prod.mk.injEq] at ht;obtain ⟨rfl,rfl⟩:=ht;exact ⟨aW,hc,rfl⟩
    ·simp at ht
   |[e],ht=>
    simp only [aY] at ht;split at ht
    ·rename_i aW L' hc
     simp only [Option.some.injEq,Prod.mk.injEq] at ht;obtain ⟨rfl,rfl⟩:=ht;exact ⟨aW,hc,rfl⟩
    ·simp at ht
   |e::e' ::es,ht=>
    simp only [aY] at ht;split at ht
    ·rename_i aW L' hc
     simp only [Option.some.injEq,Prod.mk.injEq] at ht;obtain ⟨rfl,rfl⟩:=ht;exact ⟨aW,hc,rfl⟩
    ·simp at ht
  obtain ⟨aW,hc,rfl⟩:=cz;simp only [aF,Prod.mk.injEq] at hw;obtain ⟨rfl,rfl⟩:=hw;have bG:dQ AL AH aW:=by
   rcases hk with h|h
   ·exact .inl h
   ·exact .inr (by simpa [cf] using h)
  exact pG es cs vs L φL AL H G φ AH aW L1 _ _ hd hh hl hx hc rfl bG
 ·have dw: ∀cs,x≠ .agg cs:=fun cs h=>bX ⟨cs,h⟩
  match es,ht with
  |[e],ht=>
   have cz:aN e x L=some (y,L1):=by
    cases x<;>first|(simpa only [aY] using ht)|exact absurd rfl (dw _)
   by_cases hu:x= .undef
   ·subst hu;have fL:vs=[]:=List.eq_nil_of_length_eq_zero (by simpa [AV.cells] using hl.symm)
    subst fL;obtain ⟨φ1,m,_,_,h4⟩:=mJ e .undef undef L φL AL H G φ AH y L1 a H1 hd hh (.fr _ _ (.undef _)) cz hw hk
    exact ⟨φ1,m,by rw [h4 rfl],by simp⟩
   ·have di:=cells_one hu dw;rw [di] at hl;obtain ⟨v,rfl⟩: ∃v,vs=[v]:=by
     match vs,hl with
     |[v],_=>exact ⟨v,rfl⟩
    obtain ⟨φ1,m,h2,h3,_⟩:=mJ e x v L φL AL H G φ AH y L1 a H1 hd hh (hx 0 x v (by rw [di];rfl) rfl) cz hw hk
    refine ⟨φ1,m,by rw [h3 hu,di];rfl,fun j c u hj aM=> ?_⟩
    rw [h3 hu] at hj;cases j with
    |zero=>simp at hj aM;subst hj;subst aM;exact h2
    |succ j=>simp at hj
  |[],ht=>cases x<;>first|(simp [aY] at ht;done)|exact absurd rfl (dw _)
  |_::_::_,ht=>cases x<;>first|(simp [aY] at ht;done)|exact absurd rfl (dw _)
 termination_by (SizeOf.sizeOf es,1)
theorem pG (es:List Sh) (cs:List AV) (vs:List Value) (L:J) (φL:ag) (AL:ah) (H G:J) (φ :ag) (AH:ah) (ys:List AV) (L1:J) (as:List AV) (H1:J) (hd:bZ w L φL AL G φ AH) (hh:GH G φ H H1) (hl:cs.length=vs.length)
 (hx: ∀(j:Nat) (c:AV) (u:Value),cs[j]? =some c→vs[j]? =some u→R w L φL AL c u) (ht:ck es cs L=some (ys,L1)) (hw:aH ys H=(as,H1)) (hk:dQ AL AH ys):
 ∃ φ1,MG w L φL AL G φ AH L1 φ1 H.bs.length H1.bs.length∧as.length=cs.length∧ ∀(j:Nat) (c:AV) (u:Value),as[j]? =some c→vs[j]? =some u→R w G φ1 AH c u:=by
 match es,cs,ht with
 |[],[],ht=>
  simp only [ck,Option.some.injEq,Prod.mk.injEq] at ht;obtain ⟨rfl,rfl⟩:=ht;simp only [aH,Prod.mk.injEq] at hw;obtain ⟨rfl,rfl⟩:=hw;exact ⟨φ,.refl hd _,rfl,by simp⟩
 |e::es,x::cs,ht=>
  simp only [ck] at ht;split at ht
  ·rename_i y L' h1
   split at ht
   ·rename_i aU c9 h2
    simp only [Option.some.injEq,Prod.mk.injEq] at ht;obtain ⟨rfl,rfl⟩:=ht;simp only [aH,Prod.mk.injEq] at hw;obtain ⟨rfl,rfl⟩:=hw;obtain ⟨k1,k2⟩:=hk.cons
    match vs,hl with
    |v::vs,hl=>
     obtain ⟨φ1,m1,r1,_,_⟩:=mJ e x v L φL AL H G φ AH y L' _ _ hd (hh.fst (iN _ _)) (hx 0 x v rfl rfl) h1 rfl k1
     obtain ⟨bd,m2,l2,r2⟩:=pG es cs vs L' (aE φL L') AL _ G φ1 AH aU c9 _ _ m1.bz (hh.snd m1) (by simpa using hl) (fun j c u hj hu=>(hx (j+1) c u hj hu).mono (c5 m1.less)) h2 rfl k2
     refine ⟨bd,m1.trans m2,by simp [l2],fun j c u hj hu=> ?_⟩
     cases j with
     |zero=>simp at hj hu;subst hj;subst hu;exact r1.mono m2.eh
     |succ j=>exact r2 j c u hj hu
   ·simp at ht
  ·simp at ht
 |[],_::_,ht=>simp [ck] at ht
 |_::_,[],ht=>simp [ck] at ht
 termination_by (SizeOf.sizeOf es,0)
end
end bz
end Go.VS
namespace Go.VS
section bz
variable {w:World} {AL AH:ah}
theorem zg {es:List Sh} {x:AV} {v:Value} {L:J} {φL:ag} {H G:J} {φ :ag} {y:AV} {L1:J} {a:AV} {H1:J} (hd:bZ w L φL AL G φ AH) (hh:GH G φ H H1) (hx:R w L φL AL x v)
 (ht:aY es x L=some (y,L1)) (hw:aF y H=(a,H1)) (hk:fU AL AH y): ∃ φ1,MG w L φL AL G φ AH L1 φ1 H.bs.length H1.bs.length∧R w G φ1 AH a v:=by
 by_cases bX: ∃cs,x= .agg cs
 ·obtain ⟨cs,rfl⟩:=bX;obtain ⟨aW,hc,rfl⟩:=k9 ht;simp only [aF,Prod.mk.injEq] at hw;obtain ⟨rfl,rfl⟩:=hw;have bG:dQ AL AH aW:=by
   rcases hk with h|h
   ·exact .inl h
   ·exact .inr (by simpa [cf] using h)
  obtain ⟨vs,rfl,hl,ho,hp⟩:=hx.fM;obtain ⟨φ1,m,l1,r1⟩:=pG es cs vs.toList L φL AL H G φ AH aW L1 _ _ hd hh (by simpa using hl) (fun j c u hj hu=>hp j c u hj (by simpa using hu)) hc rfl bG
  exact ⟨φ1,m,.agg _ _ (by rw [l1,hl]) ho fun i x v hx hv=>r1 i x v hx (by simpa using hv)⟩
 ·obtain ⟨e,rfl,cz⟩:=jm (fun cs h=>bX ⟨cs,h⟩) ht;obtain ⟨φ1,m,r,_⟩:=mJ e x v L φL AL H G φ AH y L1 a H1 hd hh hx cz hw hk
  exact ⟨φ1,m,r⟩
theorem sf: ∀(sh:List (List Sh)) (rs:List AV) (us:List Value) (L:J) (φL:ag) (H G:J) (φ :ag) (ys:List AV) (L1:J),bZ w L φL AL G φ AH→GH G φ H (aH ys H).2→rs.length=us.length→
 (∀(i:Nat) (x:AV) (u:Value),rs[i]? =some x→us[i]? =some u→R w L φL AL x u)→c7 sh rs L=some (ys,L1)→dQ AL AH ys→
 ∃ φ1,MG w L φL AL G φ AH L1 φ1 H.bs.length (aH ys H).2.bs.length∧(aH ys H).1.length=us.length∧ ∀(i:Nat) (x:AV) (u:Value),(aH ys H).1[i]? =some x→us[i]? =some u→R w G φ1 AH x u
 |sh,[],us,L,φL,H,G,φ,ys,L1,hd,hh,hl,hr,ht,hk=>by
  simp only [c7,Option.some.injEq,Prod.mk.injEq] at ht;obtain ⟨rfl,rfl⟩:=ht;exact ⟨φ,.refl hd _,hl,by simp [aH]⟩
 |sh,x::rs,u::us,L,φL,H,G,φ,ys,L1,hd,hh,hl,hr,ht,hk=>by
  simp only [c7] at ht;split at ht
  rotate_left
  ·simp at ht
  rename_i y L' h1
  split at ht
  rotate_left
  ·simp at ht
  rename_i aU c9 h2
  simp only [Option.some.injEq,Prod.mk.injEq] at ht;obtain ⟨rfl,rfl⟩:=ht;obtain ⟨k1,k2⟩:=hk.cons;obtain ⟨φ1,m1,r1⟩:=zg (y:=y) (H:=H) hd (hh.fst (H1:=(aF y H).2) (iN aU (aF y H).2)) (hr 0 x u rfl rfl) h1 rfl k1
  obtain ⟨bd,m2,l2,r2⟩:=sf sh.tail rs us L' (aE φL L') (aF y H).2 G φ1 aU c9 m1.bz (hh.snd m1) (by simpa using hl) (fun i x u hx hu=>(hr (i+1) x u hx hu).mono (c5 m1.less)) h2 k2
  refine ⟨bd,m1.trans m2,by simp [aH,l2],fun i x' u' hx hu=> ?_⟩
  cases i with
  |zero=>simp [aH] at hx hu;subst hx;subst hu;exact r1.mono m2.eh
  |succ i=>simp only [aH,List.getElem?_cons_succ] at hx hu;exact r2 i x' u' hx hu
 |sh,x::rs,[],L,φL,H,G,φ,ys,L1,hd,hh,hl,hr,ht,hk=>by simp at hl
end bz
theorem mK {H G:J} (h:a_ H G): ∀(n:Nat) (x y:AV),aO n H x=some y→aO n G x=some y
 |0,x,y,hs=>by simp [aO] at hs
 |n+1,x,y,hs=>by
  have hm: ∀(xs ys:List AV),xs.mapM (aO n H)=some ys→xs.mapM (aO n G)=some ys:=by
   intro xs;induction xs with
   |nil=>intro ys h;simpa using h
   |cons z xs ih=>
    intro ys hy;simp only [List.mapM_cons,Option.bind_eq_bind,Option.bind_eq_some_iff,Option.pure_def,Option.some.injEq] at hy⊢;obtain ⟨a,h1,b,h2,h3⟩:=hy;exact ⟨a,mK h n z a h1,b,ih b h2,h3⟩
  cases x with
  |agg cs=>
   simp only [aO,Option.map_eq_some_iff] at hs⊢;obtain ⟨ys,h1,h2⟩:=hs;exact ⟨ys,hm _ _ h1,h2⟩
  |fn f cs=>
   simp only [aO,Option.map_eq_some_iff] at hs⊢;obtain ⟨ys,h1,h2⟩:=hs;exact ⟨ys,hm _ _ h1,h2⟩
  |ref id ad off len=>
   simp only [aO] at hs⊢;split at hs
   ·rename_i b hb;rw [h.ap hb];simp only;split at hs
    ·rename_i hle;rw [if_pos hle];simp only [Option.map_eq_some_iff] at hs⊢;obtain ⟨ys,h1,h2⟩:=hs;exact ⟨ys,hm _ _ h1,h2⟩
    ·simp at hs
   ·simp at hs
  |ptr id ad idx off=>
   simp only [aO] at hs⊢;split at hs
   ·rename_i b hb;rw [h.ap hb];simp only;split at hs
    ·rename_i z hz;simp only [Option.map_eq_some_iff] at hs⊢;obtain ⟨y',h1,h2⟩:=hs;exact ⟨y',mK h n z y' h1,h2⟩
    ·simp at hs
   ·simp at hs
  |_=>first|(simpa only [aO] using hs)|(simp [aO] at hs;done)
theorem ka {H G:J} (h:a_ H G): ∀(ms:List Mode) (as ys:List AV) (b:Bool),b9 ms as H=some (ys,b)→b9 ms as G=some (ys,b)
 |ms,[],ys,b,hp=>by cases ms<;>simpa only [b9] using hp
 |[],a::as,ys,b,hp=>by
  simp only [b9] at hp⊢;split at hp
  ·rename_i y hy;split at hp
   ·rename_i aU b' cx
    rw [mK h 8 a y hy,ka h [] as aU b' cx]
    exact hp
   ·simp at hp
  ·simp at hp
 |m::ms,a::as,ys,b,hp=>by
  have other:(match b9 ms as H with|some (ys,b)=>some (a::ys,b)|none=>none)=some (ys,b)→(match b9 ms as G with|some (ys,b)=>some (a::ys,b)|none=>none)=some (ys,b):=by
   intro hp;split at hp
   ·rename_i aU b' cx
    rw [ka h ms as aU b' cx]
    exact hp
   ·simp at hp
  cases m with
  |val=>
   simp only [b9] at hp⊢;split at hp
   ·rename_i y hy;split at hp
    ·rename_i aU b' cx
     rw [mK h 8 a y hy,ka h ms as aU b' cx]
     exact hp
    ·simp at hp
   ·simp at hp
  |eP=>
   simp only [b9] at hp⊢;split at hp
   ·rename_i aU b' cx
    rw [ka h ms as aU b' cx]
    exact hp
   ·simp at hp
  |io=>
   simp only [b9] at hp⊢;split at hp
   ·rename_i aU b' cx
    rw [ka h ms as aU b' cx]
    exact hp
   ·simp at hp
def zh (w:World) (G:J) (φ :ag) (A:ah) (H H' :J) (x:AV) (e:Ending) (w' :World):Prop:=
 match e with
 | .returned v' => ∃ak A',Out w G φ A w' G ak A' ∧R w' G ak A' x v' ∧ ∀id loc,ak id=some loc→ φ id=some loc∨(H.bs.length≤id∧id<H'.bs.length)
 |_=>False
theorem zi {P:Program} {C:aG} {X:bq} (hX: ∀f ys H K,X f ys H K→cb P f ys H K) {w:World} {G:J} {φ :ag} {A:ah} (ae:St w G φ A) {H H' :J} (hg:a_ H G) (hh:GH G φ H H') {f:FuncId} {as:List AV} {us:Array Value} (hl:as.length=us.size)
 (hr: ∀(i:Nat) (x:AV) (u:Value),as[i]? =some x→us[i]? =some u→R w G φ A x u) {th:Bool} {x:AV} (h:dq X C f as th H (fun v1 H1=>v1=x∧H1=H')):gF P f∧Calls P f us w (zh w G φ A H H' x):=by
 unfold dq at h;split at h
 ·exact h.elim
 rename_i ys bV hy;obtain ⟨y,lb,hM,hp⟩:=h;have hm:mB []:=fun m hm=>by simp at hm
 have pk:bZ w G φ A ⟨0,[]⟩ (fun _=>none) A:=by
  refine ⟨ae,⟨fun i i' c b b' h=>by simp at h,fun c hc=> ?_,ae.bY,fun id loc h=>by simp at h⟩,fun c _ hc=> ?_,ae.own⟩
  ·obtain ⟨i,b,h⟩:=hc;simp at h
  ·obtain ⟨i,b,h⟩:=hc;simp at h
 have po:cd [] ys ⟨0,[]⟩=(ys,⟨0,[]⟩):=pj _ _ _ hy _;obtain ⟨aC,m,cA,dR⟩:=mv as [] [] us.toList G φ as G ys bV ⟨0,[]⟩ (fun _=>none) ys ⟨0,[]⟩ pk (by simpa using hl) (fun i x u hx hu=>hr i x u hx (by simpa using hu)) (pg _ _ _ _ hm) (ka hg _ _ _ _ hy) po
 have bw: ∀c,¬Ow aC c:=fun c hc=>by
  rcases m.oh c hc with ⟨i,b,h⟩|⟨h1,h2⟩
  ·simp at h
  ·rw [j7 ae] at h2;exact h2 h1
 let A0:ah:=if bV=true then Ow aC else A
 have jo: ∀c,A0 c→A c:=by
  intro c hc;simp only [A0] at hc;split at hc
  ·exact absurd hc (bw c)
  ·exact hc
 have pq:bV=true→ ∀c,A0 c→fy (aE φ G) A c:=by
  intro ax c hc;simp only [A0,ax,if_true] at hc;exact absurd hc (bw c)
 have cT:St w ⟨0,[]⟩ aC A0:=m.bz.sh.shrink jo (fun c hc=>absurd hc (bw c));have eX:ys.length=us.size:=by simpa using cA.1
 refine ⟨(hX _ _ _ _ lb).1,((hX _ _ _ _ lb).2 w A0 aC us cT eX (fun i x u hx hu=>cA.2 A0 jo pq i x u hx (by simpa using hu))).mono fun e w' he=> ?_⟩
 cases e with
 |panicked c=>exact he.elim
 |outgrown=>exact he.elim
 |returned v' =>
 obtain ⟨x0,L,ak,A',ho,pr,rs,gD,L2,rfl,lf,rfl⟩:=he;obtain ⟨cF,rfl,fA,hI⟩:=rP pr
 let AH:ah:=if bV=true then fun c=>A c∨(A' c∧w.heap.size≤c) else A'
 have jp: ∀c,Ow ak c→w.heap.size≤c:=fun c hc=>(ho.post.own c hc).resolve_left (bw c)
 have ha:o_ w A aC w' ak AH:=by
  refine ⟨fun c hc hn=> ?_,fun c hc=> ?_,fun c hc=> ?_,fun c arr T fr hc hn=> ?_⟩
  ·simp only [AH];split
   ·exact .inl hc
   ·rename_i ax;refine ho.keep c ?_ hn;simp only [A0,ax];exact hc
  ·simp only [AH];split
   ·exact .inr ⟨ho.st.own c hc,jp c hc⟩
   ·exact ho.st.own c hc
  ·simp only [AH] at hc;split at hc
   ·rcases hc with h|⟨h,_⟩
    ·exact Nat.lt_of_lt_of_le (ae.bY c h) ho.post.size
    ·exact ho.st.bY c h
   ·exact ho.st.bY c hc
  ·obtain ⟨h1,h2⟩:=ho.bQ.fz c arr T fr hc (fun h=>hn (jo c h));refine ⟨h1,?_⟩;simp only [AH];split
   ·rintro (h|⟨_,h⟩)
    ·exact hn h
    ·have:c<w.heap.size:=by
      rcases Nat.lt_or_ge c w.heap.size with h' |h'
      ·exact h'
      ·rw [Array.getElem?_eq_none h'] at hc;simp at hc
     omega
   ·exact h2
 obtain ⟨D,E⟩:=rF (ls:=[]) (Lm:=L) ae m (by rw [hl,eX]) dR ho ha (by simp [fg])
 rw [ph _ _ _ _ hm,j7 ae] at D E;have pu:dQ A' AH gD:=by
  cases ax:bV with
  |false=>exact .inl fun c h=>by simpa [AH,ax] using h
  |true=>
   rcases hM with h|h
   ·rw [ax] at h;simp at h
   ·rw [rO] at h;exact .inr h
 have jq: ∀(i:Nat) (x:AV) (u:Value),rs[i]? =some x→cF[i]? =some u→R w' L (aE ak L) A' x u:=fun i x u hx hu=>by
  rw [j7 ho.st];exact hI i x u hx hu
 have fl: ∀{cU:ag},(∀c,Ow cU c→Ow φ c∨Ow ak c)→fi w φ w' cU:=fun hq=>
  ⟨ho.post.os,ho.post.tape,ho.post.output,ho.post.size,fun c hc _=>ho.post.kept c hc (bw c),ho.post.a8,fun c hc=>by
   rcases hq c hc with h|h
   ·exact .inl h
   ·exact .inr (jp c h)⟩
 have jr: ∀c,A c→ ¬Ow φ c→AH c:=fun c hc _=>ha.own c hc (bw c);have cw: ∀c,Ow φ c→a8 w' c=a8 w c:=fun c hc=>ho.post.a8 c (Ow.lt ae hc)
 cases fS:(th||bV) with
 |true=>
  rw [fS] at hp;simp only [if_true,rM] at hp;obtain ⟨rfl,rfl⟩:=hp;obtain ⟨cU,m3,l3,r3⟩:=sf _ rs cF L _ H G φ gD L2 D hh fA jq lf pu
  refine ⟨cU,AH,⟨m3.bz.sh,fl fun c hc=> ?_,E.trans m3.eh cw,jr⟩,pf l3 r3,m3.new⟩;rcases m3.oh c hc with h|⟨h,_⟩
  ·exact .inl h
  ·exact .inr (bJ h)
 |false=>
  rw [fS] at hp;simp only [Bool.false_eq_true,if_false,rN] at hp;obtain ⟨rfl,rfl⟩:=hp;simp only [Bool.or_eq_false_iff] at fS;have pv:AH=A' :=by simp [AH,fS.2]
  rw [pv] at D E jr
  let A2:ah:=gone (aE ak L) A' L2
  obtain ⟨l3,r3⟩:=pe (A' :=A2) _ rs cF L (aE ak L) gD L2 D.sl fA jq lf (fun c h=>h)
  have pw: ∀c,Ow φ c→A2 c:=fun c hc=>⟨D.sh.own c hc,fun h=>absurd hc (D.b_ c h)⟩;have px:bH w G φ A w' G φ A2:=⟨fun c arr T fr hc hn=>⟨(E.fz c arr T fr hc hn).1,fun h2=>(E.fz c arr T fr hc hn).2 h2.1⟩,E.st,E.ids,E.sz⟩
  refine ⟨φ,A2,⟨D.sh.shrink (fun c h=>h.1) pw,fl fun c hc=> .inl hc,px,fun c hc hn=>⟨jr c hc hn,fun h=> ?_⟩⟩,.fr _ _ (rL l3 r3),fun id loc h=> .inl h⟩;have:=jp c (bJ h)
  have:=ae.bY c hc;omega
end Go.VS
namespace Go.VS
def zj (H H1:J):Prop:= ∀id b,H1.get id=some b→b.ad<H.st→H.get id=some b
def QG (H H1:J):Prop:=fB H H1∧zj H H1
theorem QG.refl (H:J):QG H H:=⟨.refl _,fun _ _ h _=>h⟩
theorem QG.trans {H H1 H2:J} (h:QG H H1) (k:QG H1 H2):QG H H2:=
 ⟨h.1.trans k.1,fun id b hb hv=>h.2 id b (k.2 id b hb (Nat.lt_of_lt_of_le hv h.1.1.2)) hv⟩
theorem QG.of {H H' :J} (h:H' =H∨ ∃sz fx el,H' =H.new sz fx el):QG H H' :=by
 obtain ⟨h1,h2,h3⟩:=J.ji h;exact ⟨⟨h1,h3⟩,h2⟩
theorem QG.new (H:J) (sz:Nat) (fx:Bool) (el:List AV):QG H (H.new sz fx el):= .of (.inr ⟨_,_,_,rfl⟩)
mutual
theorem pH: ∀(y:AV) (H:J),QG H (aF y H).2
 | .own sz xs,H=>by simp only [aF];exact (mL xs H).trans (.new _ _ _ _)
 | .dm sz x,H=>by simp only [aF];exact (pH x H).trans (.new _ _ _ _)
 | .agg xs,H=>by simp only [aF];exact mL xs H
 | .ay xs,H=>by simp only [aF];exact mL xs H
 | .undef,H=> .refl _
 | .int _ _,H=> .refl _
 | .bool _,H=> .refl _
 | .str _,H=> .refl _
 | .nil,H=> .refl _
 | .e0,H=> .refl _
 | .fz _,H=> .refl _
 | .ref _ _ _ _,H=> .refl _
 | .ptr _ _ _ _,H=> .refl _
 | .fe _ _,H=> .refl _
 | .fn _ _,H=> .refl _
 | .cj _,H=> .refl _
 | .dy,H=> .refl _
theorem mL: ∀(ys:List AV) (H:J),QG H (aH ys H).2
 |[],H=> .refl _
 |y::ys,H=>by simp only [aH];exact (pH y H).trans (mL ys _)
end
section ops
variable {P:Program} {E:aK} (hE: ∀t ti,E t=some ti→aS P t ti)
variable {w:World} {G:J} {φ :ag} {A:ah}
theorem zk {b:Builtin} {tys:Array TypeId} {args:List AV} {H H' :J} {z:AV} (hq:eD b args=true) (h:ct E b tys args H=some (z,H')):QG H H' :=by
 have zl: ∀{te:TI} {s x:AV},s= .nil∨s= .e0→ek te s x H=some (z,H')→QG H H' :=by
  intro te s x hs h;refine .of ?_;rcases hs with rfl|rfl;all_goals
   simp only [ek] at h;repeat' split at h
   all_goals first
    |(simp at h;done)
    |(simp only [Option.some.injEq,Prod.mk.injEq] at h;first|exact .inl h.2.symm|exact .inr ⟨_,_,_,h.2.symm⟩)
 unfold ct at h;split at h
 ·repeat' split at h
  all_goals first
   |(simp at h;done)
   |(simp only [Option.some.injEq,Prod.mk.injEq] at h;rw [←h.2];exact .refl _)
 ·rename_i s x;have hs:s= .nil∨s= .e0:=by
   cases s<;>first|exact .inl rfl|exact .inr rfl|(simp [eD] at hq)
  split at h
  ·split at h
   ·split at h
    ·split at h
     ·unfold jH at h;refine .of ?_;repeat' split at h
      all_goals first
       |(simp at h;done)
       |(simp only [Option.some.injEq,Prod.mk.injEq] at h;first|exact .inl h.2.symm|exact .inr ⟨_,_,_,h.2.symm⟩)
     ·simp at h
    ·exact zl hs h
   ·simp at h
  ·simp at h
 ·simp [eD] at hq
 ·simp [eD] at hq
 ·split at h
  ·simp only [Option.some.injEq,Prod.mk.injEq] at h;rw [←h.2];exact .refl _
  ·simp at h
 ·split at h
  ·simp only [Option.some.injEq,Prod.mk.injEq] at h;rw [←h.2];exact .refl _
  ·simp at h
 ·split at h
  ·split at h
   ·simp only [Option.some.injEq,Prod.mk.injEq] at h;rw [←h.2];exact .refl _
   ·simp at h
  ·simp at h
 ·simp at h
include hE in
theorem zm (ae:St w G φ A) {H H' :J} (hX:a_ H G) (sg:a_ H' G) (bp:H.bs.length<H'.bs.length→ φ H.bs.length=none) {b:Builtin} {tys:Array TypeId} {ty:TypeId} {consts:Array Bool} {args:List AV} {vs:Array Value} {z:AV} (hq:eD b args=true) (hl:args.length=vs.size)
 (aT: ∀(i:Nat) (a:AV) (u:Value),args[i]? =some a→vs[i]? =some u→R w G φ A a u) (h:ct E b tys args H=some (z,H')):
 bg w G φ A H H' ((builtin b tys ty consts vs).run P w) z:=by
 unfold ct at h;split at h
 ·rename_i x;obtain ⟨a,rfl⟩: ∃a,vs= #[a]:=by
   have h1:vs.size=1:=hl.symm;exact ⟨vs[0],by apply Array.ext;simp [h1];intro i h1 h2;simp at h2;subst h2;rfl⟩
  have hx:=aT 0 x a rfl rfl;split at h
  ·rename_i ti n ht hn;obtain ⟨t,h0,ht⟩:=Option.bind_eq_some_iff.1 ht;have key: ∀{q:AV×J},some q=some (z,H')→q=(AV.int .i64 n,H)→((∃e,ti.au= .sl e∧ ∀s,x≠ .str s)∨(ti.au= .str∧ ∃s,x= .str s))→bg w G φ A H H' ((builtin .len tys ty consts #[a]).run P w) z:=by
    intro q hq oL hu;subst oL;simp only [Option.some.injEq,Prod.mk.injEq] at hq;obtain ⟨rfl,rfl⟩:=hq;have:=rf (tys:=tys) (ty:=ty) hE h0 hx hX hn ht hu;exact bg.val ae (by simp [builtin,this]) (.fr _ _ (.int _ _))
   split at h
   ·rename_i s hu;exact key h rfl (.inr ⟨hu,s,rfl⟩)
   ·simp at h
   ·rename_i e hu aL;exact key h rfl (.inl ⟨e,hu,fun s hs=>aL s hs⟩)
   ·simp at h
  ·simp at h
 ·rename_i s x;obtain ⟨a,b,rfl⟩: ∃a b,vs= #[a,b]:=by
   have h1:vs.size=2:=hl.symm;exact ⟨vs[0],vs[1],by apply Array.ext;simp [h1];intro i h1 h2;simp at h2;rcases i with _|_|i;rfl;rfl;omega⟩
  have hs:=aT 0 s a rfl rfl;have hx:=aT 1 x b rfl rfl;have en:s= .nil∨s= .e0:=by
   cases s<;>first|exact .inl rfl|exact .inr rfl|(simp [eD] at hq)
  split at h
  ·rename_i t h0;split at h
   ·rename_i te tx bm cG;obtain ⟨t2,h1,cG⟩:=Option.bind_eq_some_iff.1 cG;split at h
    ·rename_i k hit;split at h
     ·exact qX hE ae sg bp h0 h1 bm cG hit hs hx h
     ·simp at h
    ·rename_i aL;exact oB hE ae hX sg bp h0 h1 bm cG (fun k hk=>aL k hk) hs hx en h
   ·simp at h
  ·simp at h
 ·simp [eD] at hq
 ·simp [eD] at hq
 ·split at h
  ·rename_i v hv;simp only [Option.some.injEq,Prod.mk.injEq] at h;obtain ⟨rfl,rfl⟩:=h;cases args with
   |nil=>simp [jJ] at hv
   |cons x rest=>
    obtain ⟨a,us,dx⟩: ∃a us,vs.toList=a::us:=by
     cases eX:vs.toList with
     |nil=>have:=congrArg List.length eX;simp at this;simp [this] at hl
     |cons a us=>exact ⟨a,us,rfl⟩
    have hlen:rest.length=us.length:=by have:=congrArg List.length dx;simp at this;simp at hl;omega
    have bC: ∀(i:Nat) (u:Value),(a::us)[i]? =some u→vs[i]? =some u:=fun i u hu=>by rw [←dx] at hu;simpa using hu
    obtain ⟨u,hu,hz⟩:=kW (P:=P) (op:=Builtin.min2) (f:=fun a b=>match a,b with| .int k x,.int _ y=>some (.int k (if y<x then y else x))|_,_=>none) (fun a b x y z ha hb hf=>by
     split at hf
     ·have e1:=ha.cm;have e2:=hb.cm;subst e1;subst e2;simp only [Option.some.injEq] at hf;subst hf;exact ⟨_,by simp [Builtin.min2],.fr _ _ (.int _ _)⟩
     ·simp at hf) rest us x a v hlen (fun i p q hp hq=>aT (i+1) p q hp (bC (i+1) q hq)) (aT 0 x a rfl (bC 0 a rfl)) hv
    exact bg.val ae (by simp [builtin,Builtin.min_,dx,hu]) hz
  ·simp at h
 ·split at h
  ·rename_i v hv;simp only [Option.some.injEq,Prod.mk.injEq] at h;obtain ⟨rfl,rfl⟩:=h;cases args with
   |nil=>simp [jK] at hv
   |cons x rest=>
    obtain ⟨a,us,dx⟩: ∃a us,vs.toList=a::us:=by
     cases eX:vs.toList with
     |nil=>have:=congrArg List.length eX;simp at this;simp [this] at hl
     |cons a us=>exact ⟨a,us,rfl⟩
    have hlen:rest.length=us.length:=by have:=congrArg List.length dx;simp at this;simp at hl;omega
    have bC: ∀(i:Nat) (u:Value),(a::us)[i]? =some u→vs[i]? =some u:=fun i u hu=>by rw [←dx] at hu;simpa using hu
    obtain ⟨u,hu,hz⟩:=kW (P:=P) (op:=Builtin.max2) (f:=fun a b=>match a,b with| .int k x,.int _ y=>some (.int k (if y>x then y else x))|_,_=>none) (fun a b x y z ha hb hf=>by
     split at hf
     ·have e1:=ha.cm;have e2:=hb.cm;subst e1;subst e2;simp only [Option.some.injEq] at hf;subst hf;exact ⟨_,by simp [Builtin.max2],.fr _ _ (.int _ _)⟩
     ·simp at hf) rest us x a v hlen (fun i p q hp hq=>aT (i+1) p q hp (bC (i+1) q hq)) (aT 0 x a rfl (bC 0 a rfl)) hv
    exact bg.val ae (by simp [builtin,Builtin.max_,dx,hu]) hz
  ·simp at h
 ·obtain ⟨a,rfl⟩: ∃a,vs= #[a]:=by
   have h1:vs.size=1:=hl.symm;exact ⟨vs[0],by apply Array.ext;simp [h1];intro i h1 h2;simp at h2;subst h2;rfl⟩
  have hx:=(aT 0 .nil a rfl rfl).c8;subst hx;split at h
  ·rename_i ti ht;obtain ⟨t,h0,ht⟩:=Option.bind_eq_some_iff.1 ht;split at h
   ·rename_i e hu;simp only [Option.some.injEq,Prod.mk.injEq] at h;obtain ⟨rfl,rfl⟩:=h;have hc:(Builtin.cap_ tys ty #[.slice none 0 0]).run P w= .ok (.int .i64 0) w:=by
     unfold Builtin.cap_;simp only [h0,List.getElem?_toArray,List.getElem?_cons_zero,Sem.run_bind,(hE _ _ ht).sl w hu,Result.andThen_ok];rfl
    exact bg.val ae (by simp [builtin,hc]) (.fr _ _ (.int _ _))
   ·simp at h
  ·simp at h
 ·simp at h
end ops
section step
variable {P:Program} {C:aG} {X:bq} {w:World} {G:J} {φ :ag} {A:ah}
theorem bg.upon {H H' :J} {r:Result Next} {x:AV} (h:bg w G φ A H H' r x) {o:Oper} {a:Act} {next:Act→World→Prop} {Q:Exit→Act→World→Prop}
 (hn: ∀v w' ak A',Out w G φ A w' G ak A' →R w' G ak A' x v→(∀id loc,ak id=some loc→ φ id=some loc∨(H.bs.length≤id∧id<H'.bs.length))→next (a.put o.dst v) w'):o.upon P a next Q r:=by
 obtain ⟨n,v,w',ak,A',rfl,hv,hr,ho,hi⟩:=h;rcases hv with rfl|⟨rfl,rfl⟩
 ·exact hn v w' ak A' ho hr hi
 ·exact hn _ w' ak A' ho hr hi
theorem kb (hE: ∀t ti,C.E t=some ti→aS P t ti) (hX: ∀f ys H K,X f ys H K→cb P f ys H K) (ae:St w G φ A) {o:Oper} {s:aj} {a:Act} (hs: ∀x∈o.op.operands,R w G φ A (ev s x) (a.eval x)) {th:Bool} {H H' :J} {x:AV} (hg:a_ H G) (hh:GH G φ H H')
 (h:wpOp X C true th o s H (fun v1 H1=>v1=x∧H1=H')) {next:Act→World→Prop} {Q:Exit→Act→World→Prop}
 (hn: ∀v w' ak A',Out w G φ A w' G ak A' →R w' G ak A' x v→(∀id loc,ak id=some loc→ φ id=some loc∨(H.bs.length≤id∧id<H'.bs.length))→next (a.put o.dst v) w'):o.wp P a w next Q:=by
 have bp:H.bs.length<H'.bs.length→ φ H.bs.length=none:=fun ax=>hh.none _ (Nat.le_refl _) ax;have lg:dI o.op=true→(match aP C.E o.op s H with|some (v,H1)=>v=x∧H1=H' |none=>False)→o.wp P a w next Q:=by
  intro hq jt;split at jt
  ·rename_i v H1 he;obtain ⟨rfl,rfl⟩:=jt;exact (q0 hE ae hg hh.ext bp hq hs he).upon hn
  ·exact jt.elim
 unfold wpOp at h;split at h
 ·rename_i b args tys bh;obtain ⟨hq,h⟩:=h;have hq:=hq rfl;split at h
  ·rename_i v H1 he;obtain ⟨rfl,rfl⟩:=h;obtain ⟨consts,cP⟩:=rR (P:=P) (w:=w) (ρ :=a.eval) bh;have:=zm hE ae hg hh.ext bp (ty:=o.type) (consts:=consts) (vs:=args.map a.eval) hq (by simp) (fun i x u hx hu=>by
    simp only [List.getElem?_map,Option.map_eq_some_iff] at hx;obtain ⟨y,hy,rfl⟩:=hx;simp only [Array.getElem?_map,Option.map_eq_some_iff] at hu;obtain ⟨y',ep,rfl⟩:=hu;have:y' =y:=by simp at hy;rw [hy] at ep;simpa using ep.symm
    subst this;exact hs y' (by rw [bh];simp only [Op.operands,Call.operands];simp [Array.mem_of_getElem? ep])) he
   rw [←cP] at this;exact this.upon hn
  ·exact h.elim
 ·rename_i y args tys bh;split at h
  ·rename_i g bM cE;simp only [if_true] at h;have hx:=hs y (by rw [bh];simp [Op.operands,Call.operands])
   rw [cE] at hx;obtain ⟨vs,hv,hl,hp⟩:=hx.kD;have hc:=zi hX ae hg hh (us:=args.map a.eval ++ vs) (by simp [hl]) (fun i y u hy hu=>by
    rcases Nat.lt_or_ge i args.size with hi|hi
    ·rw [List.getElem?_append_left (by simpa using hi)] at hy
     rw [Array.getElem?_append_left (by simpa using hi)] at hu
     simp only [List.getElem?_map,Option.map_eq_some_iff] at hy;obtain ⟨z,hz,rfl⟩:=hy;simp only [Array.getElem?_map,Option.map_eq_some_iff] at hu;obtain ⟨z',dL,rfl⟩:=hu;have:z' =z:=by simp at hz;rw [hz] at dL;simpa using dL.symm
     subst this;exact hs z' (by rw [bh];simp only [Op.operands,Call.operands];simp [Array.mem_of_getElem? dL])
    ·rw [List.getElem?_append_right (by simpa using hi)] at hy
     rw [Array.getElem?_append_right (by simpa using hi)] at hu
     exact hp _ y u (by simpa using hy) (by simpa using hu)) h
   unfold Oper.wp;rw [rQ bh hv hc.1,Oper.upon_enter];refine hc.2.mono fun e w' he=> ?_
   cases e with
   |returned v' =>
    obtain ⟨ak,A',h1,h2,h3⟩:=he;exact hn v' w' ak A' h1 h2 h3
   |panicked c=>exact he.elim
   |outgrown=>exact he.elim
  ·exact h.elim
 ·exact lg (h.1 rfl) h.2
theorem zn {o:Oper} {s:aj} {th:Bool} {H H' :J} {x:AV} (h:wpOp X C true th o s H (fun v1 H1=>v1=x∧H1=H')):QG H H' :=by
 have lg:dI o.op=true→(match aP C.E o.op s H with|some (v,H1)=>v=x∧H1=H' |none=>False)→QG H H' :=by
  intro hq jt;split at jt
  ·rename_i v H1 he;obtain ⟨rfl,rfl⟩:=jt;exact .of (rh hq he)
  ·exact jt.elim
 unfold wpOp at h;split at h
 ·obtain ⟨hq,h⟩:=h;split at h
  ·rename_i v H1 he;obtain ⟨rfl,rfl⟩:=h;exact zk (hq rfl) he
  ·exact h.elim
 ·split at h
  ·rename_i g bM cE;simp only [if_true] at h;unfold dq at h;split at h
   ·exact h.elim
   obtain ⟨y,_,_,hp⟩:=h;split at hp
   ·obtain ⟨_,rfl⟩:=hp;exact pH _ _
   ·obtain ⟨_,rfl⟩:=hp;exact .refl _
  ·exact h.elim
 ·exact lg (h.1 rfl) h.2
end step
end Go.VS
namespace Go.VS
section tr
variable {C:aG} {X:bq}
theorem ll (dj:Exact X) {q th:Bool} {o:Oper} {s:aj} {H:J} {K:AV→J→Prop} (h:wpOp X C q th o s H K): ∃v H',wpOp X C q th o s H (fun v1 H1=>v1=v∧H1=H')∧K v H' :=by
 unfold wpOp at h⊢;split at h
 ·rename_i b args tys bh;obtain ⟨hq,h⟩:=h;split at h
  ·rename_i v H' he
   refine ⟨v,H',?_,h⟩;first
    |exact ⟨hq,rfl,rfl⟩
    |(simp only [bh];exact ⟨hq,trivial,trivial⟩)
    |(simp only [bh,he];exact ⟨hq,trivial,trivial⟩)
  ·exact h.elim
 ·rename_i x args tys bh;split at h
  ·rename_i g bM hg;have hQ:dq X C g (args.toList.map (ev s) ++ bM) th H K→ ∃v H',dq X C g (args.toList.map (ev s) ++ bM) th H (fun v1 H1=>v1=v∧H1=H')∧K v H' :=by
    intro h;unfold dq at h⊢;split at h
    ·exact h.elim
    rename_i ys bV hy;obtain ⟨y,h1,h2,h3⟩:=h;split at h3
    ·rename_i ht;refine ⟨_,_,⟨y,h1,h2,?_⟩,h3⟩;simp only [ht,if_true];exact ⟨trivial,trivial⟩
    ·rename_i ht;refine ⟨_,_,⟨y,h1,h2,?_⟩,h3⟩;simp only [ht];exact ⟨trivial,trivial⟩
   have key: ∃v H',(if q then dq X C g (args.toList.map (ev s) ++ bM) th H (fun v1 H1=>v1=v∧H1=H') else X g (args.toList.map (ev s) ++ bM) H (fun v1 H1=>v1=v∧H1=H')∨dq X C g (args.toList.map (ev s) ++ bM) th H (fun v1 H1=>v1=v∧H1=H'))∧K v H' :=by
    cases q with
    |false=>
     simp only [Bool.false_eq_true,if_false] at h⊢;rcases h with h|h
     ·obtain ⟨v,H',h1,h2⟩:=dj _ _ _ _ h;exact ⟨v,H',.inl h1,h2⟩
     ·obtain ⟨v,H',h1,h2⟩:=hQ h;exact ⟨v,H',.inr h1,h2⟩
    |true=>
     simp only [if_true] at h⊢;exact hQ h
   obtain ⟨v,H',k1,k2⟩:=key;refine ⟨v,H',?_,k2⟩;first
    |exact k1
    |(simp only [bh,hg];exact k1)
  ·exact h.elim
 ·rename_i op l8 BU;obtain ⟨hq,h⟩:=h;split at h
  ·rename_i v H' he
   refine ⟨v,H',?_,h⟩;exact ⟨hq,rfl,rfl⟩
  ·exact h.elim
theorem mM (C:aG) (ops:Array Oper) (s:aj) (H:J) (K:Prop): ∀(l:List Nat),fb C ops s H K l→(∀j∈l,jM C ops s H j)∧K
 |[],h=>⟨by simp,h⟩
 |j::js,h=>by
  obtain ⟨h1,h2⟩:=h;obtain ⟨k1,k2⟩:=mM C ops s H K js h2;refine ⟨fun i hi=> ?_,k2⟩;rcases List.mem_cons.1 hi with rfl|hi
  ·exact h1
  ·exact k1 i hi
structure Tr (X:bq) (C:aG) (ops:Array Oper) (q:Nat→Bool) (late:Nat→List Nat) (th:List Nat) (K:aj→J→Prop) (l:List Oper) (k:Nat) (s:Nat→aj) (H:Nat→J) (v:Nat→AV) (act:Nat→Bool):Prop where
 step: ∀i o,l[i]? =some o→s (i+1)=bj (s i) o.dst (v i)∧dr ops o (s i)=some (act i)∧(act i=true→wpOp X C (q (k+i)) (th.contains (k+i)) o (s i) (H i) (fun v1 H1=>v1=v i∧H1=H (i+1)))∧
  (act i=false→v i= .ay []∧H (i+1)=H i)∧ ∀j∈late (k+i),jM C ops (s (i+1)) (H (i+1)) j
 fin:K (s l.length) (H l.length)
theorem si (dj:Exact X) {ops:Array Oper} {q:Nat→Bool} {late:Nat→List Nat} {th:List Nat} {K:aj→J→Prop}: ∀(l:List Oper) (k:Nat) (s0:aj) (H0:J),cY X C ops q late th K l k s0 H0→
 ∃s H v act,s 0=s0∧H 0=H0∧Tr X C ops q late th K l k s H v act
 |[],k,s0,H0,h=>⟨fun _=>s0,fun _=>H0,fun _=> .undef,fun _=>true,rfl,rfl,⟨by simp,h⟩⟩
 |o::l,k,s0,H0,h=>by
  have key: ∃v0 H1 a0,dr ops o s0=some a0∧(a0=true→wpOp X C (q k) (th.contains k) o s0 H0 (fun v1 H' =>v1=v0∧H' =H1))∧(a0=false→v0= .ay []∧H1=H0)∧(∀j∈late k,jM C ops (bj s0 o.dst v0) H1 j)∧
   cY X C ops q late th K l (k+1) (bj s0 o.dst v0) H1:=by
   simp only [cY] at h;cases hg:o.guard with
   |none=>
    rw [hg] at h;obtain ⟨v,H',h1,h2⟩:=ll dj h;obtain ⟨k1,k2⟩:=mM _ _ _ _ _ _ h2;exact ⟨v,H',true,by simp [dr,hg],fun _=>h1,fun h=>by simp at h,k1,k2⟩
   |some p=>
    rw [hg] at h;obtain ⟨v,H',h1,h2⟩:=h;obtain ⟨k1,k2⟩:=mM _ _ _ _ _ _ h2;split at h1
    ·rename_i b hb;cases b with
     |true=>exact ⟨v,H',true,hb,fun _=>by simpa using h1,fun h=>by simp at h,k1,k2⟩
     |false=>exact ⟨v,H',false,hb,fun h=>by simp at h,fun _=>by simpa using h1,k1,k2⟩
    ·exact h1.elim
  obtain ⟨v0,H1,a0,g1,g2,g3,g4,g5⟩:=key;obtain ⟨s,H,v,act,e1,e2,t⟩:=si dj l (k+1) _ _ g5;refine ⟨fun i=>match i with|0=>s0|i+1=>s i,fun i=>match i with|0=>H0|i+1=>H i,fun i=>match i with|0=>v0|i+1=>v i,fun i=>match i with|0=>a0|i+1=>act i,rfl,rfl,⟨fun i o' hi=> ?_,t.fin⟩⟩
  cases i with
  |zero=>
   simp only [List.getElem?_cons_zero,Option.some.injEq] at hi;subst hi;simp only [Nat.add_zero,e1,e2];exact ⟨trivial,g1,g2,g3,g4⟩
  |succ i=>
   have:=t.step i o' (by simpa using hi)
   rw [show k+1+i=k+(i+1) by omega] at this
   exact this
end tr
theorem sj (bs:Edge→Bool) (acc:List Nat) (j:Nat): ∀(l:List Edge) (m0:Nat),(l.foldl (fun m e=>if bs e then m|||2^e.on|||acc.getD e.on 0 else m) m0).testBit j=true→m0.testBit j=true∨ ∃e∈l,bs e=true∧(e.on=j∨(acc.getD e.on 0).testBit j=true)
 |[],m0,h=> .inl h
 |e::l,m0,h=>by
  simp only [List.foldl_cons] at h;rcases sj bs acc j l _ h with h|⟨e',h1,h2⟩
  ·split at h
   ·rename_i hb;simp only [Nat.testBit_or,Nat.testBit_two_pow,Bool.or_eq_true,decide_eq_true_eq] at h;rcases h with (h|h)|h
    ·exact .inl h
    ·exact .inr ⟨e,by simp,hb,.inl h⟩
    ·exact .inr ⟨e,by simp,hb,.inr h⟩
   ·exact .inl h
  ·exact .inr ⟨e',by simp [h1],h2⟩
theorem sk: ∀(os:List Oper) (acc:List Nat),(gk os acc).length=acc.length+os.length∧(∀i,i<acc.length→(gk os acc).getD i 0=acc.getD i 0)∧
 ∀i o,os[i]? =some o→ ∀j,((gk os acc).getD (acc.length+i) 0).testBit j=true→ ∃e∈o.after.toList,Region.binds .any e=true∧(e.on=j∨(e.on<acc.length+i∧((gk os acc).getD e.on 0).testBit j=true))
 |[],acc=>⟨by simp [gk],by simp [gk],by simp⟩
 |o::os,acc=>by
  obtain ⟨h1,h2,h3⟩:=sk os (acc ++ [o.after.toList.foldl (fun m e=>if Region.binds .any e then m|||2^e.on|||acc.getD e.on 0 else m) 0]);simp only [gk];have hold: ∀i,i<acc.length→(gk os (acc ++ [o.after.toList.foldl (fun m e=>if Region.binds .any e then m|||2^e.on|||acc.getD e.on 0 else m) 0])).getD i 0=acc.getD i 0:=by
   intro i hi;rw [h2 i (by simp;omega)]
   simp [List.getD,List.getElem?_append_left hi]
  refine ⟨by rw [h1];simp;omega,hold,fun i o' ho j hj=> ?_⟩
  cases i with
  |zero=>
   simp only [List.getElem?_cons_zero,Option.some.injEq] at ho;subst ho;rw [Nat.add_zero,h2 _ (by simp)] at hj
   simp only [List.getD,List.getElem?_append_right (Nat.le_refl _),Nat.sub_self,List.getElem?_cons_zero,Option.getD_some] at hj;rcases sj (Region.binds .any) acc j _ _ hj with h|⟨e,q1,q2,q3⟩
   ·simp at h
   ·refine ⟨e,q1,q2,?_⟩;rcases q3 with q3|q3
    ·exact .inl q3
    ·have ax:e.on<acc.length:=by
      rcases Nat.lt_or_ge e.on acc.length with h|h
      ·exact h
      ·rw [List.getD,List.getElem?_eq_none h] at q3;simp at q3
     exact .inr ⟨by omega,by rw [hold _ ax];exact q3⟩
  |succ i=>
   simp only [List.length_append,List.length_singleton] at h3;have:=h3 i o' (by simpa using ho) j (by rw [show acc.length+1+i=acc.length+(i+1) by omega];exact hj)
   obtain ⟨e,q1,q2,q3⟩:=this;refine ⟨e,q1,q2,?_⟩;rcases q3 with q3|⟨q3,q4⟩
   ·exact .inl q3
   ·exact .inr ⟨by omega,q4⟩
def sm (ops:Array Oper) (L:Nat→Prop):Prop:= ∀i o,ops[i]? =some o→L i→ ∀e∈o.after,Region.binds .any e=true→L e.on
theorem mN {ops:Array Oper} {L:Nat→Prop} (hs:sm ops L) (ax: ∀i o,ops[i]? =some o→ ∀e∈o.after,Region.binds .any e=true→e.on<i):
 ∀(i:Nat) (o:Oper),ops[i]? =some o→(∀e∈o.after,Region.binds .any e=true→L e.on)→ ∀j,((fc ops.toList).getD i 0).testBit j=true→L j:=by
 intro i;induction i using Nat.strongRecOn with
 |_ i ih=>
  intro o ho ha j hj;have:=(sk ops.toList []).2.2 i o (by simpa using ho) j (by simpa [fc] using hj)
  obtain ⟨e,q1,q2,q3⟩:=this;have sn:=ha e (by simpa using q1) q2
  rcases q3 with rfl|⟨_,q4⟩
  ·exact sn
  ·have zo:=ax i o ho e (by simpa using q1) q2
   have hi:i<ops.size:=(Array.getElem?_eq_some_iff.1 ho).1;have so:=Array.getElem?_eq_getElem (xs:=ops) (show e.on<ops.size by omega)
   exact ih e.on zo _ so (hs e.on _ so sn) j q4
end Go.VS
