import Derived.Test.YtclgbpneokeaeaaVaB
import Derived.Tactics
import Derived.Laws.Sem
namespace Go.VS
section bB
variable {w:World} {A:aj}
theorem sf {m:Mode} {sh:List Sh} {v:AV} {H:J} {y:AV} {H1:J} (h:fq m sh v H=some (y,H1)):bF H H1:=by
 cases m with
 |val=>simp only [fq,Option.some.injEq,Prod.mk.injEq] at h;obtain ⟨_,rfl⟩:=h;exact .refl _
 |e8=>exact fL sh v H y H1 h
 |io=>
  cases v<;>simp only [fq] at h
  case nil=>simp only [Option.some.injEq,Prod.mk.injEq] at h;obtain ⟨_,rfl⟩:=h;exact .refl _
  case e0=>simp only [Option.some.injEq,Prod.mk.injEq] at h;obtain ⟨_,rfl⟩:=h;exact .refl _
  case ref=>
   split at h
   ·split at h
    ·simp only [Option.some.injEq,Prod.mk.injEq] at h;obtain ⟨_,rfl⟩:=h;exact .refl _
    ·split at h
     ·exact fL _ _ H y H1 h
     ·simp at h
   ·simp at h
  case ptr=>exact fL _ _ H y H1 h
  all_goals simp at h
theorem sg: ∀(ms:List Mode) (sh:List (List Sh)) (as:List AV) (H:J) (zs:List AV) (H1:J),fU ms sh as H=some (zs,H1)→bF H H1
 |[],sh,as,H,zs,H1,h=>by
  simp only [fU,Option.some.injEq,Prod.mk.injEq] at h;obtain ⟨_,rfl⟩:=h;exact .refl _
 |m::ms,sh,[],H,zs,H1,h=>by
  simp only [fU,Option.some.injEq,Prod.mk.injEq] at h;obtain ⟨_,rfl⟩:=h;exact .refl _
 |m::ms,sh,a::as,H,zs,H1,h=>by
  simp only [fU] at h;split at h
  ·rename_i y H' h1
   split at h
   ·rename_i ys gP h2
    simp only [Option.some.injEq,Prod.mk.injEq] at h;obtain ⟨_,rfl⟩:=h;exact (sf h1).trans (sg ms _ as H' ys _ h2)
   ·simp at h
  ·simp at h
def gQ (w:World) (A:aj) (B:aj) (L0:J) (aD:af) (bX:Bool) (vs:List AV) (us:List Value):Prop:=
 vs.length=us.length∧ ∀A0:aj,(∀c,A0 c→A c)→(bX=true→ ∀c,A0 c→B c)→ ∀(i:Nat) (x:AV) (u:Value),vs[i]? =some x→us[i]? =some u→R w L0 aD A0 x u
theorem gQ.cons {B:aj} {L L0:J} {φL aD:af} {l1 l2:Bool} {x:AV} {u:Value} {vs:List AV} {us:List Value} (hx: ∀A0:aj,(∀c,A0 c→A c)→(l1=true→ ∀c,A0 c→B c)→R w L φL A0 x u)
 (he: ∀A0,bI w L φL A0 w L0 aD A0) (h:gQ w A B L0 aD l2 vs us):gQ w A B L0 aD (l1||l2) (x::vs) (u::us):=by
 refine ⟨by simp [h.1],fun A0 h1 h2 i x' u' bJ aN=> ?_⟩
 cases i with
 |zero=>simp at bJ aN;subst bJ;subst aN;exact (hx A0 h1 (fun hl=>h2 (by simp [hl]))).mono (he A0)
 |succ i=>exact h.2 A0 h1 (fun hl=>h2 (by simp [hl])) i x' u' bJ aN
theorem bI.any {L L0:J} {φL aD:af} {A1:aj} (h:bI w L φL A1 w L0 aD A1) (A0:aj):bI w L φL A0 w L0 aD A0:=
 ⟨fun _c _a _t fr hc hn=>⟨⟨fr,hc⟩,hn⟩,h.st,h.ids,h.sz⟩
theorem si {H:J} {φ :af} {H1:J} {L:J} {φL:af} (ae:St w H φ A) (hl:bF H H1) {a:AV} {u:Value} (ha:R w H φ A a u) {y:AV} (hs:aZ 8 H1 a=some y):
 ∀A0:aj,(∀c,A0 c→A c)→(e9 a=true→ ∀c,A0 c→fM (aF φ H1) A c)→R w L φL A0 y u:=by
 intro A0 h1 h2;obtain ⟨s1,s2,_⟩:=(r_ (er ae hl) 8).1 a u y (ha.mono (db hl)) hs;cases hle:e9 a with
 |false=>exact .fr _ _ ((s2 hle).shrink h1)
 |true=>exact .fr _ _ (s1.shrink (h2 hle))
theorem mU: ∀(as:List AV) (ms:List Mode) (fR:List (List Sh)) (us:List Value) (H:J) (φ :af) (zs:List AV) (H1:J) (ys:List AV) (bX:Bool) (L:J) (φL:af) (vs:List AV) (L0:J),
 b5 w H φ A L φL A→as.length=us.length→(∀(i:Nat) (x:AV) (u:Value),as[i]? =some x→us[i]? =some u→R w H φ A x u)→fU ms fR as H=some (zs,H1)→cf ms zs H1=some (ys,bX)→ck ms ys L=(vs,L0)→
 ∃aD,ci w H φ A L φL A H1 L0 aD∧gQ w A (fM (aF φ H1) A) L0 aD bX vs us∧ca H φ L0 aD ms as vs
 |[],ms,fR,us,H,φ,zs,H1,ys,bX,L,φL,vs,L0,hd,hl,hr,h1,h2,h3=>by
  have ii:zs=[]∧H1=H:=by
   cases ms<;>simp only [fU,Option.some.injEq,Prod.mk.injEq] at h1<;>exact ⟨h1.1.symm,h1.2.symm⟩
  obtain ⟨rfl,rfl⟩:=ii;have cB:ys=[]∧bX=false:=by
   cases ms<;>simp only [cf,Option.some.injEq,Prod.mk.injEq] at h2<;>exact ⟨h2.1.symm,h2.2.symm⟩
  obtain ⟨rfl,rfl⟩:=cB;have dM:vs=[]∧L0=L:=by
   cases ms<;>simp only [ck,Prod.mk.injEq] at h3<;>exact ⟨h3.1.symm,h3.2.symm⟩
  obtain ⟨rfl,rfl⟩:=dM;refine ⟨φL,.refl hd,⟨by simpa using hl,by simp⟩,?_⟩
  cases ms with
  |nil=>simp [ca]
  |cons m ms=>cases m<;>simp [ca]
 |a::as,[],fR,us,H,φ,zs,H1,ys,bX,L,φL,vs,L0,hd,hl,hr,h1,h2,h3=>by
  match us,hl with
  |u::us,hl=>
  simp only [fU,Option.some.injEq,Prod.mk.injEq] at h1;obtain ⟨rfl,rfl⟩:=h1;simp only [cf] at h2;split at h2
  ·rename_i y hy;split at h2
   ·rename_i aW b cB
    simp only [Option.some.injEq,Prod.mk.injEq] at h2;obtain ⟨rfl,rfl⟩:=h2;simp only [ck,mS _ _ _ _ hy,List.tail_nil,Prod.mk.injEq] at h3;obtain ⟨rfl,rfl⟩:=h3;obtain ⟨aD,m,cE,_⟩:=mU as [] fR us H φ as H aW b L φL _ _ hd (by simpa using hl) (fun i x u hx hu=>hr (i+1) x u hx hu) rfl cB rfl
    exact ⟨aD,m,gQ.cons (si (L:=L) (φL:= φL) hd.sl (.refl _) (hr 0 a u rfl rfl) hy) (fun A0=>m.eh.any A0) cE,by simp [ca]⟩
   ·simp at h2
  ·simp at h2
 |a::as,md::ms,fR,us,H,φ,zs,H1,ys,bX,L,φL,vs,L0,hd,hl,hr,h1,h2,h3=>by
  match us,hl with
  |u::us,hl=>
  simp only [fU] at h1;split at h1
  rotate_left
  ·simp at h1
  rename_i z H' hz
  split at h1
  rotate_left
  ·simp at h1
  rename_i gR gP ii
  simp only [Option.some.injEq,Prod.mk.injEq] at h1;obtain ⟨rfl,rfl⟩:=h1;have dO:=sf hz;have dr:=sg _ _ _ _ _ _ ii;have ha:=hr 0 a u rfl rfl;have rest: ∀{aW:List AV} {b:Bool} {L' :J} {ak:af} (m1:ci w H φ A L φL A H' L' ak) (cB:cf ms gR gP=some (aW,b)),
   ∃aD,ci w H' (aF φ H') A L' ak A gP (ck ms aW L').2 aD∧gQ w A (fM (aF φ gP) A) (ck ms aW L').2 aD b (ck ms aW L').1 us∧ca H' (aF φ H') (ck ms aW L').2 aD ms as (ck ms aW L').1:=by
   intro aW b L' ak m1 cB
   obtain ⟨aD,m,cE,ea⟩:=mU as ms fR.tail us H' (aF φ H') gR gP aW b L' ak _ _ m1.bB (by simpa using hl) (fun i x u hx hu=>(hr (i+1) x u hx hu).mono (db dO)) ii cB rfl
   refine ⟨aD,m,?_,ea⟩;rw [gh dr] at cE;exact cE
  cases md with
  |val=>
   simp only [fq,Option.some.injEq,Prod.mk.injEq] at hz;obtain ⟨rfl,rfl⟩:=hz;simp only [cf] at h2;split at h2
   rotate_left
   ·simp at h2
   rename_i y hy;split at h2
   rotate_left
   ·simp at h2
   rename_i aW b cB
   simp only [Option.some.injEq,Prod.mk.injEq] at h2;obtain ⟨rfl,rfl⟩:=h2;have jE:ck (.val::ms) (y::aW) L=(y::(ck ms aW L).1,(ck ms aW L).2):=by
    simp only [ck,mS _ _ _ _ hy,List.tail_cons]
   rw [jE] at h3;simp only [Prod.mk.injEq] at h3;obtain ⟨rfl,rfl⟩:=h3;obtain ⟨aD,m,cE,ea⟩:=rest (ci.refl hd) cB;refine ⟨aD,(ci.refl hd).trans m,gQ.cons (L:=L) (φL:= φL) (fun A0 q1 q2=> ?_) (fun A0=>m.eh.any A0) cE,?_⟩
   ·exact si (L:=L) (φL:= φL) hd.sl dr ha hy A0 q1 q2
   ·simp only [ca];exact ca.mono (.refl _) (fun _ _ h=>h) (fun _ _ h=>h) ea
  |e8=>
   have dW:a_ (fR.headD []) a H=some (z,H'):=hz
   simp only [cf] at h2;split at h2
   rotate_left
   ·simp at h2
   rename_i aW b cB
   simp only [Option.some.injEq,Prod.mk.injEq] at h2;obtain ⟨rfl,rfl⟩:=h2;have jE:ck (.e8::ms) (z::aW) L=((aI z L).1::(ck ms aW (aI z L).2).1,(ck ms aW (aI z L).2).2):=by
    simp only [ck,List.tail_cons]
   rw [jE] at h3;simp only [Prod.mk.injEq] at h3;obtain ⟨rfl,rfl⟩:=h3;obtain ⟨φ1,m1,r1⟩:=rY hd ha dW rfl (.inl fun _ h=>h)
   obtain ⟨aD,m,cE,ea⟩:=rest m1 cB;have:=gQ.cons (l1:=false) (L:=(aI z L).2) (φL:= φ1) (x:=(aI z L).1) (u:=u) (fun A0 q1 _=>r1.mP q1) (fun A0=>m.eh.any A0) cE;refine ⟨aD,m1.trans m,by simpa using this,?_⟩
   simp only [ca];exact ca.mono dO (fun _ _ h=>h) (fun _ _ h=>h) ea
  |io=>
   simp only [cf] at h2;split at h2
   rotate_left
   ·simp at h2
   rename_i aW b cB
   simp only [Option.some.injEq,Prod.mk.injEq] at h2;obtain ⟨rfl,rfl⟩:=h2;rcases zt hd ha hz with ⟨sz,xs,φ1,rfl,m1,r1,ro⟩|⟨sz,x,φ1,rfl,m1,r1,ro⟩
   ·have jE:ck (.io::ms) (.own sz xs::aW) L=(.ref (aJ xs L).2.bs.length (aJ xs L).2.st 0 (aJ xs L).1.length::(ck ms aW ((aJ xs L).2.new sz true (aJ xs L).1)).1,(ck ms aW ((aJ xs L).2.new sz true (aJ xs L).1)).2):=by
     simp only [ck]
    rw [jE] at h3;simp only [Prod.mk.injEq] at h3;obtain ⟨rfl,rfl⟩:=h3;obtain ⟨aD,m,cE,ea⟩:=rest m1 cB;have:=gQ.cons (l1:=false) (φL:= φ1) (u:=u) (fun A0 q1 _=>r1.mP q1) (fun A0=>m.eh.any A0) cE;refine ⟨aD,m1.trans m,by simpa using this,?_⟩
    simp only [ca];refine ⟨?_,ca.mono dO (fun _ _ h=>h) (fun _ _ h=>h) ea⟩;obtain ⟨k,kv,bk,e1,e2,⟨loc,lD⟩,e3,e4⟩:=ro;exact ⟨k,kv,bk,e1,pD m.bD e2,⟨loc,m.b6 _ _ lD⟩,e3,fun id ad hr=>by obtain ⟨b,c,b0,q1,q2,q3,q4,q5⟩:=e4 id ad hr;exact ⟨b,c,b0,q1,q2,q3,q4,m.b6 _ _ q5⟩⟩
   ·have jE:ck (.io::ms) (.dy sz x::aW) L=((aI (.dy sz x) L).1::(ck ms aW (aI (.dy sz x) L).2).1,(ck ms aW (aI (.dy sz x) L).2).2):=by
     simp only [ck,List.tail_cons]
    rw [jE] at h3;simp only [Prod.mk.injEq] at h3;obtain ⟨rfl,rfl⟩:=h3;obtain ⟨aD,m,cE,ea⟩:=rest m1 cB;have:=gQ.cons (l1:=false) (φL:= φ1) (u:=u) (fun A0 q1 _=>r1.mP q1) (fun A0=>m.eh.any A0) cE;refine ⟨aD,m1.trans m,by simpa using this,?_⟩
    simp only [ca];refine ⟨?_,ca.mono dO (fun _ _ h=>h) (fun _ _ h=>h) ea⟩;obtain ⟨k,kv,bk,e1,e2,⟨loc,lD⟩,e3,e4⟩:=ro;exact ⟨k,kv,bk,e1,pD m.bD e2,⟨loc,m.b6 _ _ lD⟩,e3,fun id ad hr=>by obtain ⟨b,c,b0,q1,q2,q3,q4,q5⟩:=e4 id ad hr;exact ⟨b,c,b0,q1,q2,q3,q4,m.b6 _ _ q5⟩⟩
end bB
end Go.VS
namespace Go.VS
def cZ (L Lm:J):List Mode→List AV→List (List AV)→Prop
 | .io::ms,x::xs,l::ls=>(∃k kv b,kR x=some (k,kv)∧L.ap k kv=some b∧b.el=l∧Lm.get k=none)∧cZ L Lm ms xs ls
 | .io::_,_::_,[]=>False
 | .val::ms,_::xs,ls=>cZ L Lm ms xs ls
 | .e8::ms,_::xs,ls=>cZ L Lm ms xs ls
 |_,_,_=>True
theorem cZ.mono {L0 L Lm:J} (h:bF L0 L): ∀{ms:List Mode} {xs:List AV} {ls:List (List AV)},cZ L Lm ms xs ls→cZ L0 Lm ms xs ls
 |[],xs,ls,_=>by simp [cZ]
 |m::ms,[],ls,_=>by cases m<;>simp [cZ]
 | .val::ms,x::xs,ls,hr=>by simp only [cZ] at hr⊢;exact hr.mono h
 | .e8::ms,x::xs,ls,hr=>by simp only [cZ] at hr⊢;exact hr.mono h
 | .io::ms,x::xs,[],hr=>by simp only [cZ] at hr
 | .io::ms,x::xs,l::ls,hr=>by
  simp only [cZ] at hr⊢;obtain ⟨⟨k,kv,b,h1,h2,h3,h4⟩,h5⟩:=hr;exact ⟨⟨k,kv,b,h1,J.se h h2,h3,h4⟩,h5.mono h⟩
theorem mV: ∀(ms:List Mode) (vs:List AV) (L:J) (ls:List (List AV)) (Lm:J),fB ms vs L=some (ls,Lm)→bF L Lm∧cZ L Lm ms vs ls
 |[],vs,L,ls,Lm,h=>by
  simp only [fB,Option.some.injEq,Prod.mk.injEq] at h;obtain ⟨rfl,rfl⟩:=h;exact ⟨.refl _,by simp [cZ]⟩
 |m::ms,[],L,ls,Lm,h=>by
  cases m<;>(simp only [fB,Option.some.injEq,Prod.mk.injEq] at h;obtain ⟨rfl,rfl⟩:=h;exact ⟨.refl _,by simp [cZ]⟩)
 | .val::ms,x::xs,L,ls,Lm,h=>by simp only [fB] at h;simpa only [cZ] using mV ms xs L ls Lm h
 | .e8::ms,x::xs,L,ls,Lm,h=>by simp only [fB] at h;simpa only [cZ] using mV ms xs L ls Lm h
 | .io::ms,x::xs,L,ls,Lm,h=>by
  simp only [fB] at h;split at h
  ·rename_i id ad hk;split at h
   ·rename_i b hb;split at h
    ·rename_i r H' hr
     simp only [Option.some.injEq,Prod.mk.injEq] at h;obtain ⟨rfl,rfl⟩:=h;obtain ⟨h1,h2⟩:=mV ms xs _ _ _ hr;refine ⟨(bF.del L id).trans h1,?_⟩;simp only [cZ];refine ⟨⟨id,ad,b,hk,hb,rfl,?_⟩,h2.mono (bF.del L id)⟩;cases hq:H'.get id with
     |none=>rfl
     |some b=>have:=h1.get _ _ hq;rw [J.ja,if_pos rfl] at this;simp at this
    ·simp at h
   ·simp at h
  ·simp at h
def junk (b:bC):bC:={b with el:=b.el.map fun _=> .agg (List.replicate b.sz .undef)}
theorem zw {H:J} {id k:Nat} {b b' :bC} (h:(H.bh id b).get k=some b'):(k=id∧b' =b)∨H.get k=some b' :=by
 unfold J.bh J.get at h;simp only [List.getElem?_set] at h;by_cases hk:id=k
 ·subst hk;simp only [if_true] at h;split at h
  ·simp at h;exact .inl ⟨rfl,h.symm⟩
  ·simp at h
 ·rw [if_neg hk] at h;exact .inr h
theorem zx {H:J} {id:Nat} {b:bC} (h:id<H.bs.length) (k:Nat):(H.bh id b).get k=if k=id then some b else H.get k:=by
 unfold J.bh J.get;simp only [List.getElem?_set];by_cases hk:id=k
 ·subst hk;simp [h]
 ·rw [if_neg hk,if_neg (fun e=>hk e.symm)]
def gS (H0:J) (v:AV) (H:J):J:=
 match dS v with
 |some (id,ad)=>match H0.ap id ad with
  |some b=>H.bh id (junk b)
  |none=>H
 |none=>H
theorem zy (H0:J) (v:AV) (H:J):(gS H0 v H).bs.length=H.bs.length∧(gS H0 v H).st=H.st:=by
 unfold gS;split
 ·split
  ·simp [J.bh]
  ·exact ⟨rfl,rfl⟩
 ·exact ⟨rfl,rfl⟩
theorem sj (H0:J) (ms:List Mode) (v:AV) (vs:List AV) (H:J):cG H0 (.io::ms) (v::vs) H=cG H0 ms vs (gS H0 v H):=rfl
theorem zB {H0:J} {v:AV} {H:J} {k:Nat} {b' :bC} (h:(gS H0 v H).get k=some b'):H.get k=some b' ∨ ∃ad b,dS v=some (k,ad)∧H0.ap k ad=some b∧b' =junk b:=by
 unfold gS at h;split at h
 ·rename_i id ad hr;split at h
  ·rename_i b hb;rcases zw h with ⟨rfl,rfl⟩|h
   ·exact .inr ⟨ad,b,hr,hb,rfl⟩
   ·exact .inl h
  ·exact .inl h
 ·exact .inl h
theorem mW (H0:J): ∀(ms:List Mode) (as:List AV) (H:J),(cG H0 ms as H).bs.length=H.bs.length∧(cG H0 ms as H).st=H.st
 |[],as,H=>by simp [cG]
 |m::ms,[],H=>by cases m<;>simp [cG]
 | .val::ms,a::as,H=>by simp only [cG];exact mW H0 ms as H
 | .e8::ms,a::as,H=>by simp only [cG];exact mW H0 ms as H
 | .io::ms,a::as,H=>by
  rw [sj];have:=mW H0 ms as (gS H0 a H);have h2:=zy H0 a H;exact ⟨this.1.trans h2.1,this.2.trans h2.2⟩
theorem mX (H0:J) {Lx Lm:J} {φ :af} {L0:J} {aD:af}: ∀(ms:List Mode) (as vs:List AV) (ls:List (List AV)) (H:J) (k:Nat) (b' :bC),as.length=vs.length→ca H0 φ L0 aD ms as vs→cZ Lx Lm ms vs ls→
 (cG H0 ms as H).get k=some b' →H.get k=some b' ∨ ∃a x ad b kk kv bk,dS a=some (k,ad)∧H0.ap k ad=some b∧b' =junk b∧iv H0 φ L0 aD a x∧kR x=some (kk,kv)∧Lx.ap kk kv=some bk∧Lm.get kk=none
 |[],as,vs,ls,H,k,b',_,_,_,h=>by simp only [cG] at h;exact .inl h
 |m::ms,[],vs,ls,H,k,b',_,_,_,h=>by cases m<;>(simp only [cG] at h;exact .inl h)
 |m::ms,a::as,[],ls,H,k,b',hl,_,_,h=>by simp at hl
 | .val::ms,a::as,x::vs,ls,H,k,b',hl,h1,h2,h=>by
  simp only [cG] at h;exact mX H0 ms as vs ls H k b' (by simpa using hl) (by simpa only [ca] using h1) (by simpa only [cZ] using h2) h
 | .e8::ms,a::as,x::vs,ls,H,k,b',hl,h1,h2,h=>by
  simp only [cG] at h;exact mX H0 ms as vs ls H k b' (by simpa using hl) (by simpa only [ca] using h1) (by simpa only [cZ] using h2) h
 | .io::ms,a::as,x::vs,[],H,k,b',hl,h1,h2,h=>by simp only [cZ] at h2
 | .io::ms,a::as,x::vs,l::ls,H,k,b',hl,h1,h2,h=>by
  rw [sj] at h;simp only [ca] at h1;simp only [cZ] at h2;rcases mX H0 ms as vs ls _ k b' (by simpa using hl) h1.2 h2.2 h with h3|h3
  ·rcases zB h3 with h4|⟨ad,b,q1,q2,q3⟩
   ·exact .inl h4
   ·obtain ⟨kk,kv,bk,p1,p2,_,p4⟩:=h2.1;exact .inr ⟨a,x,ad,b,kk,kv,bk,q1,q2,q3,h1.1,p1,p2,p4⟩
  ·exact .inr h3
def Has (Hx:J) (id ad:Nat) (b:bC):Prop:= ∃b',Hx.ap id ad=some b' ∧b'.sz=b.sz∧b'.el.length=b.el.length
theorem Has.gS {H0 Hx:J} {id ad:Nat} {b:bC} (h0:H0.ap id ad=some b) (h:Has Hx id ad b) (v:AV):Has (gS H0 v Hx) id ad b:=by
 obtain ⟨b',h1,h2,h3⟩:=h;unfold VS.gS;split
 ·rename_i dp CL hr;split
  ·rename_i b2 iY;have az:id<Hx.bs.length:=J.ib (J.bz h1).1;by_cases bL:dp=id
   ·subst bL;have g1:=J.bz h0;have g2:=J.bz iY;have:b2=b:=by have:=g1.1.symm.trans g2.1;simp only [Option.some.injEq] at this;exact this.symm
    subst this;refine ⟨junk b2,?_,rfl,by simp [junk]⟩
    have:=J.gJ (H:=Hx.bh dp (junk b2)) (id:=dp) (b:=junk b2) (by rw [zx az,if_pos rfl])
    rw [←g1.2];exact this
   ·refine ⟨b',?_,h2,h3⟩;have g:=J.bz h1;have:(Hx.bh dp (junk b2)).get id=some b' :=by
     unfold J.bh J.get;simp only [List.getElem?_set];rw [if_neg bL];exact g.1
    rw [←g.2];exact J.gJ this
  ·exact ⟨b',h1,h2,h3⟩
 ·exact ⟨b',h1,h2,h3⟩
structure pF (w:World) (A:aj) (aD:af) (w' :World) (ak:af) (AH:aj):Prop where
 own: ∀c,A c→ ¬Ow aD c→AH c
 eH: ∀c,Ow ak c→AH c
 bY: ∀c,AH c→c<w'.heap.size
 fz: ∀c arr T fr,w.heap[c]? =some (.cells arr T fr)→ ¬A c→(∃fc,w'.heap[c]? =some (.cells arr T fc))∧ ¬AH c
def zC (w:World) (L:J) (φL:af) (AL:aj) (H:J) (φ :af) (a:AV) (l:List AV):Prop:=
 (dS a=none→l=[])∧ ∀id ad,dS a=some (id,ad)→ ∃c b0 b arr T fr,H.ap id ad=some b∧ φ id=some (.at_ c b0)∧w.heap[c]? =some (.cells arr T fr)∧l.length=b.el.length∧
  (∀(i:Nat) (x:AV),l[i]? =some x→x.cells.length=b.sz)∧ ∀(i:Nat) (x:AV) (j:Nat) (y:AV) (v:Value),l[i]? =some x→x.cells[j]? =some y→arr[b0+i*b.sz+j]? =some v→R w L φL AL y v
def eK (w:World) (L:J) (φL:af) (AL:aj) (H:J) (φ :af):List Mode→List AV→List (List AV)→Prop
 | .io::ms,a::as,l::ls=>zC w L φL AL H φ a l∧eK w L φL AL H φ ms as ls
 | .val::ms,_::as,ls=>eK w L φL AL H φ ms as ls
 | .e8::ms,_::as,ls=>eK w L φL AL H φ ms as ls
 |_,_,_=>True
section back
variable {w w' :World} {A:aj} {H:J} {φ :af} {H1 L0:J} {aD:af} {A0:aj} {L:J} {ak:af} {A' AH:aj} {ms:List Mode} {as vs:List AV} {ls:List (List AV)} {Lm:J}
theorem pG (m:ci w H φ A ⟨0,[]⟩ (fun _=>none) A H1 L0 aD) (ho:Out w L0 aD A0 w' L ak A') {a x:AV} (hr:iv H φ L0 aD a x) {kk kv:Nat} {bk:bC} (hk:kR x=some (kk,kv)) (hb:L.ap kk kv=some bk):
 (dS a=none→bk.el=[])∧ ∀id ad,dS a=some (id,ad)→ ∃b c b0,H.ap id ad=some b∧bk.sz=b.sz∧bk.el.length=b.el.length∧ φ id=some (.at_ c b0)∧ak kk=some (.at_ c b0)∧q0 w' L ak A' bk (.at_ c b0):=by
 obtain ⟨k,CM,b1,e1,e2,⟨loc,lD⟩,e3,e4⟩:=hr;rw [hk] at e1;simp only [Option.some.injEq,Prod.mk.injEq] at e1;obtain ⟨rfl,rfl⟩:=e1;obtain ⟨g1,g2⟩:=J.bz hb;obtain ⟨f1,f2⟩:=J.bz e2;have az:kv<L0.st:=by
  obtain ⟨bb,p1,p2⟩:=m.bB.sh.ap kk loc lD;rw [f1] at p1;simp only [Option.some.injEq] at p1;subst p1;rw [←f2];exact p2.ad
 ·obtain ⟨b2,i1,i2,i3,i4,i5,i6⟩:=ho.bE.ids kk bk g1 (by omega)
  rw [f1] at i1;simp only [Option.some.injEq] at i1;subst i1;refine ⟨fun h=>List.eq_nil_of_length_eq_zero (by rw [i5,e3 h];rfl),fun id ad h=> ?_⟩
  obtain ⟨b,c,b0,q1,q2,q3,q4,q5⟩:=e4 id ad h;have hp:=i6 _ q5;obtain ⟨bb,p1,p2⟩:=ho.st.ap kk _ hp;rw [g1] at p1;simp only [Option.some.injEq] at p1;subst p1;exact ⟨b,c,b0,q1,i3.trans q2,i5.trans q3,q4,hp,p2⟩
theorem sk (ae:St w H φ A) (m:ci w H φ A ⟨0,[]⟩ (fun _=>none) A H1 L0 aD) (hlen:as.length=vs.length) (ea:ca H φ L0 aD ms as vs) (ho:Out w L0 aD A0 w' L ak A') (ha:pF w A aD w' ak AH) (ht:fB ms vs L=some (ls,Lm)):
 b5 w' Lm (aF ak Lm) A' (cG H ms as H1) (aF φ (cG H ms as H1)) AH∧bI w H φ A w' (cG H ms as H1) (aF φ (cG H ms as H1)) AH:=by
 obtain ⟨dO,pH⟩:=mV _ _ _ _ _ ht;have bA: ∀c,Ow aD c→Ow φ c:=fun c hc=>by
  rcases m.oh c hc with ⟨i,b,h⟩|h
  ·simp at h
  ·exact h.1
 have bD:=fun k b' =>mX H ms as vs ls H1 k b' hlen ea pH
 have pI:=(mW H ms as H1).2;have aT:bI w H φ A w' (cG H ms as H1) (aF φ (cG H ms as H1)) AH:=by
  refine ⟨ha.fz,by rw [pI,m.less.st];exact Nat.le_refl _,fun id b' aw _=> ?_,fun c hc=>ho.post.aU c (Ow.lt ae hc)⟩
  have b6: ∀loc,φ id=some loc→aF φ (cG H ms as H1) id=some loc:=fun loc h=>by simp [aF,aw,h]
  rcases bD id b' aw with h|⟨a,x,ad,b,kk,kv,bk,q1,q2,rfl,q4,q5,q6,q7⟩
  ·exact ⟨b',m.less.get _ _ h,rfl,rfl,rfl,rfl,b6⟩
  ·exact ⟨b,(J.bz q2).1,rfl,rfl,rfl,by simp [junk],b6⟩
 refine ⟨⟨er ho.st dO,⟨fun i i' c b b' h1 h2=>ae.inj _ _ _ _ _ (dt h1).1 (dt h2).1,fun c hc=> ?_,ha.bY,fun id loc hl=> ?_⟩,fun c hc hj=> ?_,fun c hc=>ha.eH c (bM hc)⟩,aT⟩
 ·obtain ⟨id,b0,h⟩:=hc;obtain ⟨h1,b',aw⟩:=dt h;rcases bD id b' aw with h2|⟨a,x,ad,b,kk,kv,bk,q1,q2,rfl,q4,q5,q6,q7⟩
  ·refine ha.own c (ae.own c ⟨id,b0,h1⟩) (m.bB.cg c ⟨id,b0,?_⟩);simp [aF,h2,h1]
  ·obtain ⟨_,re⟩:=pG m ho q4 q5 q6;obtain ⟨b2,c2,pJ,_,_,_,r4,r5,_⟩:=re id _ q1;rw [h1] at r4;simp only [Option.some.injEq,Loc.at_.injEq] at r4;obtain ⟨rfl,rfl⟩:=r4;exact ha.eH c ⟨kk,b0,r5⟩
 ·obtain ⟨h1,b',aw⟩:=dt hl;refine ⟨b',aw,?_⟩;rcases bD id b' aw with h2|⟨a,x,ad,b,kk,kv,bk,q1,q2,rfl,q4,q5,q6,q7⟩
  ·obtain ⟨b2,iY,ag⟩:=ae.ap id loc h1;rw [m.less.get _ _ h2] at iY;simp only [Option.some.injEq] at iY;subst iY;refine ⟨by rw [pI,m.less.st];exact ag.ad,ag.sized,ag.aQ,fun c b0 he=> ?_⟩
   subst he;obtain ⟨arr,T,fr,k1,k2,k3,k4⟩:=ag.here c b0 rfl;have hn: ¬Ow aD c:=m.bB.cg c ⟨id,b0,by simp [aF,h2,h1]⟩
   refine ⟨arr,T,fr,?_,k2,k3,fun i x j y v hx hy hv=>⟨(k4 i x j y v hx hy hv).1.mono aT,(k4 i x j y v hx hy hv).2⟩⟩;rw [ho.post.kept c (Ow.lt ae ⟨id,b0,h1⟩) hn];exact k1
  ·obtain ⟨_,re⟩:=pG m ho q4 q5 q6;obtain ⟨b2,c2,pJ,r1,r2,r3,r4,r5,ag⟩:=re id _ q1;rw [h1] at r4;simp only [Option.some.injEq] at r4;subst r4;rw [q2] at r1;simp only [Option.some.injEq] at r1;subst r1;obtain ⟨b3,lj,zD⟩:=ae.ap id _ h1;rw [(J.bz q2).1] at lj;simp only [Option.some.injEq] at lj;subst lj;have hcs: ∀(i:Nat) (x:AV),(junk b).el[i]? =some x→i<b.el.length∧x= .agg (List.replicate b.sz .undef):=by
    intro i x hx;simp only [junk,List.getElem?_map,Option.map_eq_some_iff] at hx;obtain ⟨z,hz,rfl⟩:=hx;exact ⟨(List.getElem?_eq_some_iff.1 hz).1,rfl⟩
   refine ⟨by rw [pI,m.less.st];exact zD.ad,fun i x hx=>by rw [(hcs i x hx).2];simp [AV.cells,junk],fun h=>by simp at h,fun c b0 he=> ?_⟩
   simp only [Loc.at_.injEq] at he;obtain ⟨rfl,rfl⟩:=he;obtain ⟨arr,T,fr,k1,k2,k3,k4⟩:=ag.here c2 pJ rfl;refine ⟨arr,T,fr,k1,k2,by simp only [junk,List.length_map];rw [←r3,←r2];exact k3,fun i x j y v hx hy hv=> ?_⟩
   obtain ⟨hi,rfl⟩:=hcs i x hx;have hj:j<b.sz:=by have:=(List.getElem?_eq_some_iff.1 hy).1;simpa [AV.cells] using this
   have zE:y= .undef:=by simp only [AV.cells] at hy;rw [List.getElem?_replicate,if_pos hj] at hy;simpa using hy.symm
   subst zE;refine ⟨.fr _ _ (.undef _),?_⟩;have sm:=List.getElem?_eq_getElem (show i<bk.el.length by omega)
   exact (k4 i _ j _ v sm (List.getElem?_eq_getElem (show j<_ by rw [ag.sized _ _ sm,r2];exact hj)) (by rw [r2];exact hv)).2
 ·obtain ⟨id,b0,h⟩:=hj;obtain ⟨h1,b',aw⟩:=dt h;rcases bD id b' aw with h2|⟨a,x,ad,b,kk,kv,bk,q1,q2,rfl,q4,q5,q6,q7⟩
  ·rcases ho.post.own c (bM hc) with h3|h3
   ·exact m.bB.cg c ⟨id,b0,by simp [aF,h2,h1]⟩ h3
   ·have:=Ow.lt ae ⟨id,b0,h1⟩;omega
  ·obtain ⟨_,re⟩:=pG m ho q4 q5 q6;obtain ⟨b2,c2,pJ,_,_,_,r4,r5,_⟩:=re id _ q1;rw [h1] at r4;simp only [Option.some.injEq,Loc.at_.injEq] at r4;obtain ⟨rfl,rfl⟩:=r4;obtain ⟨i,bb,hi⟩:=hc;obtain ⟨fK,bx,sn⟩:=dt hi;have:=ho.st.inj _ _ _ _ _ fK r5;subst this;rw [q7] at sn;simp at sn
end back
end Go.VS
namespace Go.VS
section back
variable {w:World} {AL AH:aj}
structure Mv (w:World) (L:J) (φL:af) (AL:aj) (H:J) (φ :af) (AH:aj) (L1 H1:J) (φ1:af):Prop where
 less:bF L L1
 bB:b5 w L1 (aF φL L1) AL H1 φ1 AH
 eh:bI w H φ AH w H1 φ1 AH
 oh: ∀c,Ow φ1 c→Ow φ c∨(Ow φL c∧ ¬Ow (aF φL L1) c)
 has: ∀id ad b,H.ap id ad=some b→ ∃b',H1.ap id ad=some b' ∧b'.sz=b.sz∧b'.el.length=b.el.length
 b6: ∀id loc,φ id=some loc→ φ1 id=some loc
theorem Mv.trans {L L1 L2:J} {φL:af} {H H1 H2:J} {φ φ1 a8:af} (h:Mv w L φL AL H φ AH L1 H1 φ1) (k:Mv w L1 (aF φL L1) AL H1 φ1 AH L2 H2 a8):Mv w L φL AL H φ AH L2 H2 a8:=by
 have hr:=gh (φ := φL) k.less;refine ⟨h.less.trans k.less,by rw [←hr];exact k.bB,h.eh.trans k.eh (fun _ _=>rfl),fun c hc=> ?_,fun id ad b hb=> ?_,fun id loc hl=>k.b6 id loc (h.b6 id loc hl)⟩
 ·rcases k.oh c hc with h1|⟨h1,h2⟩
  ·rcases h.oh c h1 with h3|⟨h3,h4⟩
   ·exact .inl h3
   ·refine .inr ⟨h3,fun h5=>h4 ?_⟩;rw [←hr] at h5;exact bM h5
  ·rw [hr] at h2;exact .inr ⟨bM h1,h2⟩
 ·obtain ⟨b1,e1,e2,e3⟩:=h.has id ad b hb;obtain ⟨b2,f1,f2,f3⟩:=k.has id ad b1 e1;exact ⟨b2,f1,f2.trans e2,f3.trans e3⟩
theorem iZ.refl {w:World} {c:Nat} {o:Obj} (h:w.heap[c]? =some o):iZ w c o w:=⟨h,fun _ _=>rfl,rfl,rfl,rfl,rfl⟩
theorem eK.mono {L L1:J} {φL:af} {H H1:J} {φ φ1:af} (hl:bF L L1) (has: ∀id ad b,H.ap id ad=some b→ ∃b',H1.ap id ad=some b' ∧b'.sz=b.sz∧b'.el.length=b.el.length) (b6: ∀id loc,φ id=some loc→ φ1 id=some loc):
 ∀{ms:List Mode} {as:List AV} {ls:List (List AV)},eK w L φL AL H φ ms as ls→eK w L1 (aF φL L1) AL H1 φ1 ms as ls
 |[],as,ls,_=>by simp [eK]
 |m::ms,[],ls,_=>by cases m<;>simp [eK]
 | .val::ms,a::as,ls,h=>by simp only [eK] at h⊢;exact eK.mono hl has b6 h
 | .e8::ms,a::as,ls,h=>by simp only [eK] at h⊢;exact eK.mono hl has b6 h
 | .io::ms,a::as,[],h=>by simp [eK]
 | .io::ms,a::as,l::ls,h=>by
  simp only [eK] at h⊢;refine ⟨⟨h.1.1,fun id ad hr=> ?_⟩,eK.mono hl has b6 h.2⟩;obtain ⟨c,b0,b,arr,T,fr,k1,k2,k3,k4,k5,k6⟩:=h.1.2 id ad hr;obtain ⟨b',e1,e2,e3⟩:=has id ad b k1;exact ⟨c,b0,b',arr,T,fr,e1,b6 _ _ k2,k3,by rw [k4,e3],fun i x hx=>by rw [e2];exact k5 i x hx,fun i x j y v hx hy hv=>(k6 i x j y v hx hy (by rw [←e2];exact hv)).mono (db hl)⟩
theorem so: ∀(sh:List (List Sh)) (rs:List AV) (us:List Value) (L:J) (φL:af) (H:J) (φ :af) (ys:List AV) (L1:J),b5 w L φL AL H φ AH→rs.length=us.length→
 (∀(i:Nat) (x:AV) (u:Value),rs[i]? =some x→us[i]? =some u→R w L φL AL x u)→dg sh rs L=some (ys,L1)→d_ AL AH ys→
 ∃ φ1,ci w L φL AL H φ AH L1 (aJ ys H).2 φ1∧(aJ ys H).1.length=us.length∧ ∀(i:Nat) (x:AV) (u:Value),(aJ ys H).1[i]? =some x→us[i]? =some u→R w (aJ ys H).2 φ1 AH x u
 |sh,[],us,L,φL,H,φ,ys,L1,hd,hl,hr,ht,hk=>by
  simp only [dg,Option.some.injEq,Prod.mk.injEq] at ht;obtain ⟨rfl,rfl⟩:=ht;exact ⟨φ,.refl hd,hl,by simp [aJ]⟩
 |sh,x::rs,u::us,L,φL,H,φ,ys,L1,hd,hl,hr,ht,hk=>by
  simp only [dg] at ht;split at ht
  rotate_left
  ·simp at ht
  rename_i y L' h1
  split at ht
  rotate_left
  ·simp at ht
  rename_i aW di h2
  simp only [Option.some.injEq,Prod.mk.injEq] at ht;obtain ⟨rfl,rfl⟩:=ht;obtain ⟨k1,k2⟩:=hk.cons;obtain ⟨φ1,m1,r1⟩:=rY hd (hr 0 x u rfl rfl) h1 rfl k1;obtain ⟨a8,m2,l2,r2⟩:=so sh.tail rs us L' (aF φL L') (aI y H).2 φ1 aW di m1.bB (by simpa using hl) (fun i x u hx hu=>(hr (i+1) x u hx hu).mono (db m1.less)) h2 k2
  refine ⟨a8,m1.trans m2,by simp [aJ,l2],fun i x' u' hx hu=> ?_⟩
  cases i with
  |zero=>simp [aJ] at hx hu;subst hx;subst hu;exact r1.mono m2.eh
  |succ i=>simp only [aJ,List.getElem?_cons_succ] at hx hu;exact r2 i x' u' hx hu
 |sh,x::rs,[],L,φL,H,φ,ys,L1,hd,hl,hr,ht,hk=>by simp at hl
theorem sq: ∀(sh:List (List Sh)) (rs:List AV) (L:J) (ys:List AV) (L1:J),dg sh rs L=some (ys,L1)→bF L L1
 |sh,[],L,ys,L1,ht=>by simp only [dg,Option.some.injEq,Prod.mk.injEq] at ht;obtain ⟨rfl,rfl⟩:=ht;exact .refl _
 |sh,x::rs,L,ys,L1,ht=>by
  simp only [dg] at ht;split at ht
  ·rename_i y L' h1
   split at ht
   ·rename_i aW di h2
    simp only [Option.some.injEq,Prod.mk.injEq] at ht;obtain ⟨rfl,rfl⟩:=ht;exact (fL _ _ _ _ _ h1).trans (sq _ rs _ _ _ h2)
   ·simp at ht
  ·simp at ht
theorem ss {es:List Sh} {x:AV} {v:Value} {L:J} {φL:af} {A' :aj} {y:AV} {L1:J} (ae:St w L φL AL) (hx:R w L φL AL x v) (ht:a_ es x L=some (y,L1)) (hk: ∀c,A' c→gone φL AL L1 c):FR w A' (bw y) v:=by
 by_cases bZ: ∃cs,x= .agg cs
 ·obtain ⟨cs,rfl⟩:=bZ;obtain ⟨aY,hc,rfl⟩:=lA ht;obtain ⟨vs,rfl,hl,ho,hp⟩:=hx.fX;obtain ⟨l1,r1⟩:=pB es cs vs.toList L φL AL A' aY L1 ae (by simpa using hl) (fun j c u hj hu=>hp j c u hj (by simpa using hu)) hc hk
  exact .agg _ _ (by rw [l1,hl]) ho fun i x v hx hv=>r1 i x v hx (by simpa using hv)
 ·obtain ⟨e,rfl,cD⟩:=jD (fun cs h=>bZ ⟨cs,h⟩) ht;exact (mR e x v L φL AL A' y L1 ae hx cD hk).1
theorem pK {A' :aj}: ∀(sh:List (List Sh)) (rs:List AV) (us:List Value) (L:J) (φL:af) (ys:List AV) (L1:J),St w L φL AL→rs.length=us.length→
 (∀(i:Nat) (x:AV) (u:Value),rs[i]? =some x→us[i]? =some u→R w L φL AL x u)→dg sh rs L=some (ys,L1)→(∀c,A' c→gone φL AL L1 c)→
 (bW ys).length=us.length∧ ∀(i:Nat) (x:AV) (u:Value),(bW ys)[i]? =some x→us[i]? =some u→FR w A' x u
 |sh,[],us,L,φL,ys,L1,hd,hl,hr,ht,hk=>by
  simp only [dg,Option.some.injEq,Prod.mk.injEq] at ht;obtain ⟨rfl,rfl⟩:=ht;exact ⟨hl,by simp [bW]⟩
 |sh,x::rs,u::us,L,φL,ys,L1,hd,hl,hr,ht,hk=>by
  simp only [dg] at ht;split at ht
  rotate_left
  ·simp at ht
  rename_i y L' h1
  split at ht
  rotate_left
  ·simp at ht
  rename_i aW di h2
  simp only [Option.some.injEq,Prod.mk.injEq] at ht;obtain ⟨rfl,rfl⟩:=ht;have dO:=fL _ _ _ _ _ h1;have dr:=sq _ _ _ _ _ h2;have r1:=ss (A' :=A') hd (hr 0 x u rfl rfl) h1 (fun c hc=>px dr (hk c hc))
  obtain ⟨l2,r2⟩:=pK sh.tail rs us L' (aF φL L') aW di (er hd dO) (by simpa using hl) (fun i x u hx hu=>(hr (i+1) x u hx hu).mono (db dO)) h2 (fun c hc=>by
   obtain ⟨k1,k2⟩:=hk c hc;exact ⟨k1,fun ho=>by rw [gh dr];exact k2 (bM ho)⟩)
  refine ⟨by simp [bW,l2],fun i x' u' hx hu=> ?_⟩
  cases i with
  |zero=>simp [bW] at hx hu;subst hx;subst hu;exact r1
  |succ i=>simp only [bW,List.getElem?_cons_succ] at hx hu;exact r2 i x' u' hx hu
 |sh,x::rs,[],L,φL,ys,L1,hd,hl,hr,ht,hk=>by simp at hl
end back
end Go.VS
namespace Go.VS
def iy:List Value→Value
 |[v]=>v
 |vs=> .tuple vs.toArray
def gT (P:Program) (f:FuncId):Prop:= ∃fn,P.funcs[f]? =some fn∧(fn.name== "runtime.NumGoroutine")=false∧fn.body.isNone=false
def jc (w:World) (H:J) (φ :af) (A:aj) (K:AV→J→Prop) (e:Ending) (w' :World):Prop:=
 match e with
 | .returned v' => ∃x H' ak A',Out w H φ A w' H' ak A' ∧R w' H' ak A' x v' ∧K x H'
 |_=>False
theorem jc.mono {w:World} {H:J} {φ :af} {A:aj} {K K' :AV→J→Prop} (h: ∀v H,K v H→K' v H) {e:Ending} {w' :World} (k:jc w H φ A K e w'):jc w H φ A K' e w' :=by
 cases e with
 |returned v' =>obtain ⟨x,H',ak,A',h1,h2,h3⟩:=k;exact ⟨x,H',ak,A',h1,h2,h _ _ h3⟩
 |panicked c=>exact k
 |outgrown=>exact k
def b8 (P:Program):bq:=fun f ys H K=>gT P f∧
 ∀(w:World) (A:aj) (φ :af) (us:Array Value),St w H φ A→ys.length=us.size→
  (∀(i:Nat) (x:AV) (u:Value),ys[i]? =some x→us[i]? =some u→R w H φ A x u)→Calls P f us w (jc w H φ A K)
theorem b8.mono {P:Program} {f:FuncId} {ys:List AV} {H:J} {K K' :AV→J→Prop} (h: ∀v H,K v H→K' v H) (k:b8 P f ys H K):b8 P f ys H K' :=
 ⟨k.1,fun w A φ us h1 h2 h3=>(k.2 w A φ us h1 h2 h3).mono fun _ _ he=>he.mono h⟩
def Exact (X:bq):Prop:= ∀f ys H K,X f ys H K→ ∃v H',X f ys H (fun v1 H1=>v1=v∧H1=H')∧K v H'
theorem St.shrink {w:World} {H:J} {φ :af} {A A' :aj} (h:St w H φ A) (h1: ∀c,A' c→A c) (h2: ∀c,Ow φ c→A' c):St w H φ A' :=by
 refine ⟨h.inj,h2,fun c hc=>h.bY c (h1 c hc),fun id loc hl=> ?_⟩;obtain ⟨b,hb,ag⟩:=h.ap id loc hl;refine ⟨b,hb,ag.ad,ag.sized,ag.aQ,fun c b0 he=> ?_⟩;obtain ⟨arr,T,fr,k1,k2,k3,k4⟩:=ag.here c b0 he;exact ⟨arr,T,fr,k1,k2,k3,fun i x j y v hx hy hv=>⟨(k4 i x j y v hx hy hv).1.mP h1,(k4 i x j y v hx hy hv).2⟩⟩
section
variable {w:World} {H:J} {φ :af} {A:aj}
theorem pL {xs:List AV} {us:List Value} (hl:xs.length=us.length) (h: ∀(i:Nat) (x:AV) (u:Value),xs[i]? =some x→us[i]? =some u→R w H φ A x u):R w H φ A (cj xs) (iy us):=by
 have key: ∀{xs:List AV} {us:List Value},xs.length=us.length→(∀(i:Nat) (x:AV) (u:Value),xs[i]? =some x→us[i]? =some u→R w H φ A x u)→R w H φ A (.aA xs) (.tuple us.toArray):=
  fun hl h=> .aA _ _ (by simpa using hl) fun i x v hx hv=>h i x v hx (by simpa using hv)
 match xs,us,hl with
 |[],[],hl=>exact key hl h
 |[x],[u],_=>exact h 0 x u rfl rfl
 |x::x' ::xs,u::u' ::us,hl=>exact key hl h
theorem su {xs:List AV} {us:List Value} (hl:xs.length=us.length) (h: ∀(i:Nat) (x:AV) (u:Value),xs[i]? =some x→us[i]? =some u→FR w A x u):FR w A (cj xs) (iy us):=by
 have key: ∀{xs:List AV} {us:List Value},xs.length=us.length→(∀(i:Nat) (x:AV) (u:Value),xs[i]? =some x→us[i]? =some u→FR w A x u)→FR w A (.aA xs) (.tuple us.toArray):=
  fun hl h=> .aA _ _ (by simpa using hl) fun i x v hx hv=>h i x v hx (by simpa using hv)
 match xs,us,hl with
 |[],[],hl=>exact key hl h
 |[x],[u],_=>exact h 0 x u rfl rfl
 |x::x' ::xs,u::u' ::us,hl=>exact key hl h
end
theorem sw (zs:List AV) (H:J):aI (cj zs) H=(cj (aJ zs H).1,(aJ zs H).2):=by
 match zs with
 |[]=>rfl
 |[z]=>rfl
 |z::z' ::zs=>rfl
theorem sx (zs:List AV):bw (cj zs)=cj (bW zs):=by
 match zs with
 |[]=>rfl
 |[z]=>rfl
 |z::z' ::zs=>rfl
theorem sy (zs:List AV):cm (cj zs)=ei zs:=by
 match zs with
 |[]=>rfl
 |[z]=>simp [cj,ei]
 |z::z' ::zs=>rfl
theorem sA {xs:List AV} {v:Value} {w:World} {H:J} {φ :af} {A:aj} (h:R w H φ A (cj xs) v): ∃us:List Value,v=iy us∧xs.length=us.length∧ ∀(i:Nat) (x:AV) (u:Value),xs[i]? =some x→us[i]? =some u→R w H φ A x u:=by
 have key: ∀{xs:List AV},xs.length≠1→R w H φ A (.aA xs) v→ ∃us:List Value,v=iy us∧xs.length=us.length∧ ∀(i:Nat) (x:AV) (u:Value),xs[i]? =some x→us[i]? =some u→R w H φ A x u:=by
  intro xs hl h;obtain ⟨vs,rfl,h1,h2⟩:=h.mj;refine ⟨vs.toList,?_,by simpa using h1,fun i x u hx hu=>h2 i x u hx (by simpa using hu)⟩
  have c9:vs.toList.length≠1:=by simp only [Array.length_toList];omega
  generalize hv:vs.toList=l at c9;have:Value.tuple vs= .tuple l.toArray:=by rw [←hv]
  rw [this]
  match l with
  |[]=>rfl
  |[u]=>exact absurd rfl c9
  |u::u' ::l=>rfl
 match xs with
 |[]=>exact key (by simp) h
 |[x]=>exact ⟨[v],rfl,rfl,fun i x' u hx hu=>by
  cases i with
  |zero=>simp at hx hu;subst hx;subst hu;exact h
  |succ i=>simp at hx⟩
 |x::x' ::xs=>exact key (by simp) h
def mY (ms:List Mode):Prop:= ∀m∈ms,m= .val
theorem pM: ∀(ms:List Mode) (sh:List (List Sh)) (as:List AV) (H:J),mY ms→fU ms sh as H=some (as,H)
 |[],sh,as,H,_=>rfl
 |m::ms,sh,[],H,_=>rfl
 |m::ms,sh,a::as,H,h=>by
  have hm:=h m (by simp)
  subst hm;simp only [fU,fq,pM ms sh.tail as H (fun m hm=>h m (by simp [hm]))]
theorem pN (H0:J): ∀(ms:List Mode) (as:List AV) (H:J),mY ms→cG H0 ms as H=H
 |[],as,H,_=>by simp [cG]
 |m::ms,[],H,_=>by cases m<;>simp [cG]
 |m::ms,a::as,H,h=>by
  have hm:=h m (by simp)
  subst hm;simp only [cG];exact pN H0 ms as H (fun m hm=>h m (by simp [hm]))
theorem kn {w:World} {H:J} {φ :af} {A:aj} (ae:St w H φ A):aF φ H= φ :=by
 funext id
 unfold aF;cases hp: φ id with
 |none=>simp
 |some loc=>obtain ⟨b,hb,_⟩:=ae.ap id loc hp;simp [hb]
theorem pO {H:J}: ∀(as ys:List AV) (b:Bool),cf [] as H=some (ys,b)→ ∀L,ck [] ys L=(ys,L)
 |[],ys,b,h,L=>by simp only [cf,Option.some.injEq,Prod.mk.injEq] at h;obtain ⟨rfl,_⟩:=h;rfl
 |a::as,ys,b,h,L=>by
  simp only [cf] at h;split at h
  ·rename_i y hy;split at h
   ·rename_i aW b' cB
    simp only [Option.some.injEq,Prod.mk.injEq] at h;obtain ⟨rfl,_⟩:=h;simp only [ck,mS H 8 a y hy,List.tail_nil,pO as aW b' cB]
   ·simp at h
  ·simp at h
theorem zF {P:Program} {C:aK} {X:bq} (hX: ∀f ys H K,X f ys H K→b8 P f ys H K) {w:World} {H:J} {φ :af} {A:aj} (ae:St w H φ A) {f:FuncId} {as:List AV} {us:Array Value} (hl:as.length=us.size)
 (hr: ∀(i:Nat) (x:AV) (u:Value),as[i]? =some x→us[i]? =some u→R w H φ A x u) {th:Bool} {K:AV→J→Prop} (h:dB X C f as th H K):gT P f∧Calls P f us w (jc w H φ A K):=by
 unfold dB at h;split at h
 ·exact h.elim
 rename_i ys bX hy;obtain ⟨y,lE,gn,hp⟩:=h;have hm:mY []:=fun m hm=>by simp at hm
 have pP:b5 w H φ A ⟨0,[]⟩ (fun _=>none) A:=by
  refine ⟨ae,⟨fun i i' c b b' h=>by simp at h,fun c hc=> ?_,ae.bY,fun id loc h=>by simp at h⟩,fun c _ hc=> ?_,ae.own⟩
  ·obtain ⟨i,b,h⟩:=hc;simp at h
  ·obtain ⟨i,b,h⟩:=hc;simp at h
 have pQ:ck [] ys ⟨0,[]⟩=(ys,⟨0,[]⟩):=pO _ _ _ hy _;obtain ⟨aD,m,cE,ea⟩:=mU as [] [] us.toList H φ as H ys bX ⟨0,[]⟩ (fun _=>none) ys ⟨0,[]⟩ pP (by simpa using hl) (fun i x u hx hu=>hr i x u hx (by simpa using hu)) (pM _ _ _ _ hm) hy pQ
 have bA: ∀c,¬Ow aD c:=fun c hc=>by
  rcases m.oh c hc with ⟨i,b,h⟩|⟨h1,h2⟩
  ·simp at h
  ·rw [kn ae] at h2;exact h2 h1
 let A0:aj:=if bX=true then Ow aD else A
 have jF: ∀c,A0 c→A c:=by
  intro c hc;simp only [A0] at hc;split at hc
  ·exact absurd hc (bA c)
  ·exact hc
 have pR:bX=true→ ∀c,A0 c→fM (aF φ H) A c:=by
  intro az c hc;simp only [A0,az,if_true] at hc;exact absurd hc (bA c)
 have c7:St w ⟨0,[]⟩ aD A0:=m.bB.sh.shrink jF (fun c hc=>absurd hc (bA c));have fj:ys.length=us.size:=by simpa using cE.1
 refine ⟨(hX _ _ _ _ lE).1,((hX _ _ _ _ lE).2 w A0 aD us c7 fj (fun i x u hx hu=>cE.2 A0 jF pR i x u hx (by simpa using hu))).mono fun e w' he=> ?_⟩
 cases e with
 |panicked c=>exact he.elim
 |outgrown=>exact he.elim
 |returned v' =>
 obtain ⟨x0,L,ak,A',ho,pS,rs,gR,L2,rfl,lF,rfl⟩:=he;obtain ⟨cI,rfl,iz,iq⟩:=sA pS
 let AH:aj:=if bX=true then fun c=>A c∨(A' c∧w.heap.size≤c) else A'
 have jG: ∀c,Ow ak c→w.heap.size≤c:=fun c hc=>(ho.post.own c hc).resolve_left (bA c)
 have ha:pF w A aD w' ak AH:=by
  refine ⟨fun c hc hn=> ?_,fun c hc=> ?_,fun c hc=> ?_,fun c arr T fr hc hn=> ?_⟩
  ·simp only [AH];split
   ·exact .inl hc
   ·rename_i az;refine ho.keep c ?_ hn;simp only [A0,az];exact hc
  ·simp only [AH];split
   ·exact .inr ⟨ho.st.own c hc,jG c hc⟩
   ·exact ho.st.own c hc
  ·simp only [AH] at hc;split at hc
   ·rcases hc with h|⟨h,_⟩
    ·exact Nat.lt_of_lt_of_le (ae.bY c h) ho.post.size
    ·exact ho.st.bY c h
   ·exact ho.st.bY c hc
  ·obtain ⟨h1,h2⟩:=ho.bE.fz c arr T fr hc (fun h=>hn (jF c h));refine ⟨h1,?_⟩;simp only [AH];split
   ·rintro (h|⟨_,h⟩)
    ·exact hn h
    ·have:c<w.heap.size:=by
      rcases Nat.lt_or_ge c w.heap.size with h' |h'
      ·exact h'
      ·rw [Array.getElem?_eq_none h'] at hc;simp at hc
     omega
   ·exact h2
 obtain ⟨D,E⟩:=sk (ls:=[]) (Lm:=L) ae m (by rw [hl,fj]) ea ho ha (by simp [fB])
 rw [pN _ _ _ _ hm,kn ae] at D E;have pT:d_ A' AH gR:=by
  cases az:bX with
  |false=>exact .inl fun c h=>by simpa [AH,az] using h
  |true=>
   rcases gn with h|h
   ·rw [az] at h;simp at h
   ·rw [sy] at h;exact .inr h
 have jH: ∀(i:Nat) (x:AV) (u:Value),rs[i]? =some x→cI[i]? =some u→R w' L (aF ak L) A' x u:=fun i x u hx hu=>by
  rw [kn ho.st];exact iq i x u hx hu
 have fF: ∀{cN:af},(∀c,Ow cN c→Ow φ c∨Ow ak c)→fC w φ w' cN:=fun hq=>
  ⟨ho.post.os,ho.post.tape,ho.post.output,ho.post.size,fun c hc _=>ho.post.kept c hc (bA c),ho.post.aU,fun c hc=>by
   rcases hq c hc with h|h
   ·exact .inl h
   ·exact .inr (jG c h)⟩
 have jI: ∀c,A c→ ¬Ow φ c→AH c:=fun c hc _=>ha.own c hc (bA c);have cA: ∀c,Ow φ c→aU w' c=aU w c:=fun c hc=>ho.post.aU c (Ow.lt ae hc)
 cases eG:(th||bX) with
 |true=>
  rw [eG] at hp;simp only [if_true,sw] at hp;obtain ⟨cN,m3,l3,r3⟩:=so _ rs cI L _ H φ gR L2 D iz jH lF pT
  refine ⟨_,_,cN,AH,⟨m3.bB.sh,fF fun c hc=> ?_,E.trans m3.eh cA,jI⟩,pL l3 r3,hp⟩;rcases m3.oh c hc with h|⟨h,_⟩
  ·exact .inl h
  ·exact .inr (bM h)
 |false=>
  rw [eG] at hp;simp only [Bool.false_eq_true,if_false,sx] at hp;simp only [Bool.or_eq_false_iff] at eG;have pU:AH=A' :=by simp [AH,eG.2]
  rw [pU] at D E jI
  let A2:aj:=gone (aF ak L) A' L2
  obtain ⟨l3,r3⟩:=pK (A' :=A2) _ rs cI L (aF ak L) gR L2 D.sl iz jH lF (fun c h=>h)
  have pV: ∀c,Ow φ c→A2 c:=fun c hc=>⟨D.sh.own c hc,fun h=>absurd hc (D.cg c h)⟩;have pW:bI w H φ A w' H φ A2:=⟨fun c arr T fr hc hn=>⟨(E.fz c arr T fr hc hn).1,fun h2=>(E.fz c arr T fr hc hn).2 h2.1⟩,E.st,E.ids,E.sz⟩
  refine ⟨_,_,φ,A2,⟨D.sh.shrink (fun c h=>h.1) pV,fF fun c hc=> .inl hc,pW,fun c hc hn=>⟨jI c hc hn,fun h=> ?_⟩⟩,.fr _ _ (su l3 r3),hp⟩;have:=jG c (bM h)
  have:=ae.bY c hc;omega
end Go.VS
namespace Go.VS
section ops
variable {P:Program} {C:aK} {X:bq} {w:World} {H:J} {φ :af} {A:aj}
theorem zG {f:FuncId} (h:gT P f) (args:Array Value) (w:World):(callFunc f args).run P w= .ok (.enter f args) w:=by
 obtain ⟨fn,h1,h2,h3⟩:=h;have lC:fn.name≠ "runtime.NumGoroutine" :=by simpa using h2
 have zH:fn.body≠none:=by intro e;rw [e] at h3;simp at h3
 simp [callFunc,h1,lC,zH]
theorem sC {o:Oper} {ρ :Operand→Value} {x:Operand} {args:Array Operand} {tys:Array TypeId} (ho:o.op= .call {callee:= .value x,args,argTypes:=tys}) {g:FuncId} {bO:Array Value} (hx: ρ x= .func (.func g) #[] bO) (hc:gT P g):
 (execOp ρ o).run P w= .ok (.enter g (args.map ρ ++ bO)) w:=by
 simp [execOp,ho,resolve,hx,Deferred.ofValue,invoke,zG hc]
theorem sD {o:Oper} {ρ :Operand→Value} {b:Builtin} {args:Array Operand} {tys:Array TypeId} (ho:o.op= .call {callee:= .builtin b,args,argTypes:=tys}):
 ∃consts,(execOp ρ o).run P w=(builtin b tys o.type consts (args.map ρ)).run P w:=
 ⟨_,by simp only [execOp,ho,resolve,invoke,Sem.run_bind,Sem.run_pure,Result.andThen_ok];rfl⟩
theorem cq.upon {H' :J} {r:Result Next} {x:AV} (h:cq w H φ A H' r x) {o:Oper} {a:Act} {next:Act→World→Prop} {Q:Exit→Act→World→Prop}
 (hn: ∀v w' ak A',Out w H φ A w' H' ak A' →R w' H' ak A' x v→next (a.put o.dst v) w'):o.upon P a next Q r:=by
 obtain ⟨n,v,w',ak,A',rfl,hv,hr,ho⟩:=h;rcases hv with rfl|⟨rfl,rfl⟩
 ·exact hn v w' ak A' ho hr
 ·exact hn _ w' ak A' ho hr
theorem mZ (hE: ∀t ti,C.E t=some ti→aS P t ti) (hX: ∀f ys H K,X f ys H K→b8 P f ys H K) (ae:St w H φ A) {o:Oper} {s:ah} {a:Act} (hs: ∀x∈o.op.operands,R w H φ A (ev s x) (a.eval x)) {th:Bool} {K:AV→J→Prop} (h:wpOp X C false th o s H K)
 {next:Act→World→Prop} {Q:Exit→Act→World→Prop} (hn: ∀x v w' H' ak A',Out w H φ A w' H' ak A' →R w' H' ak A' x v→K x H' →next (a.put o.dst v) w'):o.wp P a w next Q:=by
 have lG: ∀(hh:(match aO C.E o.op s H with|some (v,H')=>K v H' |none=>False)),o.wp P a w next Q:=by
  intro hh;split at hh
  ·rename_i v H' he
   exact (zh hE ae hs he).upon (fun u w' ak A' h1 h2=>hn v u w' H' ak A' h1 h2 hh)
  ·exact hh.elim
 unfold wpOp at h;split at h
 ·rename_i b args tys bd;obtain ⟨_,h⟩:=h;split at h
  ·rename_i v H' he
   obtain ⟨consts,cL⟩:=sD (P:=P) (w:=w) (ρ :=a.eval) bd;have:=zi hE ae (ty:=o.type) (consts:=consts) (vs:=args.map a.eval) (by simp) (fun i x u hx hu=>by
    simp only [List.getElem?_map,Option.map_eq_some_iff] at hx;obtain ⟨y,hy,rfl⟩:=hx;simp only [Array.getElem?_map,Option.map_eq_some_iff] at hu;obtain ⟨y',eF,rfl⟩:=hu;have:y' =y:=by simp at hy;rw [hy] at eF;simpa using eF.symm
    subst this;exact hs y' (by rw [bd];simp only [Op.operands,Call.operands];simp [Array.mem_of_getElem? eF])) he
   rw [←cL] at this;exact this.upon (fun u w' ak A' h1 h2=>hn v u w' H' ak A' h1 h2 h)
  ·exact h.elim
 ·rename_i x args tys bd;split at h
  ·rename_i g bO hg;simp only [Bool.false_eq_true,if_false] at h;have hx:=hs x (by rw [bd];simp [Op.operands,Call.operands])
   rw [hg] at hx;obtain ⟨vs,hv,hl,hp⟩:=hx.kU;have sE: ∀(i:Nat) (y:AV) (u:Value),(args.toList.map (ev s) ++ bO)[i]? =some y→(args.map a.eval ++ vs)[i]? =some u→R w H φ A y u:=fun i y u hy hu=>by
    rcases Nat.lt_or_ge i args.size with hi|hi
    ·rw [List.getElem?_append_left (by simpa using hi)] at hy
     rw [Array.getElem?_append_left (by simpa using hi)] at hu
     simp only [List.getElem?_map,Option.map_eq_some_iff] at hy;obtain ⟨z,hz,rfl⟩:=hy;simp only [Array.getElem?_map,Option.map_eq_some_iff] at hu;obtain ⟨z',dW,rfl⟩:=hu;have:z' =z:=by simp at hz;rw [hz] at dW;simpa using dW.symm
     subst this;exact hs z' (by rw [bd];simp only [Op.operands,Call.operands];simp [Array.mem_of_getElem? dW])
    ·rw [List.getElem?_append_right (by simpa using hi)] at hy
     rw [Array.getElem?_append_right (by simpa using hi)] at hu
     exact hp _ y u (by simpa using hy) (by simpa using hu)
   have hc:gT P g∧Calls P g (args.map a.eval ++ vs) w (jc w H φ A K):=by
    rcases h with h|h
    ·exact ⟨(hX _ _ _ _ h).1,(hX _ _ _ _ h).2 w A φ (args.map a.eval ++ vs) ae (by simp [hl]) sE⟩
    ·exact zF hX ae (us:=args.map a.eval ++ vs) (by simp [hl]) sE h
   unfold Oper.wp;rw [sC bd hv hc.1,Oper.upon_enter];refine hc.2.mono fun e w' he=> ?_
   cases e with
   |returned v' =>
    obtain ⟨x',H',ak,A',h1,h2,h3⟩:=he;exact hn x' v' w' H' ak A' h1 h2 h3
   |panicked c=>exact he.elim
   |outgrown=>exact he.elim
  ·exact h.elim
 ·exact lG h.2
end ops
end Go.VS
namespace Go.VS
structure ko (π :List Nat) (ops:Array Oper):Prop where
 len: π.length=ops.size
 nodup: π.Nodup
 lt: ∀i∈ π,i<ops.size
 mem: ∀i,i<ops.size→i∈ π
 sF: ∀(i:Nat) (o:Oper),ops[i]? =some o→ ∀e∈o.after.toList,Region.binds .any e=true→e.on<ops.size
 iA: ∀(i:Nat) (o:Oper) (j:Nat) (b:Bool),ops[i]? =some o→o.guard=some (j,b)→j<ops.size
theorem zI {π :List Nat} {ops:Array Oper} (h:og π ops=true):ko π ops:=by
 simp only [og,Bool.and_eq_true,beq_iff_eq,List.all_eq_true,decide_eq_true_eq,List.mem_range,List.contains_iff_mem] at h;obtain ⟨⟨⟨⟨h1,h0⟩,h2⟩,h3⟩,h4⟩:=h;refine ⟨h1,h0,h2,h3,fun i o ho e he hb=> ?_,fun i o j b ho hg=> ?_⟩
 ·have:=(h4 o (by rw [←Array.getElem?_toList] at ho;exact List.mem_of_getElem? ho)).1
  rw [Array.all_eq_true_iff_forall_mem] at this;have:=this e (by simpa using he)
  rw [hb] at this;simpa using this
 ·have:=(h4 o (by rw [←Array.getElem?_toList] at ho;exact List.mem_of_getElem? ho)).2
  rw [hg] at this;simpa using this
section
variable {π :List Nat} {ops:Array Oper} (hp:ko π ops)
include hp
theorem ko.at_ {k:Nat} (hk:k< π.length): ∃o,ops[π[k]]? =some o∧(eQ π ops)[k]? =some (fp π o):=by
 have:=hp.lt _ (List.getElem_mem hk);refine ⟨ops[π[k]],by simp [this],?_⟩
 unfold eQ mf;rw [List.getElem?_toArray,List.getElem?_map,List.getElem?_eq_getElem hk];simp [List.getD,this]
theorem ko.size:(eQ π ops).size=ops.size:=by
 simp [eQ,mf,hp.len]
theorem ko.kq {i:Nat} (hi:i<ops.size):df π i< π.length∧ π[df π i]? =some i:=by
 have:=hp.mem i hi;unfold df;have h:=List.idxOf_lt_length_of_mem this;exact ⟨h,by rw [List.getElem?_eq_getElem h,List.getElem_idxOf]⟩
theorem ko.get {i:Nat} {o:Oper} (ho:ops[i]? =some o):(eQ π ops)[df π i]? =some (fp π o):=by
 have hi:i<ops.size:=(Array.getElem?_eq_some_iff.1 ho).1;obtain ⟨h1,h2⟩:=hp.kq hi;obtain ⟨o',h3,h4⟩:=hp.at_ h1;have: π[df π i]=i:=by rw [List.getElem?_eq_getElem h1] at h2;simpa using h2
 rw [this,ho] at h3;simp only [Option.some.injEq] at h3;subst h3;exact h4
def PL (π :List Nat) (n:Nat) (l l' :Array Bool):Prop:=l.size=n∧l'.size=n∧ ∀i,i<n→l'[df π i]? =l[i]?
theorem PL.set {l l' :Array Bool} (h:PL π ops.size l l') {i:Nat} (hi:i<ops.size):PL π ops.size (l.setIfInBounds i true) (l'.setIfInBounds (df π i) true):=by
 obtain ⟨h1,h2,h3⟩:=h;refine ⟨by simp [h1],by simp [h2],fun j hj=> ?_⟩
 obtain ⟨zJ,pX⟩:=hp.kq hi;obtain ⟨CN,zK⟩:=hp.kq hj;rw [Array.getElem?_setIfInBounds,Array.getElem?_setIfInBounds];by_cases e:i=j
 ·subst e;rw [if_pos rfl,if_pos rfl,if_pos (by rw [h2,←hp.len];exact zJ),if_pos (by rw [h1];exact hi)]
 ·have: ¬df π i=df π j:=by
   intro e2;rw [e2,zK] at pX;simp at pX;exact e pX.symm
  rw [if_neg this,if_neg e];exact h3 j hj
omit hp in
theorem PL.getD {l l' :Array Bool} (h:PL π ops.size l l') {i:Nat} (hi:i<ops.size) (b:Bool):l'.getD (df π i) b=l.getD i b:=by
 have:=h.2.2 i hi;rw [Array.getD_eq_getD_getElem?,Array.getD_eq_getD_getElem?,this]
theorem sG {l l' :Array Bool} (h:PL π ops.size l l') {i:Nat} (hi:i∈Region.ready .any ops l):i<ops.size∧df π i∈Region.ready .any (eQ π ops) l' :=by
 unfold Region.ready at hi⊢;simp only [List.mem_filter,List.mem_range,Bool.and_eq_true] at hi⊢;obtain ⟨h1,h2,h3⟩:=hi;have ho:ops[i]? =some ops[i]:=by simp [h1]
 obtain ⟨r1,r2⟩:=hp.kq h1;refine ⟨h1,by rw [hp.size,←hp.len];exact r1,by rw [h.getD h1];exact h2,?_⟩
 rw [hp.get ho];rw [ho] at h3;simp only [Option.map_some,Option.getD_some,Array.all_eq_true_iff_forall_mem] at h3⊢;intro e he;simp only [fp,List.mem_toArray,List.mem_filterMap] at he;obtain ⟨e0,sH,m_⟩:=he;split at m_
 ·rename_i hb;simp only [Option.some.injEq] at m_;subst m_;have:=h3 e0 (by simpa using sH)
  rw [hb] at this;simp only [Bool.not_true,Bool.false_or] at this;rw [h.getD (hp.sF i _ ho e0 sH hb)];simp [this]
 ·simp at m_
theorem zL {i:Nat} {o:Oper} (ho:ops[i]? =some o) (t:Array Value):Region.wanted (fp π o) (yielded (eQ π ops) t)=Region.wanted o (yielded ops t):=by
 unfold Region.wanted fp;simp only;cases hg:o.guard with
 |none=>rfl
 |some p=>
  obtain ⟨j,b⟩:=p;have hj:=hp.iA i o j b ho hg;simp only [Option.map_some];congr 1;unfold yielded;have sI:ops[j]? =some ops[j]:=by simp [hj]
  rw [hp.get sI,sI];rfl
omit hp in
theorem sJ (ρ :Operand→Value) (o:Oper):execOp ρ (fp π o)=execOp ρ o:=by
 cases o;rfl
theorem zM {P:Program} {Q:Exit→Act→World→Prop} {i:Nat} {o:Oper} (ho:ops[i]? =some o) {K K' :Act→World→Prop} (hK: ∀a w,K' a w→K a w) {a:Act} {w:World} (h:Go.wpOp P (eQ π ops) Q (df π i) K' a w):Go.wpOp P ops Q i K a w:=by
 unfold Go.wpOp at h⊢;rw [hp.get ho] at h;rw [ho];simp only at h⊢;rw [zL hp ho] at h;split at h
 ·rename_i hw;rw [if_pos hw];rcases h with h|⟨h1,h2⟩
  ·refine .inl (Oper.wp_mono hK ?_);unfold Oper.wp at h⊢;rw [sJ] at h;exact h
  ·refine .inr ⟨?_,h2⟩;unfold Oper.asks at h1⊢;rw [sJ] at h1;exact h1
 ·rename_i hw;rw [if_neg hw];exact hK _ _ h
theorem zN {l l' :Array Bool} (h:PL π ops.size l l') {k:Nat} (hk:k∈Region.ready .any (eQ π ops) l'): ∃i,i∈Region.ready .any ops l:=by
 unfold Region.ready at hk⊢;simp only [List.mem_filter,List.mem_range,Bool.and_eq_true] at hk;obtain ⟨h1,h2,h3⟩:=hk;rw [hp.size,←hp.len] at h1;obtain ⟨o,ho,ag⟩:=hp.at_ h1;have hi:=hp.lt _ (List.getElem_mem h1);have hr:df π π[k]=k:=by
  obtain ⟨r1,r2⟩:=hp.kq hi;rw [List.getElem?_eq_getElem r1] at r2;simp only [Option.some.injEq] at r2;exact (List.getElem_inj hp.nodup).1 r2
 refine ⟨π[k],?_⟩;simp only [List.mem_filter,List.mem_range,Bool.and_eq_true];refine ⟨hi,by rw [←h.getD hi,hr];exact h2,?_⟩
 rw [ag] at h3;rw [ho];simp only [Option.map_some,Option.getD_some,Array.all_eq_true_iff_forall_mem] at h3⊢;intro e he;by_cases hb:Region.binds .any e=true
 ·have hl:=hp.sF _ o ho e (by simpa using he) hb
  have:=h3 {e with on:=df π e.on} (by
   simp only [fp,List.mem_toArray,List.mem_filterMap];exact ⟨e,by simpa using he,by rw [if_pos hb]⟩)
  have aw:Region.binds .any {e with on:=df π e.on}=true:=hb
  rw [aw] at this;simp only [Bool.not_true,Bool.false_or] at this;rw [h.getD hl] at this;simp [this]
 ·simp [hb]
theorem sK {P:Program} {Q:Exit→Act→World→Prop}: ∀(n:Nat) (l l' :Array Bool) (a:Act) (w:World),PL π ops.size l l' →wpAny P .any (eQ π ops) Q n l' a w→wpAny P .any ops Q n l a w
 |0,l,l',a,w,hl,h=>by
  simp only [wpAny] at h⊢;refine ⟨?_,h.2⟩;rw [List.eq_nil_iff_forall_not_mem];intro i hi;have:=(sG hp hl hi).2;rw [h.1] at this;simp at this
 |n+1,l,l',a,w,hl,h=>by
  simp only [wpAny] at h⊢;refine ⟨fun he=>h.1 ?_,fun i hi=> ?_⟩
  ·rw [List.eq_nil_iff_forall_not_mem];intro k hk;obtain ⟨i,hi⟩:=zN hp hl hk;rw [he] at hi;simp at hi
  ·obtain ⟨h1,h2⟩:=sG hp hl hi;have ho:ops[i]? =some ops[i]:=by simp [h1]
   exact zM hp ho (fun a w hh=>sK n _ _ a w (hl.set hp h1) hh) (h.2 _ h2)
theorem zO {P:Program} {Q:Exit→Act→World→Prop} {a:Act} {w:World} (h:wpAny P .any (eQ π ops) Q (eQ π ops).size (Array.replicate (eQ π ops).size false) a w):wpAny P .any ops Q ops.size (Array.replicate ops.size false) a w:=by
 rw [hp.size] at h;refine sK hp _ _ _ a w ⟨by simp,by simp,fun i hi=> ?_⟩ h
 obtain ⟨r1,_⟩:=hp.kq hi;rw [hp.len] at r1;simp [hi,r1]
end
theorem SF.kill {w:World} {H:J} {φ :af} {A:aj} {s:ah} {a:Act} (h:SF w H φ A s a) (l:List Nat):SF w H φ A (dU l s) a:=by
 have key: ∀(s:ah) (i:Nat),(dU.go l i s).length=s.length∧ ∀(t:Nat) (x:AV),(dU.go l i s)[t]? =some x→x= .undef∨s[t]? =some x:=by
  intro s;induction s with
  |nil=>intro i;simp [dU.go]
  |cons y s ih=>
   intro i;obtain ⟨h1,h2⟩:=ih (i+1);refine ⟨by simp [dU.go,h1],fun t x hx=> ?_⟩
   cases t with
   |zero=>
    simp only [dU.go,List.getElem?_cons_zero,Option.some.injEq] at hx;split at hx
    ·exact .inr (by simp [hx])
    ·exact .inl hx.symm
   |succ t=>simp only [dU.go,List.getElem?_cons_succ] at hx⊢;exact h2 t x hx
 obtain ⟨h1,h2⟩:=key s 0;refine ⟨h1.trans h.len,fun t x v hx hv=> ?_,h.eW⟩;rcases h2 t x hx with rfl|hx
 ·exact .fr _ _ (.undef _)
 ·exact h.val t x v hx hv
theorem zP {w:World} {H:J} {φ :af} {A:aj} (ae:St w H φ A) (n:Nat):Out w H φ A w (H.trim n) (aF φ (H.trim n)) A:=by
 have hg: ∀id b,(H.trim n).get id=some b→H.get id=some b:=by
  intro id b h;unfold J.trim J.get at h;unfold J.get;simp only [List.getElem?_take] at h;split at h
  ·exact h
  ·simp at h
 have aT:bI w H φ A w (H.trim n) (aF φ (H.trim n)) A:=
  ⟨fun c arr T fr hc hn=>⟨⟨fr,hc⟩,hn⟩,Nat.le_refl _,fun id b hb _=>⟨b,hg id b hb,rfl,rfl,rfl,rfl,fun loc hl=>by simp [aF,hb,hl]⟩,fun _ _=>rfl⟩
 refine ⟨⟨fun i i' c b b' h h' =>ae.inj _ _ _ _ _ (dt h).1 (dt h').1,fun c hc=>ae.own c (bM hc),ae.bY,fun id loc h=> ?_⟩,⟨rfl,rfl,rfl,Nat.le_refl _,fun _ _ _=>rfl,fun _ _=>rfl,fun c hc=> .inl (bM hc)⟩,aT,fun c hc _=>hc⟩
 obtain ⟨h1,b,hb⟩:=dt h;obtain ⟨b',aw,ag⟩:=ae.ap id loc h1;rw [hg id b hb] at aw;simp only [Option.some.injEq] at aw;subst aw;refine ⟨b,hb,ag.ad,ag.sized,ag.aQ,fun c b0 he=> ?_⟩;obtain ⟨arr,T,fr,k1,k2,k3,k4⟩:=ag.here c b0 he;exact ⟨arr,T,fr,k1,k2,k3,fun i x j y v hx hy hv=>⟨(k4 i x j y v hx hy hv).1.mono aT,(k4 i x j y v hx hy hv).2⟩⟩
def na:Ex→Exit
 | .normal=> .normal
 | .exit id=> .exit id
 | .ret=> .ret
theorem nb {x y:AV} (h:fA x y=true):x=y:=by
 unfold fA at h;split at h
 ·simp only [Bool.and_eq_true,beq_iff_eq] at h;obtain ⟨⟨⟨rfl,rfl⟩,rfl⟩,rfl⟩:=h;rfl
 ·rfl
 ·rfl
 ·simp at h
theorem zQ {w:World} {H:J} {φ :af} {A:aj} {s:ah} {a:Act} (ae:St w H φ A) (hs:SF w H φ A s a) {t:Nat} {ts:List Nat} {sh:List Sh} {y:AV} {H1:J} (h:a_ sh (s.getD t .undef) H=some (y,H1)):
 Out w H φ A w H1 (aF φ H1) (gone φ A H1)∧SF w H1 (aF φ H1) (gone φ A H1) (gH (s.getD t .undef) (bw y) ts (s.set t (bw y))) a:=by
 have hl:=fL _ _ _ _ _ h;have aT:bI w H φ A w H1 (aF φ H1) (gone φ A H1):=by
  have e:=db (w:=w) (φ := φ) (A:=A) hl;exact ⟨fun c arr T fr hc hn=>⟨(e.fz c arr T fr hc hn).1,fun h2=>hn h2.1⟩,e.st,e.ids,e.sz⟩
 refine ⟨⟨(er ae hl).shrink (fun c hc=>hc.1) (fun c hc=>⟨ae.own c (bM hc),fun _=>hc⟩),⟨rfl,rfl,rfl,Nat.le_refl _,fun _ _ _=>rfl,fun _ _=>rfl,fun c hc=> .inl (bM hc)⟩,aT,fun c hc hn=>⟨hc,fun ho=>absurd ho hn⟩⟩,?_⟩;have cR:=hs.mono aT;have one: ∀(k:Nat) (v:Value),s.getD k .undef=s.getD t .undef→a.tmps[k]? =some v→R w H1 (aF φ H1) (gone φ A H1) (bw y) v:=by
  intro k v hk hv;have hr:=hs.ev (.tmp k);simp only [ev,Act.eval] at hr;rw [Array.getD_eq_getD_getElem?,hv,hk] at hr;exact .fr _ _ (ss ae hr h (fun c hc=>hc))
 have base:SF w H1 (aF φ H1) (gone φ A H1) (s.set t (bw y)) a∧ ∀k,(s.set t (bw y)).getD k .undef=bw y∨(s.set t (bw y)).getD k .undef=s.getD k .undef:=by
  refine ⟨⟨by simpa using cR.len,fun k x v hx hv=> ?_,cR.eW⟩,fun k=> ?_⟩
  ·rw [List.getElem?_set] at hx;split at hx
   ·rename_i hk;subst hk;split at hx
    ·simp only [Option.some.injEq] at hx;subst hx;exact one t v rfl hv
    ·simp at hx
   ·exact cR.val k x v hx hv
  ·simp only [List.getD_eq_getElem?_getD,List.getElem?_set];split
   ·rename_i hk;subst hk;split
    ·exact .inl rfl
    ·rename_i az;right;rw [List.getElem?_eq_none (by omega)]
   ·exact .inr rfl
 have gen: ∀(ts:List Nat) (s' :ah),SF w H1 (aF φ H1) (gone φ A H1) s' a→(∀k,fA (s'.getD k .undef) (s.getD t .undef)=true→s.getD k .undef=s.getD t .undef∨bw y=s.getD t .undef)→SF w H1 (aF φ H1) (gone φ A H1) (gH (s.getD t .undef) (bw y) ts s') a:=by
  intro ts;induction ts with
  |nil=>intro s' h _;exact h
  |cons k ks ih=>
   intro s' h1 h2
   simp only [gH];split
   ·rename_i sL;have hval: ∀v,a.tmps[k]? =some v→R w H1 (aF φ H1) (gone φ A H1) (bw y) v:=by
     intro v hv;rcases h2 k sL with e|e
     ·exact one k v e hv
     ·have:=h1.ev (.tmp k);simp only [ev,Act.eval] at this;rw [Array.getD_eq_getD_getElem?,hv,nb sL,←e] at this;exact this
    refine ih _ ⟨by simpa using h1.len,fun m x v hx hv=> ?_,h1.eW⟩ (fun m hm=> ?_)
    ·rw [List.getElem?_set] at hx;split at hx
     ·rename_i hk;subst hk;split at hx
      ·simp only [Option.some.injEq] at hx;subst hx;exact hval v hv
      ·simp at hx
     ·exact h1.val m x v hx hv
    ·simp only [List.getD_eq_getElem?_getD,List.getElem?_set] at hm;split at hm
     ·split at hm
      ·exact .inr (nb hm)
      ·rename_i hk az;refine h2 m ?_;subst hk;rw [List.getD_eq_getElem?_getD,List.getElem?_eq_none (by omega)]
       exact hm
     ·exact h2 m (by rw [List.getD_eq_getElem?_getD];exact hm)
   ·exact ih s' h1 h2
 refine gen ts _ base.1 fun k hk=> ?_;rcases base.2 k with e|e
 ·rw [e] at hk;exact .inr (nb hk)
 ·rw [e] at hk;exact .inl (nb hk)
theorem pY {w:World} {H:J} {φ :af} {A:aj} {x:AV} {v:Value} (h:R w H φ A x v):R w H φ A (kO x) v:=by
 cases x with
 |nil=>have:=h.dh;subst this;exact .fr _ _ (.cQ none 0)
 |e0=>obtain ⟨a,rfl⟩:=h.eU;exact .fr _ _ (.cQ a 0)
 |_=>exact h
theorem zR {w:World} {H:J} {φ :af} {A:aj} {x:AV} {v:Value} (h:R w H φ A x v):R w H φ A (dR x) v:=by
 cases x with
 |agg cs=>
  obtain ⟨vs,rfl,h1,h2,h3⟩:=h.fX;refine .agg _ _ (by simpa using h1) h2 fun i x v hx hv=> ?_
  simp only [List.getElem?_map,Option.map_eq_some_iff] at hx;obtain ⟨y,hy,rfl⟩:=hx;exact pY (h3 i y v hy hv)
 |_=>exact pY h
theorem zS {w:World} {H:J} {φ :af} {A:aj} {s:ah} {a:Act} (t:Nat) (ae:St w H φ A) (hs:SF w H φ A s a): ∃ak A',Out w H φ A w (j7 t s H).2 ak A' ∧SF w (j7 t s H).2 ak A' (j7 t s H).1 a:=by
 have plain: ∀v,s.getD t .undef=v→SF w H φ A (s.set t (dR v)) a:=by
  intro v hv;refine ⟨by simpa using hs.len,fun k x u hx hu=> ?_,hs.eW⟩
  rw [List.getElem?_set] at hx;split at hx
  ·rename_i hk;subst hk;split at hx
   ·simp only [Option.some.injEq] at hx;subst hx;have hr:=hs.ev (.tmp t);simp only [ev,Act.eval] at hr;rw [Array.getD_eq_getD_getElem?,hu,hv] at hr;exact zR hr
   ·simp at hx
  ·exact hs.val k x u hx hu
 have key: ∀v,s.getD t .undef=v→ ∃ak A',Out w H φ A w (match v with
  | .ref id ad _ _=>match H.ap id ad with
   |some b=>(s,H.bh id {b with el:=b.el.map dR})
   |none=>(s,H)
  |v=>(s.set t (dR v),H)).2 ak A' ∧SF w (match v with
  | .ref id ad _ _=>match H.ap id ad with
   |some b=>(s,H.bh id {b with el:=b.el.map dR})
   |none=>(s,H)
  |v=>(s.set t (dR v),H)).2 ak A' (match v with
  | .ref id ad _ _=>match H.ap id ad with
   |some b=>(s,H.bh id {b with el:=b.el.map dR})
   |none=>(s,H)
  |v=>(s.set t (dR v),H)).1 a:=by
  intro v hv;cases v with
  |ref id ad off len=>
   simp only;cases hb:H.ap id ad with
   |none=>exact ⟨φ,A,.refl ae,hs⟩
   |some b=>
    simp only;have hg:=(J.bz hb).1;have az:=J.ib hg;have bD: ∀k,(H.bh id {b with el:=b.el.map dR}).get k=if k=id then some {b with el:=b.el.map dR} else H.get k:=by
     intro k;simp only [J.get,J.bh,List.getElem?_set];by_cases h:id=k
     ·subst h;simp [az]
     ·have h' : ¬k=id:=fun e=>h e.symm
      simp [h,h']
    have aT:bI w H φ A w (H.bh id {b with el:=b.el.map dR}) φ A:=by
     refine ⟨fun c arr T fr hc hn=>⟨⟨fr,hc⟩,hn⟩,Nat.le_refl _,fun k b' hk _=> ?_,fun _ _=>rfl⟩
     rw [bD] at hk;split at hk
     ·rename_i e;subst e;simp only [Option.some.injEq] at hk;subst hk;exact ⟨b,hg,rfl,rfl,rfl,by simp,fun _ h=>h⟩
     ·exact ⟨b',hk,rfl,rfl,rfl,rfl,fun _ h=>h⟩
    have zT:St w (H.bh id {b with el:=b.el.map dR}) φ A:=by
     refine ⟨ae.inj,ae.own,ae.bY,fun k loc hk=> ?_⟩;obtain ⟨b0,nc,ag⟩:=ae.ap k loc hk;by_cases h:k=id
     ·subst h;rw [hg] at nc;simp only [Option.some.injEq] at nc;subst nc;refine ⟨{b with el:=b.el.map dR},by rw [bD,if_pos rfl],ag.ad,fun i x hx=> ?_,fun h=>by simp [ag.aQ h],fun c b0 he=> ?_⟩
      ·simp only [List.getElem?_map,Option.map_eq_some_iff] at hx;obtain ⟨y,hy,rfl⟩:=hx;rw [lh,List.length_map];exact ag.sized i y hy
      ·obtain ⟨arr,T,fr,k1,k2,k3,k4⟩:=ag.here c b0 he;refine ⟨arr,T,fr,k1,k2,by simpa using k3,fun i x j y v hx hy hv=> ?_⟩
       simp only [List.getElem?_map,Option.map_eq_some_iff] at hx;obtain ⟨x',bJ,rfl⟩:=hx;rw [lh] at hy;simp only [List.getElem?_map,Option.map_eq_some_iff] at hy;obtain ⟨y',eF,rfl⟩:=hy;have:=k4 i x' j y' v bJ eF hv
       exact ⟨pY (this.1.mono aT),this.2⟩
     ·refine ⟨b0,by rw [bD,if_neg h];exact nc,ag.ad,ag.sized,ag.aQ,fun c b1 he=> ?_⟩
      obtain ⟨arr,T,fr,k1,k2,k3,k4⟩:=ag.here c b1 he;exact ⟨arr,T,fr,k1,k2,k3,fun i x j y v hx hy hv=>⟨(k4 i x j y v hx hy hv).1.mono aT,(k4 i x j y v hx hy hv).2⟩⟩
    exact ⟨φ,A,⟨zT,.refl _ _,aT,fun c hc _=>hc⟩,hs.mono aT⟩
  |_=>exact ⟨φ,A,.refl ae,plain _ hv⟩
 unfold j7;exact key _ rfl
theorem nf {w:World} {a:Act}: ∀(l:List (List Nat×List Sh)) {H:J} {φ :af} {A:aj} {s s' :ah} {H' :J},St w H φ A→SF w H φ A s a→dH l s H=some (s',H')→
 ∃ak A',Out w H φ A w H' ak A' ∧SF w H' ak A' s' a
 |[],H,φ,A,s,s',H',ae,hs,h=>by
  simp only [dH,Option.some.injEq,Prod.mk.injEq] at h;obtain ⟨rfl,rfl⟩:=h;exact ⟨φ,A,.refl ae,hs⟩
 |([],sh)::l,H,φ,A,s,s',H',ae,hs,h=>by simp [dH] at h
 |(t::ts,[])::l,H,φ,A,s,s',H',ae,hs,h=>by
  simp only [dH] at h;obtain ⟨φ1,A1,h1,h2⟩:=zS t ae hs;obtain ⟨ak,A',h3,h4⟩:=nf l h1.st h2 h;exact ⟨ak,A',h1.trans ae h3,h4⟩
 |(t::ts,e::sh)::l,H,φ,A,s,s',H',ae,hs,h=>by
  simp only [dH] at h;split at h
  ·rename_i y H1 hy;obtain ⟨h1,h2⟩:=zQ (ts:=ts) ae hs hy;obtain ⟨ak,A',h3,h4⟩:=nf l h1.st h2 h;exact ⟨ak,A',h1.trans ae h3,h4⟩
  ·simp at h
section code
variable {P:Program} {C:aK} {X:bq}
def et (o:List (Nat×Value)) (a:Act):Prop:= ∀q∈o,a.tmps[q.1]? =some q.2
def iB (o:List (Nat×Value)) (c:Code):Prop:= ∀q∈o,dn q.1 c=true
def Ends (o:List (Nat×Value)) (Q:Exit→Act→World→Prop) (K:Ex→ah→J→Prop) (w:World) (H:J) (φ :af) (A:aj):Prop:=
 ∀e s' H' ak A' a' w',Out w H φ A w' H' ak A' →SF w' H' ak A' s' a' →et o a' →K e s' H' →Q (na e) a' w'
theorem kr {a:Act} {d:Option Tmp} {v:Value} {t:Nat} (h:d≠some t):(a.put d v).tmps[t]? =a.tmps[t]? :=by
 cases d with
 |none=>rfl
 |some d=>
  simp only [Act.put,Array.getElem?_setIfInBounds];rw [if_neg (by intro e;exact h (by rw [e]))]
theorem sM {o:Oper} {a:Act} {w:World} {N N' :Act→World→Prop} {Q Q' :Exit→Act→World→Prop} (hQ: ∀e,e≠ .normal→ ∀a w,Q e a w→Q' e a w) (hN: ∀a' w',(∀t,o.dst≠some t→a'.tmps[t]? =a.tmps[t]?)→N a' w' →N' a' w') (h:o.wp P a w N Q):o.wp P a w N' Q' :=by
 unfold Oper.wp at*;have pZ: ∀{v w'},N (a.put o.dst v) w' →N' (a.put o.dst v) w' :=fun h=>hN _ _ (fun t ht=>kr ht) h
 have bu:LetsOut Q→LetsOut Q' :=fun ⟨a,w,h⟩=>⟨a,w,hQ _ (by simp) _ _ h⟩
 generalize (execOp a.eval o).run P w=r at*;cases r with
 |ok n w' =>
  cases n<;>simp only [Oper.upon] at h⊢ <;>
   first
    |exact pZ h
    |exact hN _ _ (fun t ht=>kr (a:={a with defers:=_}) ht) h
    |exact Calls.mono h (fun e fN he=>by cases e<;>first|exact pZ he|exact hQ _ (by simp) _ _ he|exact bu he)
    |exact Rows.mono h (fun _ _ he=>pZ he)
    |exact h
 |halt x w' =>cases x<;>simp only [Oper.upon] at h⊢ <;>first|exact hQ _ (by simp) _ _ h|exact h
theorem p0 {ops:Array Oper} {Q Q' :Exit→Act→World→Prop} (hQ: ∀e,e≠ .normal→ ∀a w,Q e a w→Q' e a w) {l2:List Oper}: ∀(l:List Oper) (a:Act) (w:World),wpList P ops Q l a w→
 (∀a' w',(∀t,(∀o∈l,o.dst≠some t)→a'.tmps[t]? =a.tmps[t]?)→Q .normal a' w' →wpList P ops Q' l2 a' w')→wpList P ops Q' (l ++ l2) a w
 |[],a,w,h,hn=>hn a w (fun _ _=>rfl) h
 |o::l,a,w,h,hn=>by
  have bu:LetsOut Q→LetsOut Q' :=fun ⟨a,w,h⟩=>⟨a,w,hQ _ (by simp) _ _ h⟩
  simp only [wpList,List.cons_append] at h⊢;split at h
  ·rename_i hw;rw [if_pos hw];rcases h with h|⟨h1,h2⟩
   ·exact .inl (sM hQ (fun a' w' hk h=>p0 hQ l a' w' h fun a2 w2 iW h2=>hn a2 w2 (fun t ht=>(iW t fun o ho=>ht o (List.mem_cons_of_mem _ ho)).trans (hk t (ht o List.mem_cons_self))) h2) h)
   ·exact .inr ⟨h1,bu h2⟩
  ·rename_i hw;rw [if_neg hw];exact p0 hQ l _ w h fun a2 w2 iW h2=>hn a2 w2 (fun t ht=>(iW t fun o ho=>ht o (List.mem_cons_of_mem _ ho)).trans (kr (ht o List.mem_cons_self))) h2
theorem sN {ops ops' :Array Oper} {Q:Exit→Act→World→Prop}: ∀(l:List Oper) (a:Act) (w:World),(∀o∈l,o.guard=none)→wpList P ops Q l a w→wpList P ops' Q l a w
 |[],_,_,_,h=>h
 |o::l,a,w,hg,h=>by
  simp only [wpList,Region.wanted,hg o List.mem_cons_self,if_true] at h⊢;exact h.imp (Oper.wp_mono fun a w h=>sN l a w (fun o ho=>hg o (List.mem_cons_of_mem _ ho)) h) id
theorem ng {md:Region.Mode} {ops:Array Oper} {Q Q' :Exit→Act→World→Prop} (hQ: ∀e,e≠ .normal→ ∀a w,Q e a w→Q' e a w): ∀(n:Nat) (ls:Array Bool) (a:Act) (w:World),wpAny P md ops Q n ls a w→
 (∀a' w',(∀t,(∀o∈ops.toList,o.dst≠some t)→a'.tmps[t]? =a.tmps[t]?)→Q .normal a' w' →Q' .normal a' w')→wpAny P md ops Q' n ls a w
 |0,ls,a,w,h,hn=>⟨h.1,hn a w (fun _ _=>rfl) h.2⟩
 |n+1,ls,a,w,h,hn=>by
  have bu:LetsOut Q→LetsOut Q' :=fun ⟨a,w,h⟩=>⟨a,w,hQ _ (by simp) _ _ h⟩
  refine ⟨fun he=>hn a w (fun _ _=>rfl) (h.1 he),fun i hi=> ?_⟩;have:=h.2 i hi;unfold Go.wpOp at this⊢;split at this
  ·exact ng hQ n _ a w this hn
  ·rename_i o ho;have hm:o∈ops.toList:=List.mem_of_getElem? (i:=i) (by rw [←ho];simp)
   split at this
   ·rename_i hw;rw [if_pos hw];rcases this with h|⟨h1,h2⟩
    ·exact .inl (sM hQ (fun a' w' hk h=>ng hQ n _ a' w' h fun a2 w2 iW h2=>hn a2 w2 (fun t ht=>(iW t ht).trans (hk t (ht o hm))) h2) h)
    ·exact .inr ⟨h1,bu h2⟩
   ·rename_i hw;rw [if_neg hw];exact ng hQ n _ _ w this fun a2 w2 iW h2=>hn a2 w2 (fun t ht=>(iW t ht).trans (kr (ht o hm))) h2
theorem p6 {w:World} {H:J} {φ :af} {A:aj} {s:ah} {a:Act} {ops:Array Oper} {o:Oper} {b:Bool} (hs: ∀j want t,o.guard=some (j,want)→(ops[j]?).bind (·.dst)=some t→R w H φ A (ev s (.tmp t)) (a.eval (.tmp t))) (h:dC ops o s=some b):Region.wanted o (yielded ops a.tmps)=b:=by
 unfold dC at h;unfold Region.wanted;cases hg:o.guard with
 |none=>rw [hg] at h;simp at h;subst h;simp
 |some p=>
  obtain ⟨j,want⟩:=p;rw [hg] at h;simp only at h⊢;split at h
  ·rename_i t ht;have hv:=hs j want t hg ht;simp only [ev,Act.eval] at hv;split at h
   ·rename_i c hc;rw [hc] at hv;simp only [Option.some.injEq] at h;subst h;have:=hv.ff;have hy:yielded ops a.tmps j=some c:=by
     unfold yielded;rw [ht];simp only [Option.bind_some];rw [Array.getD_eq_getD_getElem?] at this;cases hq:a.tmps[t]? with
     |none=>rw [hq] at this;simp [undef] at this
     |some v=>rw [hq] at this;simp at this;subst this;rfl
    rw [hy];cases c<;>cases want<;>rfl
   ·rename_i cs hc;rw [hc] at hv;simp only [Option.some.injEq] at h;subst h;obtain ⟨vs,bH,_⟩:=hv.mj;have hy:yielded ops a.tmps j=none:=by
     unfold yielded;rw [ht];simp only [Option.bind_some];rw [Array.getD_eq_getD_getElem?] at bH;cases hq:a.tmps[t]? with
     |none=>rfl
     |some v=>rw [hq] at bH;simp at bH;subst bH;rfl
    rw [hy];cases want<;>rfl
   ·simp at h
  ·simp at h
theorem sO (hE: ∀t ti,C.E t=some ti→aS P t ti) (hX: ∀f ys H K,X f ys H K→b8 P f ys H K) {ops:Array Oper} {th:List Nat} {fz:List (Nat×List (List Nat×List Sh))} {K:ah→J→Prop} {Q:Exit→Act→World→Prop}:
 ∀(l:List Oper) (i:Nat) (s:ah) (H:J) (w:World) (φ :af) (A:aj) (a:Act),cP X C ops th fz K l i s H→St w H φ A→SF w H φ A s a→
  (∀s' H' ak A' a' w',Out w H φ A w' H' ak A' →SF w' H' ak A' s' a' →K s' H' →Q .normal a' w')→wpList P ops Q l a w
 |[],i,s,H,w,φ,A,a,h,ae,hs,hq=>hq s H φ A a w (.refl ae) hs h
 |o::rest,i,s0,H0,w,aD,A0,a,h,c7,eC,zU=>by
  simp only [cP] at h;obtain ⟨s,H,hf,h⟩:=h;obtain ⟨φ,A,ho,hs⟩:=nf _ c7 eC hf;have ae:=ho.st;have hq: ∀s' H' ak A' a' w',Out w H φ A w' H' ak A' →SF w' H' ak A' s' a' →K s' H' →Q .normal a' w' :=fun s' H' ak A' a' w' k1 k2 k3=>zU s' H' ak A' a' w' (ho.trans c7 k1) k2 k3
  have next: ∀{x:AV} {v:Value} {w' :World} {H' :J} {ak:af} {A' :aj},Out w H φ A w' H' ak A' →R w' H' ak A' x v→cP X C ops th fz K rest (i+1) (bn s o.dst x) H' →wpList P ops Q rest (a.put o.dst v) w' :=by
   intro x v w' H' ak A' h1 h2 h3
   exact sO hE hX rest (i+1) _ H' w' ak A' _ h3 h1.st ((hs.mono h1.bE).set o.dst h2) fun s2 H2 a8 A2 a2 w2 k1 k2 k3=>hq s2 H2 a8 A2 a2 w2 (h1.trans ae k1) k2 k3
  simp only [wpList];cases hg:o.guard with
  |none=>
   rw [hg] at h;simp only at h;have hw:Region.wanted o (yielded ops a.tmps)=true:=by simp [Region.wanted,hg]
   rw [if_pos hw];exact .inl (mZ hE hX ae (fun x _=>hs.ev x) h fun x v w' H' ak A' h1 h2 h3=>next h1 h2 h3)
  |some p=>
   rw [hg] at h;simp only at h;obtain ⟨v,H',h1,h2⟩:=h;split at h1
   ·rename_i b hb;have hw:=p6 (fun _ _ t _ _=>hs.ev (.tmp t)) hb;cases b with
    |true=>
     rw [if_pos hw];simp only [if_true] at h1;exact .inl (mZ hE hX ae (fun x _=>hs.ev x) h1 fun x u w' gP ak A' k1 k2 k3=>by obtain ⟨rfl,rfl⟩:=k3;exact next k1 k2 h2)
    |false=>
     rw [if_neg (by rw [hw];simp)]
     simp only [Bool.false_eq_true,if_false] at h1;obtain ⟨rfl,rfl⟩:=h1;exact next (.refl ae) (.fr _ _ (.aA [] #[] rfl (by simp))) h2
   ·exact h1.elim
def lH (P:Program) (C:aK) (X:bq):Prop:=
 ∀(ops:Array Oper) (aE:List Nat) (th:List Nat) (s:ah) (H:J) (K:ah→J→Prop) (Q:Exit→Act→World→Prop) (w:World) (φ :af) (A:aj) (a:Act),iR ops aE=true→
  c8 X C ops (fun i=> !aE.contains i) (fV ops aE) th K ops.toList 0 s H→St w H φ A→SF w H φ A s a→(∀s' H' ak A' a' w',Out w H φ A w' H' ak A' →SF w' H' ak A' s' a' →K s' H' →Q .normal a' w')→wpAny P .any ops Q ops.size (Array.replicate ops.size false) a {w with drawn:=w.drawn+1}
theorem Ends.trans {o:List (Nat×Value)} {Q:Exit→Act→World→Prop} {K:Ex→ah→J→Prop} {w w1:World} {H H1:J} {φ φ1:af} {A A1:aj} (ae:St w H φ A) (h:Out w H φ A w1 H1 φ1 A1) (k:Ends o Q K w H φ A):Ends o Q K w1 H1 φ1 A1:=
 fun e s' H' ak A' a' w' h1 h2 hh h3=>k e s' H' ak A' a' w' (h.trans ae h1) h2 hh h3
structure eL (w w' :World) (c:Nat):Prop where
 os:w'.os=w.os
 tape:w'.tape=w.tape
 output:w'.output=w.output
 size:w.heap.size≤w'.heap.size
 kept: ∀c',c' ≠c→c' <w.heap.size→w'.heap[c']? =w.heap[c']?
 old: ∀arr T fr,w.heap[c]? ≠some (.cells arr T fr)
 new:VS.aU w' c=0
theorem zV (w:World) (o:Obj) (h:(match o with| .cells arr _ _=>arr.size|_=>0)=0):eL w (w.alloc o) w.heap.size:=by
 have hh:(w.alloc o).heap=w.heap.push o:=rfl;refine ⟨rfl,rfl,rfl,by rw [hh,Array.size_push];omega,fun c' aP az=> ?_,fun arr T fr h=> ?_,?_⟩
 ·rw [hh,Array.getElem?_push,if_neg aP]
 ·rw [Array.getElem?_eq_none (Nat.le_refl _)] at h;simp at h
 ·unfold VS.aU;rw [hh,Array.getElem?_push_size];cases o<;>first|exact h|rfl
theorem eL.zW {w w' :World} {c:Nat} (h:eL w w' c):VS.aU w c=0:=by
 unfold VS.aU;split
 ·rename_i arr T fr he;exact absurd he (h.old _ _ _)
 ·rfl
theorem eL.cells {w w' :World} {c:Nat} (h:eL w w' c) {c' :Nat} {arr:Array Value} {T:TypeId} {fr:Nat×Nat} (hc:w.heap[c']? =some (.cells arr T fr)):w'.heap[c']? =some (.cells arr T fr):=by
 rw [h.kept c' (fun e=>h.old arr T fr (by rw [←e];exact hc)) (Array.getElem?_eq_some_iff.1 hc).1]
 exact hc
theorem eL.p7 {w w' :World} {c:Nat} (h:eL w w' c) {c' :Nat} (hc:c' <w.heap.size):VS.aU w' c' =VS.aU w c' :=by
 by_cases e:c' =c
 ·subst e;rw [h.new,h.zW]
 ·unfold VS.aU;rw [h.kept c' e hc]
theorem eL.bE {w w' :World} {c:Nat} (h:eL w w' c) {H:J} {φ :af} {A:aj} (ae:St w H φ A):bI w H φ A w' H φ A:=
 ⟨fun _ _ _ fr hc hn=>⟨⟨fr,h.cells hc⟩,hn⟩,Nat.le_refl _,fun _ b hb _=>⟨b,hb,rfl,rfl,rfl,rfl,fun _ hl=>hl⟩,fun _ hc=>h.p7 (Ow.lt ae hc)⟩
theorem eL.st {w w' :World} {c:Nat} (h:eL w w' c) {H:J} {φ :af} {A:aj} (ae:St w H φ A):St w' H φ A:=by
 refine ⟨ae.inj,ae.own,fun c' hc=>Nat.lt_of_lt_of_le (ae.bY c' hc) h.size,fun id loc hl=> ?_⟩
 obtain ⟨b,hb,ag⟩:=ae.ap id loc hl;refine ⟨b,hb,ag.ad,ag.sized,ag.aQ,fun c' b0 he=> ?_⟩
 obtain ⟨arr,T,fr,k1,k2,k3,k4⟩:=ag.here c' b0 he
 exact ⟨arr,T,fr,h.cells k1,k2,k3,fun i x j y v hx hy hv=>⟨(k4 i x j y v hx hy hv).1.mono (h.bE ae),(k4 i x j y v hx hy hv).2⟩⟩
theorem eL.out {w0 w w' :World} {c:Nat} (h:eL w w' c) {H0 H:J} {aD φ :af} {A0 A:aj} (h0:St w0 H0 aD A0) (hc:w0.heap.size≤c) (ho:Out w0 H0 aD A0 w H φ A):Out w0 H0 aD A0 w' H φ A where
 st:=h.st ho.st
 post:=⟨h.os.trans ho.post.os,h.tape.trans ho.post.tape,h.output.trans ho.post.output,Nat.le_trans ho.post.size h.size,
  fun c' dJ hn=>(h.kept c' (by omega) (Nat.lt_of_lt_of_le dJ ho.post.size)).trans (ho.post.kept c' dJ hn),
  fun c' dJ=>(h.p7 (Nat.lt_of_lt_of_le dJ ho.post.size)).trans (ho.post.aU c' dJ),ho.post.own⟩
 bE:=ho.bE.trans (h.bE ho.st) fun c' dJ=>(h.p7 (Nat.lt_of_lt_of_le (Ow.lt h0 dJ) ho.post.size)).trans (ho.bE.sz c' dJ)
 keep:=ho.keep
theorem zX (p:gB) (x y1 y2:Code) (ax ay:AC):gF p x (.seq y1 y2) ax ay= .seq ax ay:=by
 unfold gF;split
 ·rfl
 ·cases x<;>try rfl
  rename_i draw;cases draw<;>rfl
theorem zY (p:gB) (x y:Code) (ax ay:AC):gF p x y ax ay= .seq ax ay∨ ∃id ops b0 dp cV y1 y2 b kp sp r2 c pre x0 T t u rest,x= .region id ops false∧y= .block b0 (.loop (.seq (.region dp cV false) (.seq y1 y2)))∧
 ay= .block b kp (.loop sp (.seq r2 c))∧mg ops.toList cV.toList (.seq y1 y2)=some (pre,x0,T,t,u,rest)∧
 gF p x y ax ay= .seq (.region id pre.toArray false [] [] []) (.block b kp (.jZ x0 T t u sp (.seq (.region dp rest.toArray false [] [] []) c))):=by
 unfold gF;split
 ·exact .inl rfl
 ·split
  ·split
   ·split
    ·rename_i he;exact .inr ⟨_,_,_,_,_,_,_,_,_,_,_,_,_,_,_,_,_,_,rfl,rfl,rfl,he,rfl⟩
    ·exact .inl rfl
   ·exact .inl rfl
  ·exact .inl rfl
theorem zZ {ops cV:List Oper} {y:Code} {pre:List Oper} {x:Operand} {T:TypeId} {t u:Nat} {rest:List Oper} (h:mg ops cV y=some (pre,x,T,t,u,rest)):
 ∃ro no,ops=pre ++ [ro]∧cV=no::rest∧ro.op= .range T x∧ro.dst=some t∧no.op= .next (.tmp t) true∧no.dst=some u∧u≠t∧(∀o∈ops,o.guard=none)∧(∀o∈cV,o.guard=none)∧(∀o∈rest,o.dst≠some t)∧dn t y=true:=by
 unfold mg at h;split at h
 ·rename_i ro no CO hl
  obtain ⟨ys,rfl⟩:=List.getLast?_eq_some_iff.1 hl;split at h
  ·rename_i T' x' t1 t2 u' e1 e2 e3 e4
   split at h
   ·rename_i hc;simp only [Option.some.injEq,Prod.mk.injEq] at h;obtain ⟨h1,rfl,rfl,rfl,rfl,rfl⟩:=h;simp only [List.dropLast_concat] at h1;subst h1;simp only [Bool.and_eq_true,beq_iff_eq,Bool.not_eq_true',List.all_eq_true,Option.isNone_iff_eq_none,beq_eq_false_iff_ne] at hc;obtain ⟨⟨⟨⟨⟨rfl,c2⟩,c3⟩,c4⟩,c5⟩,c6⟩:=hc;exact ⟨ro,no,rfl,rfl,e1,e2,e3,e4,c2,c3,c4,c5,c6⟩
   ·simp at h
  ·simp at h
 ·simp at h
theorem z6 {o:Oper} {ρ :Operand→Value} {T:TypeId} {x:Operand} {s:ByteArray} {w:World} (ho:o.op= .range T x) (hx: ρ x= .string s) (hu:(underlying T).run P w= .ok .string w):
 (execOp ρ o).run P w= .ok (.value (.pointer (some ⟨w.heap.size,0,none⟩))) (w.alloc (.stringIter s 0)):=by
 simp only [execOp,ho,hx,Instr.range,Sem.run_bind,hu,Result.andThen_ok,Sem.run_pure,run_newObj,World.alloc_eq]
theorem z7 {o:Oper} {ρ :Operand→Value} {t:Tmp} {s:ByteArray} {n c:Nat} {w:World} {H:J} {φ :af} {A:aj} (ho:o.op= .next (.tmp t) true) (hx: ρ (.tmp t)= .pointer (some ⟨c,0,none⟩)) (hc:w.heap[c]? =some (.stringIter s n)):
 ∃v w',(execOp ρ o).run P w= .ok (.value v) w' ∧R w' H φ A (ej s.data.toList n) v∧eL w w' c∧w'.heap[c]? =some (.stringIter s (jr s.data.toList n)):=by
 have hl:s.data.toList.length=s.size:=by cases s;rfl
 have hs:(⟨s.data.toList.toArray⟩:ByteArray)=s:=by cases s;simp
 have az:c<w.heap.size:=(Array.getElem?_eq_some_iff.1 hc).1;have eu: ∀arr T fr,w.heap[c]? ≠some (.cells arr T fr):=fun arr T fr h=>by rw [hc] at h;simp at h
 by_cases h:n<s.size
 ·refine ⟨.tuple #[.bool true,.int .i64 n,.int .i32 (Utf8.decode s n).1],{w with heap:=w.heap.setIfInBounds c (.stringIter s (n+(Utf8.decode s n).2))},?_,?_,⟨rfl,rfl,rfl,by simp,fun c' aP sP=> ?_,eu,?_⟩,?_⟩
  ·simp only [execOp,ho,hx,Instr.next,getObj,setObj,Sem.run_bind,Sem.run,hc,Result.andThen,h,if_true]
   simp [goInt]
  ·rw [ej,hl,if_pos h,hs];refine .fr _ _ (.aA _ _ rfl fun i x v hx hv=> ?_)
   match i with
   |0=>simp at hx hv;subst hx;subst hv;exact .bool _
   |1=>simp at hx hv;subst hx;subst hv;exact .int _ _
   |2=>simp at hx hv;subst hx;subst hv;exact .int _ _
   |i+3=>simp at hx
  ·simp [Ne.symm aP]
  ·simp [VS.aU,az]
  ·rw [jr,hl,if_pos h,hs];simp [az]
 ·refine ⟨.tuple #[.bool false],w,?_,?_,⟨rfl,rfl,rfl,Nat.le_refl _,fun _ _ _=>rfl,eu,?_⟩,?_⟩
  ·simp only [execOp,ho,hx,Instr.next,getObj,setObj,Sem.run_bind,Sem.run,hc,Result.andThen,h,if_false]
   rfl
  ·rw [ej,hl,if_neg h];refine .fr _ _ (.aA _ _ rfl fun i x v hx hv=> ?_)
   match i with
   |0=>simp at hx hv;subst hx;subst hv;exact .bool _
   |i+1=>simp at hx
  ·simp [VS.aU,hc]
  ·rw [jr,hl,if_neg h];exact hc
theorem et.kept {o:List (Nat×Value)} {a a' :Act} {l:List Oper} (h:et o a) (hl: ∀q∈o,∀p∈l,p.dst≠some q.1) (hk: ∀t,(∀p∈l,p.dst≠some t)→a'.tmps[t]? =a.tmps[t]?):et o a' :=
 fun q hq=>(hk q.1 (hl q hq)).trans (h q hq)
theorem iB.p8 {o:List (Nat×Value)} {id:Nat} {ops:Array Oper} {draw:Bool} (h:iB o (.region id ops draw)): ∀q∈o,∀p∈ops.toList,p.dst≠some q.1:=fun q hq p hp=>by
 have:=h q hq;simp only [dn,List.all_eq_true] at this;simpa using this p hp
def z8 (P:Program) (C:aK) (X:bq) (p:gB) (c:Code):Prop:=
 ∀(cd:Nat) (s:ah) (H:J) (K:Ex→ah→J→Prop) (Q:Exit→Act→World→Prop) (w:World) (φ :af) (A:aj) (a:Act) (o:List (Nat×Value)),iB o c→et o a→cK p c=true→aH X C (cF p cd c) s H K→St w H φ A→SF w H φ A s a→Ends o Q K w H φ A→c.wp P Q a w
theorem nh {w:World} {H:J} {φ :af} {A:aj} {s:ah} {a:Act} (kp:Option (List Nat)) (h:SF w H φ A s a):SF w H φ A (fb kp s) a:=by
 cases kp with
 |none=>exact h
 |some l=>exact h.kill l
theorem ni {w:World} {H:J} {φ :af} {A:aj} {s:ah} {a:Act} (sp:kQ) (n:Nat) (h1:St w H φ A) (h2:SF w H φ A s a): ∃ φ1,Out w H φ A w (eR sp n s H).2 φ1 A∧SF w (eR sp n s H).2 φ1 A (eR sp n s H).1 a:=by
 unfold eR;by_cases ht:sp.trim=true
 ·have ho:=zP h1 n;simp only [ht,if_true];exact ⟨_,ho,(h2.mono ho.bE).kill _⟩
 ·simp only [ht];exact ⟨φ,.refl h1,h2.kill _⟩
theorem p9 (hE: ∀t ti,C.E t=some ti→aS P t ti) (hX: ∀f ys H K,X f ys H K→b8 P f ys H K) {ops ops' :Array Oper} {th:List Nat} {fz:List (Nat×List (List Nat×List Sh))} {K:ah→J→Prop} {Q:Exit→Act→World→Prop} {l l2:List Oper} {i:Nat} {s:ah} {H:J} {w:World} {φ :af} {A:aj} {a:Act} {o:List (Nat×Value)}
 (hg:ops' =ops∨ ∀p∈l,p.guard=none) (hl: ∀q∈o,∀p∈l,p.dst≠some q.1) (hh:et o a) (h:cP X C ops' th fz K l i s H) (ae:St w H φ A) (hs:SF w H φ A s a)
 (hq: ∀s' H' ak A' a' w',Out w H φ A w' H' ak A' →SF w' H' ak A' s' a' →et o a' →K s' H' →wpList P ops Q l2 a' w'):wpList P ops Q (l ++ l2) a w:=by
 have h1:=sO (Q:=fun e a' w' =>match e with| .normal=>et o a' →wpList P ops Q l2 a' w' |e=>Q e a' w') hE hX l i s H w φ A a h ae hs fun s' H' ak A' a' w' k1 k2 k3 kh=>hq s' H' ak A' a' w' k1 k2 kh k3
 have h2:wpList P ops (fun e a' w' =>match e with| .normal=>et o a' →wpList P ops Q l2 a' w' |e=>Q e a' w') l a w:=by
  rcases hg with rfl|hg
  ·exact h1
  ·exact sN l a w hg h1
 exact p0 (fun e he a w h=>by cases e<;>first|exact absurd rfl he|exact h) l a w h2 fun a' w' hk bU=>bU (hh.kept hl hk)
theorem sQ {c:Code} {Q:Exit→Act→World→Prop} {m:Machine} {b:Frame} {k:List Item} {cs:List Frame} {e:Exit} {a1:Act} {w1:World}
 (fk:Exit.then (fun a1 w1=> ∀(b:Frame) (k:List Item) (cs:List Frame),∃e a' w',Q e a' w' ∧Arrives P (lone (b.at a1 (.code c:: .inLoop c::k)) cs w1) b k cs e a' w') Q e a1 w1) (cW:Arrives P m b (.inLoop c::k) cs e a1 w1): ∃e a' w',Q e a' w' ∧Arrives P m b k cs e a' w' :=by
 cases e with
 |normal=>
  obtain ⟨z_,a₂,Aa,Ab,Ac⟩:=fk b k cs;exact ⟨z_,a₂,Aa,Ab,.of_steps (Steps.trans cW (.one step_inLoop)) Ac⟩
 |exit id=>exact ⟨_,a1,w1,fk,.pass (x:= .inLoop c) rfl (fun _ _=> .inl (by simp)) cW⟩
 |goto l=>exact ⟨_,a1,w1,fk,.pass (x:= .inLoop c) rfl (fun _ _=> .inl (by simp)) cW⟩
 |ret=>exact ⟨_,a1,w1,fk,.pass (x:= .inLoop c) rfl (fun _ _=> .inl (by simp)) cW⟩
 |panic ch=>exact ⟨_,a1,w1,fk,.pass (x:= .inLoop c) rfl (fun _ _=> .inl (by simp)) cW⟩
 |outgrown=>exact ⟨_,a1,w1,fk,.pass (x:= .inLoop c) rfl (fun _ _=> .inl (by simp)) cW⟩
theorem Ad (hm:P.follows .mixedOrders=true) (hE: ∀t ti,C.E t=some ti→aS P t ti) (hX: ∀f ys H K,X f ys H K→b8 P f ys H K) (hD:lH P C X) (p:gB):
 ∀(n:Nat) (c:Code),SizeOf.sizeOf c<n→z8 P C X p c:=by
 intro n;induction n with
 |zero=>intro c hn;exact absurd hn (Nat.not_lt_zero _)
 |succ n IH=>
 intro c hn;cases c with
 |skip=>intro cd s H K Q w φ A a o hf hh ho h ae hs hq;exact wp_skip (hq .normal s H φ A a w (.refl ae) hs hh h)
 |ret=>intro cd s H K Q w φ A a o hf hh ho h ae hs hq;exact wp_ret (hq .ret s H φ A a w (.refl ae) hs hh h)
 |exit id=>intro cd s H K Q w φ A a o hf hh ho h ae hs hq;exact wp_exit (hq (.exit id) s H φ A a w (.refl ae) hs hh h)
 |seq x y=>
  simp only [Code.seq.sizeOf_spec] at hn;have Ae:=IH x (by omega)
  have p_:=IH y (by omega)
  intro cd s H K Q w φ A a o hf hh ho h ae hs hq;have sR:iB o x:=fun q h=>by have:=hf q h;simp only [dn,Bool.and_eq_true] at this;exact this.1
  have lI:iB o y:=fun q h=>by have:=hf q h;simp only [dn,Bool.and_eq_true] at this;exact this.2
  simp only [cF] at h;simp only [cK,Bool.and_eq_true] at ho;rcases zY p x y (cF p cd x) (cF p cd y) with e|⟨id,ops,b0,dp,cV,y1,y2,b,kp,sp,r2,c,pre,x0,T,t,u,rest,rfl,rfl,sT,hr,he⟩
  ·rw [e] at h;simp only [aH] at h;refine wp_seq (Ae cd s H _ _ w φ A a o sR hh ho.1 h ae hs fun e s' H' ak A' a' w' h1 h2 bU h3=> ?_)
   cases e with
   |normal=>exact p_ cd s' H' K Q w' ak A' a' o lI bU ho.2 h3 h1.st h2 (Ends.trans ae h1 hq)
   |exit id=>exact hq (.exit id) s' H' ak A' a' w' h1 h2 bU h3
   |ret=>exact hq .ret s' H' ak A' a' w' h1 h2 bU h3
  ·
   rw [he] at h;obtain ⟨ro,no,e1,e2,e3,e4,e5,e6,Af,hg,ka,hw,Ag⟩:=zZ hr;simp only [cF,zX,AC.block.injEq,AC.loop.injEq,AC.seq.injEq] at sT;obtain ⟨rfl,rfl,rfl,_,qa⟩:=sT;have aB:SizeOf.sizeOf (Code.seq y1 y2)<n:=by
    simp only [Code.block.sizeOf_spec,Code.loop.sizeOf_spec,Code.seq.sizeOf_spec] at hn⊢;omega
   have fl:=IH (.seq y1 y2) aB;have fZ:=sR.p8;have sU: ∀q∈o,∀p∈cV.toList,p.dst≠some q.1:=iB.p8 (id:=dp) (draw:=false) fun q h=>by have:=lI q h;simp only [dn,Bool.and_eq_true] at this;simpa only [dn] using this.1
   have Ah: ∀q∈o,dn q.1 (.seq y1 y2)=true:=fun q h=>by have:=lI q h;simp only [dn,Bool.and_eq_true] at this⊢;exact this.2
   simp only [cK,Bool.and_eq_true] at ho;simp only [aH] at h;refine wp_seq (wp_region_list ?_);rw [e1] at hg fZ⊢;refine p9 hE hX (ops' :=pre.toArray) (.inr fun q hq=>hg q (List.mem_append_left _ hq)) (fun q hq p hp=>fZ q hq p (List.mem_append_left _ hp)) hh h ae hs fun s1 H1 φ1 A1 a1 w1 g1 g2 g3 g4=> ?_
   split at g4
   ·rename_i ti l jJ qb;obtain ⟨Ai,eG,g4⟩:=g4;have hv:=g2.ev x0;rw [qb] at hv;obtain ⟨sB,Aj,rfl⟩:=hv.eD;have cL:=z6 (P:=P) (o:=ro) (ρ :=a1.eval) (w:=w1) e3 Aj ((hE _ _ jJ).iT w1 Ai);have cA:eL w1 (w1.alloc (.stringIter sB 0)) w1.heap.size:=zV w1 _ rfl;have Ak:(w1.alloc (.stringIter sB 0)).heap[w1.heap.size]? =some (.stringIter sB 0):=Array.getElem?_push_size;have dN:w.heap.size≤w1.heap.size:=g1.post.size;generalize CP:w1.heap.size=cc at*;simp only [wpList];rw [if_pos (by simp [Region.wanted,hg ro (by simp)])]
    refine .inl ?_;unfold Oper.wp;rw [cL,Oper.upon_value,e4];simp only [Exit.then];refine wp_block ?_;have sV:=cA.out ae dN g1;have gf:SF (w1.alloc (.stringIter sB 0)) H1 φ1 A1 (s1.set t .undef) (a1.put (some t) (.pointer (some ⟨cc,0,none⟩))):=(g2.mono (cA.bE g1.st)).set (some t) (.fr _ _ (.undef _));have nj:et ((t,.pointer (some ⟨cc,0,none⟩))::o) (a1.put (some t) (.pointer (some ⟨cc,0,none⟩))):=by
     intro q hq;rcases List.mem_cons.1 hq with rfl|hq
     ·simp only [Act.put,Array.getElem?_setIfInBounds,if_true];rw [if_pos (by rw [←g2.len];exact eG)]
     ·have:=fZ q hq ro (by simp)
      rw [e4] at this;exact (kr this).trans (g3 q hq)
    have main:=g4 (fun n s2 H2=> ∀(w2:World) (a8:af) (A2:aj) (a2:Act),SF w2 H2 a8 A2 s2 a2→Out w H φ A w2 H2 a8 A2→et ((t,.pointer (some ⟨cc,0,none⟩))::o) a2→w2.heap[cc]? =some (.stringIter sB n)→
     ∀(b:Frame) (k:List Item) (cs:List Frame),∃e a' fN,Exit.inBlock b0 Q e a' fN∧Arrives P (lone (b.at a2 (.code (.seq (.region dp cV false) (.seq y1 y2)):: .inLoop (.seq (.region dp cV false) (.seq y1 y2))::k)) cs w2) b k cs e a' fN) (fun n s2 H2 hB w2 a8 A2 a2 gf bu nj hit b k cs=>by
      have hx:a2.eval (.tmp t)= .pointer (some ⟨cc,0,none⟩):=by
       have:=nj _ List.mem_cons_self;simp only [Act.eval,Array.getD_eq_getD_getElem?];rw [this];rfl
      obtain ⟨v,w3,Al,Am,sW,qc⟩:=z7 (P:=P) (H:=H2) (φ :=a8) (A:=A2) e5 hx hit;have nk:=sW.out ae dN bu;have qd:SF w3 H2 a8 A2 (s2.set u (ej sB.data.toList n)) (a2.put (some u) v):=(gf.mono (sW.bE bu.st)).set (some u) Am;have An:et ((t,.pointer (some ⟨cc,0,none⟩))::o) (a2.put (some u) v):=by
       intro q hq;refine (kr ?_).trans (nj q hq);rcases List.mem_cons.1 hq with rfl|hq
       ·simp only [ne_eq,Option.some.injEq];exact Af
       ·rw [←e6];exact sU q hq no (by rw [e2];simp)
      simp only at hB;have hwp:(Code.seq (.region dp cV false) (.seq y1 y2)).wp P (Exit.then (fun a3 w3=> ∀(b:Frame) (k:List Item) (cs:List Frame),∃e a' fN,Exit.inBlock b0 Q e a' fN∧Arrives P (lone (b.at a3 (.code (.seq (.region dp cV false) (.seq y1 y2)):: .inLoop (.seq (.region dp cV false) (.seq y1 y2))::k)) cs w3) b k cs e a' fN) (Exit.inBlock b0 Q)) a2 w2:=by
       refine wp_seq (wp_region_list ?_);rw [e2];simp only [wpList];rw [if_pos (by simp [Region.wanted,ka no (by rw [e2];simp)])]
       refine .inl ?_;unfold Oper.wp;rw [Al,Oper.upon_value,e6];have:=p9 (ops:=cV) (Q:=Exit.then (Code.wp P (.seq y1 y2) (Exit.then (fun a3 w3=> ∀(b:Frame) (k:List Item) (cs:List Frame),∃e a' fN,Exit.inBlock b0 Q e a' fN∧Arrives P (lone (b.at a3 (.code (.seq (.region dp cV false) (.seq y1 y2)):: .inLoop (.seq (.region dp cV false) (.seq y1 y2))::k)) cs w3) b k cs e a' fN) (Exit.inBlock b0 Q))) (Exit.then (fun a3 w3=> ∀(b:Frame) (k:List Item) (cs:List Frame),∃e a' fN,Exit.inBlock b0 Q e a' fN∧Arrives P (lone (b.at a3 (.code (.seq (.region dp cV false) (.seq y1 y2)):: .inLoop (.seq (.region dp cV false) (.seq y1 y2))::k)) cs w3) b k cs e a' fN) (Exit.inBlock b0 Q))) (l2:=[]) hE hX (.inr fun q hq=>ka q (by rw [e2];exact List.mem_cons_of_mem _ hq)) (fun q hq p hp=>by
        rcases List.mem_cons.1 hq with rfl|hq
        ·exact hw p hp
        ·exact sU q hq p (by rw [e2];exact List.mem_cons_of_mem _ hp)) An hB nk.st qd fun s4 H4 nl A4 a4 w4 k1 k2 k3 k4=>by
         refine fl b0 s4 H4 _ _ w4 nl A4 a4 _ (fun q hq=>by
          rcases List.mem_cons.1 hq with rfl|hq
          ·exact Ag
          ·exact Ah q hq) k3 (by simp only [cK,Bool.and_eq_true];exact ho.2.2) (qa▸k4) k1.st k2 fun e s' H' ak A' a' w' j1 j2 j3 j4=> ?_
         have Ao:=nk.trans ae k1;have nn:=Ao.trans ae j1;cases e with
         |normal=>
          obtain ⟨qe,m1,m2⟩:=ni _ H1.bs.length j1.st j2;refine j4 w' qe A' a' m2 (nn.trans ae m1) j3 ?_
          have hk:=(k1.trans nk.st j1).post.kept cc (Array.getElem?_eq_some_iff.1 qc).1 (fun ho=>by
           obtain ⟨id,b1,bL⟩:=ho;obtain ⟨bb,_,ag⟩:=nk.st.ap id _ bL;obtain ⟨arr,T,fr,z,_⟩:=ag.here cc b1 rfl;rw [qc] at z;simp at z)
          rw [hk];exact qc
         |exit j=>
          have sY:et o a' :=fun q hq=>j3 q (List.mem_cons_of_mem _ hq)
          simp only at j4;simp only [na,Exit.then,Exit.inBlock];split at j4
          ·rename_i hj;rw [if_pos hj];exact hq .normal _ H' ak A' a' w' nn (nh _ j2) sY j4
          ·rename_i hj;rw [if_neg hj];exact hq (.exit j) s' H' ak A' a' w' nn j2 sY j4
         |ret=>exact hq .ret s' H' ak A' a' w' nn j2 (fun q hq=>j3 q (List.mem_cons_of_mem _ hq)) j4
       simpa using this
      obtain ⟨e,a1,w1,fk,cW⟩:=hwp b (.inLoop _::k) cs;exact sQ fk cW)
    intro b k cs;obtain ⟨cN,k1,k2⟩:=ni _ H1.bs.length sV.st gf;obtain ⟨e,a',w',qf,cW⟩:=main _ cN A1 _ k2 (sV.trans ae k1) nj Ak b k cs;exact ⟨e,a',w',qf,.of_steps (.one step_loop) cW⟩
   ·exact g4.elim
 |cond x y z=>
  simp only [Code.cond.sizeOf_spec] at hn;have p_:=IH y (by omega)
  have Ap:=IH z (by omega)
  intro cd s H K Q w φ A a o hf hh ho h ae hs hq;have lI:iB o y:=fun q h=>by have:=hf q h;simp only [dn,Bool.and_eq_true] at this;exact this.1
  have gn:iB o z:=fun q h=>by have:=hf q h;simp only [dn,Bool.and_eq_true] at this;exact this.2
  simp only [cK,Bool.and_eq_true] at ho;have key: ∀(K:Ex→ah→J→Prop),aH X C (.cond x (cF p cd y) (cF p cd z)) s H K→Ends o Q K w H φ A→(Code.cond x y z).wp P Q a w:=by
   intro K h hq;simp only [aH] at h;split at h
   ·rename_i t ht;have hv:=hs.ev x;rw [ht] at hv;refine wp_cond hv.ff ?_;cases t with
    |true=>exact p_ cd s H K Q w φ A a o lI hh ho.1 h ae hs hq
    |false=>exact Ap cd s H K Q w φ A a o gn hh ho.2 h ae hs hq
   ·exact h.elim
  simp only [cF] at h;unfold me at h;split at h
  ·rename_i kp _;simp only [aH,dH] at h;refine key _ h fun e s' H' ak A' a' w' h1 h2 bU h3=> ?_
   cases e with
   |normal=>exact hq .normal _ H' ak A' a' w' h1 (h2.kill kp) bU h3
   |exit id=>exact hq (.exit id) s' H' ak A' a' w' h1 h2 bU h3
   |ret=>exact hq .ret s' H' ak A' a' w' h1 h2 bU h3
  ·exact key K h hq
 |block id x=>
  simp only [Code.block.sizeOf_spec] at hn;have ih:=IH x (by omega)
  intro cd s H K Q w φ A a o hf hh ho h ae hs hq;simp only [cF,aH] at h;simp only [cK] at ho;refine wp_block (ih id s H _ _ w φ A a o (fun q h=>by have:=hf q h;simpa only [dn] using this) hh ho h ae hs fun e s' H' ak A' a' w' h1 h2 bU h3=> ?_)
  cases e with
  |normal=>exact hq .normal _ H' ak A' a' w' h1 (nh _ h2) bU h3
  |exit j=>
   simp only at h3;simp only [na,Exit.inBlock];split at h3
   ·rename_i hj;rw [if_pos hj];exact hq .normal _ H' ak A' a' w' h1 (nh _ h2) bU h3
   ·rename_i hj;rw [if_neg hj];exact hq (.exit j) s' H' ak A' a' w' h1 h2 bU h3
  |ret=>exact hq .ret s' H' ak A' a' w' h1 h2 bU h3
 |loop c=>
  simp only [Code.loop.sizeOf_spec] at hn;have ih:=IH c (by omega)
  intro cd s H K Q w φ A a o hf hh ho h ae hs hq;have Aq:iB o c:=fun q h=>by have:=hf q h;simpa only [dn] using this
  simp only [cF,aH] at h;intro b k cs;have main:=h (fun s H=> ∀(w:World) (φ :af) (A:aj) (a:Act),St w H φ A→SF w H φ A s a→et o a→Ends o Q K w H φ A→
   ∀(b:Frame) (k:List Item) (cs:List Frame),∃e a' w',Q e a' w' ∧Arrives P (lone (b.at a (.code c:: .inLoop c::k)) cs w) b k cs e a' w') (fun s H hB w φ A a ae hs hh hq b k cs=>by
    obtain ⟨e,a1,w1,fk,cW⟩:=ih cd s H _ (Exit.then (fun a1 w1=> ∀(b:Frame) (k:List Item) (cs:List Frame),∃e a' w',Q e a' w' ∧Arrives P (lone (b.at a1 (.code c:: .inLoop c::k)) cs w1) b k cs e a' w') Q) w φ A a o Aq hh (by simpa only [cK] using ho) hB ae hs (fun e s' H' ak A' a' w' h1 h2 bU h3=>by
     cases e with
     |normal=>
      obtain ⟨φ1,k1,k2⟩:=ni ((p.loops.lookup cd).getD {}) _ h1.st h2;exact h3 w' φ1 A' a' k1.st k2 bU (Ends.trans ae (h1.trans ae k1) hq)
     |exit id=>exact hq (.exit id) s' H' ak A' a' w' h1 h2 bU h3
     |ret=>exact hq .ret s' H' ak A' a' w' h1 h2 bU h3) b (.inLoop c::k) cs
    exact sQ fk cW)
  obtain ⟨φ1,k1,k2⟩:=ni ((p.loops.lookup cd).getD {}) H.bs.length ae hs;obtain ⟨e,a',w',qf,cW⟩:=main w φ1 A a k1.st k2 hh (Ends.trans ae k1 hq) b k cs;exact ⟨e,a',w',qf,.of_steps (.one step_loop) cW⟩
 |region id ops draw=>
  intro cd s H K Q w φ A a o hf hh ho h ae hs hq;have hl:=hf.p8;have key: ∀(K:Ex→ah→J→Prop),aH X C (iP (p.oe.lookup id) ((p.fz.lookup id).getD []) id (fS (p.gD.lookup id) ops) draw) s H K→Ends o Q K w H φ A→(Code.region id ops draw).wp P Q a w:=by
   intro K h hq;cases draw with
   |false=>
    have eu:fS (p.gD.lookup id) ops=ops:=by
     simp only [cK] at ho;cases hl:p.gD.lookup id with
     |none=>rfl
     |some π =>rw [hl] at ho;simp at ho
    rw [eu] at h;have h' :cP X C ops (match p.oe.lookup id with|some (_,th)=>th|none=>[]) ((p.fz.lookup id).getD []) (fun s H=>K .normal s H) ops.toList 0 s H:=by
     unfold iP at h;split at h
     ·rename_i n th he;rw [he];exact h
     ·rename_i he;rw [he];exact h
    have:=p9 (Q:=Q) (l2:=[]) hE hX (.inl rfl) hl hh h' ae hs fun s' H' ak A' a' w' h1 h2 bU h3=>hq .normal s' H' ak A' a' w' h1 h2 bU h3
    exact wp_region_list (by simpa using this)
   |true=>
    have h' : ∃q th,iR (fS (p.gD.lookup id) ops) q=true∧c8 X C (fS (p.gD.lookup id) ops) (fun i=> !q.contains i) (fV (fS (p.gD.lookup id) ops) q) th (fun s H=>K .normal s H) (fS (p.gD.lookup id) ops).toList 0 s H:=by
     unfold iP at h;split at h
     ·exact ⟨_,_,h.1,h.2⟩
     ·exact ⟨_,_,h.1,h.2⟩
    obtain ⟨q,th,hd,h'⟩:=h';have hw:=hD _ q th s H _ (fun e a' w' =>match e with| .normal=>et o a' →Q .normal a' w' |e=>Q e a' w') w φ A a hd h' ae hs fun s' H' ak A' a' w' h1 h2 h3 bU=>hq .normal s' H' ak A' a' w' h1 h2 bU h3
    refine wp_region_any hm ?_;refine ng (Q:=fun e a' w' =>match e with| .normal=>et o a' →Q .normal a' w' |e=>Q e a' w') (fun e he a w h=>by cases e<;>first|exact absurd rfl he|exact h) _ _ a _ ?_ fun a' w' hk bU=>bU (hh.kept hl hk)
    simp only [cK] at ho;cases hl:p.gD.lookup id with
    |none=>rw [hl] at hw;exact hw
    |some π =>
     rw [hl] at hw ho;simp only [Bool.true_and] at ho;exact zO (zI ho) hw
  simp only [cF] at h;unfold j0 at h;split at h
  ·rename_i l kp _;simp only [aH] at h;refine key _ h fun e s' H' ak A' a' w' h1 h2 bU h3=> ?_
   cases e with
   |normal=>
    simp only at h3;split at h3
    ·rename_i s2 H2 hf;obtain ⟨a8,A2,k1,k2⟩:=nf l h1.st h2 hf;exact hq .normal _ H2 a8 A2 a' w' (h1.trans ae k1) (nh kp k2) bU h3
    ·exact h3.elim
   |exit id=>exact hq (.exit id) s' H' ak A' a' w' h1 h2 bU h3
   |ret=>exact hq .ret s' H' ak A' a' w' h1 h2 bU h3
  ·exact key K h hq
 |_=>intro cd s H K Q w φ A a o hf hh ho h ae hs hq;simp only [cF,aH] at h
theorem sZ (hm:P.follows .mixedOrders=true) (hE: ∀t ti,C.E t=some ti→aS P t ti) (hX: ∀f ys H K,X f ys H K→b8 P f ys H K) (hD:lH P C X) (p:gB)
 (c:Code) (cd:Nat) (s:ah) (H:J) (K:Ex→ah→J→Prop) (Q:Exit→Act→World→Prop) (w:World) (φ :af) (A:aj) (a:Act) (ho:cK p c=true) (h:aH X C (cF p cd c) s H K) (ae:St w H φ A) (hs:SF w H φ A s a)
 (hq: ∀e s' H' ak A' a' w',Out w H φ A w' H' ak A' →SF w' H' ak A' s' a' →K e s' H' →Q (na e) a' w'):c.wp P Q a w:=
 Ad hm hE hX hD p _ c (Nat.lt_succ_self _) cd s H K Q w φ A a [] (fun q h=>by simp at h) (fun q h=>by simp at h) ho h ae hs fun e s' H' ak A' a' w' h1 h2 _ h3=>hq e s' H' ak A' a' w' h1 h2 h3
end code
end Go.VS
namespace Go.VS
section body
variable {P:Program} {C:aK} {X:bq}
theorem qg (hE: ∀t ti,C.E t=some ti→aS P t ti) {w:World} {H:J} {φ :af} {A:aj} {s:ah} {a:Act} (ae:St w H φ A) (hs:SF w H φ A s a) {f:ResultVar→Sem Value} (lJ: ∀t,f (.tmp t)=pure (a.tmps.getD t undef)) (lK: ∀x t,f (.cell x t)=(do loadVar t (←asAddr (a.tmps.getD x undef)))):
 ∀(l:List ResultVar) (rs:List AV),dI C.E s H l=some rs→
 ∃cI:List Value,(l.mapM f).run P w= .ok cI w∧rs.length=cI.length∧ ∀(i:Nat) (x:AV) (u:Value),rs[i]? =some x→cI[i]? =some u→R w H φ A x u
 |[],rs,h=>by
  simp only [dI,Option.some.injEq] at h;subst h;exact ⟨[],by simp,rfl,by simp⟩
 | .tmp t::l,rs,h=>by
  simp only [dI,Option.map_eq_some_iff] at h;obtain ⟨qh,h1,rfl⟩:=h;obtain ⟨cI,k1,k2,k3⟩:=qg hE ae hs lJ lK l qh h1
  refine ⟨a.tmps.getD t undef::cI,by simp [List.mapM_cons,k1,lJ],by simp [k2],fun i x u hx hu=> ?_⟩
  cases i with
  |zero=>simp at hx hu;subst hx;subst hu;have:=hs.ev (.tmp t);simpa [ev,Act.eval] using this
  |succ i=>exact k3 i x u hx hu
 | .cell b t::l,rs,h=>by
  simp only [dI] at h;split at h
  ·rename_i v H' he
   simp only [Option.map_eq_some_iff] at h;obtain ⟨qh,h1,rfl⟩:=h;obtain ⟨cI,k1,k2,k3⟩:=qg hE ae hs lJ lK l qh h1
   have hb:=hs.ev (.tmp b);simp only [aO] at he;obtain ⟨u,hu,hr⟩:=ru (P:=P) hE ae (bf.refl H) hb he;have aN:(do loadVar t (←asAddr (a.tmps.getD b undef)):Sem Value).run P w= .ok u w:=by
    revert hu;simp only [Act.eval];unfold Instr.loadAt;generalize a.tmps.getD b undef=q;intro hu;cases q with
    |pointer o=>cases o with
     |none=>simp [Instr.sureAddr] at hu
     |some o=>simpa [Instr.sureAddr,asAddr] using hu
    |_=>simp [Instr.sureAddr] at hu
   refine ⟨u::cI,by rw [List.mapM_cons,lK,Sem.run_bind,aN];simp [k1],by simp [k2],fun i x u' hx aN=> ?_⟩
   cases i with
   |zero=>simp at hx aN;subst hx;subst aN;exact hr
   |succ i=>exact k3 i x u' hx aN
  ·simp at h
theorem s7 (hE: ∀t ti,C.E t=some ti→aS P t ti) {w:World} {H:J} {φ :af} {A:aj} {s:ah} {a:Act} (ae:St w H φ A) (hs:SF w H φ A s a) {fn:Func} {rs:List AV} (h:dI C.E s H fn.results.toList=some rs):
 ∃cI:List Value,(results fn a.tmps).run P w= .ok (iy cI) w∧rs.length=cI.length∧ ∀(i:Nat) (x:AV) (u:Value),rs[i]? =some x→cI[i]? =some u→R w H φ A x u:=by
 obtain ⟨f,lJ,lK,Ar⟩: ∃f:ResultVar→Sem Value,(∀t,f (.tmp t)=pure (a.tmps.getD t undef))∧(∀x t,f (.cell x t)=(do loadVar t (←asAddr (a.tmps.getD x undef))))∧
  results fn a.tmps=(do let vs←fn.results.mapM f;pure (if h:vs.size=1 then vs[0] else .tuple vs)):=⟨_,fun _=>rfl,fun _ _=>rfl,rfl⟩
 obtain ⟨cI,h1,h2,h3⟩:=qg hE ae hs lJ lK fn.results.toList rs h;refine ⟨cI,?_,h2,h3⟩;rw [Ar,Sem.run_bind,Array.mapM_eq_mapM_toList,Sem.run_map,h1]
 match cI with
 |[]=>simp [iy]
 |[u]=>simp [iy]
 |u::u' ::us=>simp [iy]
theorem As (hm:P.follows .mixedOrders=true) (hE: ∀t ti,C.E t=some ti→aS P t ti) (hC: ∀f fn,C.code f=some fn→P.funcs[f]? =some fn∧(fn.name== "runtime.NumGoroutine")=false∧oi (C.fT f) fn=true) (hX: ∀f ys H K,X f ys H K→b8 P f ys H K) (hD:lH P C X)
 {f:FuncId} {ys:List AV} {H:J} {K:AV→J→Prop} (h:Body X C f ys H K):b8 P f ys H K:=by
 unfold Body at h;split at h
 ·exact h.elim
 rename_i fn kX;split at h
 ·exact h.elim
 rename_i c hc;obtain ⟨hf,qi,lL⟩:=hC f fn kX;have lL:cK (C.fT f) c=true:=by unfold oi at lL;rw [hc] at lL;exact lL
 refine ⟨⟨fn,hf,qi,by simp [hc]⟩,fun w A φ us ae hl hr=> ?_⟩
 refine calls_of_wp hf hc (sZ hm hE hX hD (C.fT f) c 0 _ H _ _ w φ A _ lL h ae ⟨by simp [hl],fun t x v hx hv=> ?_,rfl⟩ ?_)
 ·rcases Nat.lt_or_ge t us.size with ht|ht
  ·rw [List.getElem?_append_left (by rw [hl];exact ht)] at hx
   rw [Array.getElem?_append_left ht] at hv;exact hr t x v hx hv
  ·rw [List.getElem?_append_right (by rw [hl];exact ht)] at hx
   have:x= .undef:=by
    rw [List.getElem?_replicate] at hx;split at hx<;>simp at hx;exact hx.symm
   subst this;exact .fr _ _ (.undef _)
 ·intro e s' H' ak A' a' w' h1 h2 h3
  have fin:(∃rs,dI C.E s' H' fn.results.toList=some rs∧K (cj rs) H')→a'.defers=[]∧ ∃v,(results fn a'.tmps).run P w' = .ok v w' ∧jc w H φ A K (.returned v) w' :=by
   rintro ⟨rs,jH,hk⟩;refine ⟨h2.eW,?_⟩;obtain ⟨cI,k1,k2,k3⟩:=s7 (P:=P) hE h1.st h2 jH;exact ⟨_,k1,_,H',ak,A',h1,pL k2 k3,hk⟩
  cases e with
  |normal=>exact fin h3
  |ret=>exact fin h3
  |exit id=>exact h3.elim
end body
end Go.VS
namespace Go.VS
def fO (H H1:J):Prop:=bf H H1∧H.bs.length≤H1.bs.length
theorem bf.trans {H H1 H2:J} (h:bf H H1) (k:bf H1 H2):bf H H2:=⟨fun id b hb=>k.1 id b (h.1 id b hb),Nat.le_trans h.2 k.2⟩
theorem fO.refl (H:J):fO H H:=⟨bf.refl _,Nat.le_refl _⟩
theorem fO.trans {H H1 H2:J} (h:fO H H1) (k:fO H1 H2):fO H H2:=⟨h.1.trans k.1,Nat.le_trans h.2 k.2⟩
theorem fO.new (H:J) (sz:Nat) (fx:Bool) (el:List AV):fO H (H.new sz fx el):=⟨J.oK H sz fx el,by simp [J.new]⟩
mutual
theorem qj: ∀(y:AV) (H:J),fO H (aI y H).2
 | .own sz xs,H=>by simp only [aI];exact (jd xs H).trans (.new _ _ _ _)
 | .dy sz x,H=>by simp only [aI];exact (qj x H).trans (.new _ _ _ _)
 | .agg xs,H=>by simp only [aI];exact jd xs H
 | .aA xs,H=>by simp only [aI];exact jd xs H
 | .undef,H=> .refl _
 | .int _ _,H=> .refl _
 | .bool _,H=> .refl _
 | .str _,H=> .refl _
 | .nil,H=> .refl _
 | .e0,H=> .refl _
 | .fz _,H=> .refl _
 | .ref _ _ _ _,H=> .refl _
 | .ptr _ _ _ _,H=> .refl _
 | .fe _ _,H=> .refl _
 | .fn _ _,H=> .refl _
 | .ct _,H=> .refl _
 | .dG,H=> .refl _
theorem jd: ∀(ys:List AV) (H:J),fO H (aJ ys H).2
 |[],H=> .refl _
 |y::ys,H=>by simp only [aJ];exact (qj y H).trans (jd ys _)
end
structure GH (G:J) (φ :af) (H H1:J):Prop where
 ext:bf H1 G
 none: ∀id,H.bs.length≤id→id<H1.bs.length→ φ id=none
theorem kt (H:J) (sz:Nat) (fx:Bool) (el:List AV):(H.new sz fx el).bs.length=H.bs.length+1:=by simp [J.new]
theorem GH.fst {G:J} {φ :af} {H H1 H2:J} (h:GH G φ H H2) (k:fO H1 H2):GH G φ H H1:=⟨k.1.trans h.ext,fun id h1 h2=>h.none id h1 (Nat.lt_of_lt_of_le h2 k.2)⟩
section bB
variable {w:World}
structure MG (w:World) (L:J) (φL:af) (AL:aj) (G:J) (φ :af) (AH:aj) (L1:J) (φ1:af) (lo hi:Nat):Prop where
 less:bF L L1
 bB:b5 w L1 (aF φL L1) AL G φ1 AH
 oh: ∀c,Ow φ1 c→Ow φ c∨(Ow φL c∧ ¬Ow (aF φL L1) c)
 ik: ∀c,Ow φ c→Ow φ1 c
 b6: ∀id loc,φ id=some loc→ φ1 id=some loc
 new: ∀id loc,φ1 id=some loc→ φ id=some loc∨(lo≤id∧id<hi)
 le:lo≤hi
theorem MG.eh {L:J} {φL:af} {AL:aj} {G:J} {φ :af} {AH:aj} {L1:J} {φ1:af} {lo hi:Nat} (m:MG w L φL AL G φ AH L1 φ1 lo hi):bI w G φ AH w G φ1 AH:=
 ⟨fun _c _arr _T fr hc hn=>⟨⟨fr,hc⟩,hn⟩,Nat.le_refl _,fun id b hb _=>⟨b,hb,rfl,rfl,rfl,rfl,fun loc h=>m.b6 id loc h⟩,fun _ _=>rfl⟩
theorem MG.refl {L:J} {φL:af} {AL:aj} {G:J} {φ :af} {AH:aj} (h:b5 w L φL AL G φ AH) (lo:Nat):MG w L φL AL G φ AH L φ lo lo:=
 ⟨.refl _,⟨er h.sl (.refl _),h.sh,fun c hc=>h.cg c (bM hc),fun c hc=>h.eH c (bM hc)⟩,fun _c hc=> .inl hc,fun _c hc=>hc,fun _ _ h=>h,fun _ _ h=> .inl h,Nat.le_refl _⟩
theorem MG.trans {L L1 L2:J} {φL:af} {AL:aj} {G:J} {φ φ1 a8:af} {AH:aj} {lo mi hi:Nat} (h:MG w L φL AL G φ AH L1 φ1 lo mi) (k:MG w L1 (aF φL L1) AL G φ1 AH L2 a8 mi hi):MG w L φL AL G φ AH L2 a8 lo hi:=by
 have hr:=gh (φ := φL) k.less;refine ⟨h.less.trans k.less,by rw [←hr];exact k.bB,fun c hc=> ?_,fun c hc=>k.ik c (h.ik c hc),fun id loc hl=>k.b6 id loc (h.b6 id loc hl),fun id loc hl=> ?_,Nat.le_trans h.le k.le⟩
 ·rcases k.oh c hc with h1|⟨h1,h2⟩
  ·rcases h.oh c h1 with h3|⟨h3,h4⟩
   ·exact .inl h3
   ·refine .inr ⟨h3,fun h5=>h4 ?_⟩;rw [←hr] at h5;exact bM h5
  ·rw [hr] at h2;exact .inr ⟨bM h1,h2⟩
 ·have h1:=h.le;have h2:=k.le;rcases k.new id loc hl with h3|⟨h3,h4⟩
  ·rcases h.new id loc h3 with h5|⟨h5,h6⟩
   ·exact .inl h5
   ·exact .inr ⟨h5,by omega⟩
  ·exact .inr ⟨by omega,h4⟩
theorem GH.snd {L L1:J} {φL:af} {AL:aj} {G:J} {φ φ1:af} {AH:aj} {H H1 H2:J} (h:GH G φ H H2) (m:MG w L φL AL G φ AH L1 φ1 H.bs.length H1.bs.length):GH G φ1 H1 H2:=by
 refine ⟨h.ext,fun id h1 h2=> ?_⟩;cases hp: φ1 id with
 |none=>rfl
 |some loc=>
  have hle:=m.le;rcases m.new id loc hp with h3|⟨_,h3⟩
  ·rw [h.none id (by omega) h2] at h3;simp at h3
  ·omega
theorem s8 {L L1:J} {φL:af} {AL:aj} {G:J} {φ φ1:af} {AH:aj} {lo hi:Nat} (m:MG w L φL AL G φ AH L1 φ1 lo hi) {ad sz:Nat} {fx:Bool} {el:List AV} {loc:Loc} (hg:G.get hi=some ⟨ad,sz,fx,el⟩) (bQ:ad<G.st) (iu: φ hi=none)
 (eo: ∀(i:Nat) (x:AV),el[i]? =some x→x.cells.length=sz) (hv:loc= .aQ→el=[])
 (eI: ∀c b0,loc= .at_ c b0→Ow φL c∧ ¬Ow (aF φL L1) c∧ ¬Ow φ1 c∧AH c∧ ∃arr T fr,w.heap[c]? =some (.cells arr T fr)∧(∀j,j<arr.size→ ¬(fr.1≤j∧j<fr.2))∧b0+el.length*sz≤arr.size∧
  ∀(i:Nat) (x:AV) (j:Nat) (y:AV) (v:Value),el[i]? =some x→x.cells[j]? =some y→arr[b0+i*sz+j]? =some v→R w G φ1 AH y v∧v.oneCell' =true):
 MG w L φL AL G φ AH L1 (fun i=>if i=hi then some loc else φ1 i) lo (hi+1):=by
 have fI:=m.bB.sh;have hle:=m.le;have br: φ1 hi=none:=by
  cases hp: φ1 hi with
  |none=>rfl
  |some l=>
   rcases m.new hi l hp with h|⟨_,h⟩
   ·rw [iu] at h;simp at h
   ·omega
 have aT:bI w G φ1 AH w G (fun i=>if i=hi then some loc else φ1 i) AH:=by
  refine ⟨fun c a t fr hc hn=>⟨⟨fr,hc⟩,hn⟩,Nat.le_refl _,fun id b hb az=>⟨b,hb,rfl,rfl,rfl,rfl,fun l hl=> ?_⟩,fun _ _=>rfl⟩;rw [if_neg (by rintro rfl;rw [br] at hl;simp at hl)];exact hl
 have dV: ∀c,Ow (fun i=>if i=hi then some loc else φ1 i) c→Ow φ1 c∨ ∃b0,loc= .at_ c b0:=by
  rintro c ⟨i,b,h⟩;try simp only at h
  split at h
  ·simp only [Option.some.injEq] at h;exact .inr ⟨b,h⟩
  ·exact .inl ⟨i,b,h⟩
 refine ⟨m.less,⟨m.bB.sl,⟨fun i i' c b b' h1 h2=> ?_,fun c hc=> ?_,fI.bY,fun i l hl=> ?_⟩,fun c hc ho=> ?_,m.bB.eH⟩,fun c hc=> ?_,fun c hc=> ?_,fun id l hl=> ?_,fun id l hl=> ?_,by omega⟩
 ·try simp only at h1 h2
  split at h1
  ·rename_i hi;split at h2
   ·rename_i f_;omega
   ·simp only [Option.some.injEq] at h1;exact absurd ⟨i',b',h2⟩ (eI c b h1).2.2.1
  ·split at h2
   ·simp only [Option.some.injEq] at h2;exact absurd ⟨i,b,h1⟩ (eI c b' h2).2.2.1
   ·exact fI.inj _ _ _ _ _ h1 h2
 ·rcases dV c hc with h|⟨b0,h⟩
  ·exact fI.own c h
  ·exact (eI c b0 h).2.2.2.1
 ·try simp only at hl
  split at hl
  ·rename_i hi;subst hi;simp only [Option.some.injEq] at hl;subst hl;refine ⟨_,hg,bQ,eo,hv,fun c b0 he=> ?_⟩;obtain ⟨_,_,_,_,arr,T,fr,k1,k2,k3,k4⟩:=eI c b0 he;exact ⟨arr,T,fr,k1,k2,k3,fun j x q y v bJ hy cy=>⟨(k4 j x q y v bJ hy cy).1.mono aT,(k4 j x q y v bJ hy cy).2⟩⟩
  ·obtain ⟨bb,hb,ag⟩:=fI.ap i l hl;refine ⟨bb,hb,ag.ad,ag.sized,ag.aQ,fun c b0 he=> ?_⟩;obtain ⟨arr,T,fr,k1,k2,k3,k4⟩:=ag.here c b0 he;exact ⟨arr,T,fr,k1,k2,k3,fun j x q y v bJ hy cy=>⟨(k4 j x q y v bJ hy cy).1.mono aT,(k4 j x q y v bJ hy cy).2⟩⟩
 ·rcases dV c ho with h|⟨b0,h⟩
  ·exact m.bB.cg c hc h
  ·exact (eI c b0 h).2.1 hc
 ·rcases dV c hc with h|⟨b0,h⟩
  ·exact m.oh c h
  ·exact .inr ⟨(eI c b0 h).1,(eI c b0 h).2.1⟩
 ·obtain ⟨i,b,h⟩:=m.ik c hc
  exact ⟨i,b,by show (if i=hi then some loc else φ1 i)=_;rw [if_neg (by rintro rfl;rw [br] at h;simp at h)];exact h⟩
 ·have:=m.b6 id l hl;rw [if_neg (by rintro rfl;rw [br] at this;simp at this)];exact this
 ·try simp only at hl
  split at hl
  ·rename_i hi;subst hi;exact .inr ⟨hle,Nat.lt_succ_self _⟩
  ·rcases m.new id l hl with h|⟨h1,h2⟩
   ·exact .inl h
   ·exact .inr ⟨h1,by omega⟩
set_option maxRecDepth 4000
theorem s9 {es:List Sh} (hE: ∀(x:AV) (vs:List Value) (L:J) (φL:af) (AL:aj) (H G:J) (φ :af) (AH:aj) (y:AV) (L1:J) (a:AV) (H1:J),b5 w L φL AL G φ AH→GH G φ H H1→x.cells.length=vs.length→
 (∀(j:Nat) (c:AV) (u:Value),x.cells[j]? =some c→vs[j]? =some u→R w L φL AL c u)→a_ es x L=some (y,L1)→aI y H=(a,H1)→gi AL AH y→
 ∃ φ1,MG w L φL AL G φ AH L1 φ1 H.bs.length H1.bs.length∧a.cells.length=x.cells.length∧ ∀(j:Nat) (c:AV) (u:Value),a.cells[j]? =some c→vs[j]? =some u→R w G φ1 AH c u):
 ∀(xs:List AV) (g:Nat→Nat→Value) (L:J) (φL:af) (AL:aj) (H G:J) (φ :af) (AH:aj) (ys:List AV) (L1:J) (as:List AV) (H1:J),b5 w L φL AL G φ AH→GH G φ H H1→
  (∀(i:Nat) (x:AV) (j:Nat) (c:AV),xs[i]? =some x→x.cells[j]? =some c→R w L φL AL c (g i j))→dz (a_ es) xs L=some (ys,L1)→aJ ys H=(as,H1)→d_ AL AH ys→
  ∃ φ1,MG w L φL AL G φ AH L1 φ1 H.bs.length H1.bs.length∧as.length=xs.length∧(∀(i:Nat) (x a:AV),xs[i]? =some x→as[i]? =some a→a.cells.length=x.cells.length)∧
   ∀(i:Nat) (a:AV) (j:Nat) (c:AV),as[i]? =some a→a.cells[j]? =some c→R w G φ1 AH c (g i j)
 |[],g,L,φL,AL,H,G,φ,AH,ys,L1,as,H1,hd,hh,_,ht,hw,_=>by
  simp only [dz,Option.some.injEq,Prod.mk.injEq] at ht;obtain ⟨rfl,rfl⟩:=ht;simp only [aJ,Prod.mk.injEq] at hw;obtain ⟨rfl,rfl⟩:=hw;exact ⟨φ,.refl hd _,rfl,by simp,by simp⟩
 |x::xs,g,L,φL,AL,H,G,φ,AH,ys,L1,as,H1,hd,hh,hr,ht,hw,hk=>by
  simp only [dz] at ht;split at ht
  ·rename_i y L' h1
   split at ht
   ·rename_i aW di h2
    simp only [Option.some.injEq,Prod.mk.injEq] at ht;obtain ⟨rfl,rfl⟩:=ht;obtain ⟨k1,k2⟩:=hk.cons;simp only [aJ,Prod.mk.injEq] at hw;obtain ⟨rfl,rfl⟩:=hw
    let vs:List Value:=(List.range x.cells.length).map (g 0)
    obtain ⟨φ1,m1,l1,r1⟩:=hE x vs L φL AL H G φ AH y L' _ _ hd (hh.fst (jd _ _)) (by simp [vs]) (fun j c u hj hu=>by
     have dZ:j<x.cells.length:=(List.getElem?_eq_some_iff.1 hj).1;have:vs[j]? =some (g 0 j):=by simp [vs,dZ]
     rw [this] at hu;simp only [Option.some.injEq] at hu;subst hu;exact hr 0 x j c rfl hj) h1 rfl k1
    obtain ⟨a8,m2,l2,s2,r2⟩:=s9 hE xs (fun i j=>g (i+1) j) L' (aF φL L') AL _ G φ1 AH aW di _ _ m1.bB (hh.snd m1) (fun i x' j c hi hj=>(hr (i+1) x' j c hi hj).mono (db m1.less)) h2 rfl k2
    refine ⟨a8,m1.trans m2,by simp [l2],fun i x' a hx ha=> ?_,fun i a j c ha hc=> ?_⟩
    ·cases i with
     |zero=>simp at hx ha;subst hx;subst ha;exact l1
     |succ i=>exact s2 i x' a hx ha
    ·cases i with
     |zero=>
      simp only [List.getElem?_cons_zero,Option.some.injEq] at ha;subst ha;have hj:j<x.cells.length:=by rw [←l1];exact (List.getElem?_eq_some_iff.1 hc).1
      exact (r1 j c (g 0 j) hc (by simp [vs,hj])).mono m2.eh
     |succ i=>exact r2 i a j c ha hc
   ·simp at ht
  ·simp at ht
theorem tc {L:J} {φL:af} {AL:aj} {G:J} {φ :af} {AH:aj} (hd:b5 w L φL AL G φ AH) {id ad:Nat} {b:bC} (hb:L.ap id ad=some b) {off n:Nat} (hle:off+n≤b.el.length) {sz:Nat} (hs:b.sz=sz) {loc:Loc} (aX: φL id=some loc)
 {L1:J} {as:List AV} {lo hi:Nat} {g:Nat→Nat→Value} {φ1:af} (hg: ∀c b0 arr T fr,loc= .at_ c b0→w.heap[c]? =some (.cells arr T fr)→ ∀(i j:Nat) (v:Value),i<n→j<sz→arr[b0+(off+i)*sz+j]? =some v→g i j=v)
 (m:MG w (L.del id) (aF φL (L.del id)) AL G φ AH L1 φ1 lo hi) (hl:as.length=n) (eo: ∀(i:Nat) (a:AV),as[i]? =some a→a.cells.length=sz)
 (hr: ∀(i:Nat) (a:AV) (j:Nat) (c:AV),as[i]? =some a→a.cells[j]? =some c→R w G φ1 AH c (g i j)) {iw:Nat} (fx:Bool) (iC:G.get hi=some ⟨iw,sz,fx,as⟩) (bQ:iw<G.st) (iu: φ hi=none) (loc' :Loc) (il:loc' = .aQ∧n=0∨ ∃c b0,loc= .at_ c b0∧loc' = .at_ c (b0+off*sz)):
 MG w L φL AL G φ AH L1 (fun i=>if i=hi then some loc' else φ1 i) lo (hi+1):=by
 have ph:=(J.bz hb).1;have pj:=(bF.del L id).trans m.less;have iq:aF (aF φL (L.del id)) L1=aF φL L1:=gh m.less;have m' :MG w L φL AL G φ AH L1 φ1 lo hi:=by
  refine ⟨pj,by have:=m.bB;rwa [iq] at this,fun c hc=> ?_,m.ik,m.b6,m.new,m.le⟩
  rcases m.oh c hc with h|⟨h1,h2⟩
  ·exact .inl h
  ·rw [iq] at h2;exact .inr ⟨bM h1,h2⟩
 refine s8 m' iC bQ iu eo (fun hv=> ?_) (fun c b1 he=> ?_)
 ·rcases il with ⟨_,h0⟩|⟨c,b0,_,h2⟩
  ·exact List.eq_nil_of_length_eq_zero (by omega)
  ·rw [h2] at hv;simp at hv
 ·rcases il with ⟨h1,_⟩|⟨c',b0,h1,h2⟩
  ·rw [h1] at he;simp at he
  ·rw [h2] at he;simp only [Loc.at_.injEq] at he;obtain ⟨rfl,rfl⟩:=he;subst h1;have jB:Ow φL c' :=⟨id,b0,aX⟩
   have pk: ¬Ow (aF φL L1) c' :=by
    rintro ⟨i,bb,hi⟩;obtain ⟨fK,bk,a7⟩:=dt hi;have:=hd.sl.inj _ _ _ _ _ fK aX;subst this;have:=m.less.get _ _ a7;rw [J.ja,if_pos rfl] at this;simp at this
   refine ⟨jB,pk,fun ho=> ?_,hd.eH _ jB,?_⟩
   ·rcases m.oh c' ho with h|⟨⟨i,bb,hi⟩,_⟩
    ·exact hd.cg c' jB h
    ·obtain ⟨fK,bk,a7⟩:=dt hi;have:=hd.sl.inj _ _ _ _ _ fK aX;subst this;rw [J.ja,if_pos rfl] at a7;simp at a7
   ·obtain ⟨bk,a7,ag⟩:=hd.sl.ap id _ aX;rw [ph] at a7;simp only [Option.some.injEq] at a7;subst a7;obtain ⟨arr,T,fr,k1,k2,k3,k4⟩:=ag.here c' b0 rfl
    have hmul:off*sz+n*sz≤b.el.length*sz:=by rw [←Nat.add_mul];exact Nat.mul_le_mul_right _ hle
    refine ⟨arr,T,fr,k1,k2,by rw [hl];rw [hs] at k3;omega,fun i a j c v ha hc hv=> ?_⟩
    have hi:i<n:=by rw [←hl];exact (List.getElem?_eq_some_iff.1 ha).1
    have hj:j<sz:=by rw [←eo i a ha];exact (List.getElem?_eq_some_iff.1 hc).1
    have e:b0+off*sz+i*sz+j=b0+(off+i)*sz+j:=by rw [Nat.add_mul];omega
    rw [e] at hv;have po:=hg c' b0 arr T fr rfl k1 i j v hi hj hv
    refine ⟨by rw [←po];exact hr i a j c ha hc,?_⟩
    have b4:off+i<b.el.length:=by omega
    have hx:=List.getElem?_eq_getElem b4;have cx:=ag.sized _ _ hx;exact (k4 (off+i) _ j _ v hx (List.getElem?_eq_getElem (by omega)) (by rw [hs];exact hv)).2
mutual
theorem np (sh:Sh) (x:AV) (v:Value) (L:J) (φL:af) (AL:aj) (H G:J) (φ :af) (AH:aj) (y:AV) (L1:J) (a:AV) (H1:J) (hd:b5 w L φL AL G φ AH) (hh:GH G φ H H1) (hx:R w L φL AL x v)
 (ht:aR sh x L=some (y,L1)) (hw:aI y H=(a,H1)) (hk:gi AL AH y): ∃ φ1,MG w L φL AL G φ AH L1 φ1 H.bs.length H1.bs.length∧R w G φ1 AH a v∧(x≠ .undef→a.cells=[a])∧(x= .undef→a= .undef):=by
 cases sh with
 |sc=>
  simp only [aR] at ht;split at ht
  ·rename_i hp;simp only [Option.some.injEq,Prod.mk.injEq] at ht;obtain ⟨rfl,rfl⟩:=ht;rw [rX hp] at hw;simp only [Prod.mk.injEq] at hw;obtain ⟨rfl,rfl⟩:=hw;exact ⟨φ,.refl hd _,rW hp hx,fun hu=>cells_one hu (by rintro cs rfl;simp [dA] at hp),fun h=>h⟩
  ·simp at ht
 |sl es=>
  have lx: ∀{v0:Option Addr},v= .slice v0 0 0→aI (.own es.length []) H=(a,H1)→L1=L→ ∃ φ1,MG w L φL AL G φ AH L1 φ1 H.bs.length H1.bs.length∧R w G φ1 AH a v∧a.cells=[a]:=by
   intro v0 hv hw hL;subst hL;simp only [aI,aJ,Prod.mk.injEq] at hw;obtain ⟨rfl,rfl⟩:=hw;have iC:=hh.ext.1 _ _ (J.en H es.length false []);have bQ:H.st<G.st:=Nat.lt_of_lt_of_le (Nat.lt_succ_self _) hh.ext.2;have m:=s8 (MG.refl hd H.bs.length) iC bQ (hh.none _ (Nat.le_refl _) (by rw [kt];exact Nat.lt_succ_self _)) (loc:= .aQ) (by simp) (fun _=>rfl) (by simp)
   rw [←kt H es.length false []] at m;refine ⟨_,m,?_,rfl⟩;refine .ref _ _ _ _ _ bQ ⟨_,_,hv⟩ fun b hb=> ?_;have:=kl iC hb;subst this;exact ⟨.aQ,v0,0,by simp,hv,by simp,Nat.le_refl _,by simp,rfl,fun _=>rfl⟩
  cases x with
  |nil=>
   simp only [aR,Option.some.injEq,Prod.mk.injEq] at ht;obtain ⟨rfl,rfl⟩:=ht;obtain ⟨φ1,h1,h2,h3⟩:=lx hx.dh hw rfl;exact ⟨φ1,h1,h2,fun _=>h3,fun h=>by simp at h⟩
  |e0=>
   simp only [aR,Option.some.injEq,Prod.mk.injEq] at ht;obtain ⟨rfl,rfl⟩:=ht;obtain ⟨a0,ly⟩:=hx.eU;obtain ⟨φ1,h1,h2,h3⟩:=lx ly hw rfl;exact ⟨φ1,h1,h2,fun _=>h3,fun h=>by simp at h⟩
  |fz xs=>
   simp only [aR,Option.some.injEq,Prod.mk.injEq] at ht;obtain ⟨rfl,rfl⟩:=ht;simp only [aI,Prod.mk.injEq] at hw;obtain ⟨rfl,rfl⟩:=hw;rcases hk with hk|hk
   ·exact ⟨φ,.refl hd _,.fr _ _ (hx.dK.shrink hk),fun _=>rfl,fun h=>by simp at h⟩
   ·simp [cm] at hk
  |ref id ad off len=>
   simp only [aR] at ht;split at ht
   ·rename_i b hb;split at ht
    ·rename_i hc;obtain ⟨c1,c2,c3⟩:=hc;split at ht
     ·rename_i ys L' hm
      simp only [Option.some.injEq,Prod.mk.injEq] at ht;obtain ⟨rfl,rfl⟩:=ht;simp only [aI,Prod.mk.injEq] at hw;obtain ⟨rfl,rfl⟩:=hw;have hg:=(J.bz hb).1;obtain ⟨bQ,_,hr⟩:=hx.dq;obtain ⟨loc,a0,cap,q1,rfl,q3,q4,q5,q6⟩:=(hr b hb).out;obtain ⟨bk,a7,ag⟩:=hd.sl.ap id _ q1;rw [hg] at a7;simp only [Option.some.injEq] at a7;subst a7;have bK:d_ AL AH ys:=by
       rcases hk with h|h
       ·exact .inl h
       ·exact .inr (by simpa [cm] using h)
      have cY:=bF.del L id;have b7:b5 w (L.del id) (aF φL (L.del id)) AL G φ AH:=⟨er hd.sl cY,hd.sh,fun c hc=>hd.cg c (bM hc),fun c hc=>hd.eH c (bM hc)⟩
      have bA:(aG b.el off len).length=len:=by simp [aG];omega
      have gj: ∀(i:Nat) (x:AV),(aG b.el off len)[i]? =some x→b.el[off+i]? =some x:=by
       intro i x hi;simp only [aG,List.getElem?_take,List.getElem?_drop] at hi;split at hi
       ·exact hi
       ·simp at hi
      let g:Nat→Nat→Value:=match loc with
       | .aQ=>fun _ _=>undef
       | .at_ c b0=>fun i j=>match w.heap[c]? with
        |some (.cells arr _ _)=>arr.getD (b0+(off+i)*es.length+j) undef
        |_=>undef
      have cC: ∀(i:Nat) (x:AV) (j:Nat) (c:AV),(aG b.el off len)[i]? =some x→x.cells[j]? =some c→R w (L.del id) (aF φL (L.del id)) AL c (g i j):=by
       intro i x j c hi hj;have bJ:=gj i x hi
       have cp:i<len:=by rw [←bA];exact (List.getElem?_eq_some_iff.1 hi).1
       cases loc with
       |aQ=>have:=ag.aQ rfl;rw [this] at bJ;simp at bJ
       |at_ c0 b0=>
        obtain ⟨arr,T,fr,k1,k2,k3,k4⟩:=ag.here c0 b0 rfl;have dZ:j<b.sz:=by rw [←ag.sized _ _ bJ];exact (List.getElem?_eq_some_iff.1 hj).1
        have hle:=cT (n:=b.sz) (show off+i<b.el.length by omega)
        have az:b0+(off+i)*b.sz+j<arr.size:=by omega
        have:g i j=arr[b0+(off+i)*b.sz+j]:=by
         simp only [g,k1,←c1,Array.getD_eq_getD_getElem?,Array.getElem?_eq_getElem az,Option.getD_some]
        rw [this];exact ((k4 _ _ _ _ _ bJ hj (Array.getElem?_eq_getElem az)).1).mono (db cY)
      obtain ⟨φ1,m,l1,s1,r1⟩:=s9 (w:=w) (es:=es) (fun x vs L φL AL H G φ AH y L1 a H1=>tg es x vs L φL AL H G φ AH y L1 a H1) _ g _ _ _ _ _ _ _ _ _ _ _ b7 (hh.fst (.new _ _ _ _)) cC hm rfl bK
      rw [bA] at l1;have lz: ∀(i:Nat) (a:AV),(aJ ys H).1[i]? =some a→a.cells.length=b.sz:=by
       intro i a ha;have cp:i<(aG b.el off len).length:=by rw [bA,←l1];exact (List.getElem?_eq_some_iff.1 ha).1
       have jb:=List.getElem?_eq_getElem cp;rw [s1 i _ a jb ha];exact ag.sized _ _ (gj i _ jb)
      have pq: ∀c b0 arr T fr,loc= .at_ c b0→w.heap[c]? =some (.cells arr T fr)→ ∀(i j:Nat) (v:Value),i<len→j<b.sz→arr[b0+(off+i)*b.sz+j]? =some v→g i j=v:=by
       intro c b0 arr T fr hl hh i j v _ _ hv;subst hl;simp only [g,hh,←c1,Array.getD_eq_getD_getElem?,hv,Option.getD_some]
      let loc' :Loc:=match loc with
       | .aQ=> .aQ
       | .at_ c b0=>if cap=0 then .aQ else .at_ c (b0+off*b.sz)
      have il:loc' = .aQ∧len=0∨ ∃c b0,loc= .at_ c b0∧loc' = .at_ c (b0+off*b.sz):=by
       cases loc with
       |aQ=>left;refine ⟨rfl,?_⟩;have:=ag.aQ rfl;rw [this] at q3;simp at q3;omega
       |at_ c b0=>
        by_cases dN:cap=0
        ·left;exact ⟨by simp [loc',dN],by omega⟩
        ·right;exact ⟨c,b0,rfl,by simp [loc',dN]⟩
      have iC:=hh.ext.1 _ _ (J.en (aJ ys H).2 es.length false (aJ ys H).1);have bQ:(aJ ys H).2.st<G.st:=Nat.lt_of_lt_of_le (Nat.lt_succ_self _) hh.ext.2;have M:=tc hd hb c2 rfl q1 pq m l1 lz r1 false (by rw [c1];exact iC) bQ (hh.none _ (jd ys H).2 (by rw [kt];exact Nat.lt_succ_self _)) loc' il
      rw [←kt (aJ ys H).2 es.length false (aJ ys H).1] at M;refine ⟨_,M,?_,fun _=>rfl,fun h=>by simp at h⟩
      refine .ref _ _ _ _ _ bQ ⟨a0,cap,by rw [l1]⟩ fun b' aw=> ?_
      have:=kl iC aw;subst this;refine ⟨loc',a0,cap,by simp,by rw [l1],by simp,by omega,by simp only;omega,?_⟩
      cases loc with
      |aQ=>
       simp only at q6;have da:len=0:=by have:=ag.aQ rfl;rw [this] at q3;simp at q3;omega
       refine ⟨List.eq_nil_of_length_eq_zero (by rw [l1,da]),fun _=> ?_⟩
       rcases c3 with c3|c3
       ·exact q6.2 c3
       ·omega
      |at_ c b0=>
       simp only at q6;by_cases dN:cap=0
       ·simp only [loc',dN,if_true];exact ⟨List.eq_nil_of_length_eq_zero (by omega),fun _=>by first|trivial|omega|rfl⟩
       ·simp only [loc',dN,if_false];rcases q6 with q6|⟨h1,h2⟩
        ·exact absurd q6 dN
        ·refine Or.inr ⟨by rw [h1];simp,?_⟩
         rw [c1] at h2⊢;have:(off+cap)*es.length=off*es.length+cap*es.length:=Nat.add_mul _ _ _;simp only [Nat.zero_add];omega
     ·simp at ht
    ·simp at ht
   ·simp at ht
  |_=>simp [aR] at ht
 |pt es=>
  cases x with
  |fe z o=>
   simp only [aR,Option.some.injEq,Prod.mk.injEq] at ht;obtain ⟨rfl,rfl⟩:=ht;simp only [aI,Prod.mk.injEq] at hw;obtain ⟨rfl,rfl⟩:=hw;rcases hk with hk|hk
   ·exact ⟨φ,.refl hd _,.fr _ _ (hx.eT.shrink hk),fun _=>rfl,fun h=>by simp at h⟩
   ·simp [cm] at hk
  |ptr id ad idx off=>
   rcases idx with _|idx
   rotate_left
   ·simp [aR] at ht
   rcases off with _|off
   rotate_left
   ·simp [aR] at ht
   simp only [aR] at ht;split at ht
   ·rename_i pr sz pu z hb;split at ht
    ·rename_i y' L' hm
     simp only [Option.some.injEq,Prod.mk.injEq] at ht;obtain ⟨rfl,rfl⟩:=ht;simp only [aI,Prod.mk.injEq] at hw;obtain ⟨rfl,rfl⟩:=hw;have hg:=(J.bz hb).1;obtain ⟨bQ,_,hr⟩:=hx.fE;obtain ⟨c,b0,q1,rfl⟩:=hr _ hb;obtain ⟨bk,a7,ag⟩:=hd.sl.ap id _ q1;rw [hg] at a7;simp only [Option.some.injEq] at a7;subst a7;obtain ⟨arr,T,fr,k1,k2,k3,k4⟩:=ag.here c b0 rfl;have bK:gi AL AH y' :=by
      rcases hk with h|h
      ·exact .inl h
      ·exact .inr (by simpa [cm] using h)
     have cY:=bF.del L id;have b7:b5 w (L.del id) (aF φL (L.del id)) AL G φ AH:=⟨er hd.sl cY,hd.sh,fun c hc=>hd.cg c (bM hc),fun c hc=>hd.eH c (bM hc)⟩
     have cz:z.cells.length=sz:=ag.sized 0 z rfl;simp only [List.length_singleton,Nat.one_mul] at k3
     let vs:List Value:=(arr.extract b0 (b0+sz)).toList
     have dM:vs.length=sz:=by simp [vs];omega
     have gk: ∀j u,vs[j]? =some u→arr[b0+j]? =some u:=by
      intro j u hu;simp only [vs,Array.getElem?_toList,Array.getElem?_extract] at hu;split at hu
      ·exact hu
      ·simp at hu
     obtain ⟨φ1,m,l1,r1⟩:=tg es z vs _ _ _ _ _ _ _ _ _ _ _ b7 (hh.fst (.new _ _ _ _)) (by rw [dM,cz]) (fun j c' u hj hu=>((k4 0 z j c' u rfl hj (by simpa using gk j u hu)).1).mono (db cY)) hm rfl bK
     have iC:=hh.ext.1 _ _ (J.en (aI y' H).2 sz false [(aI y' H).1])
     have bQ:(aI y' H).2.st<G.st:=Nat.lt_of_lt_of_le (Nat.lt_succ_self _) hh.ext.2
     have M:=tc (as:=[(aI y' H).1]) (n:=1) (off:=0) (sz:=sz) (loc' := .at_ c b0) (g:=fun i j=>vs.getD j undef) hd hb (by simp) rfl q1 (fun c' pv arr' T' fc hl hh i j v hi hj hv=>by
      simp only [Loc.at_.injEq] at hl;obtain ⟨rfl,rfl⟩:=hl;rw [k1] at hh;simp only [Option.some.injEq,Obj.cells.injEq] at hh;obtain ⟨rfl,_,_⟩:=hh;have jC:i=0:=by omega
      subst jC;simp only [Nat.zero_mul,Nat.add_zero] at hv;have:vs[j]? =some v:=by
       simp only [vs,Array.getElem?_toList,Array.getElem?_extract];rw [if_pos (by omega)];exact hv
      simp [List.getD,this]) m rfl (fun i a ha=>by
      cases i with
      |zero=>simp at ha;subst ha;rw [l1,cz]
      |succ i=>simp at ha) (fun i a j c' ha hc=>by
      cases i with
      |zero=>
       simp at ha;subst ha;have hj:j<vs.length:=by rw [dM,←cz,←l1];exact (List.getElem?_eq_some_iff.1 hc).1
       have:=r1 j c' vs[j] hc (List.getElem?_eq_getElem hj)
       simpa [List.getD,hj] using this
      |succ i=>simp at ha) false iC bQ (hh.none _ (qj y' H).2 (by rw [kt];exact Nat.lt_succ_self _)) (.inr ⟨c,b0,rfl,by simp⟩)
     rw [←kt (aI y' H).2 sz false [(aI y' H).1]] at M
     refine ⟨_,M,?_,fun _=>rfl,fun h=>by simp at h⟩
     refine .ptr _ _ _ _ _ bQ ⟨_,rfl⟩ fun b' aw=>⟨c,b0,by simp,?_⟩
     simp
    ·simp at ht
   ·simp at ht
  |_=>simp [aR] at ht
 termination_by (SizeOf.sizeOf sh,0)
theorem tg (es:List Sh) (x:AV) (vs:List Value) (L:J) (φL:af) (AL:aj) (H G:J) (φ :af) (AH:aj) (y:AV) (L1:J) (a:AV) (H1:J) (hd:b5 w L φL AL G φ AH) (hh:GH G φ H H1) (hl:x.cells.length=vs.length)
 (hx: ∀(j:Nat) (c:AV) (u:Value),x.cells[j]? =some c→vs[j]? =some u→R w L φL AL c u) (ht:a_ es x L=some (y,L1)) (hw:aI y H=(a,H1)) (hk:gi AL AH y):
 ∃ φ1,MG w L φL AL G φ AH L1 φ1 H.bs.length H1.bs.length∧a.cells.length=x.cells.length∧ ∀(j:Nat) (c:AV) (u:Value),a.cells[j]? =some c→vs[j]? =some u→R w G φ1 AH c u:=by
 by_cases bZ: ∃cs,x= .agg cs
 ·obtain ⟨cs,rfl⟩:=bZ;have cD: ∃aY,cu es cs L=some (aY,L1)∧y= .agg aY:=by
   match es,ht with
   |[],ht=>
    simp only [a_] at ht;split at ht
    ·rename_i aY L' hc
     simp only [Option.some.injEq,Prod.mk.injEq] at ht;obtain ⟨rfl,rfl⟩:=ht;exact ⟨aY,hc,rfl⟩
    ·simp at ht
   |[e],ht=>
    simp only [a_] at ht;split at ht
    ·rename_i aY L' hc
     simp only [Option.some.injEq,Prod.mk.injEq] at ht;obtain ⟨rfl,rfl⟩:=ht;exact ⟨aY,hc,rfl⟩
    ·simp at ht
   |e::e' ::es,ht=>
    simp only [a_] at ht;split at ht
    ·rename_i aY L' hc
     simp only [Option.some.injEq,Prod.mk.injEq] at ht;obtain ⟨rfl,rfl⟩:=ht;exact ⟨aY,hc,rfl⟩
    ·simp at ht
  obtain ⟨aY,hc,rfl⟩:=cD;simp only [aI,Prod.mk.injEq] at hw;obtain ⟨rfl,rfl⟩:=hw;have bK:d_ AL AH aY:=by
   rcases hk with h|h
   ·exact .inl h
   ·exact .inr (by simpa [cm] using h)
  exact qk es cs vs L φL AL H G φ AH aY L1 _ _ hd hh hl hx hc rfl bK
 ·have dE: ∀cs,x≠ .agg cs:=fun cs h=>bZ ⟨cs,h⟩
  match es,ht with
  |[e],ht=>
   have cD:aR e x L=some (y,L1):=by
    cases x<;>first|(simpa only [a_] using ht)|exact absurd rfl (dE _)
   by_cases hu:x= .undef
   ·subst hu;have fW:vs=[]:=List.eq_nil_of_length_eq_zero (by simpa [AV.cells] using hl.symm)
    subst fW;obtain ⟨φ1,m,_,_,h4⟩:=np e .undef undef L φL AL H G φ AH y L1 a H1 hd hh (.fr _ _ (.undef _)) cD hw hk
    exact ⟨φ1,m,by rw [h4 rfl],by simp⟩
   ·have eJ:=cells_one hu dE;rw [eJ] at hl;obtain ⟨v,rfl⟩: ∃v,vs=[v]:=by
     match vs,hl with
     |[v],_=>exact ⟨v,rfl⟩
    obtain ⟨φ1,m,h2,h3,_⟩:=np e x v L φL AL H G φ AH y L1 a H1 hd hh (hx 0 x v (by rw [eJ];rfl) rfl) cD hw hk
    refine ⟨φ1,m,by rw [h3 hu,eJ];rfl,fun j c u hj aN=> ?_⟩
    rw [h3 hu] at hj;cases j with
    |zero=>simp at hj aN;subst hj;subst aN;exact h2
    |succ j=>simp at hj
  |[],ht=>cases x<;>first|(simp [a_] at ht;done)|exact absurd rfl (dE _)
  |_::_::_,ht=>cases x<;>first|(simp [a_] at ht;done)|exact absurd rfl (dE _)
 termination_by (SizeOf.sizeOf es,1)
theorem qk (es:List Sh) (cs:List AV) (vs:List Value) (L:J) (φL:af) (AL:aj) (H G:J) (φ :af) (AH:aj) (ys:List AV) (L1:J) (as:List AV) (H1:J) (hd:b5 w L φL AL G φ AH) (hh:GH G φ H H1) (hl:cs.length=vs.length)
 (hx: ∀(j:Nat) (c:AV) (u:Value),cs[j]? =some c→vs[j]? =some u→R w L φL AL c u) (ht:cu es cs L=some (ys,L1)) (hw:aJ ys H=(as,H1)) (hk:d_ AL AH ys):
 ∃ φ1,MG w L φL AL G φ AH L1 φ1 H.bs.length H1.bs.length∧as.length=cs.length∧ ∀(j:Nat) (c:AV) (u:Value),as[j]? =some c→vs[j]? =some u→R w G φ1 AH c u:=by
 match es,cs,ht with
 |[],[],ht=>
  simp only [cu,Option.some.injEq,Prod.mk.injEq] at ht;obtain ⟨rfl,rfl⟩:=ht;simp only [aJ,Prod.mk.injEq] at hw;obtain ⟨rfl,rfl⟩:=hw;exact ⟨φ,.refl hd _,rfl,by simp⟩
 |e::es,x::cs,ht=>
  simp only [cu] at ht;split at ht
  ·rename_i y L' h1
   split at ht
   ·rename_i aW di h2
    simp only [Option.some.injEq,Prod.mk.injEq] at ht;obtain ⟨rfl,rfl⟩:=ht;simp only [aJ,Prod.mk.injEq] at hw;obtain ⟨rfl,rfl⟩:=hw;obtain ⟨k1,k2⟩:=hk.cons
    match vs,hl with
    |v::vs,hl=>
     obtain ⟨φ1,m1,r1,_,_⟩:=np e x v L φL AL H G φ AH y L' _ _ hd (hh.fst (jd _ _)) (hx 0 x v rfl rfl) h1 rfl k1
     obtain ⟨a8,m2,l2,r2⟩:=qk es cs vs L' (aF φL L') AL _ G φ1 AH aW di _ _ m1.bB (hh.snd m1) (by simpa using hl) (fun j c u hj hu=>(hx (j+1) c u hj hu).mono (db m1.less)) h2 rfl k2
     refine ⟨a8,m1.trans m2,by simp [l2],fun j c u hj hu=> ?_⟩
     cases j with
     |zero=>simp at hj hu;subst hj;subst hu;exact r1.mono m2.eh
     |succ j=>exact r2 j c u hj hu
   ·simp at ht
  ·simp at ht
 |[],_::_,ht=>simp [cu] at ht
 |_::_,[],ht=>simp [cu] at ht
 termination_by (SizeOf.sizeOf es,0)
end
end bB
end Go.VS
namespace Go.VS
section bB
variable {w:World} {AL AH:aj}
theorem Au {es:List Sh} {x:AV} {v:Value} {L:J} {φL:af} {H G:J} {φ :af} {y:AV} {L1:J} {a:AV} {H1:J} (hd:b5 w L φL AL G φ AH) (hh:GH G φ H H1) (hx:R w L φL AL x v)
 (ht:a_ es x L=some (y,L1)) (hw:aI y H=(a,H1)) (hk:gi AL AH y): ∃ φ1,MG w L φL AL G φ AH L1 φ1 H.bs.length H1.bs.length∧R w G φ1 AH a v:=by
 by_cases bZ: ∃cs,x= .agg cs
 ·obtain ⟨cs,rfl⟩:=bZ;obtain ⟨aY,hc,rfl⟩:=lA ht;simp only [aI,Prod.mk.injEq] at hw;obtain ⟨rfl,rfl⟩:=hw;have bK:d_ AL AH aY:=by
   rcases hk with h|h
   ·exact .inl h
   ·exact .inr (by simpa [cm] using h)
  obtain ⟨vs,rfl,hl,ho,hp⟩:=hx.fX;obtain ⟨φ1,m,l1,r1⟩:=qk es cs vs.toList L φL AL H G φ AH aY L1 _ _ hd hh (by simpa using hl) (fun j c u hj hu=>hp j c u hj (by simpa using hu)) hc rfl bK
  exact ⟨φ1,m,.agg _ _ (by rw [l1,hl]) ho fun i x v hx hv=>r1 i x v hx (by simpa using hv)⟩
 ·obtain ⟨e,rfl,cD⟩:=jD (fun cs h=>bZ ⟨cs,h⟩) ht;obtain ⟨φ1,m,r,_⟩:=np e x v L φL AL H G φ AH y L1 a H1 hd hh hx cD hw hk
  exact ⟨φ1,m,r⟩
theorem tj: ∀(sh:List (List Sh)) (rs:List AV) (us:List Value) (L:J) (φL:af) (H G:J) (φ :af) (ys:List AV) (L1:J),b5 w L φL AL G φ AH→GH G φ H (aJ ys H).2→rs.length=us.length→
 (∀(i:Nat) (x:AV) (u:Value),rs[i]? =some x→us[i]? =some u→R w L φL AL x u)→dg sh rs L=some (ys,L1)→d_ AL AH ys→
 ∃ φ1,MG w L φL AL G φ AH L1 φ1 H.bs.length (aJ ys H).2.bs.length∧(aJ ys H).1.length=us.length∧ ∀(i:Nat) (x:AV) (u:Value),(aJ ys H).1[i]? =some x→us[i]? =some u→R w G φ1 AH x u
 |sh,[],us,L,φL,H,G,φ,ys,L1,hd,hh,hl,hr,ht,hk=>by
  simp only [dg,Option.some.injEq,Prod.mk.injEq] at ht;obtain ⟨rfl,rfl⟩:=ht;exact ⟨φ,.refl hd _,hl,by simp [aJ]⟩
 |sh,x::rs,u::us,L,φL,H,G,φ,ys,L1,hd,hh,hl,hr,ht,hk=>by
  simp only [dg] at ht;split at ht
  rotate_left
  ·simp at ht
  rename_i y L' h1
  split at ht
  rotate_left
  ·simp at ht
  rename_i aW di h2
  simp only [Option.some.injEq,Prod.mk.injEq] at ht;obtain ⟨rfl,rfl⟩:=ht;obtain ⟨k1,k2⟩:=hk.cons;obtain ⟨φ1,m1,r1⟩:=Au (y:=y) (H:=H) hd (hh.fst (H1:=(aI y H).2) (jd aW (aI y H).2)) (hr 0 x u rfl rfl) h1 rfl k1
  obtain ⟨a8,m2,l2,r2⟩:=tj sh.tail rs us L' (aF φL L') (aI y H).2 G φ1 aW di m1.bB (hh.snd m1) (by simpa using hl) (fun i x u hx hu=>(hr (i+1) x u hx hu).mono (db m1.less)) h2 k2
  refine ⟨a8,m1.trans m2,by simp [aJ,l2],fun i x' u' hx hu=> ?_⟩
  cases i with
  |zero=>simp [aJ] at hx hu;subst hx;subst hu;exact r1.mono m2.eh
  |succ i=>simp only [aJ,List.getElem?_cons_succ] at hx hu;exact r2 i x' u' hx hu
 |sh,x::rs,[],L,φL,H,G,φ,ys,L1,hd,hh,hl,hr,ht,hk=>by simp at hl
end bB
theorem nq {H G:J} (h:bf H G): ∀(n:Nat) (x y:AV),aZ n H x=some y→aZ n G x=some y
 |0,x,y,hs=>by simp [aZ] at hs
 |n+1,x,y,hs=>by
  have hm: ∀(xs ys:List AV),xs.mapM (aZ n H)=some ys→xs.mapM (aZ n G)=some ys:=by
   intro xs;induction xs with
   |nil=>intro ys h;simpa using h
   |cons z xs ih=>
    intro ys hy;simp only [List.mapM_cons,Option.bind_eq_bind,Option.bind_eq_some_iff,Option.pure_def,Option.some.injEq] at hy⊢;obtain ⟨a,h1,b,h2,h3⟩:=hy;exact ⟨a,nq h n z a h1,b,ih b h2,h3⟩
  cases x with
  |agg cs=>
   simp only [aZ,Option.map_eq_some_iff] at hs⊢;obtain ⟨ys,h1,h2⟩:=hs;exact ⟨ys,hm _ _ h1,h2⟩
  |fn f cs=>
   simp only [aZ,Option.map_eq_some_iff] at hs⊢;obtain ⟨ys,h1,h2⟩:=hs;exact ⟨ys,hm _ _ h1,h2⟩
  |ref id ad off len=>
   simp only [aZ] at hs⊢;split at hs
   ·rename_i b hb;rw [h.ap hb];simp only;split at hs
    ·rename_i hle;rw [if_pos hle];simp only [Option.map_eq_some_iff] at hs⊢;obtain ⟨ys,h1,h2⟩:=hs;exact ⟨ys,hm _ _ h1,h2⟩
    ·simp at hs
   ·simp at hs
  |ptr id ad idx off=>
   simp only [aZ] at hs⊢;split at hs
   ·rename_i b hb;rw [h.ap hb];simp only;split at hs
    ·rename_i z hz;simp only [Option.map_eq_some_iff] at hs⊢;obtain ⟨y',h1,h2⟩:=hs;exact ⟨y',nq h n z y' h1,h2⟩
    ·simp at hs
   ·simp at hs
  |_=>first|(simpa only [aZ] using hs)|(simp [aZ] at hs;done)
theorem ku {H G:J} (h:bf H G): ∀(ms:List Mode) (as ys:List AV) (b:Bool),cf ms as H=some (ys,b)→cf ms as G=some (ys,b)
 |ms,[],ys,b,hp=>by cases ms<;>simpa only [cf] using hp
 |[],a::as,ys,b,hp=>by
  simp only [cf] at hp⊢;split at hp
  ·rename_i y hy;split at hp
   ·rename_i aW b' cB
    rw [nq h 8 a y hy,ku h [] as aW b' cB]
    exact hp
   ·simp at hp
  ·simp at hp
 |m::ms,a::as,ys,b,hp=>by
  have other:(match cf ms as H with|some (ys,b)=>some (a::ys,b)|none=>none)=some (ys,b)→(match cf ms as G with|some (ys,b)=>some (a::ys,b)|none=>none)=some (ys,b):=by
   intro hp;split at hp
   ·rename_i aW b' cB
    rw [ku h ms as aW b' cB]
    exact hp
   ·simp at hp
  cases m with
  |val=>
   simp only [cf] at hp⊢;split at hp
   ·rename_i y hy;split at hp
    ·rename_i aW b' cB
     rw [nq h 8 a y hy,ku h ms as aW b' cB]
     exact hp
    ·simp at hp
   ·simp at hp
  |e8=>
   simp only [cf] at hp⊢;split at hp
   ·rename_i aW b' cB
    rw [ku h ms as aW b' cB]
    exact hp
   ·simp at hp
  |io=>
   simp only [cf] at hp⊢;split at hp
   ·rename_i aW b' cB
    rw [ku h ms as aW b' cB]
    exact hp
   ·simp at hp
def Av (w:World) (G:J) (φ :af) (A:aj) (H H' :J) (x:AV) (e:Ending) (w' :World):Prop:=
 match e with
 | .returned v' => ∃ak A',Out w G φ A w' G ak A' ∧R w' G ak A' x v' ∧ ∀id loc,ak id=some loc→ φ id=some loc∨(H.bs.length≤id∧id<H'.bs.length)
 |_=>False
theorem Aw {P:Program} {C:aK} {X:bq} (hX: ∀f ys H K,X f ys H K→b8 P f ys H K) {w:World} {G:J} {φ :af} {A:aj} (ae:St w G φ A) {H H' :J} (hg:bf H G) (hh:GH G φ H H') {f:FuncId} {as:List AV} {us:Array Value} (hl:as.length=us.size)
 (hr: ∀(i:Nat) (x:AV) (u:Value),as[i]? =some x→us[i]? =some u→R w G φ A x u) {th:Bool} {x:AV} (h:dB X C f as th H (fun v1 H1=>v1=x∧H1=H')):gT P f∧Calls P f us w (Av w G φ A H H' x):=by
 unfold dB at h;split at h
 ·exact h.elim
 rename_i ys bX hy;obtain ⟨y,lE,gn,hp⟩:=h;have hm:mY []:=fun m hm=>by simp at hm
 have pP:b5 w G φ A ⟨0,[]⟩ (fun _=>none) A:=by
  refine ⟨ae,⟨fun i i' c b b' h=>by simp at h,fun c hc=> ?_,ae.bY,fun id loc h=>by simp at h⟩,fun c _ hc=> ?_,ae.own⟩
  ·obtain ⟨i,b,h⟩:=hc;simp at h
  ·obtain ⟨i,b,h⟩:=hc;simp at h
 have pQ:ck [] ys ⟨0,[]⟩=(ys,⟨0,[]⟩):=pO _ _ _ hy _;obtain ⟨aD,m,cE,ea⟩:=mU as [] [] us.toList G φ as G ys bX ⟨0,[]⟩ (fun _=>none) ys ⟨0,[]⟩ pP (by simpa using hl) (fun i x u hx hu=>hr i x u hx (by simpa using hu)) (pM _ _ _ _ hm) (ku hg _ _ _ _ hy) pQ
 have bA: ∀c,¬Ow aD c:=fun c hc=>by
  rcases m.oh c hc with ⟨i,b,h⟩|⟨h1,h2⟩
  ·simp at h
  ·rw [kn ae] at h2;exact h2 h1
 let A0:aj:=if bX=true then Ow aD else A
 have jF: ∀c,A0 c→A c:=by
  intro c hc;simp only [A0] at hc;split at hc
  ·exact absurd hc (bA c)
  ·exact hc
 have pR:bX=true→ ∀c,A0 c→fM (aF φ G) A c:=by
  intro az c hc;simp only [A0,az,if_true] at hc;exact absurd hc (bA c)
 have c7:St w ⟨0,[]⟩ aD A0:=m.bB.sh.shrink jF (fun c hc=>absurd hc (bA c));have fj:ys.length=us.size:=by simpa using cE.1
 refine ⟨(hX _ _ _ _ lE).1,((hX _ _ _ _ lE).2 w A0 aD us c7 fj (fun i x u hx hu=>cE.2 A0 jF pR i x u hx (by simpa using hu))).mono fun e w' he=> ?_⟩
 cases e with
 |panicked c=>exact he.elim
 |outgrown=>exact he.elim
 |returned v' =>
 obtain ⟨x0,L,ak,A',ho,pS,rs,gR,L2,rfl,lF,rfl⟩:=he;obtain ⟨cI,rfl,iz,iq⟩:=sA pS
 let AH:aj:=if bX=true then fun c=>A c∨(A' c∧w.heap.size≤c) else A'
 have jG: ∀c,Ow ak c→w.heap.size≤c:=fun c hc=>(ho.post.own c hc).resolve_left (bA c)
 have ha:pF w A aD w' ak AH:=by
  refine ⟨fun c hc hn=> ?_,fun c hc=> ?_,fun c hc=> ?_,fun c arr T fr hc hn=> ?_⟩
  ·simp only [AH];split
   ·exact .inl hc
   ·rename_i az;refine ho.keep c ?_ hn;simp only [A0,az];exact hc
  ·simp only [AH];split
   ·exact .inr ⟨ho.st.own c hc,jG c hc⟩
   ·exact ho.st.own c hc
  ·simp only [AH] at hc;split at hc
   ·rcases hc with h|⟨h,_⟩
    ·exact Nat.lt_of_lt_of_le (ae.bY c h) ho.post.size
    ·exact ho.st.bY c h
   ·exact ho.st.bY c hc
  ·obtain ⟨h1,h2⟩:=ho.bE.fz c arr T fr hc (fun h=>hn (jF c h));refine ⟨h1,?_⟩;simp only [AH];split
   ·rintro (h|⟨_,h⟩)
    ·exact hn h
    ·have:c<w.heap.size:=by
      rcases Nat.lt_or_ge c w.heap.size with h' |h'
      ·exact h'
      ·rw [Array.getElem?_eq_none h'] at hc;simp at hc
     omega
   ·exact h2
 obtain ⟨D,E⟩:=sk (ls:=[]) (Lm:=L) ae m (by rw [hl,fj]) ea ho ha (by simp [fB])
 rw [pN _ _ _ _ hm,kn ae] at D E;have pT:d_ A' AH gR:=by
  cases az:bX with
  |false=>exact .inl fun c h=>by simpa [AH,az] using h
  |true=>
   rcases gn with h|h
   ·rw [az] at h;simp at h
   ·rw [sy] at h;exact .inr h
 have jH: ∀(i:Nat) (x:AV) (u:Value),rs[i]? =some x→cI[i]? =some u→R w' L (aF ak L) A' x u:=fun i x u hx hu=>by
  rw [kn ho.st];exact iq i x u hx hu
 have fF: ∀{cN:af},(∀c,Ow cN c→Ow φ c∨Ow ak c)→fC w φ w' cN:=fun hq=>
  ⟨ho.post.os,ho.post.tape,ho.post.output,ho.post.size,fun c hc _=>ho.post.kept c hc (bA c),ho.post.aU,fun c hc=>by
   rcases hq c hc with h|h
   ·exact .inl h
   ·exact .inr (jG c h)⟩
 have jI: ∀c,A c→ ¬Ow φ c→AH c:=fun c hc _=>ha.own c hc (bA c);have cA: ∀c,Ow φ c→aU w' c=aU w c:=fun c hc=>ho.post.aU c (Ow.lt ae hc)
 cases eG:(th||bX) with
 |true=>
  rw [eG] at hp;simp only [if_true,sw] at hp;obtain ⟨rfl,rfl⟩:=hp;obtain ⟨cN,m3,l3,r3⟩:=tj _ rs cI L _ H G φ gR L2 D hh iz jH lF pT
  refine ⟨cN,AH,⟨m3.bB.sh,fF fun c hc=> ?_,E.trans m3.eh cA,jI⟩,pL l3 r3,m3.new⟩;rcases m3.oh c hc with h|⟨h,_⟩
  ·exact .inl h
  ·exact .inr (bM h)
 |false=>
  rw [eG] at hp;simp only [Bool.false_eq_true,if_false,sx] at hp;obtain ⟨rfl,rfl⟩:=hp;simp only [Bool.or_eq_false_iff] at eG;have pU:AH=A' :=by simp [AH,eG.2]
  rw [pU] at D E jI
  let A2:aj:=gone (aF ak L) A' L2
  obtain ⟨l3,r3⟩:=pK (A' :=A2) _ rs cI L (aF ak L) gR L2 D.sl iz jH lF (fun c h=>h)
  have pV: ∀c,Ow φ c→A2 c:=fun c hc=>⟨D.sh.own c hc,fun h=>absurd hc (D.cg c h)⟩;have pW:bI w G φ A w' G φ A2:=⟨fun c arr T fr hc hn=>⟨(E.fz c arr T fr hc hn).1,fun h2=>(E.fz c arr T fr hc hn).2 h2.1⟩,E.st,E.ids,E.sz⟩
  refine ⟨φ,A2,⟨D.sh.shrink (fun c h=>h.1) pV,fF fun c hc=> .inl hc,pW,fun c hc hn=>⟨jI c hc hn,fun h=> ?_⟩⟩,.fr _ _ (su l3 r3),fun id loc h=> .inl h⟩;have:=jG c (bM h)
  have:=ae.bY c hc;omega
end Go.VS
namespace Go.VS
def Ax (H H1:J):Prop:= ∀id b,H1.get id=some b→b.ad<H.st→H.get id=some b
def QG (H H1:J):Prop:=fO H H1∧Ax H H1
theorem QG.refl (H:J):QG H H:=⟨.refl _,fun _ _ h _=>h⟩
theorem QG.trans {H H1 H2:J} (h:QG H H1) (k:QG H1 H2):QG H H2:=
 ⟨h.1.trans k.1,fun id b hb hv=>h.2 id b (k.2 id b hb (Nat.lt_of_lt_of_le hv h.1.1.2)) hv⟩
theorem QG.of {H H' :J} (h:H' =H∨ ∃sz fx el,H' =H.new sz fx el):QG H H' :=by
 obtain ⟨h1,h2,h3⟩:=J.jz h;exact ⟨⟨h1,h3⟩,h2⟩
theorem QG.new (H:J) (sz:Nat) (fx:Bool) (el:List AV):QG H (H.new sz fx el):= .of (.inr ⟨_,_,_,rfl⟩)
mutual
theorem ql: ∀(y:AV) (H:J),QG H (aI y H).2
 | .own sz xs,H=>by simp only [aI];exact (nr xs H).trans (.new _ _ _ _)
 | .dy sz x,H=>by simp only [aI];exact (ql x H).trans (.new _ _ _ _)
 | .agg xs,H=>by simp only [aI];exact nr xs H
 | .aA xs,H=>by simp only [aI];exact nr xs H
 | .undef,H=> .refl _
 | .int _ _,H=> .refl _
 | .bool _,H=> .refl _
 | .str _,H=> .refl _
 | .nil,H=> .refl _
 | .e0,H=> .refl _
 | .fz _,H=> .refl _
 | .ref _ _ _ _,H=> .refl _
 | .ptr _ _ _ _,H=> .refl _
 | .fe _ _,H=> .refl _
 | .fn _ _,H=> .refl _
 | .ct _,H=> .refl _
 | .dG,H=> .refl _
theorem nr: ∀(ys:List AV) (H:J),QG H (aJ ys H).2
 |[],H=> .refl _
 |y::ys,H=>by simp only [aJ];exact (ql y H).trans (nr ys _)
end
section ops
variable {P:Program} {E:aM} (hE: ∀t ti,E t=some ti→aS P t ti)
variable {w:World} {G:J} {φ :af} {A:aj}
theorem Ay {b:Builtin} {tys:Array TypeId} {args:List AV} {H H' :J} {z:AV} (hq:fu b args=true) (h:dm E b tys args H=some (z,H')):QG H H' :=by
 have Az: ∀{te:TI} {s x:AV},s= .nil∨s= .e0→eB te s x H=some (z,H')→QG H H' :=by
  intro te s x hs h;refine .of ?_;rcases hs with rfl|rfl;all_goals
   simp only [eB] at h;repeat' split at h
   all_goals first
    |(simp at h;done)
    |(simp only [Option.some.injEq,Prod.mk.injEq] at h;first|exact .inl h.2.symm|exact .inr ⟨_,_,_,h.2.symm⟩)
 unfold dm at h;split at h
 ·repeat' split at h
  all_goals first
   |(simp at h;done)
   |(simp only [Option.some.injEq,Prod.mk.injEq] at h;rw [←h.2];exact .refl _)
 ·rename_i s x;have hs:s= .nil∨s= .e0:=by
   cases s<;>first|exact .inl rfl|exact .inr rfl|(simp [fu] at hq)
  split at h
  ·split at h
   ·split at h
    ·split at h
     ·unfold kP at h;refine .of ?_;repeat' split at h
      all_goals first
       |(simp at h;done)
       |(simp only [Option.some.injEq,Prod.mk.injEq] at h;first|exact .inl h.2.symm|exact .inr ⟨_,_,_,h.2.symm⟩)
     ·simp at h
    ·exact Az hs h
   ·simp at h
  ·simp at h
 ·simp [fu] at hq
 ·simp [fu] at hq
 ·split at h
  ·simp only [Option.some.injEq,Prod.mk.injEq] at h;rw [←h.2];exact .refl _
  ·simp at h
 ·split at h
  ·simp only [Option.some.injEq,Prod.mk.injEq] at h;rw [←h.2];exact .refl _
  ·simp at h
 ·split at h
  ·split at h
   ·simp only [Option.some.injEq,Prod.mk.injEq] at h;rw [←h.2];exact .refl _
   ·simp at h
  ·simp at h
 ·simp at h
include hE in
theorem AA (ae:St w G φ A) {H H' :J} (hX:bf H G) (tn:bf H' G) (br:H.bs.length<H'.bs.length→ φ H.bs.length=none) {b:Builtin} {tys:Array TypeId} {ty:TypeId} {consts:Array Bool} {args:List AV} {vs:Array Value} {z:AV} (hq:fu b args=true) (hl:args.length=vs.size)
 (aV: ∀(i:Nat) (a:AV) (u:Value),args[i]? =some a→vs[i]? =some u→R w G φ A a u) (h:dm E b tys args H=some (z,H')):
 bj w G φ A H H' ((builtin b tys ty consts vs).run P w) z:=by
 unfold dm at h;split at h
 ·rename_i x;obtain ⟨a,rfl⟩: ∃a,vs= #[a]:=by
   have h1:vs.size=1:=hl.symm;exact ⟨vs[0],by apply Array.ext;simp [h1];intro i h1 h2;simp at h2;subst h2;rfl⟩
  have hx:=aV 0 x a rfl rfl;split at h
  ·rename_i ti n ht hn;obtain ⟨t,h0,ht⟩:=Option.bind_eq_some_iff.1 ht;have key: ∀{q:AV×J},some q=some (z,H')→q=(AV.int .i64 n,H)→((∃e,ti.au= .sl e∧ ∀s,x≠ .str s)∨(ti.au= .str∧ ∃s,x= .str s))→bj w G φ A H H' ((builtin .len tys ty consts #[a]).run P w) z:=by
    intro q hq pf hu;subst pf;simp only [Option.some.injEq,Prod.mk.injEq] at hq;obtain ⟨rfl,rfl⟩:=hq;have:=rU (tys:=tys) (ty:=ty) hE h0 hx hX hn ht hu;exact bj.val ae (by simp [builtin,this]) (.fr _ _ (.int _ _))
   split at h
   ·rename_i s hu;exact key h rfl (.inr ⟨hu,s,rfl⟩)
   ·simp at h
   ·rename_i e hu aP;exact key h rfl (.inl ⟨e,hu,fun s hs=>aP s hs⟩)
   ·simp at h
  ·simp at h
 ·rename_i s x;obtain ⟨a,b,rfl⟩: ∃a b,vs= #[a,b]:=by
   have h1:vs.size=2:=hl.symm;exact ⟨vs[0],vs[1],by apply Array.ext;simp [h1];intro i h1 h2;simp at h2;rcases i with _|_|i;rfl;rfl;omega⟩
  have hs:=aV 0 s a rfl rfl;have hx:=aV 1 x b rfl rfl;have eC:s= .nil∨s= .e0:=by
   cases s<;>first|exact .inl rfl|exact .inr rfl|(simp [fu] at hq)
  split at h
  ·rename_i t h0;split at h
   ·rename_i te tx bp cM;obtain ⟨t2,h1,cM⟩:=Option.bind_eq_some_iff.1 cM;split at h
    ·rename_i k hit;split at h
     ·exact rK hE ae tn br h0 h1 bp cM hit hs hx h
     ·simp at h
    ·rename_i aP;exact o0 hE ae hX tn br h0 h1 bp cM (fun k hk=>aP k hk) hs hx eC h
   ·simp at h
  ·simp at h
 ·simp [fu] at hq
 ·simp [fu] at hq
 ·split at h
  ·rename_i v hv;simp only [Option.some.injEq,Prod.mk.injEq] at h;obtain ⟨rfl,rfl⟩:=h;cases args with
   |nil=>simp [jX] at hv
   |cons x rest=>
    obtain ⟨a,us,dF⟩: ∃a us,vs.toList=a::us:=by
     cases fj:vs.toList with
     |nil=>have:=congrArg List.length fj;simp at this;simp [this] at hl
     |cons a us=>exact ⟨a,us,rfl⟩
    have hlen:rest.length=us.length:=by have:=congrArg List.length dF;simp at this;simp at hl;omega
    have bD: ∀(i:Nat) (u:Value),(a::us)[i]? =some u→vs[i]? =some u:=fun i u hu=>by rw [←dF] at hu;simpa using hu
    obtain ⟨u,hu,hz⟩:=lv (P:=P) (op:=Builtin.min2) (f:=fun a b=>match a,b with| .int k x,.int _ y=>some (.int k (if y<x then y else x))|_,_=>none) (fun a b x y z ha hb hf=>by
     split at hf
     ·have e1:=ha.cv;have e2:=hb.cv;subst e1;subst e2;simp only [Option.some.injEq] at hf;subst hf;exact ⟨_,by simp [Builtin.min2],.fr _ _ (.int _ _)⟩
     ·simp at hf) rest us x a v hlen (fun i p q hp hq=>aV (i+1) p q hp (bD (i+1) q hq)) (aV 0 x a rfl (bD 0 a rfl)) hv
    exact bj.val ae (by simp [builtin,Builtin.min_,dF,hu]) hz
  ·simp at h
 ·split at h
  ·rename_i v hv;simp only [Option.some.injEq,Prod.mk.injEq] at h;obtain ⟨rfl,rfl⟩:=h;cases args with
   |nil=>simp [jY] at hv
   |cons x rest=>
    obtain ⟨a,us,dF⟩: ∃a us,vs.toList=a::us:=by
     cases fj:vs.toList with
     |nil=>have:=congrArg List.length fj;simp at this;simp [this] at hl
     |cons a us=>exact ⟨a,us,rfl⟩
    have hlen:rest.length=us.length:=by have:=congrArg List.length dF;simp at this;simp at hl;omega
    have bD: ∀(i:Nat) (u:Value),(a::us)[i]? =some u→vs[i]? =some u:=fun i u hu=>by rw [←dF] at hu;simpa using hu
    obtain ⟨u,hu,hz⟩:=lv (P:=P) (op:=Builtin.max2) (f:=fun a b=>match a,b with| .int k x,.int _ y=>some (.int k (if y>x then y else x))|_,_=>none) (fun a b x y z ha hb hf=>by
     split at hf
     ·have e1:=ha.cv;have e2:=hb.cv;subst e1;subst e2;simp only [Option.some.injEq] at hf;subst hf;exact ⟨_,by simp [Builtin.max2],.fr _ _ (.int _ _)⟩
     ·simp at hf) rest us x a v hlen (fun i p q hp hq=>aV (i+1) p q hp (bD (i+1) q hq)) (aV 0 x a rfl (bD 0 a rfl)) hv
    exact bj.val ae (by simp [builtin,Builtin.max_,dF,hu]) hz
  ·simp at h
 ·obtain ⟨a,rfl⟩: ∃a,vs= #[a]:=by
   have h1:vs.size=1:=hl.symm;exact ⟨vs[0],by apply Array.ext;simp [h1];intro i h1 h2;simp at h2;subst h2;rfl⟩
  have hx:=(aV 0 .nil a rfl rfl).dh;subst hx;split at h
  ·rename_i ti ht;obtain ⟨t,h0,ht⟩:=Option.bind_eq_some_iff.1 ht;split at h
   ·rename_i e hu;simp only [Option.some.injEq,Prod.mk.injEq] at h;obtain ⟨rfl,rfl⟩:=h;have hc:(Builtin.cap_ tys ty #[.slice none 0 0]).run P w= .ok (.int .i64 0) w:=by
     unfold Builtin.cap_;simp only [h0,List.getElem?_toArray,List.getElem?_cons_zero,Sem.run_bind,(hE _ _ ht).sl w hu,Result.andThen_ok];rfl
    exact bj.val ae (by simp [builtin,hc]) (.fr _ _ (.int _ _))
   ·simp at h
  ·simp at h
 ·simp at h
end ops
section step
variable {P:Program} {C:aK} {X:bq} {w:World} {G:J} {φ :af} {A:aj}
theorem bj.upon {H H' :J} {r:Result Next} {x:AV} (h:bj w G φ A H H' r x) {o:Oper} {a:Act} {next:Act→World→Prop} {Q:Exit→Act→World→Prop}
 (hn: ∀v w' ak A',Out w G φ A w' G ak A' →R w' G ak A' x v→(∀id loc,ak id=some loc→ φ id=some loc∨(H.bs.length≤id∧id<H'.bs.length))→next (a.put o.dst v) w'):o.upon P a next Q r:=by
 obtain ⟨n,v,w',ak,A',rfl,hv,hr,ho,hi⟩:=h;rcases hv with rfl|⟨rfl,rfl⟩
 ·exact hn v w' ak A' ho hr hi
 ·exact hn _ w' ak A' ho hr hi
theorem kx (hE: ∀t ti,C.E t=some ti→aS P t ti) (hX: ∀f ys H K,X f ys H K→b8 P f ys H K) (ae:St w G φ A) {o:Oper} {s:ah} {a:Act} (hs: ∀x∈o.op.operands,R w G φ A (ev s x) (a.eval x)) {th:Bool} {H H' :J} {x:AV} (hg:bf H G) (hh:GH G φ H H')
 (h:wpOp X C true th o s H (fun v1 H1=>v1=x∧H1=H')) {next:Act→World→Prop} {Q:Exit→Act→World→Prop}
 (hn: ∀v w' ak A',Out w G φ A w' G ak A' →R w' G ak A' x v→(∀id loc,ak id=some loc→ φ id=some loc∨(H.bs.length≤id∧id<H'.bs.length))→next (a.put o.dst v) w'):o.wp P a w next Q:=by
 have br:H.bs.length<H'.bs.length→ φ H.bs.length=none:=fun az=>hh.none _ (Nat.le_refl _) az;have lG:dT o.op=true→(match aO C.E o.op s H with|some (v,H1)=>v=x∧H1=H' |none=>False)→o.wp P a w next Q:=by
  intro hq bU;split at bU
  ·rename_i v H1 he;obtain ⟨rfl,rfl⟩:=bU;exact (rN hE ae hg hh.ext br hq hs he).upon hn
  ·exact bU.elim
 unfold wpOp at h;split at h
 ·rename_i b args tys bd;obtain ⟨hq,h⟩:=h;have hq:=hq rfl;split at h
  ·rename_i v H1 he;obtain ⟨rfl,rfl⟩:=h;obtain ⟨consts,cL⟩:=sD (P:=P) (w:=w) (ρ :=a.eval) bd;have:=AA hE ae hg hh.ext br (ty:=o.type) (consts:=consts) (vs:=args.map a.eval) hq (by simp) (fun i x u hx hu=>by
    simp only [List.getElem?_map,Option.map_eq_some_iff] at hx;obtain ⟨y,hy,rfl⟩:=hx;simp only [Array.getElem?_map,Option.map_eq_some_iff] at hu;obtain ⟨y',eF,rfl⟩:=hu;have:y' =y:=by simp at hy;rw [hy] at eF;simpa using eF.symm
    subst this;exact hs y' (by rw [bd];simp only [Op.operands,Call.operands];simp [Array.mem_of_getElem? eF])) he
   rw [←cL] at this;exact this.upon hn
  ·exact h.elim
 ·rename_i y args tys bd;split at h
  ·rename_i g bO cH;simp only [if_true] at h;have hx:=hs y (by rw [bd];simp [Op.operands,Call.operands])
   rw [cH] at hx;obtain ⟨vs,hv,hl,hp⟩:=hx.kU;have hc:=Aw hX ae hg hh (us:=args.map a.eval ++ vs) (by simp [hl]) (fun i y u hy hu=>by
    rcases Nat.lt_or_ge i args.size with hi|hi
    ·rw [List.getElem?_append_left (by simpa using hi)] at hy
     rw [Array.getElem?_append_left (by simpa using hi)] at hu
     simp only [List.getElem?_map,Option.map_eq_some_iff] at hy;obtain ⟨z,hz,rfl⟩:=hy;simp only [Array.getElem?_map,Option.map_eq_some_iff] at hu;obtain ⟨z',dW,rfl⟩:=hu;have:z' =z:=by simp at hz;rw [hz] at dW;simpa using dW.symm
     subst this;exact hs z' (by rw [bd];simp only [Op.operands,Call.operands];simp [Array.mem_of_getElem? dW])
    ·rw [List.getElem?_append_right (by simpa using hi)] at hy
     rw [Array.getElem?_append_right (by simpa using hi)] at hu
     exact hp _ y u (by simpa using hy) (by simpa using hu)) h
   unfold Oper.wp;rw [sC bd hv hc.1,Oper.upon_enter];refine hc.2.mono fun e w' he=> ?_
   cases e with
   |returned v' =>
    obtain ⟨ak,A',h1,h2,h3⟩:=he;exact hn v' w' ak A' h1 h2 h3
   |panicked c=>exact he.elim
   |outgrown=>exact he.elim
  ·exact h.elim
 ·exact lG (h.1 rfl) h.2
theorem AB {o:Oper} {s:ah} {th:Bool} {H H' :J} {x:AV} (h:wpOp X C true th o s H (fun v1 H1=>v1=x∧H1=H')):QG H H' :=by
 have lG:dT o.op=true→(match aO C.E o.op s H with|some (v,H1)=>v=x∧H1=H' |none=>False)→QG H H' :=by
  intro hq bU;split at bU
  ·rename_i v H1 he;obtain ⟨rfl,rfl⟩:=bU;exact .of (rV hq he)
  ·exact bU.elim
 unfold wpOp at h;split at h
 ·obtain ⟨hq,h⟩:=h;split at h
  ·rename_i v H1 he;obtain ⟨rfl,rfl⟩:=h;exact Ay (hq rfl) he
  ·exact h.elim
 ·split at h
  ·rename_i g bO cH;simp only [if_true] at h;unfold dB at h;split at h
   ·exact h.elim
   obtain ⟨y,_,_,hp⟩:=h;split at hp
   ·obtain ⟨_,rfl⟩:=hp;exact ql _ _
   ·obtain ⟨_,rfl⟩:=hp;exact .refl _
  ·exact h.elim
 ·exact lG (h.1 rfl) h.2
end step
end Go.VS
