import Derived.Test.YtmmomohapflagaaVaB
import Derived.Tactics
import Derived.Laws.Sem
namespace Go.VS
section bh
variable {w:World} {A:aj}
theorem rD {m:Mode} {sh:List Sh} {v:AV} {H:J} {y:AV} {H1:J} (h:fB m sh v H=some (y,H1)):bw H H1:=by
 cases m with
 |val=>simp only [fB,Option.some.injEq,Prod.mk.injEq] at h;obtain ⟨_,rfl⟩:=h;exact .refl _
 |dS=>exact fo sh v H y H1 h
 |io=>
  cases v<;>simp only [fB] at h
  case nil=>simp only [Option.some.injEq,Prod.mk.injEq] at h;obtain ⟨_,rfl⟩:=h;exact .refl _
  case e0=>simp only [Option.some.injEq,Prod.mk.injEq] at h;obtain ⟨_,rfl⟩:=h;exact .refl _
  case ref=>
   split at h
   ·split at h
    ·simp only [Option.some.injEq,Prod.mk.injEq] at h;obtain ⟨_,rfl⟩:=h;exact .refl _
    ·split at h
     ·exact fo _ _ H y H1 h
     ·simp at h
   ·simp at h
  case ptr=>exact fo _ _ H y H1 h
  all_goals simp at h
theorem rE: ∀(ms:List Mode) (sh:List (List Sh)) (as:List AV) (H:J) (zs:List AV) (H1:J),fY ms sh as H=some (zs,H1)→bw H H1
 |[],sh,as,H,zs,H1,h=>by
  simp only [fY,Option.some.injEq,Prod.mk.injEq] at h;obtain ⟨_,rfl⟩:=h;exact .refl _
 |m::ms,sh,[],H,zs,H1,h=>by
  simp only [fY,Option.some.injEq,Prod.mk.injEq] at h;obtain ⟨_,rfl⟩:=h;exact .refl _
 |m::ms,sh,a::as,H,zs,H1,h=>by
  simp only [fY] at h;split at h
  ·rename_i y H' h1
   split at h
   ·rename_i ys fP h2
    simp only [Option.some.injEq,Prod.mk.injEq] at h;obtain ⟨_,rfl⟩:=h;exact (rD h1).trans (rE ms _ as H' ys _ h2)
   ·simp at h
  ·simp at h
def gW (w:World) (A:aj) (B:aj) (L0:J) (aB:ag) (bZ:Bool) (vs:List AV) (us:List Value):Prop:=
 vs.length=us.length∧ ∀A0:aj,(∀c,A0 c→A c)→(bZ=true→ ∀c,A0 c→B c)→ ∀(i:Nat) (x:AV) (u:Value),vs[i]? =some x→us[i]? =some u→R w L0 aB A0 x u
theorem gW.cons {B:aj} {L L0:J} {φL aB:ag} {l1 l2:Bool} {x:AV} {u:Value} {vs:List AV} {us:List Value} (hx: ∀A0:aj,(∀c,A0 c→A c)→(l1=true→ ∀c,A0 c→B c)→R w L φL A0 x u)
 (he: ∀A0,bT w L φL A0 w L0 aB A0) (h:gW w A B L0 aB l2 vs us):gW w A B L0 aB (l1||l2) (x::vs) (u::us):=by
 refine ⟨by simp [h.1],fun A0 h1 h2 i x' u' bI aQ=> ?_⟩
 cases i with
 |zero=>simp at bI aQ;subst bI;subst aQ;exact (hx A0 h1 (fun hl=>h2 (by simp [hl]))).mono (he A0)
 |succ i=>exact h.2 A0 h1 (fun hl=>h2 (by simp [hl])) i x' u' bI aQ
theorem bT.any {L L0:J} {φL aB:ag} {A1:aj} (h:bT w L φL A1 w L0 aB A1) (A0:aj):bT w L φL A0 w L0 aB A0:=
 ⟨fun _c _a _t fr hc hn=>⟨⟨fr,hc⟩,hn⟩,h.st,h.ids,h.sz⟩
theorem rF {H:J} {φ :ag} {H1:J} {L:J} {φL:ag} (ae:St w H φ A) (hl:bw H H1) {a:AV} {u:Value} (ha:R w H φ A a u) {y:AV} (hs:aL 8 H1 a=some y):
 ∀A0:aj,(∀c,A0 c→A c)→(eZ a=true→ ∀c,A0 c→fO (aC φ H1) A c)→R w L φL A0 y u:=by
 intro A0 h1 h2;obtain ⟨s1,s2,_⟩:=(ry (eg ae hl) 8).1 a u y (ha.mono (c5 hl)) hs;cases hle:eZ a with
 |false=>exact .fr _ _ ((s2 hle).shrink h1)
 |true=>exact .fr _ _ (s1.shrink (h2 hle))
theorem mC: ∀(as:List AV) (ms:List Mode) (fU:List (List Sh)) (us:List Value) (H:J) (φ :ag) (zs:List AV) (H1:J) (ys:List AV) (bZ:Bool) (L:J) (φL:ag) (vs:List AV) (L0:J),
 b4 w H φ A L φL A→as.length=us.length→(∀(i:Nat) (x:AV) (u:Value),as[i]? =some x→us[i]? =some u→R w H φ A x u)→fY ms fU as H=some (zs,H1)→cd ms zs H1=some (ys,bZ)→ci ms ys L=(vs,L0)→
 ∃aB,b5 w H φ A L φL A H1 L0 aB∧gW w A (fO (aC φ H1) A) L0 aB bZ vs us∧bW H φ L0 aB ms as vs
 |[],ms,fU,us,H,φ,zs,H1,ys,bZ,L,φL,vs,L0,hd,hl,hr,h1,h2,h3=>by
  have hR:zs=[]∧H1=H:=by
   cases ms<;>simp only [fY,Option.some.injEq,Prod.mk.injEq] at h1<;>exact ⟨h1.1.symm,h1.2.symm⟩
  obtain ⟨rfl,rfl⟩:=hR;have cy:ys=[]∧bZ=false:=by
   cases ms<;>simp only [cd,Option.some.injEq,Prod.mk.injEq] at h2<;>exact ⟨h2.1.symm,h2.2.symm⟩
  obtain ⟨rfl,rfl⟩:=cy;have dV:vs=[]∧L0=L:=by
   cases ms<;>simp only [ci,Prod.mk.injEq] at h3<;>exact ⟨h3.1.symm,h3.2.symm⟩
  obtain ⟨rfl,rfl⟩:=dV;refine ⟨φL,.refl hd,⟨by simpa using hl,by simp⟩,?_⟩
  cases ms with
  |nil=>simp [bW]
  |cons m ms=>cases m<;>simp [bW]
 |a::as,[],fU,us,H,φ,zs,H1,ys,bZ,L,φL,vs,L0,hd,hl,hr,h1,h2,h3=>by
  match us,hl with
  |u::us,hl=>
  simp only [fY,Option.some.injEq,Prod.mk.injEq] at h1;obtain ⟨rfl,rfl⟩:=h1;simp only [cd] at h2;split at h2
  ·rename_i y hy;split at h2
   ·rename_i aU b cy
    simp only [Option.some.injEq,Prod.mk.injEq] at h2;obtain ⟨rfl,rfl⟩:=h2;simp only [ci,mz _ _ _ _ hy,List.tail_nil,Prod.mk.injEq] at h3;obtain ⟨rfl,rfl⟩:=h3;obtain ⟨aB,m,cq,_⟩:=mC as [] fU us H φ as H aU b L φL _ _ hd (by simpa using hl) (fun i x u hx hu=>hr (i+1) x u hx hu) rfl cy rfl
    exact ⟨aB,m,gW.cons (rF (L:=L) (φL:= φL) hd.sl (.refl _) (hr 0 a u rfl rfl) hy) (fun A0=>m.eh.any A0) cq,by simp [bW]⟩
   ·simp at h2
  ·simp at h2
 |a::as,md::ms,fU,us,H,φ,zs,H1,ys,bZ,L,φL,vs,L0,hd,hl,hr,h1,h2,h3=>by
  match us,hl with
  |u::us,hl=>
  simp only [fY] at h1;split at h1
  rotate_left
  ·simp at h1
  rename_i z H' hz
  split at h1
  rotate_left
  ·simp at h1
  rename_i gX fP hR
  simp only [Option.some.injEq,Prod.mk.injEq] at h1;obtain ⟨rfl,rfl⟩:=h1;have dz:=rD hz;have dx:=rE _ _ _ _ _ _ hR;have ha:=hr 0 a u rfl rfl;have rest: ∀{aU:List AV} {b:Bool} {L' :J} {ak:ag} (m1:b5 w H φ A L φL A H' L' ak) (cy:cd ms gX fP=some (aU,b)),
   ∃aB,b5 w H' (aC φ H') A L' ak A fP (ci ms aU L').2 aB∧gW w A (fO (aC φ fP) A) (ci ms aU L').2 aB b (ci ms aU L').1 us∧bW H' (aC φ H') (ci ms aU L').2 aB ms as (ci ms aU L').1:=by
   intro aU b L' ak m1 cy
   obtain ⟨aB,m,cq,ej⟩:=mC as ms fU.tail us H' (aC φ H') gX fP aU b L' ak _ _ m1.bh (by simpa using hl) (fun i x u hx hu=>(hr (i+1) x u hx hu).mono (c5 dz)) hR cy rfl
   refine ⟨aB,m,?_,ej⟩;rw [gp dx] at cq;exact cq
  cases md with
  |val=>
   simp only [fB,Option.some.injEq,Prod.mk.injEq] at hz;obtain ⟨rfl,rfl⟩:=hz;simp only [cd] at h2;split at h2
   rotate_left
   ·simp at h2
   rename_i y hy;split at h2
   rotate_left
   ·simp at h2
   rename_i aU b cy
   simp only [Option.some.injEq,Prod.mk.injEq] at h2;obtain ⟨rfl,rfl⟩:=h2;have jq:ci (.val::ms) (y::aU) L=(y::(ci ms aU L).1,(ci ms aU L).2):=by
    simp only [ci,mz _ _ _ _ hy,List.tail_cons]
   rw [jq] at h3;simp only [Prod.mk.injEq] at h3;obtain ⟨rfl,rfl⟩:=h3;obtain ⟨aB,m,cq,ej⟩:=rest (b5.refl hd) cy;refine ⟨aB,(b5.refl hd).trans m,gW.cons (L:=L) (φL:= φL) (fun A0 q1 q2=> ?_) (fun A0=>m.eh.any A0) cq,?_⟩
   ·exact rF (L:=L) (φL:= φL) hd.sl dx ha hy A0 q1 q2
   ·simp only [bW];exact bW.mono (.refl _) (fun _ _ h=>h) (fun _ _ h=>h) ej
  |dS=>
   have ea:aR (fU.headD []) a H=some (z,H'):=hz
   simp only [cd] at h2;split at h2
   rotate_left
   ·simp at h2
   rename_i aU b cy
   simp only [Option.some.injEq,Prod.mk.injEq] at h2;obtain ⟨rfl,rfl⟩:=h2;have jq:ci (.dS::ms) (z::aU) L=((aD z L).1::(ci ms aU (aD z L).2).1,(ci ms aU (aD z L).2).2):=by
    simp only [ci,List.tail_cons]
   rw [jq] at h3;simp only [Prod.mk.injEq] at h3;obtain ⟨rfl,rfl⟩:=h3;obtain ⟨φ1,m1,r1⟩:=rm hd ha ea rfl (.inl fun _ h=>h)
   obtain ⟨aB,m,cq,ej⟩:=rest m1 cy;have:=gW.cons (l1:=false) (L:=(aD z L).2) (φL:= φ1) (x:=(aD z L).1) (u:=u) (fun A0 q1 _=>r1.mw q1) (fun A0=>m.eh.any A0) cq;refine ⟨aB,m1.trans m,by simpa using this,?_⟩
   simp only [bW];exact bW.mono dz (fun _ _ h=>h) (fun _ _ h=>h) ej
  |io=>
   simp only [cd] at h2;split at h2
   rotate_left
   ·simp at h2
   rename_i aU b cy
   simp only [Option.some.injEq,Prod.mk.injEq] at h2;obtain ⟨rfl,rfl⟩:=h2;rcases yF hd ha hz with ⟨sz,xs,φ1,rfl,m1,r1,ro⟩|⟨sz,x,φ1,rfl,m1,r1,ro⟩
   ·have jq:ci (.io::ms) (.own sz xs::aU) L=(.ref (az xs L).2.bs.length (az xs L).2.st 0 (az xs L).1.length::(ci ms aU ((az xs L).2.new sz true (az xs L).1)).1,(ci ms aU ((az xs L).2.new sz true (az xs L).1)).2):=by
     simp only [ci]
    rw [jq] at h3;simp only [Prod.mk.injEq] at h3;obtain ⟨rfl,rfl⟩:=h3;obtain ⟨aB,m,cq,ej⟩:=rest m1 cy;have:=gW.cons (l1:=false) (φL:= φ1) (u:=u) (fun A0 q1 _=>r1.mw q1) (fun A0=>m.eh.any A0) cq;refine ⟨aB,m1.trans m,by simpa using this,?_⟩
    simp only [bW];refine ⟨?_,bW.mono dz (fun _ _ h=>h) (fun _ _ h=>h) ej⟩;obtain ⟨k,kv,bk,e1,e2,⟨loc,ig⟩,e3,e4⟩:=ro;exact ⟨k,kv,bk,e1,mA m.bB e2,⟨loc,m.bV _ _ ig⟩,e3,fun id ad hr=>by obtain ⟨b,c,b0,q1,q2,q3,q4,q5⟩:=e4 id ad hr;exact ⟨b,c,b0,q1,q2,q3,q4,m.bV _ _ q5⟩⟩
   ·have jq:ci (.io::ms) (.dB sz x::aU) L=((aD (.dB sz x) L).1::(ci ms aU (aD (.dB sz x) L).2).1,(ci ms aU (aD (.dB sz x) L).2).2):=by
     simp only [ci,List.tail_cons]
    rw [jq] at h3;simp only [Prod.mk.injEq] at h3;obtain ⟨rfl,rfl⟩:=h3;obtain ⟨aB,m,cq,ej⟩:=rest m1 cy;have:=gW.cons (l1:=false) (φL:= φ1) (u:=u) (fun A0 q1 _=>r1.mw q1) (fun A0=>m.eh.any A0) cq;refine ⟨aB,m1.trans m,by simpa using this,?_⟩
    simp only [bW];refine ⟨?_,bW.mono dz (fun _ _ h=>h) (fun _ _ h=>h) ej⟩;obtain ⟨k,kv,bk,e1,e2,⟨loc,ig⟩,e3,e4⟩:=ro;exact ⟨k,kv,bk,e1,mA m.bB e2,⟨loc,m.bV _ _ ig⟩,e3,fun id ad hr=>by obtain ⟨b,c,b0,q1,q2,q3,q4,q5⟩:=e4 id ad hr;exact ⟨b,c,b0,q1,q2,q3,q4,m.bV _ _ q5⟩⟩
end bh
end Go.VS
namespace Go.VS
def cz (L Lm:J):List Mode→List AV→List (List AV)→Prop
 | .io::ms,x::xs,l::ls=>(∃k kv b,kH x=some (k,kv)∧L.aq k kv=some b∧b.el=l∧Lm.get k=none)∧cz L Lm ms xs ls
 | .io::_,_::_,[]=>False
 | .val::ms,_::xs,ls=>cz L Lm ms xs ls
 | .dS::ms,_::xs,ls=>cz L Lm ms xs ls
 |_,_,_=>True
theorem cz.mono {L0 L Lm:J} (h:bw L0 L): ∀{ms:List Mode} {xs:List AV} {ls:List (List AV)},cz L Lm ms xs ls→cz L0 Lm ms xs ls
 |[],xs,ls,_=>by simp [cz]
 |m::ms,[],ls,_=>by cases m<;>simp [cz]
 | .val::ms,x::xs,ls,hr=>by simp only [cz] at hr⊢;exact hr.mono h
 | .dS::ms,x::xs,ls,hr=>by simp only [cz] at hr⊢;exact hr.mono h
 | .io::ms,x::xs,[],hr=>by simp only [cz] at hr
 | .io::ms,x::xs,l::ls,hr=>by
  simp only [cz] at hr⊢;obtain ⟨⟨k,kv,b,h1,h2,h3,h4⟩,h5⟩:=hr;exact ⟨⟨k,kv,b,h1,J.rC h h2,h3,h4⟩,h5.mono h⟩
theorem mD: ∀(ms:List Mode) (vs:List AV) (L:J) (ls:List (List AV)) (Lm:J),fE ms vs L=some (ls,Lm)→bw L Lm∧cz L Lm ms vs ls
 |[],vs,L,ls,Lm,h=>by
  simp only [fE,Option.some.injEq,Prod.mk.injEq] at h;obtain ⟨rfl,rfl⟩:=h;exact ⟨.refl _,by simp [cz]⟩
 |m::ms,[],L,ls,Lm,h=>by
  cases m<;>(simp only [fE,Option.some.injEq,Prod.mk.injEq] at h;obtain ⟨rfl,rfl⟩:=h;exact ⟨.refl _,by simp [cz]⟩)
 | .val::ms,x::xs,L,ls,Lm,h=>by simp only [fE] at h;simpa only [cz] using mD ms xs L ls Lm h
 | .dS::ms,x::xs,L,ls,Lm,h=>by simp only [fE] at h;simpa only [cz] using mD ms xs L ls Lm h
 | .io::ms,x::xs,L,ls,Lm,h=>by
  simp only [fE] at h;split at h
  ·rename_i id ad hk;split at h
   ·rename_i b hb;split at h
    ·rename_i r H' hr
     simp only [Option.some.injEq,Prod.mk.injEq] at h;obtain ⟨rfl,rfl⟩:=h;obtain ⟨h1,h2⟩:=mD ms xs _ _ _ hr;refine ⟨(bw.del L id).trans h1,?_⟩;simp only [cz];refine ⟨⟨id,ad,b,hk,hb,rfl,?_⟩,h2.mono (bw.del L id)⟩;cases hq:H'.get id with
     |none=>rfl
     |some b=>have:=h1.get _ _ hq;rw [J.iK,if_pos rfl] at this;simp at this
    ·simp at h
   ·simp at h
  ·simp at h
def junk (b:bG):bG:={b with el:=b.el.map fun _=> .agg (List.replicate b.sz .undef)}
theorem yH {H:J} {id k:Nat} {b b' :bG} (h:(H.bg id b).get k=some b'):(k=id∧b' =b)∨H.get k=some b' :=by
 unfold J.bg J.get at h;simp only [List.getElem?_set] at h;by_cases hk:id=k
 ·subst hk;simp only [if_true] at h;split at h
  ·simp at h;exact .inl ⟨rfl,h.symm⟩
  ·simp at h
 ·rw [if_neg hk] at h;exact .inr h
theorem mE {H:J} {id:Nat} {b:bG} (h:id<H.bs.length) (k:Nat):(H.bg id b).get k=if k=id then some b else H.get k:=by
 unfold J.bg J.get;simp only [List.getElem?_set];by_cases hk:id=k
 ·subst hk;simp [h]
 ·rw [if_neg hk,if_neg (fun e=>hk e.symm)]
def fq (H0:J) (v:AV) (H:J):J:=
 match dE v with
 |some (id,ad)=>match H0.aq id ad with
  |some b=>H.bg id (junk b)
  |none=>H
 |none=>H
theorem rG (H0:J) (v:AV) (H:J):(fq H0 v H).bs.length=H.bs.length∧(fq H0 v H).st=H.st:=by
 unfold fq;split
 ·split
  ·simp [J.bg]
  ·exact ⟨rfl,rfl⟩
 ·exact ⟨rfl,rfl⟩
theorem mF (H0:J) (ms:List Mode) (v:AV) (vs:List AV) (H:J):b7 H0 (.io::ms) (v::vs) H=b7 H0 ms vs (fq H0 v H):=rfl
theorem yI {H0:J} {v:AV} {H:J} {k:Nat} {b' :bG} (h:(fq H0 v H).get k=some b'):H.get k=some b' ∨ ∃ad b,dE v=some (k,ad)∧H0.aq k ad=some b∧b' =junk b:=by
 unfold fq at h;split at h
 ·rename_i id ad hr;split at h
  ·rename_i b hb;rcases yH h with ⟨rfl,rfl⟩|h
   ·exact .inr ⟨ad,b,hr,hb,rfl⟩
   ·exact .inl h
  ·exact .inl h
 ·exact .inl h
theorem mG (H0:J): ∀(ms:List Mode) (as:List AV) (H:J),(b7 H0 ms as H).bs.length=H.bs.length∧(b7 H0 ms as H).st=H.st
 |[],as,H=>by simp [b7]
 |m::ms,[],H=>by cases m<;>simp [b7]
 | .val::ms,a::as,H=>by simp only [b7];exact mG H0 ms as H
 | .dS::ms,a::as,H=>by simp only [b7];exact mG H0 ms as H
 | .io::ms,a::as,H=>by
  rw [mF];have:=mG H0 ms as (fq H0 a H);have h2:=rG H0 a H;exact ⟨this.1.trans h2.1,this.2.trans h2.2⟩
theorem mH (H0:J) {Lx Lm:J} {φ :ag} {L0:J} {aB:ag}: ∀(ms:List Mode) (as vs:List AV) (ls:List (List AV)) (H:J) (k:Nat) (b' :bG),as.length=vs.length→bW H0 φ L0 aB ms as vs→cz Lx Lm ms vs ls→
 (b7 H0 ms as H).get k=some b' →H.get k=some b' ∨ ∃a x ad b kk kv bk,dE a=some (k,ad)∧H0.aq k ad=some b∧b' =junk b∧ie H0 φ L0 aB a x∧kH x=some (kk,kv)∧Lx.aq kk kv=some bk∧Lm.get kk=none
 |[],as,vs,ls,H,k,b',_,_,_,h=>by simp only [b7] at h;exact .inl h
 |m::ms,[],vs,ls,H,k,b',_,_,_,h=>by cases m<;>(simp only [b7] at h;exact .inl h)
 |m::ms,a::as,[],ls,H,k,b',hl,_,_,h=>by simp at hl
 | .val::ms,a::as,x::vs,ls,H,k,b',hl,h1,h2,h=>by
  simp only [b7] at h;exact mH H0 ms as vs ls H k b' (by simpa using hl) (by simpa only [bW] using h1) (by simpa only [cz] using h2) h
 | .dS::ms,a::as,x::vs,ls,H,k,b',hl,h1,h2,h=>by
  simp only [b7] at h;exact mH H0 ms as vs ls H k b' (by simpa using hl) (by simpa only [bW] using h1) (by simpa only [cz] using h2) h
 | .io::ms,a::as,x::vs,[],H,k,b',hl,h1,h2,h=>by simp only [cz] at h2
 | .io::ms,a::as,x::vs,l::ls,H,k,b',hl,h1,h2,h=>by
  rw [mF] at h;simp only [bW] at h1;simp only [cz] at h2;rcases mH H0 ms as vs ls _ k b' (by simpa using hl) h1.2 h2.2 h with h3|h3
  ·rcases yI h3 with h4|⟨ad,b,q1,q2,q3⟩
   ·exact .inl h4
   ·obtain ⟨kk,kv,bk,p1,p2,_,p4⟩:=h2.1;exact .inr ⟨a,x,ad,b,kk,kv,bk,q1,q2,q3,h1.1,p1,p2,p4⟩
  ·exact .inr h3
def Has (Hx:J) (id ad:Nat) (b:bG):Prop:= ∃b',Hx.aq id ad=some b' ∧b'.sz=b.sz∧b'.el.length=b.el.length
theorem Has.fq {H0 Hx:J} {id ad:Nat} {b:bG} (h0:H0.aq id ad=some b) (h:Has Hx id ad b) (v:AV):Has (fq H0 v Hx) id ad b:=by
 obtain ⟨b',h1,h2,h3⟩:=h;unfold VS.fq;split
 ·rename_i mI By hr;split
  ·rename_i b2 fJ;have ax:id<Hx.bs.length:=J.f_ (J.bm h1).1;by_cases bU:mI=id
   ·subst bU;have g1:=J.bm h0;have g2:=J.bm fJ;have:b2=b:=by have:=g1.1.symm.trans g2.1;simp only [Option.some.injEq] at this;exact this.symm
    subst this;refine ⟨junk b2,?_,rfl,by simp [junk]⟩
    have:=J.fb (H:=Hx.bg mI (junk b2)) (id:=mI) (b:=junk b2) (by rw [mE ax,if_pos rfl])
    rw [←g1.2];exact this
   ·refine ⟨b',?_,h2,h3⟩;have g:=J.bm h1;have:(Hx.bg mI (junk b2)).get id=some b' :=by
     unfold J.bg J.get;simp only [List.getElem?_set];rw [if_neg bU];exact g.1
    rw [←g.2];exact J.fb this
  ·exact ⟨b',h1,h2,h3⟩
 ·exact ⟨b',h1,h2,h3⟩
theorem Has.mJ {H0:J} {id ad:Nat} {b:bG} (h0:H0.aq id ad=some b): ∀(ms:List Mode) (as:List AV) (Hx:J),Has Hx id ad b→Has (b7 H0 ms as Hx) id ad b
 |[],as,Hx,h=>by simpa only [b7] using h
 |m::ms,[],Hx,h=>by cases m<;>simpa only [b7] using h
 | .val::ms,a::as,Hx,h=>by simp only [b7];exact Has.mJ h0 ms as Hx h
 | .dS::ms,a::as,Hx,h=>by simp only [b7];exact Has.mJ h0 ms as Hx h
 | .io::ms,a::as,Hx,h=>by rw [mF];exact Has.mJ h0 ms as _ (h.fq h0 a)
theorem Has.self {H0 Hx:J} {id ad:Nat} {b:bG} (h0:H0.aq id ad=some b) (hlen:Hx.bs.length=H0.bs.length) {a:AV} (hr:dE a=some (id,ad)):Has (VS.fq H0 a Hx) id ad b:=by
 have g:=J.bm h0;have ax:id<Hx.bs.length:=by rw [hlen];exact J.f_ g.1
 unfold VS.fq;simp only [hr,h0];refine ⟨junk b,?_,rfl,by simp [junk]⟩
 have:=J.fb (H:=Hx.bg id (junk b)) (id:=id) (b:=junk b) (by rw [mE ax,if_pos rfl])
 rw [←g.2];exact this
structure o9 (w:World) (A:aj) (aB:ag) (w' :World) (ak:ag) (AH:aj):Prop where
 own: ∀c,A c→ ¬Ow aB c→AH c
 ei: ∀c,Ow ak c→AH c
 cj: ∀c,AH c→c<w'.heap.size
 fz: ∀c arr T fr,w.heap[c]? =some (.cells arr T fr)→ ¬A c→(∃eO,w'.heap[c]? =some (.cells arr T eO))∧ ¬AH c
def yJ (w:World) (L:J) (φL:ag) (AL:aj) (H:J) (φ :ag) (a:AV) (l:List AV):Prop:=
 (dE a=none→l=[])∧ ∀id ad,dE a=some (id,ad)→ ∃c b0 b arr T fr,H.aq id ad=some b∧ φ id=some (.at_ c b0)∧w.heap[c]? =some (.cells arr T fr)∧l.length=b.el.length∧
  (∀(i:Nat) (x:AV),l[i]? =some x→x.cells.length=b.sz)∧ ∀(i:Nat) (x:AV) (j:Nat) (y:AV) (v:Value),l[i]? =some x→x.cells[j]? =some y→arr[b0+i*b.sz+j]? =some v→R w L φL AL y v
def cL (w:World) (L:J) (φL:ag) (AL:aj) (H:J) (φ :ag):List Mode→List AV→List (List AV)→Prop
 | .io::ms,a::as,l::ls=>yJ w L φL AL H φ a l∧cL w L φL AL H φ ms as ls
 | .val::ms,_::as,ls=>cL w L φL AL H φ ms as ls
 | .dS::ms,_::as,ls=>cL w L φL AL H φ ms as ls
 |_,_,_=>True
section back
variable {w w' :World} {A:aj} {H:J} {φ :ag} {H1 L0:J} {aB:ag} {A0:aj} {L:J} {ak:ag} {A' AH:aj} {ms:List Mode} {as vs:List AV} {ls:List (List AV)} {Lm:J}
theorem mK (m:b5 w H φ A ⟨0,[]⟩ (fun _=>none) A H1 L0 aB) (ho:Out w L0 aB A0 w' L ak A') {a x:AV} (hr:ie H φ L0 aB a x) {kk kv:Nat} {bk:bG} (hk:kH x=some (kk,kv)) (hb:L.aq kk kv=some bk):
 (dE a=none→bk.el=[])∧ ∀id ad,dE a=some (id,ad)→ ∃b c b0,H.aq id ad=some b∧bk.sz=b.sz∧bk.el.length=b.el.length∧ φ id=some (.at_ c b0)∧ak kk=some (.at_ c b0)∧qo w' L ak A' bk (.at_ c b0):=by
 obtain ⟨k,Bz,b1,e1,e2,⟨loc,ig⟩,e3,e4⟩:=hr;rw [hk] at e1;simp only [Option.some.injEq,Prod.mk.injEq] at e1;obtain ⟨rfl,rfl⟩:=e1;obtain ⟨g1,g2⟩:=J.bm hb;obtain ⟨f1,f2⟩:=J.bm e2;have ax:kv<L0.st:=by
  obtain ⟨bb,p1,p2⟩:=m.bh.sh.aq kk loc ig;rw [f1] at p1;simp only [Option.some.injEq] at p1;subst p1;rw [←f2];exact p2.ad
 ·obtain ⟨b2,i1,i2,i3,i4,i5,i6⟩:=ho.b8.ids kk bk g1 (by omega)
  rw [f1] at i1;simp only [Option.some.injEq] at i1;subst i1;refine ⟨fun h=>List.eq_nil_of_length_eq_zero (by rw [i5,e3 h];rfl),fun id ad h=> ?_⟩
  obtain ⟨b,c,b0,q1,q2,q3,q4,q5⟩:=e4 id ad h;have hp:=i6 _ q5;obtain ⟨bb,p1,p2⟩:=ho.st.aq kk _ hp;rw [g1] at p1;simp only [Option.some.injEq] at p1;subst p1;exact ⟨b,c,b0,q1,i3.trans q2,i5.trans q3,q4,hp,p2⟩
theorem rH (ae:St w H φ A) (m:b5 w H φ A ⟨0,[]⟩ (fun _=>none) A H1 L0 aB) (hlen:as.length=vs.length) (ej:bW H φ L0 aB ms as vs) (ho:Out w L0 aB A0 w' L ak A') (ha:o9 w A aB w' ak AH) (ht:fE ms vs L=some (ls,Lm)):
 b4 w' Lm (aC ak Lm) A' (b7 H ms as H1) (aC φ (b7 H ms as H1)) AH∧bT w H φ A w' (b7 H ms as H1) (aC φ (b7 H ms as H1)) AH:=by
 obtain ⟨dz,o_⟩:=mD _ _ _ _ _ ht;have bu: ∀c,Ow aB c→Ow φ c:=fun c hc=>by
  rcases m.oh c hc with ⟨i,b,h⟩|h
  ·simp at h
  ·exact h.1
 have bB:=fun k b' =>mH H ms as vs ls H1 k b' hlen ej o_
 have pa:=(mG H ms as H1).2;have a7:bT w H φ A w' (b7 H ms as H1) (aC φ (b7 H ms as H1)) AH:=by
  refine ⟨ha.fz,by rw [pa,m.less.st];exact Nat.le_refl _,fun id b' ay _=> ?_,fun c hc=>ho.post.bj c (Ow.lt ae hc)⟩
  have bV: ∀loc,φ id=some loc→aC φ (b7 H ms as H1) id=some loc:=fun loc h=>by simp [aC,ay,h]
  rcases bB id b' ay with h|⟨a,x,ad,b,kk,kv,bk,q1,q2,rfl,q4,q5,q6,q7⟩
  ·exact ⟨b',m.less.get _ _ h,rfl,rfl,rfl,rfl,bV⟩
  ·exact ⟨b,(J.bm q2).1,rfl,rfl,rfl,by simp [junk],bV⟩
 refine ⟨⟨eg ho.st dz,⟨fun i i' c b b' h1 h2=>ae.inj _ _ _ _ _ (dy h1).1 (dy h2).1,fun c hc=> ?_,ha.cj,fun id loc hl=> ?_⟩,fun c hc hj=> ?_,fun c hc=>ha.ei c (bD hc)⟩,a7⟩
 ·obtain ⟨id,b0,h⟩:=hc;obtain ⟨h1,b',ay⟩:=dy h;rcases bB id b' ay with h2|⟨a,x,ad,b,kk,kv,bk,q1,q2,rfl,q4,q5,q6,q7⟩
  ·refine ha.own c (ae.own c ⟨id,b0,h1⟩) (m.bh.b_ c ⟨id,b0,?_⟩);simp [aC,h2,h1]
  ·obtain ⟨_,re⟩:=mK m ho q4 q5 q6;obtain ⟨b2,c2,pb,_,_,_,r4,r5,_⟩:=re id _ q1;rw [h1] at r4;simp only [Option.some.injEq,Loc.at_.injEq] at r4;obtain ⟨rfl,rfl⟩:=r4;exact ha.ei c ⟨kk,b0,r5⟩
 ·obtain ⟨h1,b',ay⟩:=dy hl;refine ⟨b',ay,?_⟩;rcases bB id b' ay with h2|⟨a,x,ad,b,kk,kv,bk,q1,q2,rfl,q4,q5,q6,q7⟩
  ·obtain ⟨b2,fJ,af⟩:=ae.aq id loc h1;rw [m.less.get _ _ h2] at fJ;simp only [Option.some.injEq] at fJ;subst fJ;refine ⟨by rw [pa,m.less.st];exact af.ad,af.sized,af.aS,fun c b0 he=> ?_⟩
   subst he;obtain ⟨arr,T,fr,k1,k2,k3,k4⟩:=af.here c b0 rfl;have hn: ¬Ow aB c:=m.bh.b_ c ⟨id,b0,by simp [aC,h2,h1]⟩
   refine ⟨arr,T,fr,?_,k2,k3,fun i x j y v hx hy hv=>⟨(k4 i x j y v hx hy hv).1.mono a7,(k4 i x j y v hx hy hv).2⟩⟩;rw [ho.post.kept c (Ow.lt ae ⟨id,b0,h1⟩) hn];exact k1
  ·obtain ⟨_,re⟩:=mK m ho q4 q5 q6;obtain ⟨b2,c2,pb,r1,r2,r3,r4,r5,af⟩:=re id _ q1;rw [h1] at r4;simp only [Option.some.injEq] at r4;subst r4;rw [q2] at r1;simp only [Option.some.injEq] at r1;subst r1;obtain ⟨b3,kV,yK⟩:=ae.aq id _ h1;rw [(J.bm q2).1] at kV;simp only [Option.some.injEq] at kV;subst kV;have hcs: ∀(i:Nat) (x:AV),(junk b).el[i]? =some x→i<b.el.length∧x= .agg (List.replicate b.sz .undef):=by
    intro i x hx;simp only [junk,List.getElem?_map,Option.map_eq_some_iff] at hx;obtain ⟨z,hz,rfl⟩:=hx;exact ⟨(List.getElem?_eq_some_iff.1 hz).1,rfl⟩
   refine ⟨by rw [pa,m.less.st];exact yK.ad,fun i x hx=>by rw [(hcs i x hx).2];simp [AV.cells,junk],fun h=>by simp at h,fun c b0 he=> ?_⟩
   simp only [Loc.at_.injEq] at he;obtain ⟨rfl,rfl⟩:=he;obtain ⟨arr,T,fr,k1,k2,k3,k4⟩:=af.here c2 pb rfl;refine ⟨arr,T,fr,k1,k2,by simp only [junk,List.length_map];rw [←r3,←r2];exact k3,fun i x j y v hx hy hv=> ?_⟩
   obtain ⟨hi,rfl⟩:=hcs i x hx;have hj:j<b.sz:=by have:=(List.getElem?_eq_some_iff.1 hy).1;simpa [AV.cells] using this
   have yL:y= .undef:=by simp only [AV.cells] at hy;rw [List.getElem?_replicate,if_pos hj] at hy;simpa using hy.symm
   subst yL;refine ⟨.fr _ _ (.undef _),?_⟩;have lj:=List.getElem?_eq_getElem (show i<bk.el.length by omega)
   exact (k4 i _ j _ v lj (List.getElem?_eq_getElem (show j<_ by rw [af.sized _ _ lj,r2];exact hj)) (by rw [r2];exact hv)).2
 ·obtain ⟨id,b0,h⟩:=hj;obtain ⟨h1,b',ay⟩:=dy h;rcases bB id b' ay with h2|⟨a,x,ad,b,kk,kv,bk,q1,q2,rfl,q4,q5,q6,q7⟩
  ·rcases ho.post.own c (bD hc) with h3|h3
   ·exact m.bh.b_ c ⟨id,b0,by simp [aC,h2,h1]⟩ h3
   ·have:=Ow.lt ae ⟨id,b0,h1⟩;omega
  ·obtain ⟨_,re⟩:=mK m ho q4 q5 q6;obtain ⟨b2,c2,pb,_,_,_,r4,r5,_⟩:=re id _ q1;rw [h1] at r4;simp only [Option.some.injEq,Loc.at_.injEq] at r4;obtain ⟨rfl,rfl⟩:=r4;obtain ⟨i,bb,hi⟩:=hc;obtain ⟨fN,bx,rI⟩:=dy hi;have:=ho.st.inj _ _ _ _ _ fN r5;subst this;rw [q7] at rI;simp at rI
theorem pc (m:b5 w H φ A ⟨0,[]⟩ (fun _=>none) A H1 L0 aB) (ho:Out w L0 aB A0 w' L ak A') (dz:bw L Lm) {Hj:J}:
 ∀(ms:List Mode) (as vs:List AV) (ls:List (List AV)) (Hx:J),Hx.bs.length=H.bs.length→as.length=vs.length→bW H φ L0 aB ms as vs→cz L Lm ms vs ls→Hj=b7 H ms as Hx→cL w' Lm (aC ak Lm) A' Hj (aC φ Hj) ms as ls
 |[],as,vs,ls,Hx,_,_,_,_,_=>by simp [cL]
 |m::ms,[],vs,ls,Hx,_,_,_,_,_=>by cases m<;>simp [cL]
 |m::ms,a::as,[],ls,Hx,_,hl,_,_,_=>by simp at hl
 | .val::ms,a::as,x::vs,ls,Hx,hb,hl,h1,h2,h3=>by
  simp only [cL];exact pc m ho dz ms as vs ls Hx hb (by simpa using hl) (by simpa only [bW] using h1) (by simpa only [cz] using h2) (by simpa only [b7] using h3)
 | .dS::ms,a::as,x::vs,ls,Hx,hb,hl,h1,h2,h3=>by
  simp only [cL];exact pc m ho dz ms as vs ls Hx hb (by simpa using hl) (by simpa only [bW] using h1) (by simpa only [cz] using h2) (by simpa only [b7] using h3)
 | .io::ms,a::as,x::vs,[],Hx,hb,hl,h1,h2,h3=>by simp only [cz] at h2
 | .io::ms,a::as,x::vs,l::ls,Hx,hb,hl,h1,h2,h3=>by
  simp only [bW] at h1;simp only [cz] at h2;rw [mF] at h3;simp only [cL];refine ⟨?_,pc m ho dz ms as vs ls _ ((rG H a Hx).1.trans hb) (by simpa using hl) h1.2 h2.2 h3⟩
  obtain ⟨kk,kv,bk,q1,q2,rfl,q4⟩:=h2.1;obtain ⟨r1,r2⟩:=mK m ho h1.1 q1 q2;refine ⟨r1,fun id ad hr=> ?_⟩;obtain ⟨b,c,b0,p1,p2,p3,p4,p5,af⟩:=r2 id ad hr;obtain ⟨b',e1,e2,e3⟩:=Has.mJ p1 ms as _ (Has.self p1 hb hr);rw [←h3] at e1;obtain ⟨arr,T,fr,k1,k2,k3,k4⟩:=af.here c b0 rfl;refine ⟨c,b0,b',arr,T,fr,e1,by simp [aC,(J.bm e1).1,p4],k1,by rw [p3,e3],fun i x hx=>by rw [af.sized i x hx,p2,e2],fun i x j y v hx hy hv=> ?_⟩
  rw [e2,←p2] at hv;exact (k4 i x j y v hx hy hv).1.mono (c5 dz)
end back
end Go.VS
namespace Go.VS
section back
variable {w:World} {AL AH:aj}
structure Mv (w:World) (L:J) (φL:ag) (AL:aj) (H:J) (φ :ag) (AH:aj) (L1 H1:J) (φ1:ag):Prop where
 less:bw L L1
 bh:b4 w L1 (aC φL L1) AL H1 φ1 AH
 eh:bT w H φ AH w H1 φ1 AH
 oh: ∀c,Ow φ1 c→Ow φ c∨(Ow φL c∧ ¬Ow (aC φL L1) c)
 has: ∀id ad b,H.aq id ad=some b→ ∃b',H1.aq id ad=some b' ∧b'.sz=b.sz∧b'.el.length=b.el.length
 bV: ∀id loc,φ id=some loc→ φ1 id=some loc
theorem b5.mv {L:J} {φL:ag} {H:J} {φ :ag} {L1 H1:J} {φ1:ag} (m:b5 w L φL AL H φ AH L1 H1 φ1):Mv w L φL AL H φ AH L1 H1 φ1:=
 ⟨m.less,m.bh,m.eh,m.oh,fun _ _ b hb=>⟨b,mA m.bB hb,rfl,rfl⟩,m.bV⟩
theorem Mv.trans {L L1 L2:J} {φL:ag} {H H1 H2:J} {φ φ1 a8:ag} (h:Mv w L φL AL H φ AH L1 H1 φ1) (k:Mv w L1 (aC φL L1) AL H1 φ1 AH L2 H2 a8):Mv w L φL AL H φ AH L2 H2 a8:=by
 have hr:=gp (φ := φL) k.less;refine ⟨h.less.trans k.less,by rw [←hr];exact k.bh,h.eh.trans k.eh (fun _ _=>rfl),fun c hc=> ?_,fun id ad b hb=> ?_,fun id loc hl=>k.bV id loc (h.bV id loc hl)⟩
 ·rcases k.oh c hc with h1|⟨h1,h2⟩
  ·rcases h.oh c h1 with h3|⟨h3,h4⟩
   ·exact .inl h3
   ·refine .inr ⟨h3,fun h5=>h4 ?_⟩;rw [←hr] at h5;exact bD h5
  ·rw [hr] at h2;exact .inr ⟨bD h1,h2⟩
 ·obtain ⟨b1,e1,e2,e3⟩:=h.has id ad b hb;obtain ⟨b2,f1,f2,f3⟩:=k.has id ad b1 e1;exact ⟨b2,f1,f2.trans e2,f3.trans e3⟩
theorem j_.refl {w:World} {c:Nat} {o:Obj} (h:w.heap[c]? =some o):j_ w c o w:=⟨h,fun _ _=>rfl,rfl,rfl,rfl,rfl⟩
theorem cL.mono {L L1:J} {φL:ag} {H H1:J} {φ φ1:ag} (hl:bw L L1) (has: ∀id ad b,H.aq id ad=some b→ ∃b',H1.aq id ad=some b' ∧b'.sz=b.sz∧b'.el.length=b.el.length) (bV: ∀id loc,φ id=some loc→ φ1 id=some loc):
 ∀{ms:List Mode} {as:List AV} {ls:List (List AV)},cL w L φL AL H φ ms as ls→cL w L1 (aC φL L1) AL H1 φ1 ms as ls
 |[],as,ls,_=>by simp [cL]
 |m::ms,[],ls,_=>by cases m<;>simp [cL]
 | .val::ms,a::as,ls,h=>by simp only [cL] at h⊢;exact cL.mono hl has bV h
 | .dS::ms,a::as,ls,h=>by simp only [cL] at h⊢;exact cL.mono hl has bV h
 | .io::ms,a::as,[],h=>by simp [cL]
 | .io::ms,a::as,l::ls,h=>by
  simp only [cL] at h⊢;refine ⟨⟨h.1.1,fun id ad hr=> ?_⟩,cL.mono hl has bV h.2⟩;obtain ⟨c,b0,b,arr,T,fr,k1,k2,k3,k4,k5,k6⟩:=h.1.2 id ad hr;obtain ⟨b',e1,e2,e3⟩:=has id ad b k1;exact ⟨c,b0,b',arr,T,fr,e1,bV _ _ k2,k3,by rw [k4,e3],fun i x hx=>by rw [e2];exact k5 i x hx,fun i x j y v hx hy hv=>(k6 i x j y v hx hy (by rw [←e2];exact hv)).mono (c5 hl)⟩
theorem mL: ∀(ms:List Mode) (sh:List (List Sh)) (as:List AV) (ls:List (List AV)) (L:J) (φL:ag) (H:J) (φ :ag) (outs:List AV) (L1 H2:J),b4 w L φL AL H φ AH→cL w L φL AL H φ ms as ls→
 ew ms sh ls L=some (outs,L1)→et ms as outs H=some H2→dN AL AH outs→ ∃a8,Mv w L φL AL H φ AH L1 H2 a8
 |[],sh,as,ls,L,φL,H,φ,outs,L1,H2,hd,hr,h1,h2,hk=>by
  simp only [ew,Option.some.injEq,Prod.mk.injEq] at h1;obtain ⟨rfl,rfl⟩:=h1;simp only [et,Option.some.injEq] at h2;subst h2;exact ⟨φ,(b5.refl hd).mv⟩
 | .val::ms,sh,[],ls,L,φL,H,φ,outs,L1,H2,hd,hr,h1,h2,hk=>by
  simp only [et,Option.some.injEq] at h2;subst h2;exact ⟨_,pd hd h1⟩
 | .dS::ms,sh,[],ls,L,φL,H,φ,outs,L1,H2,hd,hr,h1,h2,hk=>by
  simp only [et,Option.some.injEq] at h2;subst h2;exact ⟨_,pd hd h1⟩
 | .io::ms,sh,[],ls,L,φL,H,φ,outs,L1,H2,hd,hr,h1,h2,hk=>by
  have:H2=H:=by cases outs<;>simpa [et] using h2.symm
  subst this;exact ⟨_,pd hd h1⟩
 | .val::ms,sh,a::as,ls,L,φL,H,φ,outs,L1,H2,hd,hr,h1,h2,hk=>by
  simp only [ew] at h1;simp only [et] at h2;simp only [cL] at hr;exact mL ms sh.tail as ls L φL H φ outs L1 H2 hd hr h1 h2 hk
 | .dS::ms,sh,a::as,ls,L,φL,H,φ,outs,L1,H2,hd,hr,h1,h2,hk=>by
  simp only [ew] at h1;simp only [et] at h2;simp only [cL] at hr;exact mL ms sh.tail as ls L φL H φ outs L1 H2 hd hr h1 h2 hk
 | .io::ms,sh,a::as,[],L,φL,H,φ,outs,L1,H2,hd,hr,h1,h2,hk=>by
  simp only [ew,Option.some.injEq,Prod.mk.injEq] at h1;obtain ⟨rfl,rfl⟩:=h1;simp [et] at h2
 | .io::ms,sh,a::as,l::ls,L,φL,H,φ,outs,L1,H2,hd,hr,h1,h2,hk=>by
  simp only [ew] at h1;split at h1
  rotate_left
  ·simp at h1
  rename_i ys L' hm
  split at h1
  rotate_left
  ·simp at h1
  rename_i r cJ rJ
  simp only [Option.some.injEq,Prod.mk.injEq] at h1;obtain ⟨rfl,rfl⟩:=h1;obtain ⟨k1,k2⟩:=hk.cons;have yM:dN AL AH ys:=by
   rcases k1 with h|h
   ·exact .inl h
   ·exact .inr (by simpa [cg] using h)
  simp only [cL] at hr;simp only [et] at h2;cases mM:dE a with
  |none=>
   have dK:=hr.1.1 mM;subst dK;simp only [cW,Option.some.injEq,Prod.mk.injEq] at hm;obtain ⟨rfl,rfl⟩:=hm;simp only [mM] at h2;exact mL ms sh.tail as ls L φL H φ r cJ H2 hd hr.2 rJ h2 k2
  |some p=>
   obtain ⟨id,ad⟩:=p;obtain ⟨c,b0,b,arr,T,fr,e1,e2,e3,e4,e5,e6⟩:=hr.1.2 id ad mM;simp only [mM,e1] at h2;split at h2
   rotate_left
   ·simp at h2
   rename_i cy;have gV:=(J.bm e1).1;obtain ⟨bb,kd,af⟩:=hd.sh.aq id _ e2;rw [gV] at kd;simp only [Option.some.injEq] at kd;subst kd;obtain ⟨arr',T',eO,f1,f2,f3,f4⟩:=af.here c b0 rfl;rw [e3] at f1;simp only [Option.some.injEq,Obj.cells.injEq] at f1;obtain ⟨rfl,rfl,rfl⟩:=f1
   let g:Nat→Nat→Value:=fun i j=>arr.getD (b0+i*b.sz+j) undef
   have ax: ∀i j,i<b.el.length→j<b.sz→b0+i*b.sz+j<arr.size:=by
    intro i j hi hj;have hle:=cH (n:=b.sz) hi;omega
   obtain ⟨φ1,m,l1,s1,r1⟩:=mq (w:=w) (es:=hI (sh.headD [])) (fun x vs L φL AL H φ AH y L1 a H1=>lb _ x vs L φL AL H φ AH y L1 a H1) l g _ _ _ _ _ _ _ _ _ _ hd (fun i x j y hx hy=>by
    have hi:i<b.el.length:=by rw [←e4];exact (List.getElem?_eq_some_iff.1 hx).1
    have hj:j<b.sz:=by rw [←e5 i x hx];exact (List.getElem?_eq_some_iff.1 hy).1
    have:g i j=arr[b0+i*b.sz+j]'(ax i j hi hj):=by simp only [g,Array.getD_eq_getD_getElem?,Array.getElem?_eq_getElem (ax i j hi hj),Option.getD_some]
    rw [this];exact e6 i x j y _ hx hy (Array.getElem?_eq_getElem (ax i j hi hj))) hm rfl yM
   have pe:=m.bB id b gV;have dM: ∀(i:Nat) (x:AV),(az ys H).1[i]? =some x→x.cells.length=b.sz:=by
    intro i x hx;have hi:i<l.length:=by rw [←l1];exact (List.getElem?_eq_some_iff.1 hx).1
    rw [s1 i _ x (List.getElem?_eq_getElem hi) hx];exact e5 i _ (List.getElem?_eq_getElem hi)
   have U:=oF (w:=w) (b' :={b with el:=(az ys H).1}) m.bh.sh pe (m.bV _ _ e2) rfl rfl rfl (by simp only;rw [l1,e4]) e3 (j_.refl e3) rfl dM (fun i x j y v hx hy hv=>by
    have hi:i<b.el.length:=by rw [←e4,←l1];exact (List.getElem?_eq_some_iff.1 hx).1
    have hj:j<b.sz:=by rw [←dM i x hx];exact (List.getElem?_eq_some_iff.1 hy).1
    have la:g i j=v:=by simp only [g,Array.getD_eq_getD_getElem?,hv,Option.getD_some]
    refine ⟨by rw [←la];exact r1 i x j y hx hy,?_⟩
    have lj:=List.getElem?_eq_getElem hi;exact (f4 i _ j _ v lj (List.getElem?_eq_getElem (show j<_ by rw [af.sized _ _ lj];exact hj)) hv).2)
   have M:Mv w L φL AL H φ AH L' ((az ys H).2.bg id {b with el:=(az ys H).1}) φ1:=by
    refine ⟨m.less,⟨m.bh.sl,U.st,m.bh.b_,m.bh.ei⟩,m.eh.trans U.b8 (fun _ _=>rfl),m.oh,fun dH fp b' ay=> ?_,m.bV⟩
    obtain ⟨q1,q2⟩:=J.bm ay;by_cases bU:dH=id
    ·subst bU;rw [gV] at q1;simp only [Option.some.injEq] at q1;subst q1;refine ⟨{b with el:=(az ys H).1},?_,rfl,by simp only;rw [l1,e4]⟩
     have:=J.fb (H:=(az ys H).2.bg dH {b with el:=(az ys H).1}) (id:=dH) (b:={b with el:=(az ys H).1}) (by rw [mE (J.f_ pe),if_pos rfl])
     rw [←q2];exact this
    ·refine ⟨b',?_,rfl,rfl⟩;have:=J.fb (H:=(az ys H).2.bg id {b with el:=(az ys H).1}) (id:=dH) (b:=b') (by rw [mE (J.f_ pe),if_neg bU];exact m.bB dH b' q1)
     rw [←q2];exact this
   obtain ⟨a8,M2⟩:=mL ms sh.tail as ls L' (aC φL L') _ φ1 r cJ H2 M.bh (hr.2.mono M.less M.has M.bV) rJ h2 k2
   exact ⟨a8,M.trans M2⟩
 where
 pd {ms:List Mode} {sh:List (List Sh)} {ls:List (List AV)} {L:J} {φL:ag} {H:J} {φ :ag} {outs:List AV} {L1:J} (hd:b4 w L φL AL H φ AH) (h:ew ms sh ls L=some (outs,L1)):Mv w L φL AL H φ AH L1 H φ :=by
  have hl:=mN ms sh ls L outs L1 h;refine ⟨hl,⟨eg hd.sl hl,hd.sh,fun c hc=>hd.b_ c (bD hc),fun c hc=>hd.ei c (bD hc)⟩,.refl _ _ _ _,fun c hc=> .inl hc,fun id ad b hb=>⟨b,hb,rfl,rfl⟩,fun _ _ h=>h⟩
 mN: ∀(ms:List Mode) (sh:List (List Sh)) (ls:List (List AV)) (L:J) (outs:List AV) (L1:J),ew ms sh ls L=some (outs,L1)→bw L L1
  |[],sh,ls,L,outs,L1,h=>by simp only [ew,Option.some.injEq,Prod.mk.injEq] at h;obtain ⟨_,rfl⟩:=h;exact .refl _
  | .val::ms,sh,ls,L,outs,L1,h=>by simp only [ew] at h;exact mN ms _ ls L outs L1 h
  | .dS::ms,sh,ls,L,outs,L1,h=>by simp only [ew] at h;exact mN ms _ ls L outs L1 h
  | .io::ms,sh,[],L,outs,L1,h=>by simp only [ew,Option.some.injEq,Prod.mk.injEq] at h;obtain ⟨_,rfl⟩:=h;exact .refl _
  | .io::ms,sh,l::ls,L,outs,L1,h=>by
   simp only [ew] at h;split at h
   ·rename_i ys L' hm
    split at h
    ·rename_i r cJ hr
     simp only [Option.some.injEq,Prod.mk.injEq] at h;obtain ⟨_,rfl⟩:=h;exact (lg (fun x L y L1 h=>fo _ x L y L1 h) _ _ _ _ hm).trans (mN ms _ ls L' r _ hr)
    ·simp at h
   ·simp at h
theorem rK: ∀(sh:List (List Sh)) (rs:List AV) (us:List Value) (L:J) (φL:ag) (H:J) (φ :ag) (ys:List AV) (L1:J),b4 w L φL AL H φ AH→rs.length=us.length→
 (∀(i:Nat) (x:AV) (u:Value),rs[i]? =some x→us[i]? =some u→R w L φL AL x u)→dl sh rs L=some (ys,L1)→dN AL AH ys→
 ∃ φ1,b5 w L φL AL H φ AH L1 (az ys H).2 φ1∧(az ys H).1.length=us.length∧ ∀(i:Nat) (x:AV) (u:Value),(az ys H).1[i]? =some x→us[i]? =some u→R w (az ys H).2 φ1 AH x u
 |sh,[],us,L,φL,H,φ,ys,L1,hd,hl,hr,ht,hk=>by
  simp only [dl,Option.some.injEq,Prod.mk.injEq] at ht;obtain ⟨rfl,rfl⟩:=ht;exact ⟨φ,.refl hd,hl,by simp [az]⟩
 |sh,x::rs,u::us,L,φL,H,φ,ys,L1,hd,hl,hr,ht,hk=>by
  simp only [dl] at ht;split at ht
  rotate_left
  ·simp at ht
  rename_i y L' h1
  split at ht
  rotate_left
  ·simp at ht
  rename_i aU cJ h2
  simp only [Option.some.injEq,Prod.mk.injEq] at ht;obtain ⟨rfl,rfl⟩:=ht;obtain ⟨k1,k2⟩:=hk.cons;obtain ⟨φ1,m1,r1⟩:=rm hd (hr 0 x u rfl rfl) h1 rfl k1;obtain ⟨a8,m2,l2,r2⟩:=rK sh.tail rs us L' (aC φL L') (aD y H).2 φ1 aU cJ m1.bh (by simpa using hl) (fun i x u hx hu=>(hr (i+1) x u hx hu).mono (c5 m1.less)) h2 k2
  refine ⟨a8,m1.trans m2,by simp [az,l2],fun i x' u' hx hu=> ?_⟩
  cases i with
  |zero=>simp [az] at hx hu;subst hx;subst hu;exact r1.mono m2.eh
  |succ i=>simp only [az,List.getElem?_cons_succ] at hx hu;exact r2 i x' u' hx hu
 |sh,x::rs,[],L,φL,H,φ,ys,L1,hd,hl,hr,ht,hk=>by simp at hl
theorem rL: ∀(sh:List (List Sh)) (rs:List AV) (L:J) (ys:List AV) (L1:J),dl sh rs L=some (ys,L1)→bw L L1
 |sh,[],L,ys,L1,ht=>by simp only [dl,Option.some.injEq,Prod.mk.injEq] at ht;obtain ⟨rfl,rfl⟩:=ht;exact .refl _
 |sh,x::rs,L,ys,L1,ht=>by
  simp only [dl] at ht;split at ht
  ·rename_i y L' h1
   split at ht
   ·rename_i aU cJ h2
    simp only [Option.some.injEq,Prod.mk.injEq] at ht;obtain ⟨rfl,rfl⟩:=ht;exact (fo _ _ _ _ _ h1).trans (rL _ rs _ _ _ h2)
   ·simp at ht
  ·simp at ht
theorem rM {es:List Sh} {x:AV} {v:Value} {L:J} {φL:ag} {A' :aj} {y:AV} {L1:J} (ae:St w L φL AL) (hx:R w L φL AL x v) (ht:aR es x L=some (y,L1)) (hk: ∀c,A' c→gone φL AL L1 c):FR w A' (bq y) v:=by
 by_cases b9: ∃cs,x= .agg cs
 ·obtain ⟨cs,rfl⟩:=b9;obtain ⟨aX,hc,rfl⟩:=lf ht;obtain ⟨vs,rfl,hl,ho,hp⟩:=hx.gb;obtain ⟨l1,r1⟩:=o0 es cs vs.toList L φL AL A' aX L1 ae (by simpa using hl) (fun j c u hj hu=>hp j c u hj (by simpa using hu)) hc hk
  exact .agg _ _ (by rw [l1,hl]) ho fun i x v hx hv=>r1 i x v hx (by simpa using hv)
 ·obtain ⟨e,rfl,dg⟩:=jp (fun cs h=>b9 ⟨cs,h⟩) ht;exact (my e x v L φL AL A' y L1 ae hx dg hk).1
theorem pf {A' :aj}: ∀(sh:List (List Sh)) (rs:List AV) (us:List Value) (L:J) (φL:ag) (ys:List AV) (L1:J),St w L φL AL→rs.length=us.length→
 (∀(i:Nat) (x:AV) (u:Value),rs[i]? =some x→us[i]? =some u→R w L φL AL x u)→dl sh rs L=some (ys,L1)→(∀c,A' c→gone φL AL L1 c)→
 (bM ys).length=us.length∧ ∀(i:Nat) (x:AV) (u:Value),(bM ys)[i]? =some x→us[i]? =some u→FR w A' x u
 |sh,[],us,L,φL,ys,L1,hd,hl,hr,ht,hk=>by
  simp only [dl,Option.some.injEq,Prod.mk.injEq] at ht;obtain ⟨rfl,rfl⟩:=ht;exact ⟨hl,by simp [bM]⟩
 |sh,x::rs,u::us,L,φL,ys,L1,hd,hl,hr,ht,hk=>by
  simp only [dl] at ht;split at ht
  rotate_left
  ·simp at ht
  rename_i y L' h1
  split at ht
  rotate_left
  ·simp at ht
  rename_i aU cJ h2
  simp only [Option.some.injEq,Prod.mk.injEq] at ht;obtain ⟨rfl,rfl⟩:=ht;have dz:=fo _ _ _ _ _ h1;have dx:=rL _ _ _ _ _ h2;have r1:=rM (A' :=A') hd (hr 0 x u rfl rfl) h1 (fun c hc=>oW dx (hk c hc))
  obtain ⟨l2,r2⟩:=pf sh.tail rs us L' (aC φL L') aU cJ (eg hd dz) (by simpa using hl) (fun i x u hx hu=>(hr (i+1) x u hx hu).mono (c5 dz)) h2 (fun c hc=>by
   obtain ⟨k1,k2⟩:=hk c hc;exact ⟨k1,fun ho=>by rw [gp dx];exact k2 (bD ho)⟩)
  refine ⟨by simp [bM,l2],fun i x' u' hx hu=> ?_⟩
  cases i with
  |zero=>simp [bM] at hx hu;subst hx;subst hu;exact r1
  |succ i=>simp only [bM,List.getElem?_cons_succ] at hx hu;exact r2 i x' u' hx hu
 |sh,x::rs,[],L,φL,ys,L1,hd,hl,hr,ht,hk=>by simp at hl
end back
end Go.VS
namespace Go.VS
def ii:List Value→Value
 |[v]=>v
 |vs=> .tuple vs.toArray
def ke (P:Program) (f:FuncId):Prop:= ∃fn,P.funcs[f]? =some fn∧(fn.name== "runtime.NumGoroutine")=false∧fn.body.isNone=false
def iM (w:World) (H:J) (φ :ag) (A:aj) (K:AV→J→Prop) (e:Ending) (w' :World):Prop:=
 match e with
 | .returned v' => ∃x H' ak A',Out w H φ A w' H' ak A' ∧R w' H' ak A' x v' ∧K x H'
 |_=>False
theorem iM.mono {w:World} {H:J} {φ :ag} {A:aj} {K K' :AV→J→Prop} (h: ∀v H,K v H→K' v H) {e:Ending} {w' :World} (k:iM w H φ A K e w'):iM w H φ A K' e w' :=by
 cases e with
 |returned v' =>obtain ⟨x,H',ak,A',h1,h2,h3⟩:=k;exact ⟨x,H',ak,A',h1,h2,h _ _ h3⟩
 |panicked c=>exact k
 |outgrown=>exact k
def dh (P:Program):bK:=fun f ys H K=>ke P f∧
 ∀(w:World) (A:aj) (φ :ag) (us:Array Value),St w H φ A→ys.length=us.size→
  (∀(i:Nat) (x:AV) (u:Value),ys[i]? =some x→us[i]? =some u→R w H φ A x u)→Calls P f us w (iM w H φ A K)
theorem dh.mono {P:Program} {f:FuncId} {ys:List AV} {H:J} {K K' :AV→J→Prop} (h: ∀v H,K v H→K' v H) (k:dh P f ys H K):dh P f ys H K' :=
 ⟨k.1,fun w A φ us h1 h2 h3=>(k.2 w A φ us h1 h2 h3).mono fun _ _ he=>he.mono h⟩
def Exact (X:bK):Prop:= ∀f ys H K,X f ys H K→ ∃v H',X f ys H (fun v1 H1=>v1=v∧H1=H')∧K v H'
theorem St.shrink {w:World} {H:J} {φ :ag} {A A' :aj} (h:St w H φ A) (h1: ∀c,A' c→A c) (h2: ∀c,Ow φ c→A' c):St w H φ A' :=by
 refine ⟨h.inj,h2,fun c hc=>h.cj c (h1 c hc),fun id loc hl=> ?_⟩;obtain ⟨b,hb,af⟩:=h.aq id loc hl;refine ⟨b,hb,af.ad,af.sized,af.aS,fun c b0 he=> ?_⟩;obtain ⟨arr,T,fr,k1,k2,k3,k4⟩:=af.here c b0 he;exact ⟨arr,T,fr,k1,k2,k3,fun i x j y v hx hy hv=>⟨(k4 i x j y v hx hy hv).1.mw h1,(k4 i x j y v hx hy hv).2⟩⟩
section
variable {w:World} {H:J} {φ :ag} {A:aj}
theorem pg {xs:List AV} {us:List Value} (hl:xs.length=us.length) (h: ∀(i:Nat) (x:AV) (u:Value),xs[i]? =some x→us[i]? =some u→R w H φ A x u):R w H φ A (cf xs) (ii us):=by
 have key: ∀{xs:List AV} {us:List Value},xs.length=us.length→(∀(i:Nat) (x:AV) (u:Value),xs[i]? =some x→us[i]? =some u→R w H φ A x u)→R w H φ A (.aA xs) (.tuple us.toArray):=
  fun hl h=> .aA _ _ (by simpa using hl) fun i x v hx hv=>h i x v hx (by simpa using hv)
 match xs,us,hl with
 |[],[],hl=>exact key hl h
 |[x],[u],_=>exact h 0 x u rfl rfl
 |x::x' ::xs,u::u' ::us,hl=>exact key hl h
theorem rN {xs:List AV} {us:List Value} (hl:xs.length=us.length) (h: ∀(i:Nat) (x:AV) (u:Value),xs[i]? =some x→us[i]? =some u→FR w A x u):FR w A (cf xs) (ii us):=by
 have key: ∀{xs:List AV} {us:List Value},xs.length=us.length→(∀(i:Nat) (x:AV) (u:Value),xs[i]? =some x→us[i]? =some u→FR w A x u)→FR w A (.aA xs) (.tuple us.toArray):=
  fun hl h=> .aA _ _ (by simpa using hl) fun i x v hx hv=>h i x v hx (by simpa using hv)
 match xs,us,hl with
 |[],[],hl=>exact key hl h
 |[x],[u],_=>exact h 0 x u rfl rfl
 |x::x' ::xs,u::u' ::us,hl=>exact key hl h
end
theorem rO (zs:List AV) (H:J):aD (cf zs) H=(cf (az zs H).1,(az zs H).2):=by
 match zs with
 |[]=>rfl
 |[z]=>rfl
 |z::z' ::zs=>rfl
theorem rP (zs:List AV):bq (cf zs)=cf (bM zs):=by
 match zs with
 |[]=>rfl
 |[z]=>rfl
 |z::z' ::zs=>rfl
theorem rQ (zs:List AV):cg (cf zs)=er zs:=by
 match zs with
 |[]=>rfl
 |[z]=>simp [cf,er]
 |z::z' ::zs=>rfl
theorem rR {xs:List AV} {v:Value} {w:World} {H:J} {φ :ag} {A:aj} (h:R w H φ A (cf xs) v): ∃us:List Value,v=ii us∧xs.length=us.length∧ ∀(i:Nat) (x:AV) (u:Value),xs[i]? =some x→us[i]? =some u→R w H φ A x u:=by
 have key: ∀{xs:List AV},xs.length≠1→R w H φ A (.aA xs) v→ ∃us:List Value,v=ii us∧xs.length=us.length∧ ∀(i:Nat) (x:AV) (u:Value),xs[i]? =some x→us[i]? =some u→R w H φ A x u:=by
  intro xs hl h;obtain ⟨vs,rfl,h1,h2⟩:=h.l4;refine ⟨vs.toList,?_,by simpa using h1,fun i x u hx hu=>h2 i x u hx (by simpa using hu)⟩
  have dt:vs.toList.length≠1:=by simp only [Array.length_toList];omega
  generalize hv:vs.toList=l at dt;have:Value.tuple vs= .tuple l.toArray:=by rw [←hv]
  rw [this]
  match l with
  |[]=>rfl
  |[u]=>exact absurd rfl dt
  |u::u' ::l=>rfl
 match xs with
 |[]=>exact key (by simp) h
 |[x]=>exact ⟨[v],rfl,rfl,fun i x' u hx hu=>by
  cases i with
  |zero=>simp at hx hu;subst hx;subst hu;exact h
  |succ i=>simp at hx⟩
 |x::x' ::xs=>exact key (by simp) h
def ll (ms:List Mode):Prop:= ∀m∈ms,m= .val
theorem ph: ∀(ms:List Mode) (sh:List (List Sh)) (as:List AV) (H:J),ll ms→fY ms sh as H=some (as,H)
 |[],sh,as,H,_=>rfl
 |m::ms,sh,[],H,_=>rfl
 |m::ms,sh,a::as,H,h=>by
  have hm:=h m (by simp)
  subst hm;simp only [fY,fB,ph ms sh.tail as H (fun m hm=>h m (by simp [hm]))]
theorem pi (H0:J): ∀(ms:List Mode) (as:List AV) (H:J),ll ms→b7 H0 ms as H=H
 |[],as,H,_=>by simp [b7]
 |m::ms,[],H,_=>by cases m<;>simp [b7]
 |m::ms,a::as,H,h=>by
  have hm:=h m (by simp)
  subst hm;simp only [b7];exact pi H0 ms as H (fun m hm=>h m (by simp [hm]))
theorem yN: ∀(ms:List Mode) (as outs:List AV) (H:J),ll ms→et ms as outs H=some H
 |[],as,outs,H,_=>by simp [et]
 |m::ms,[],outs,H,h=>by
  have hm:=h m (by simp)
  subst hm;simp [et]
 |m::ms,a::as,outs,H,h=>by
  have hm:=h m (by simp)
  subst hm;simp only [et];exact yN ms as outs H (fun m hm=>h m (by simp [hm]))
theorem kf {w:World} {H:J} {φ :ag} {A:aj} (ae:St w H φ A):aC φ H= φ :=by
 funext id
 unfold aC;cases hp: φ id with
 |none=>simp
 |some loc=>obtain ⟨b,hb,_⟩:=ae.aq id loc hp;simp [hb]
theorem pj {H:J}: ∀(as ys:List AV) (b:Bool),cd [] as H=some (ys,b)→ ∀L,ci [] ys L=(ys,L)
 |[],ys,b,h,L=>by simp only [cd,Option.some.injEq,Prod.mk.injEq] at h;obtain ⟨rfl,_⟩:=h;rfl
 |a::as,ys,b,h,L=>by
  simp only [cd] at h;split at h
  ·rename_i y hy;split at h
   ·rename_i aU b' cy
    simp only [Option.some.injEq,Prod.mk.injEq] at h;obtain ⟨rfl,_⟩:=h;simp only [ci,mz H 8 a y hy,List.tail_nil,pj as aU b' cy]
   ·simp at h
  ·simp at h
theorem yO {P:Program} {C:aK} {X:bK} (hX: ∀f ys H K,X f ys H K→dh P f ys H K) {w:World} {H:J} {φ :ag} {A:aj} (ae:St w H φ A) {f:FuncId} {as:List AV} {us:Array Value} (hl:as.length=us.size)
 (hr: ∀(i:Nat) (x:AV) (u:Value),as[i]? =some x→us[i]? =some u→R w H φ A x u) {th:Bool} {K:AV→J→Prop} (h:dF X C f as th H K):ke P f∧Calls P f us w (iM w H φ A K):=by
 unfold dF at h;split at h
 ·exact h.elim
 rename_i ys bZ hy;obtain ⟨y,ln,ic,hp⟩:=h;have hm:ll []:=fun m hm=>by simp at hm
 have pk:b4 w H φ A ⟨0,[]⟩ (fun _=>none) A:=by
  refine ⟨ae,⟨fun i i' c b b' h=>by simp at h,fun c hc=> ?_,ae.cj,fun id loc h=>by simp at h⟩,fun c _ hc=> ?_,ae.own⟩
  ·obtain ⟨i,b,h⟩:=hc;simp at h
  ·obtain ⟨i,b,h⟩:=hc;simp at h
 have po:ci [] ys ⟨0,[]⟩=(ys,⟨0,[]⟩):=pj _ _ _ hy _;obtain ⟨aB,m,cq,ej⟩:=mC as [] [] us.toList H φ as H ys bZ ⟨0,[]⟩ (fun _=>none) ys ⟨0,[]⟩ pk (by simpa using hl) (fun i x u hx hu=>hr i x u hx (by simpa using hu)) (ph _ _ _ _ hm) hy po
 have bu: ∀c,¬Ow aB c:=fun c hc=>by
  rcases m.oh c hc with ⟨i,b,h⟩|⟨h1,h2⟩
  ·simp at h
  ·rw [kf ae] at h2;exact h2 h1
 let A0:aj:=if bZ=true then Ow aB else A
 have jr: ∀c,A0 c→A c:=by
  intro c hc;simp only [A0] at hc;split at hc
  ·exact absurd hc (bu c)
  ·exact hc
 have pq:bZ=true→ ∀c,A0 c→fO (aC φ H) A c:=by
  intro ax c hc;simp only [A0,ax,if_true] at hc;exact absurd hc (bu c)
 have c7:St w ⟨0,[]⟩ aB A0:=m.bh.sh.shrink jr (fun c hc=>absurd hc (bu c));have fm:ys.length=us.size:=by simpa using cq.1
 refine ⟨(hX _ _ _ _ ln).1,((hX _ _ _ _ ln).2 w A0 aB us c7 fm (fun i x u hx hu=>cq.2 A0 jr pq i x u hx (by simpa using hu))).mono fun e w' he=> ?_⟩
 cases e with
 |panicked c=>exact he.elim
 |outgrown=>exact he.elim
 |returned v' =>
 obtain ⟨x0,L,ak,A',ho,pr,rs,gX,L2,rfl,lp,rfl⟩:=he;obtain ⟨cF,rfl,lq,ia⟩:=rR pr
 let AH:aj:=if bZ=true then fun c=>A c∨(A' c∧w.heap.size≤c) else A'
 have jt: ∀c,Ow ak c→w.heap.size≤c:=fun c hc=>(ho.post.own c hc).resolve_left (bu c)
 have ha:o9 w A aB w' ak AH:=by
  refine ⟨fun c hc hn=> ?_,fun c hc=> ?_,fun c hc=> ?_,fun c arr T fr hc hn=> ?_⟩
  ·simp only [AH];split
   ·exact .inl hc
   ·rename_i ax;refine ho.bQ c ?_ hn;simp only [A0,ax];exact hc
  ·simp only [AH];split
   ·exact .inr ⟨ho.st.own c hc,jt c hc⟩
   ·exact ho.st.own c hc
  ·simp only [AH] at hc;split at hc
   ·rcases hc with h|⟨h,_⟩
    ·exact Nat.lt_of_lt_of_le (ae.cj c h) ho.post.size
    ·exact ho.st.cj c h
   ·exact ho.st.cj c hc
  ·obtain ⟨h1,h2⟩:=ho.b8.fz c arr T fr hc (fun h=>hn (jr c h));refine ⟨h1,?_⟩;simp only [AH];split
   ·rintro (h|⟨_,h⟩)
    ·exact hn h
    ·have:c<w.heap.size:=by
      rcases Nat.lt_or_ge c w.heap.size with h' |h'
      ·exact h'
      ·rw [Array.getElem?_eq_none h'] at hc;simp at hc
     omega
   ·exact h2
 obtain ⟨D,E⟩:=rH (ls:=[]) (Lm:=L) ae m (by rw [hl,fm]) ej ho ha (by simp [fE])
 rw [pi _ _ _ _ hm,kf ae] at D E;have pu:dN A' AH gX:=by
  cases ax:bZ with
  |false=>exact .inl fun c h=>by simpa [AH,ax] using h
  |true=>
   rcases ic with h|h
   ·rw [ax] at h;simp at h
   ·rw [rQ] at h;exact .inr h
 have ju: ∀(i:Nat) (x:AV) (u:Value),rs[i]? =some x→cF[i]? =some u→R w' L (aC ak L) A' x u:=fun i x u hx hu=>by
  rw [kf ho.st];exact ia i x u hx hu
 have fI: ∀{c8:ag},(∀c,Ow c8 c→Ow φ c∨Ow ak c)→fF w φ w' c8:=fun hq=>
  ⟨ho.post.os,ho.post.tape,ho.post.output,ho.post.size,fun c hc _=>ho.post.kept c hc (bu c),ho.post.bj,fun c hc=>by
   rcases hq c hc with h|h
   ·exact .inl h
   ·exact .inr (jt c h)⟩
 have jv: ∀c,A c→ ¬Ow φ c→AH c:=fun c hc _=>ha.own c hc (bu c);have dp: ∀c,Ow φ c→bj w' c=bj w c:=fun c hc=>ho.post.bj c (Ow.lt ae hc)
 cases gn:(th||bZ) with
 |true=>
  rw [gn] at hp;simp only [if_true,rO] at hp;obtain ⟨c8,m3,l3,r3⟩:=rK _ rs cF L _ H φ gX L2 D lq ju lp pu
  refine ⟨_,_,c8,AH,⟨m3.bh.sh,fI fun c hc=> ?_,E.trans m3.eh dp,jv⟩,pg l3 r3,hp⟩;rcases m3.oh c hc with h|⟨h,_⟩
  ·exact .inl h
  ·exact .inr (bD h)
 |false=>
  rw [gn] at hp;simp only [Bool.false_eq_true,if_false,rP] at hp;simp only [Bool.or_eq_false_iff] at gn;have pv:AH=A' :=by simp [AH,gn.2]
  rw [pv] at D E jv
  let A2:aj:=gone (aC ak L) A' L2
  obtain ⟨l3,r3⟩:=pf (A' :=A2) _ rs cF L (aC ak L) gX L2 D.sl lq ju lp (fun c h=>h)
  have pw: ∀c,Ow φ c→A2 c:=fun c hc=>⟨D.sh.own c hc,fun h=>absurd hc (D.b_ c h)⟩;have px:bT w H φ A w' H φ A2:=⟨fun c arr T fr hc hn=>⟨(E.fz c arr T fr hc hn).1,fun h2=>(E.fz c arr T fr hc hn).2 h2.1⟩,E.st,E.ids,E.sz⟩
  refine ⟨_,_,φ,A2,⟨D.sh.shrink (fun c h=>h.1) pw,fI fun c hc=> .inl hc,px,fun c hc hn=>⟨jv c hc hn,fun h=> ?_⟩⟩,.fr _ _ (rN l3 r3),hp⟩;have:=jt c (bD h)
  have:=ae.cj c hc;omega
end Go.VS
namespace Go.VS
section ops
variable {P:Program} {C:aK} {X:bK} {w:World} {H:J} {φ :ag} {A:aj}
theorem yP {f:FuncId} (h:ke P f) (args:Array Value) (w:World):(callFunc f args).run P w= .ok (.enter f args) w:=by
 obtain ⟨fn,h1,h2,h3⟩:=h;have li:fn.name≠ "runtime.NumGoroutine" :=by simpa using h2
 have yQ:fn.body≠none:=by intro e;rw [e] at h3;simp at h3
 simp [callFunc,h1,li,yQ]
theorem rS {o:Oper} {ρ :Operand→Value} {x:Operand} {args:Array Operand} {tys:Array TypeId} (ho:o.op= .call {callee:= .value x,args,argTypes:=tys}) {g:FuncId} {bP:Array Value} (hx: ρ x= .func (.func g) #[] bP) (hc:ke P g):
 (execOp ρ o).run P w= .ok (.enter g (args.map ρ ++ bP)) w:=by
 simp [execOp,ho,resolve,hx,Deferred.ofValue,invoke,yP hc]
theorem rT {o:Oper} {ρ :Operand→Value} {b:Builtin} {args:Array Operand} {tys:Array TypeId} (ho:o.op= .call {callee:= .builtin b,args,argTypes:=tys}):
 ∃consts,(execOp ρ o).run P w=(builtin b tys o.type consts (args.map ρ)).run P w:=
 ⟨_,by simp only [execOp,ho,resolve,invoke,Sem.run_bind,Sem.run_pure,Result.andThen_ok];rfl⟩
theorem cp.upon {H' :J} {r:Result Next} {x:AV} (h:cp w H φ A H' r x) {o:Oper} {a:Act} {next:Act→World→Prop} {Q:Exit→Act→World→Prop}
 (hn: ∀v w' ak A',Out w H φ A w' H' ak A' →R w' H' ak A' x v→next (a.put o.dst v) w'):o.upon P a next Q r:=by
 obtain ⟨n,v,w',ak,A',rfl,hv,hr,ho⟩:=h;rcases hv with rfl|⟨rfl,rfl⟩
 ·exact hn v w' ak A' ho hr
 ·exact hn _ w' ak A' ho hr
theorem mO (hE: ∀t ti,C.E t=some ti→aW P t ti) (hX: ∀f ys H K,X f ys H K→dh P f ys H K) (ae:St w H φ A) {o:Oper} {s:ah} {a:Act} (hs: ∀x∈o.op.operands,R w H φ A (ev s x) (a.eval x)) {th:Bool} {K:AV→J→Prop} (h:wpOp X C false th o s H K)
 {next:Act→World→Prop} {Q:Exit→Act→World→Prop} (hn: ∀x v w' H' ak A',Out w H φ A w' H' ak A' →R w' H' ak A' x v→K x H' →next (a.put o.dst v) w'):o.wp P a w next Q:=by
 have lr: ∀(hh:(match aP C.E o.op s H with|some (v,H')=>K v H' |none=>False)),o.wp P a w next Q:=by
  intro hh;split at hh
  ·rename_i v H' he
   exact (yt hE ae hs he).upon (fun u w' ak A' h1 h2=>hn v u w' H' ak A' h1 h2 hh)
  ·exact hh.elim
 unfold wpOp at h;split at h
 ·rename_i b args tys bA;obtain ⟨_,h⟩:=h;split at h
  ·rename_i v H' he
   obtain ⟨consts,cY⟩:=rT (P:=P) (w:=w) (ρ :=a.eval) bA;have:=yu hE ae (ty:=o.type) (consts:=consts) (vs:=args.map a.eval) (by simp) (fun i x u hx hu=>by
    simp only [List.getElem?_map,Option.map_eq_some_iff] at hx;obtain ⟨y,hy,rfl⟩:=hx;simp only [Array.getElem?_map,Option.map_eq_some_iff] at hu;obtain ⟨y',eF,rfl⟩:=hu;have:y' =y:=by simp at hy;rw [hy] at eF;simpa using eF.symm
    subst this;exact hs y' (by rw [bA];simp only [Op.operands,Call.operands];simp [Array.mem_of_getElem? eF])) he
   rw [←cY] at this;exact this.upon (fun u w' ak A' h1 h2=>hn v u w' H' ak A' h1 h2 h)
  ·exact h.elim
 ·rename_i x args tys bA;split at h
  ·rename_i g bP hg;simp only [Bool.false_eq_true,if_false] at h;have hx:=hs x (by rw [bA];simp [Op.operands,Call.operands])
   rw [hg] at hx;obtain ⟨vs,hv,hl,hp⟩:=hx.kK;have rU: ∀(i:Nat) (y:AV) (u:Value),(args.toList.map (ev s) ++ bP)[i]? =some y→(args.map a.eval ++ vs)[i]? =some u→R w H φ A y u:=fun i y u hy hu=>by
    rcases Nat.lt_or_ge i args.size with hi|hi
    ·rw [List.getElem?_append_left (by simpa using hi)] at hy
     rw [Array.getElem?_append_left (by simpa using hi)] at hu
     simp only [List.getElem?_map,Option.map_eq_some_iff] at hy;obtain ⟨z,hz,rfl⟩:=hy;simp only [Array.getElem?_map,Option.map_eq_some_iff] at hu;obtain ⟨z',ea,rfl⟩:=hu;have:z' =z:=by simp at hz;rw [hz] at ea;simpa using ea.symm
     subst this;exact hs z' (by rw [bA];simp only [Op.operands,Call.operands];simp [Array.mem_of_getElem? ea])
    ·rw [List.getElem?_append_right (by simpa using hi)] at hy
     rw [Array.getElem?_append_right (by simpa using hi)] at hu
     exact hp _ y u (by simpa using hy) (by simpa using hu)
   have hc:ke P g∧Calls P g (args.map a.eval ++ vs) w (iM w H φ A K):=by
    rcases h with h|h
    ·exact ⟨(hX _ _ _ _ h).1,(hX _ _ _ _ h).2 w A φ (args.map a.eval ++ vs) ae (by simp [hl]) rU⟩
    ·exact yO hX ae (us:=args.map a.eval ++ vs) (by simp [hl]) rU h
   unfold Oper.wp;rw [rS bA hv hc.1,Oper.upon_enter];refine hc.2.mono fun e w' he=> ?_
   cases e with
   |returned v' =>
    obtain ⟨x',H',ak,A',h1,h2,h3⟩:=he;exact hn x' v' w' H' ak A' h1 h2 h3
   |panicked c=>exact he.elim
   |outgrown=>exact he.elim
  ·exact h.elim
 ·exact lr h.2
end ops
end Go.VS
namespace Go.VS
structure kg (π :List Nat) (ops:Array Oper):Prop where
 len: π.length=ops.size
 nodup: π.Nodup
 lt: ∀i∈ π,i<ops.size
 mem: ∀i,i<ops.size→i∈ π
 rV: ∀(i:Nat) (o:Oper),ops[i]? =some o→ ∀e∈o.after.toList,Region.binds .any e=true→e.on<ops.size
 eU: ∀(i:Nat) (o:Oper) (j:Nat) (b:Bool),ops[i]? =some o→o.guard=some (j,b)→j<ops.size
theorem yR {π :List Nat} {ops:Array Oper} (h:nP π ops=true):kg π ops:=by
 simp only [nP,Bool.and_eq_true,beq_iff_eq,List.all_eq_true,decide_eq_true_eq,List.mem_range,List.contains_iff_mem] at h;obtain ⟨⟨⟨⟨h1,h0⟩,h2⟩,h3⟩,h4⟩:=h;refine ⟨h1,h0,h2,h3,fun i o ho e he hb=> ?_,fun i o j b ho hg=> ?_⟩
 ·have:=(h4 o (by rw [←Array.getElem?_toList] at ho;exact List.mem_of_getElem? ho)).1
  rw [Array.all_eq_true_iff_forall_mem] at this;have:=this e (by simpa using he)
  rw [hb] at this;simpa using this
 ·have:=(h4 o (by rw [←Array.getElem?_toList] at ho;exact List.mem_of_getElem? ho)).2
  rw [hg] at this;simpa using this
section
variable {π :List Nat} {ops:Array Oper} (hp:kg π ops)
include hp
theorem kg.at_ {k:Nat} (hk:k< π.length): ∃o,ops[π[k]]? =some o∧(eL π ops)[k]? =some (fA π o):=by
 have:=hp.lt _ (List.getElem_mem hk);refine ⟨ops[π[k]],by simp [this],?_⟩
 unfold eL lY;rw [List.getElem?_toArray,List.getElem?_map,List.getElem?_eq_getElem hk];simp [List.getD,this]
theorem kg.size:(eL π ops).size=ops.size:=by
 simp [eL,lY,hp.len]
theorem kg.kh {i:Nat} (hi:i<ops.size):dj π i< π.length∧ π[dj π i]? =some i:=by
 have:=hp.mem i hi;unfold dj;have h:=List.idxOf_lt_length_of_mem this;exact ⟨h,by rw [List.getElem?_eq_getElem h,List.getElem_idxOf]⟩
theorem kg.get {i:Nat} {o:Oper} (ho:ops[i]? =some o):(eL π ops)[dj π i]? =some (fA π o):=by
 have hi:i<ops.size:=(Array.getElem?_eq_some_iff.1 ho).1;obtain ⟨h1,h2⟩:=hp.kh hi;obtain ⟨o',h3,h4⟩:=hp.at_ h1;have: π[dj π i]=i:=by rw [List.getElem?_eq_getElem h1] at h2;simpa using h2
 rw [this,ho] at h3;simp only [Option.some.injEq] at h3;subst h3;exact h4
def PL (π :List Nat) (n:Nat) (l l' :Array Bool):Prop:=l.size=n∧l'.size=n∧ ∀i,i<n→l'[dj π i]? =l[i]?
theorem PL.set {l l' :Array Bool} (h:PL π ops.size l l') {i:Nat} (hi:i<ops.size):PL π ops.size (l.setIfInBounds i true) (l'.setIfInBounds (dj π i) true):=by
 obtain ⟨h1,h2,h3⟩:=h;refine ⟨by simp [h1],by simp [h2],fun j hj=> ?_⟩
 obtain ⟨yS,py⟩:=hp.kh hi;obtain ⟨BA,yT⟩:=hp.kh hj;rw [Array.getElem?_setIfInBounds,Array.getElem?_setIfInBounds];by_cases e:i=j
 ·subst e;rw [if_pos rfl,if_pos rfl,if_pos (by rw [h2,←hp.len];exact yS),if_pos (by rw [h1];exact hi)]
 ·have: ¬dj π i=dj π j:=by
   intro e2;rw [e2,yT] at py;simp at py;exact e py.symm
  rw [if_neg this,if_neg e];exact h3 j hj
omit hp in
theorem PL.getD {l l' :Array Bool} (h:PL π ops.size l l') {i:Nat} (hi:i<ops.size) (b:Bool):l'.getD (dj π i) b=l.getD i b:=by
 have:=h.2.2 i hi;rw [Array.getD_eq_getD_getElem?,Array.getD_eq_getD_getElem?,this]
theorem rW {l l' :Array Bool} (h:PL π ops.size l l') {i:Nat} (hi:i∈Region.ready .any ops l):i<ops.size∧dj π i∈Region.ready .any (eL π ops) l' :=by
 unfold Region.ready at hi⊢;simp only [List.mem_filter,List.mem_range,Bool.and_eq_true] at hi⊢;obtain ⟨h1,h2,h3⟩:=hi;have ho:ops[i]? =some ops[i]:=by simp [h1]
 obtain ⟨r1,r2⟩:=hp.kh h1;refine ⟨h1,by rw [hp.size,←hp.len];exact r1,by rw [h.getD h1];exact h2,?_⟩
 rw [hp.get ho];rw [ho] at h3;simp only [Option.map_some,Option.getD_some,Array.all_eq_true_iff_forall_mem] at h3⊢;intro e he;simp only [fA,List.mem_toArray,List.mem_filterMap] at he;obtain ⟨e0,rX,mP⟩:=he;split at mP
 ·rename_i hb;simp only [Option.some.injEq] at mP;subst mP;have:=h3 e0 (by simpa using rX)
  rw [hb] at this;simp only [Bool.not_true,Bool.false_or] at this;rw [h.getD (hp.rV i _ ho e0 rX hb)];simp [this]
 ·simp at mP
theorem yU {i:Nat} {o:Oper} (ho:ops[i]? =some o) (t:Array Value):Region.wanted (fA π o) (yielded (eL π ops) t)=Region.wanted o (yielded ops t):=by
 unfold Region.wanted fA;simp only;cases hg:o.guard with
 |none=>rfl
 |some p=>
  obtain ⟨j,b⟩:=p;have hj:=hp.eU i o j b ho hg;simp only [Option.map_some];congr 1;unfold yielded;have rY:ops[j]? =some ops[j]:=by simp [hj]
  rw [hp.get rY,rY];rfl
omit hp in
theorem rZ (ρ :Operand→Value) (o:Oper):execOp ρ (fA π o)=execOp ρ o:=by
 cases o;rfl
theorem yV {P:Program} {Q:Exit→Act→World→Prop} {i:Nat} {o:Oper} (ho:ops[i]? =some o) {K K' :Act→World→Prop} (hK: ∀a w,K' a w→K a w) {a:Act} {w:World} (h:Go.wpOp P (eL π ops) Q (dj π i) K' a w):Go.wpOp P ops Q i K a w:=by
 unfold Go.wpOp at h⊢;rw [hp.get ho] at h;rw [ho];simp only at h⊢;rw [yU hp ho] at h;split at h
 ·rename_i hw;rw [if_pos hw];rcases h with h|⟨h1,h2⟩
  ·refine .inl (Oper.wp_mono hK ?_);unfold Oper.wp at h⊢;rw [rZ] at h;exact h
  ·refine .inr ⟨?_,h2⟩;unfold Oper.asks at h1⊢;rw [rZ] at h1;exact h1
 ·rename_i hw;rw [if_neg hw];exact hK _ _ h
theorem yW {l l' :Array Bool} (h:PL π ops.size l l') {k:Nat} (hk:k∈Region.ready .any (eL π ops) l'): ∃i,i∈Region.ready .any ops l:=by
 unfold Region.ready at hk⊢;simp only [List.mem_filter,List.mem_range,Bool.and_eq_true] at hk;obtain ⟨h1,h2,h3⟩:=hk;rw [hp.size,←hp.len] at h1;obtain ⟨o,ho,af⟩:=hp.at_ h1;have hi:=hp.lt _ (List.getElem_mem h1);have hr:dj π π[k]=k:=by
  obtain ⟨r1,r2⟩:=hp.kh hi;rw [List.getElem?_eq_getElem r1] at r2;simp only [Option.some.injEq] at r2;exact (List.getElem_inj hp.nodup).1 r2
 refine ⟨π[k],?_⟩;simp only [List.mem_filter,List.mem_range,Bool.and_eq_true];refine ⟨hi,by rw [←h.getD hi,hr];exact h2,?_⟩
 rw [af] at h3;rw [ho];simp only [Option.map_some,Option.getD_some,Array.all_eq_true_iff_forall_mem] at h3⊢;intro e he;by_cases hb:Region.binds .any e=true
 ·have hl:=hp.rV _ o ho e (by simpa using he) hb
  have:=h3 {e with on:=dj π e.on} (by
   simp only [fA,List.mem_toArray,List.mem_filterMap];exact ⟨e,by simpa using he,by rw [if_pos hb]⟩)
  have ay:Region.binds .any {e with on:=dj π e.on}=true:=hb
  rw [ay] at this;simp only [Bool.not_true,Bool.false_or] at this;rw [h.getD hl] at this;simp [this]
 ·simp [hb]
theorem r6 {P:Program} {Q:Exit→Act→World→Prop}: ∀(n:Nat) (l l' :Array Bool) (a:Act) (w:World),PL π ops.size l l' →wpAny P .any (eL π ops) Q n l' a w→wpAny P .any ops Q n l a w
 |0,l,l',a,w,hl,h=>by
  simp only [wpAny] at h⊢;refine ⟨?_,h.2⟩;rw [List.eq_nil_iff_forall_not_mem];intro i hi;have:=(rW hp hl hi).2;rw [h.1] at this;simp at this
 |n+1,l,l',a,w,hl,h=>by
  simp only [wpAny] at h⊢;refine ⟨fun he=>h.1 ?_,fun i hi=> ?_⟩
  ·rw [List.eq_nil_iff_forall_not_mem];intro k hk;obtain ⟨i,hi⟩:=yW hp hl hk;rw [he] at hi;simp at hi
  ·obtain ⟨h1,h2⟩:=rW hp hl hi;have ho:ops[i]? =some ops[i]:=by simp [h1]
   exact yV hp ho (fun a w hh=>r6 n _ _ a w (hl.set hp h1) hh) (h.2 _ h2)
theorem yX {P:Program} {Q:Exit→Act→World→Prop} {a:Act} {w:World} (h:wpAny P .any (eL π ops) Q (eL π ops).size (Array.replicate (eL π ops).size false) a w):wpAny P .any ops Q ops.size (Array.replicate ops.size false) a w:=by
 rw [hp.size] at h;refine r6 hp _ _ _ a w ⟨by simp,by simp,fun i hi=> ?_⟩ h
 obtain ⟨r1,_⟩:=hp.kh hi;rw [hp.len] at r1;simp [hi,r1]
end
theorem SF.kill {w:World} {H:J} {φ :ag} {A:aj} {s:ah} {a:Act} (h:SF w H φ A s a) (l:List Nat):SF w H φ A (eN l s) a:=by
 have key: ∀(s:ah) (i:Nat),(eN.go l i s).length=s.length∧ ∀(t:Nat) (x:AV),(eN.go l i s)[t]? =some x→x= .undef∨s[t]? =some x:=by
  intro s;induction s with
  |nil=>intro i;simp [eN.go]
  |cons y s ih=>
   intro i;obtain ⟨h1,h2⟩:=ih (i+1);refine ⟨by simp [eN.go,h1],fun t x hx=> ?_⟩
   cases t with
   |zero=>
    simp only [eN.go,List.getElem?_cons_zero,Option.some.injEq] at hx;split at hx
    ·exact .inr (by simp [hx])
    ·exact .inl hx.symm
   |succ t=>simp only [eN.go,List.getElem?_cons_succ] at hx⊢;exact h2 t x hx
 obtain ⟨h1,h2⟩:=key s 0;refine ⟨h1.trans h.len,fun t x v hx hv=> ?_,h.eS⟩;rcases h2 t x hx with rfl|hx
 ·exact .fr _ _ (.undef _)
 ·exact h.val t x v hx hv
theorem yY {w:World} {H:J} {φ :ag} {A:aj} (ae:St w H φ A) (n:Nat):Out w H φ A w (H.trim n) (aC φ (H.trim n)) A:=by
 have hg: ∀id b,(H.trim n).get id=some b→H.get id=some b:=by
  intro id b h;unfold J.trim J.get at h;unfold J.get;simp only [List.getElem?_take] at h;split at h
  ·exact h
  ·simp at h
 have a7:bT w H φ A w (H.trim n) (aC φ (H.trim n)) A:=
  ⟨fun c arr T fr hc hn=>⟨⟨fr,hc⟩,hn⟩,Nat.le_refl _,fun id b hb _=>⟨b,hg id b hb,rfl,rfl,rfl,rfl,fun loc hl=>by simp [aC,hb,hl]⟩,fun _ _=>rfl⟩
 refine ⟨⟨fun i i' c b b' h h' =>ae.inj _ _ _ _ _ (dy h).1 (dy h').1,fun c hc=>ae.own c (bD hc),ae.cj,fun id loc h=> ?_⟩,⟨rfl,rfl,rfl,Nat.le_refl _,fun _ _ _=>rfl,fun _ _=>rfl,fun c hc=> .inl (bD hc)⟩,a7,fun c hc _=>hc⟩
 obtain ⟨h1,b,hb⟩:=dy h;obtain ⟨b',ay,af⟩:=ae.aq id loc h1;rw [hg id b hb] at ay;simp only [Option.some.injEq] at ay;subst ay;refine ⟨b,hb,af.ad,af.sized,af.aS,fun c b0 he=> ?_⟩;obtain ⟨arr,T,fr,k1,k2,k3,k4⟩:=af.here c b0 he;exact ⟨arr,T,fr,k1,k2,k3,fun i x j y v hx hy hv=>⟨(k4 i x j y v hx hy hv).1.mono a7,(k4 i x j y v hx hy hv).2⟩⟩
def r7:Ex→Exit
 | .normal=> .normal
 | .exit id=> .exit id
 | .ret=> .ret
theorem mQ {x y:AV} (h:e8 x y=true):x=y:=by
 unfold e8 at h;split at h
 ·simp only [Bool.and_eq_true,beq_iff_eq] at h;obtain ⟨⟨⟨rfl,rfl⟩,rfl⟩,rfl⟩:=h;rfl
 ·rfl
 ·rfl
 ·simp at h
theorem yZ {w:World} {H:J} {φ :ag} {A:aj} {s:ah} {a:Act} (ae:St w H φ A) (hs:SF w H φ A s a) {t:Nat} {ts:List Nat} {sh:List Sh} {y:AV} {H1:J} (h:aR sh (s.getD t .undef) H=some (y,H1)):
 Out w H φ A w H1 (aC φ H1) (gone φ A H1)∧SF w H1 (aC φ H1) (gone φ A H1) (e9 (s.getD t .undef) (bq y) ts (s.set t (bq y))) a:=by
 have hl:=fo _ _ _ _ _ h;have a7:bT w H φ A w H1 (aC φ H1) (gone φ A H1):=by
  have e:=c5 (w:=w) (φ := φ) (A:=A) hl;exact ⟨fun c arr T fr hc hn=>⟨(e.fz c arr T fr hc hn).1,fun h2=>hn h2.1⟩,e.st,e.ids,e.sz⟩
 refine ⟨⟨(eg ae hl).shrink (fun c hc=>hc.1) (fun c hc=>⟨ae.own c (bD hc),fun _=>hc⟩),⟨rfl,rfl,rfl,Nat.le_refl _,fun _ _ _=>rfl,fun _ _=>rfl,fun c hc=> .inl (bD hc)⟩,a7,fun c hc hn=>⟨hc,fun ho=>absurd ho hn⟩⟩,?_⟩;have cP:=hs.mono a7;have one: ∀(k:Nat) (v:Value),s.getD k .undef=s.getD t .undef→a.tmps[k]? =some v→R w H1 (aC φ H1) (gone φ A H1) (bq y) v:=by
  intro k v hk hv;have hr:=hs.ev (.tmp k);simp only [ev,Act.eval] at hr;rw [Array.getD_eq_getD_getElem?,hv,hk] at hr;exact .fr _ _ (rM ae hr h (fun c hc=>hc))
 have base:SF w H1 (aC φ H1) (gone φ A H1) (s.set t (bq y)) a∧ ∀k,(s.set t (bq y)).getD k .undef=bq y∨(s.set t (bq y)).getD k .undef=s.getD k .undef:=by
  refine ⟨⟨by simpa using cP.len,fun k x v hx hv=> ?_,cP.eS⟩,fun k=> ?_⟩
  ·rw [List.getElem?_set] at hx;split at hx
   ·rename_i hk;subst hk;split at hx
    ·simp only [Option.some.injEq] at hx;subst hx;exact one t v rfl hv
    ·simp at hx
   ·exact cP.val k x v hx hv
  ·simp only [List.getD_eq_getElem?_getD,List.getElem?_set];split
   ·rename_i hk;subst hk;split
    ·exact .inl rfl
    ·rename_i ax;right;rw [List.getElem?_eq_none (by omega)]
   ·exact .inr rfl
 have gen: ∀(ts:List Nat) (s' :ah),SF w H1 (aC φ H1) (gone φ A H1) s' a→(∀k,e8 (s'.getD k .undef) (s.getD t .undef)=true→s.getD k .undef=s.getD t .undef∨bq y=s.getD t .undef)→SF w H1 (aC φ H1) (gone φ A H1) (e9 (s.getD t .undef) (bq y) ts s') a:=by
  intro ts;induction ts with
  |nil=>intro s' h _;exact h
  |cons k ks ih=>
   intro s' h1 h2
   simp only [e9];split
   ·rename_i r8;have hval: ∀v,a.tmps[k]? =some v→R w H1 (aC φ H1) (gone φ A H1) (bq y) v:=by
     intro v hv;rcases h2 k r8 with e|e
     ·exact one k v e hv
     ·have:=h1.ev (.tmp k);simp only [ev,Act.eval] at this;rw [Array.getD_eq_getD_getElem?,hv,mQ r8,←e] at this;exact this
    refine ih _ ⟨by simpa using h1.len,fun m x v hx hv=> ?_,h1.eS⟩ (fun m hm=> ?_)
    ·rw [List.getElem?_set] at hx;split at hx
     ·rename_i hk;subst hk;split at hx
      ·simp only [Option.some.injEq] at hx;subst hx;exact hval v hv
      ·simp at hx
     ·exact h1.val m x v hx hv
    ·simp only [List.getD_eq_getElem?_getD,List.getElem?_set] at hm;split at hm
     ·split at hm
      ·exact .inr (mQ hm)
      ·rename_i hk ax;refine h2 m ?_;subst hk;rw [List.getD_eq_getElem?_getD,List.getElem?_eq_none (by omega)]
       exact hm
     ·exact h2 m (by rw [List.getD_eq_getElem?_getD];exact hm)
   ·exact ih s' h1 h2
 refine gen ts _ base.1 fun k hk=> ?_;rcases base.2 k with e|e
 ·rw [e] at hk;exact .inr (mQ hk)
 ·rw [e] at hk;exact .inl (mQ hk)
theorem pz {w:World} {H:J} {φ :ag} {A:aj} {x:AV} {v:Value} (h:R w H φ A x v):R w H φ A (iZ x) v:=by
 cases x with
 |nil=>have:=h.dn;subst this;exact .fr _ _ (.cO none 0)
 |e0=>obtain ⟨a,rfl⟩:=h.eQ;exact .fr _ _ (.cO a 0)
 |_=>exact h
theorem y0 {w:World} {H:J} {φ :ag} {A:aj} {x:AV} {v:Value} (h:R w H φ A x v):R w H φ A (cN x) v:=by
 cases x with
 |agg cs=>
  obtain ⟨vs,rfl,h1,h2,h3⟩:=h.gb;refine .agg _ _ (by simpa using h1) h2 fun i x v hx hv=> ?_
  simp only [List.getElem?_map,Option.map_eq_some_iff] at hx;obtain ⟨y,hy,rfl⟩:=hx;exact pz (h3 i y v hy hv)
 |_=>exact pz h
theorem BB (x:AV) (hx: ∀cs,x≠ .agg cs) (hu:x≠ .undef):x.cells=[x]∧(iZ x).cells=[iZ x]:=by
 cases x<;>first|exact ⟨rfl,rfl⟩|exact absurd rfl hu|exact absurd rfl (hx _)
theorem y1 {w:World} {H:J} {φ :ag} {A:aj} {s:ah} {a:Act} (t:Nat) (ae:St w H φ A) (hs:SF w H φ A s a): ∃ak A',Out w H φ A w (gO t s H).2 ak A' ∧SF w (gO t s H).2 ak A' (gO t s H).1 a:=by
 have plain: ∀v,s.getD t .undef=v→SF w H φ A (s.set t (cN v)) a:=by
  intro v hv;refine ⟨by simpa using hs.len,fun k x u hx hu=> ?_,hs.eS⟩
  rw [List.getElem?_set] at hx;split at hx
  ·rename_i hk;subst hk;split at hx
   ·simp only [Option.some.injEq] at hx;subst hx;have hr:=hs.ev (.tmp t);simp only [ev,Act.eval] at hr;rw [Array.getD_eq_getD_getElem?,hu,hv] at hr;exact y0 hr
   ·simp at hx
  ·exact hs.val k x u hx hu
 have key: ∀v,s.getD t .undef=v→ ∃ak A',Out w H φ A w (match v with
  | .ref id ad _ _=>match H.aq id ad with
   |some b=>(s,H.bg id {b with el:=b.el.map cN})
   |none=>(s,H)
  |v=>(s.set t (cN v),H)).2 ak A' ∧SF w (match v with
  | .ref id ad _ _=>match H.aq id ad with
   |some b=>(s,H.bg id {b with el:=b.el.map cN})
   |none=>(s,H)
  |v=>(s.set t (cN v),H)).2 ak A' (match v with
  | .ref id ad _ _=>match H.aq id ad with
   |some b=>(s,H.bg id {b with el:=b.el.map cN})
   |none=>(s,H)
  |v=>(s.set t (cN v),H)).1 a:=by
  intro v hv;cases v with
  |ref id ad off len=>
   simp only;cases hb:H.aq id ad with
   |none=>exact ⟨φ,A,.refl ae,hs⟩
   |some b=>
    simp only;have hg:=(J.bm hb).1;have ax:=J.f_ hg;have bB: ∀k,(H.bg id {b with el:=b.el.map cN}).get k=if k=id then some {b with el:=b.el.map cN} else H.get k:=by
     intro k;simp only [J.get,J.bg,List.getElem?_set];by_cases h:id=k
     ·subst h;simp [ax]
     ·have h' : ¬k=id:=fun e=>h e.symm
      simp [h,h']
    have a7:bT w H φ A w (H.bg id {b with el:=b.el.map cN}) φ A:=by
     refine ⟨fun c arr T fr hc hn=>⟨⟨fr,hc⟩,hn⟩,Nat.le_refl _,fun k b' hk _=> ?_,fun _ _=>rfl⟩
     rw [bB] at hk;split at hk
     ·rename_i e;subst e;simp only [Option.some.injEq] at hk;subst hk;exact ⟨b,hg,rfl,rfl,rfl,by simp,fun _ h=>h⟩
     ·exact ⟨b',hk,rfl,rfl,rfl,rfl,fun _ h=>h⟩
    have y2:St w (H.bg id {b with el:=b.el.map cN}) φ A:=by
     refine ⟨ae.inj,ae.own,ae.cj,fun k loc hk=> ?_⟩;obtain ⟨b0,mR,af⟩:=ae.aq k loc hk;by_cases h:k=id
     ·subst h;rw [hg] at mR;simp only [Option.some.injEq] at mR;subst mR;refine ⟨{b with el:=b.el.map cN},by rw [bB,if_pos rfl],af.ad,fun i x hx=> ?_,fun h=>by simp [af.aS h],fun c b0 he=> ?_⟩
      ·simp only [List.getElem?_map,Option.map_eq_some_iff] at hx;obtain ⟨y,hy,rfl⟩:=hx;rw [j6,List.length_map];exact af.sized i y hy
      ·obtain ⟨arr,T,fr,k1,k2,k3,k4⟩:=af.here c b0 he;refine ⟨arr,T,fr,k1,k2,by simpa using k3,fun i x j y v hx hy hv=> ?_⟩
       simp only [List.getElem?_map,Option.map_eq_some_iff] at hx;obtain ⟨x',bI,rfl⟩:=hx;rw [j6] at hy;simp only [List.getElem?_map,Option.map_eq_some_iff] at hy;obtain ⟨y',eF,rfl⟩:=hy;have:=k4 i x' j y' v bI eF hv
       exact ⟨pz (this.1.mono a7),this.2⟩
     ·refine ⟨b0,by rw [bB,if_neg h];exact mR,af.ad,af.sized,af.aS,fun c b1 he=> ?_⟩
      obtain ⟨arr,T,fr,k1,k2,k3,k4⟩:=af.here c b1 he;exact ⟨arr,T,fr,k1,k2,k3,fun i x j y v hx hy hv=>⟨(k4 i x j y v hx hy hv).1.mono a7,(k4 i x j y v hx hy hv).2⟩⟩
    exact ⟨φ,A,⟨y2,.refl _ _,a7,fun c hc _=>hc⟩,hs.mono a7⟩
  |_=>exact ⟨φ,A,.refl ae,plain _ hv⟩
 unfold gO;exact key _ rfl
theorem mS {w:World} {a:Act}: ∀(l:List (List Nat×List Sh)) {H:J} {φ :ag} {A:aj} {s s' :ah} {H' :J},St w H φ A→SF w H φ A s a→dm l s H=some (s',H')→
 ∃ak A',Out w H φ A w H' ak A' ∧SF w H' ak A' s' a
 |[],H,φ,A,s,s',H',ae,hs,h=>by
  simp only [dm,Option.some.injEq,Prod.mk.injEq] at h;obtain ⟨rfl,rfl⟩:=h;exact ⟨φ,A,.refl ae,hs⟩
 |([],sh)::l,H,φ,A,s,s',H',ae,hs,h=>by simp [dm] at h
 |(t::ts,[])::l,H,φ,A,s,s',H',ae,hs,h=>by
  simp only [dm] at h;obtain ⟨φ1,A1,h1,h2⟩:=y1 t ae hs;obtain ⟨ak,A',h3,h4⟩:=mS l h1.st h2 h;exact ⟨ak,A',h1.trans ae h3,h4⟩
 |(t::ts,e::sh)::l,H,φ,A,s,s',H',ae,hs,h=>by
  simp only [dm] at h;split at h
  ·rename_i y H1 hy;obtain ⟨h1,h2⟩:=yZ (ts:=ts) ae hs hy;obtain ⟨ak,A',h3,h4⟩:=mS l h1.st h2 h;exact ⟨ak,A',h1.trans ae h3,h4⟩
  ·simp at h
section code
variable {P:Program} {C:aK} {X:bK}
def Ends (Q:Exit→Act→World→Prop) (K:Ex→ah→J→Prop) (w:World) (H:J) (φ :ag) (A:aj):Prop:=
 ∀e s' H' ak A' a' w',Out w H φ A w' H' ak A' →SF w' H' ak A' s' a' →K e s' H' →Q (r7 e) a' w'
theorem pA {w:World} {H:J} {φ :ag} {A:aj} {s:ah} {a:Act} {ops:Array Oper} {o:Oper} {b:Bool} (hs: ∀j eC t,o.guard=some (j,eC)→(ops[j]?).bind (·.dst)=some t→R w H φ A (ev s (.tmp t)) (a.eval (.tmp t))) (h:dG ops o s=some b):Region.wanted o (yielded ops a.tmps)=b:=by
 unfold dG at h;unfold Region.wanted;cases hg:o.guard with
 |none=>rw [hg] at h;simp at h;subst h;simp
 |some p=>
  obtain ⟨j,eC⟩:=p;rw [hg] at h;simp only at h⊢;split at h
  ·rename_i t ht;have hv:=hs j eC t hg ht;simp only [ev,Act.eval] at hv;split at h
   ·rename_i c hc;rw [hc] at hv;simp only [Option.some.injEq] at h;subst h;have:=hv.fc;have hy:yielded ops a.tmps j=some c:=by
     unfold yielded;rw [ht];simp only [Option.bind_some];rw [Array.getD_eq_getD_getElem?] at this;cases hq:a.tmps[t]? with
     |none=>rw [hq] at this;simp [undef] at this
     |some v=>rw [hq] at this;simp at this;subst this;rfl
    rw [hy];cases c<;>cases eC<;>rfl
   ·rename_i cs hc;rw [hc] at hv;simp only [Option.some.injEq] at h;subst h;obtain ⟨vs,br,_⟩:=hv.l4;have hy:yielded ops a.tmps j=none:=by
     unfold yielded;rw [ht];simp only [Option.bind_some];rw [Array.getD_eq_getD_getElem?] at br;cases hq:a.tmps[t]? with
     |none=>rfl
     |some v=>rw [hq] at br;simp at br;subst br;rfl
    rw [hy];cases eC<;>rfl
   ·simp at h
  ·simp at h
theorem r9 (hE: ∀t ti,C.E t=some ti→aW P t ti) (hX: ∀f ys H K,X f ys H K→dh P f ys H K) {ops:Array Oper} {th:List Nat} {fz:List (Nat×List (List Nat×List Sh))} {K:ah→J→Prop} {Q:Exit→Act→World→Prop}:
 ∀(l:List Oper) (i:Nat) (s:ah) (H:J) (w:World) (φ :ag) (A:aj) (a:Act),cX X C ops th fz K l i s H→St w H φ A→SF w H φ A s a→
  (∀s' H' ak A' a' w',Out w H φ A w' H' ak A' →SF w' H' ak A' s' a' →K s' H' →Q .normal a' w')→wpList P ops Q l a w
 |[],i,s,H,w,φ,A,a,h,ae,hs,hq=>hq s H φ A a w (.refl ae) hs h
 |o::rest,i,s0,H0,w,aB,A0,a,h,c7,eD,y3=>by
  simp only [cX] at h;obtain ⟨s,H,hf,h⟩:=h;obtain ⟨φ,A,ho,hs⟩:=mS _ c7 eD hf;have ae:=ho.st;have hq: ∀s' H' ak A' a' w',Out w H φ A w' H' ak A' →SF w' H' ak A' s' a' →K s' H' →Q .normal a' w' :=fun s' H' ak A' a' w' k1 k2 k3=>y3 s' H' ak A' a' w' (ho.trans c7 k1) k2 k3
  have next: ∀{x:AV} {v:Value} {w' :World} {H' :J} {ak:ag} {A' :aj},Out w H φ A w' H' ak A' →R w' H' ak A' x v→cX X C ops th fz K rest (i+1) (aZ s o.dst x) H' →wpList P ops Q rest (a.put o.dst v) w' :=by
   intro x v w' H' ak A' h1 h2 h3
   exact r9 hE hX rest (i+1) _ H' w' ak A' _ h3 h1.st ((hs.mono h1.b8).set o.dst h2) fun s2 H2 a8 A2 a2 w2 k1 k2 k3=>hq s2 H2 a8 A2 a2 w2 (h1.trans ae k1) k2 k3
  simp only [wpList];cases hg:o.guard with
  |none=>
   rw [hg] at h;simp only at h;have hw:Region.wanted o (yielded ops a.tmps)=true:=by simp [Region.wanted,hg]
   rw [if_pos hw];exact .inl (mO hE hX ae (fun x _=>hs.ev x) h fun x v w' H' ak A' h1 h2 h3=>next h1 h2 h3)
  |some p=>
   rw [hg] at h;simp only at h;obtain ⟨v,H',h1,h2⟩:=h;split at h1
   ·rename_i b hb;have hw:=pA (fun _ _ t _ _=>hs.ev (.tmp t)) hb;cases b with
    |true=>
     rw [if_pos hw];simp only [if_true] at h1;exact .inl (mO hE hX ae (fun x _=>hs.ev x) h1 fun x u w' fP ak A' k1 k2 k3=>by obtain ⟨rfl,rfl⟩:=k3;exact next k1 k2 h2)
    |false=>
     rw [if_neg (by rw [hw];simp)]
     simp only [Bool.false_eq_true,if_false] at h1;obtain ⟨rfl,rfl⟩:=h1;exact next (.refl ae) (.fr _ _ (.aA [] #[] rfl (by simp))) h2
   ·exact h1.elim
def mT (P:Program) (C:aK) (X:bK):Prop:=
 ∀(ops:Array Oper) (aF:List Nat) (th:List Nat) (s:ah) (H:J) (K:ah→J→Prop) (Q:Exit→Act→World→Prop) (w:World) (φ :ag) (A:aj) (a:Act),iE ops aF=true→
  db X C ops (fun i=> !aF.contains i) (fZ ops aF) th K ops.toList 0 s H→St w H φ A→SF w H φ A s a→(∀s' H' ak A' a' w',Out w H φ A w' H' ak A' →SF w' H' ak A' s' a' →K s' H' →Q .normal a' w')→wpAny P .any ops Q ops.size (Array.replicate ops.size false) a {w with drawn:=w.drawn+1}
theorem Ends.trans {Q:Exit→Act→World→Prop} {K:Ex→ah→J→Prop} {w w1:World} {H H1:J} {φ φ1:ag} {A A1:aj} (ae:St w H φ A) (h:Out w H φ A w1 H1 φ1 A1) (k:Ends Q K w H φ A):Ends Q K w1 H1 φ1 A1:=
 fun e s' H' ak A' a' w' h1 h2 h3=>k e s' H' ak A' a' w' (h.trans ae h1) h2 h3
theorem r_ (hm:P.follows .mixedOrders=true) (hE: ∀t ti,C.E t=some ti→aW P t ti) (hX: ∀f ys H K,X f ys H K→dh P f ys H K) (hD:mT P C X) (p:kG):
 ∀(c:Code) (cE:Nat) (s:ah) (H:J) (K:Ex→ah→J→Prop) (Q:Exit→Act→World→Prop) (w:World) (φ :ag) (A:aj) (a:Act),c9 p c=true→aN X C (da p cE c) s H K→St w H φ A→SF w H φ A s a→Ends Q K w H φ A→c.wp P Q a w:=by
 intro c;induction c with
 |skip=>intro cE s H K Q w φ A a ho h ae hs hq;exact wp_skip (hq .normal s H φ A a w (.refl ae) hs h)
 |ret=>intro cE s H K Q w φ A a ho h ae hs hq;exact wp_ret (hq .ret s H φ A a w (.refl ae) hs h)
 |exit id=>intro cE s H K Q w φ A a ho h ae hs hq;exact wp_exit (hq (.exit id) s H φ A a w (.refl ae) hs h)
 |seq x y y4 pB=>
  intro cE s H K Q w φ A a ho h ae hs hq;simp only [da,aN] at h;simp only [c9,Bool.and_eq_true] at ho;refine wp_seq (y4 cE s H _ _ w φ A a ho.1 h ae hs fun e s' H' ak A' a' w' h1 h2 h3=> ?_)
  cases e with
  |normal=>exact pB cE s' H' K Q w' ak A' a' ho.2 h3 h1.st h2 (Ends.trans ae h1 hq)
  |exit id=>exact hq (.exit id) s' H' ak A' a' w' h1 h2 h3
  |ret=>exact hq .ret s' H' ak A' a' w' h1 h2 h3
 |cond x y z pB y5=>
  intro cE s H K Q w φ A a ho h ae hs hq;simp only [c9,Bool.and_eq_true] at ho;have key: ∀(K:Ex→ah→J→Prop),aN X C (.cond x (da p cE y) (da p cE z)) s H K→Ends Q K w H φ A→(Code.cond x y z).wp P Q a w:=by
   intro K h hq;simp only [aN] at h;split at h
   ·rename_i t ht;have hv:=hs.ev x;rw [ht] at hv;refine wp_cond hv.fc ?_;cases t with
    |true=>exact pB cE s H K Q w φ A a ho.1 h ae hs hq
    |false=>exact y5 cE s H K Q w φ A a ho.2 h ae hs hq
   ·exact h.elim
  simp only [da] at h;unfold lX at h;split at h
  ·rename_i kp _;simp only [aN,dm] at h;refine key _ h fun e s' H' ak A' a' w' h1 h2 h3=> ?_
   cases e with
   |normal=>exact hq .normal _ H' ak A' a' w' h1 (h2.kill kp) h3
   |exit id=>exact hq (.exit id) s' H' ak A' a' w' h1 h2 h3
   |ret=>exact hq .ret s' H' ak A' a' w' h1 h2 h3
  ·exact key K h hq
 |block id x ih=>
  intro cE s H K Q w φ A a ho h ae hs hq;simp only [da,aN] at h;have mU: ∀{w:World} {H:J} {φ :ag} {A:aj} {s:ah} {a:Act} (kp:Option (List Nat)),SF w H φ A s a→SF w H φ A (eu kp s) a:=by
   intro w H φ A s a kp h;cases kp with
   |none=>exact h
   |some l=>exact h.kill l
  simp only [c9] at ho;refine wp_block (ih id s H _ _ w φ A a ho h ae hs fun e s' H' ak A' a' w' h1 h2 h3=> ?_)
  cases e with
  |normal=>exact hq .normal _ H' ak A' a' w' h1 (mU _ h2) h3
  |exit j=>
   simp only at h3;simp only [r7,Exit.inBlock];split at h3
   ·rename_i hj;rw [if_pos hj];exact hq .normal _ H' ak A' a' w' h1 (mU _ h2) h3
   ·rename_i hj;rw [if_neg hj];exact hq (.exit j) s' H' ak A' a' w' h1 h2 h3
  |ret=>exact hq .ret s' H' ak A' a' w' h1 h2 h3
 |loop c ih=>
  intro cE s H K Q w φ A a ho h ae hs hq;simp only [da,aN] at h;have sa: ∀{w:World} {H:J} {φ :ag} {A:aj} {s:ah} {a:Act} (sp:lW) (n:Nat),St w H φ A→SF w H φ A s a→ ∃ φ1,Out w H φ A w (hJ sp n s H).2 φ1 A∧SF w (hJ sp n s H).2 φ1 A (hJ sp n s H).1 a:=by
   intro w H φ A s a sp n h1 h2;unfold hJ;by_cases ht:sp.trim=true
   ·have ho:=yY h1 n;simp only [ht,if_true];exact ⟨_,ho,(h2.mono ho.b8).kill _⟩
   ·simp only [ht];exact ⟨φ,.refl h1,h2.kill _⟩
  intro b k cs;have main:=h (fun s H=> ∀(w:World) (φ :ag) (A:aj) (a:Act),St w H φ A→SF w H φ A s a→Ends Q K w H φ A→
   ∀(b:Frame) (k:List Item) (cs:List Frame),∃e a' w',Q e a' w' ∧Arrives P (lone (b.at a (.code c:: .inLoop c::k)) cs w) b k cs e a' w') (fun s H hB w φ A a ae hs hq b k cs=>by
    obtain ⟨e,a1,w1,ij,d_⟩:=ih cE s H _ (Exit.then (fun a1 w1=> ∀(b:Frame) (k:List Item) (cs:List Frame),∃e a' w',Q e a' w' ∧Arrives P (lone (b.at a1 (.code c:: .inLoop c::k)) cs w1) b k cs e a' w') Q) w φ A a (by simpa only [c9] using ho) hB ae hs (fun e s' H' ak A' a' w' h1 h2 h3=>by
     cases e with
     |normal=>
      obtain ⟨φ1,k1,k2⟩:=sa ((p.loops.lookup cE).getD {}) _ h1.st h2;exact h3 w' φ1 A' a' k1.st k2 (Ends.trans ae (h1.trans ae k1) hq)
     |exit id=>exact hq (.exit id) s' H' ak A' a' w' h1 h2 h3
     |ret=>exact hq .ret s' H' ak A' a' w' h1 h2 h3) b (.inLoop c::k) cs
    cases e with
    |normal=>
     obtain ⟨y6,a₂,y7,y8,y9⟩:=ij b k cs;exact ⟨y6,a₂,y7,y8,.of_steps (Steps.trans d_ (.one step_inLoop)) y9⟩
    |exit id=>exact ⟨_,a1,w1,ij,.pass (x:= .inLoop c) rfl (fun _ _=> .inl (by simp)) d_⟩
    |goto l=>exact ⟨_,a1,w1,ij,.pass (x:= .inLoop c) rfl (fun _ _=> .inl (by simp)) d_⟩
    |ret=>exact ⟨_,a1,w1,ij,.pass (x:= .inLoop c) rfl (fun _ _=> .inl (by simp)) d_⟩
    |panic ch=>exact ⟨_,a1,w1,ij,.pass (x:= .inLoop c) rfl (fun _ _=> .inl (by simp)) d_⟩
    |outgrown=>exact ⟨_,a1,w1,ij,.pass (x:= .inLoop c) rfl (fun _ _=> .inl (by simp)) d_⟩)
  obtain ⟨φ1,k1,k2⟩:=sa ((p.loops.lookup cE).getD {}) H.bs.length ae hs;obtain ⟨e,a',w',jw,d_⟩:=main w φ1 A a k1.st k2 (Ends.trans ae k1 hq) b k cs;exact ⟨e,a',w',jw,.of_steps (.one step_loop) d_⟩
 |region id ops draw=>
  intro cE s H K Q w φ A a ho h ae hs hq;have key: ∀(K:Ex→ah→J→Prop),aN X C (iD (p.nO.lookup id) ((p.fz.lookup id).getD []) id (fW (p.gL.lookup id) ops) draw) s H K→Ends Q K w H φ A→(Code.region id ops draw).wp P Q a w:=by
   intro K h hq;cases draw with
   |false=>
    have fu:fW (p.gL.lookup id) ops=ops:=by
     simp only [c9] at ho;cases hl:p.gL.lookup id with
     |none=>rfl
     |some π =>rw [hl] at ho;simp at ho
    rw [fu] at h;have h' :cX X C ops (match p.nO.lookup id with|some (_,th)=>th|none=>[]) ((p.fz.lookup id).getD []) (fun s H=>K .normal s H) ops.toList 0 s H:=by
     unfold iD at h;split at h
     ·rename_i n th he;rw [he];exact h
     ·rename_i he;rw [he];exact h
    exact wp_region_list (r9 hE hX ops.toList 0 s H w φ A a h' ae hs fun s' H' ak A' a' w' h1 h2 h3=>hq .normal s' H' ak A' a' w' h1 h2 h3)
   |true=>
    have h' : ∃q th,iE (fW (p.gL.lookup id) ops) q=true∧db X C (fW (p.gL.lookup id) ops) (fun i=> !q.contains i) (fZ (fW (p.gL.lookup id) ops) q) th (fun s H=>K .normal s H) (fW (p.gL.lookup id) ops).toList 0 s H:=by
     unfold iD at h;split at h
     ·exact ⟨_,_,h.1,h.2⟩
     ·exact ⟨_,_,h.1,h.2⟩
    obtain ⟨q,th,hd,h'⟩:=h';have hw:=hD _ q th s H _ Q w φ A a hd h' ae hs fun s' H' ak A' a' w' h1 h2 h3=>hq .normal s' H' ak A' a' w' h1 h2 h3
    refine wp_region_any hm ?_;simp only [c9] at ho;cases hl:p.gL.lookup id with
    |none=>rw [hl] at hw;exact hw
    |some π =>
     rw [hl] at hw ho;simp only [Bool.true_and] at ho;exact yX (yR ho) hw
  simp only [da] at h;unfold jT at h;split at h
  ·rename_i l kp _;have mU: ∀{w:World} {H:J} {φ :ag} {A:aj} {s:ah} {a:Act} (kp:Option (List Nat)),SF w H φ A s a→SF w H φ A (eu kp s) a:=by
    intro w H φ A s a kp h;cases kp with
    |none=>exact h
    |some l=>exact h.kill l
   simp only [aN] at h;refine key _ h fun e s' H' ak A' a' w' h1 h2 h3=> ?_
   cases e with
   |normal=>
    simp only at h3;split at h3
    ·rename_i s2 H2 hf;obtain ⟨a8,A2,k1,k2⟩:=mS l h1.st h2 hf;exact hq .normal _ H2 a8 A2 a' w' (h1.trans ae k1) (mU kp k2) h3
    ·exact h3.elim
   |exit id=>exact hq (.exit id) s' H' ak A' a' w' h1 h2 h3
   |ret=>exact hq .ret s' H' ak A' a' w' h1 h2 h3
  ·exact key K h hq
 |_=>intro cE s H K Q w φ A a ho h ae hs hq;simp only [da,aN] at h
end code
end Go.VS
namespace Go.VS
section body
variable {P:Program} {C:aK} {X:bK}
theorem pC (hE: ∀t ti,C.E t=some ti→aW P t ti) {w:World} {H:J} {φ :ag} {A:aj} {s:ah} {a:Act} (ae:St w H φ A) (hs:SF w H φ A s a) {f:ResultVar→Sem Value} (lu: ∀t,f (.tmp t)=pure (a.tmps.getD t undef)) (lv: ∀x t,f (.cell x t)=(do loadVar t (←asAddr (a.tmps.getD x undef)))):
 ∀(l:List ResultVar) (rs:List AV),dc C.E s H l=some rs→
 ∃cF:List Value,(l.mapM f).run P w= .ok cF w∧rs.length=cF.length∧ ∀(i:Nat) (x:AV) (u:Value),rs[i]? =some x→cF[i]? =some u→R w H φ A x u
 |[],rs,h=>by
  simp only [dc,Option.some.injEq] at h;subst h;exact ⟨[],by simp,rfl,by simp⟩
 | .tmp t::l,rs,h=>by
  simp only [dc,Option.map_eq_some_iff] at h;obtain ⟨pD,h1,rfl⟩:=h;obtain ⟨cF,k1,k2,k3⟩:=pC hE ae hs lu lv l pD h1
  refine ⟨a.tmps.getD t undef::cF,by simp [List.mapM_cons,k1,lu],by simp [k2],fun i x u hx hu=> ?_⟩
  cases i with
  |zero=>simp at hx hu;subst hx;subst hu;have:=hs.ev (.tmp t);simpa [ev,Act.eval] using this
  |succ i=>exact k3 i x u hx hu
 | .cell b t::l,rs,h=>by
  simp only [dc] at h;split at h
  ·rename_i v H' he
   simp only [Option.map_eq_some_iff] at h;obtain ⟨pD,h1,rfl⟩:=h;obtain ⟨cF,k1,k2,k3⟩:=pC hE ae hs lu lv l pD h1
   have hb:=hs.ev (.tmp b);simp only [aP] at he;obtain ⟨u,hu,hr⟩:=qJ (P:=P) hE ae (a_.refl H) hb he;have aQ:(do loadVar t (←asAddr (a.tmps.getD b undef)):Sem Value).run P w= .ok u w:=by
    revert hu;simp only [Act.eval];unfold Instr.loadAt;generalize a.tmps.getD b undef=q;intro hu;cases q with
    |pointer o=>cases o with
     |none=>simp [Instr.sureAddr] at hu
     |some o=>simpa [Instr.sureAddr,asAddr] using hu
    |_=>simp [Instr.sureAddr] at hu
   refine ⟨u::cF,by rw [List.mapM_cons,lv,Sem.run_bind,aQ];simp [k1],by simp [k2],fun i x u' hx aQ=> ?_⟩
   cases i with
   |zero=>simp at hx aQ;subst hx;subst aQ;exact hr
   |succ i=>exact k3 i x u' hx aQ
  ·simp at h
theorem sb (hE: ∀t ti,C.E t=some ti→aW P t ti) {w:World} {H:J} {φ :ag} {A:aj} {s:ah} {a:Act} (ae:St w H φ A) (hs:SF w H φ A s a) {fn:Func} {rs:List AV} (h:dc C.E s H fn.results.toList=some rs):
 ∃cF:List Value,(results fn a.tmps).run P w= .ok (ii cF) w∧rs.length=cF.length∧ ∀(i:Nat) (x:AV) (u:Value),rs[i]? =some x→cF[i]? =some u→R w H φ A x u:=by
 obtain ⟨f,lu,lv,y_⟩: ∃f:ResultVar→Sem Value,(∀t,f (.tmp t)=pure (a.tmps.getD t undef))∧(∀x t,f (.cell x t)=(do loadVar t (←asAddr (a.tmps.getD x undef))))∧
  results fn a.tmps=(do let vs←fn.results.mapM f;pure (if h:vs.size=1 then vs[0] else .tuple vs)):=⟨_,fun _=>rfl,fun _ _=>rfl,rfl⟩
 obtain ⟨cF,h1,h2,h3⟩:=pC hE ae hs lu lv fn.results.toList rs h;refine ⟨cF,?_,h2,h3⟩;rw [y_,Sem.run_bind,Array.mapM_eq_mapM_toList,Sem.run_map,h1]
 match cF with
 |[]=>simp [ii]
 |[u]=>simp [ii]
 |u::u' ::us=>simp [ii]
theorem za (hm:P.follows .mixedOrders=true) (hE: ∀t ti,C.E t=some ti→aW P t ti) (hC: ∀f fn,C.code f=some fn→P.funcs[f]? =some fn∧(fn.name== "runtime.NumGoroutine")=false∧nQ (C.fX f) fn=true) (hX: ∀f ys H K,X f ys H K→dh P f ys H K) (hD:mT P C X)
 {f:FuncId} {ys:List AV} {H:J} {K:AV→J→Prop} (h:Body X C f ys H K):dh P f ys H K:=by
 unfold Body at h;split at h
 ·exact h.elim
 rename_i fn kN;split at h
 ·exact h.elim
 rename_i c hc;obtain ⟨hf,pE,lx⟩:=hC f fn kN;have lx:c9 (C.fX f) c=true:=by unfold nQ at lx;rw [hc] at lx;exact lx
 refine ⟨⟨fn,hf,pE,by simp [hc]⟩,fun w A φ us ae hl hr=> ?_⟩
 refine calls_of_wp hf hc (r_ hm hE hX hD (C.fX f) c 0 _ H _ _ w φ A _ lx h ae ⟨by simp [hl],fun t x v hx hv=> ?_,rfl⟩ ?_)
 ·rcases Nat.lt_or_ge t us.size with ht|ht
  ·rw [List.getElem?_append_left (by rw [hl];exact ht)] at hx
   rw [Array.getElem?_append_left ht] at hv;exact hr t x v hx hv
  ·rw [List.getElem?_append_right (by rw [hl];exact ht)] at hx
   have:x= .undef:=by
    rw [List.getElem?_replicate] at hx;split at hx<;>simp at hx;exact hx.symm
   subst this;exact .fr _ _ (.undef _)
 ·intro e s' H' ak A' a' w' h1 h2 h3
  have fin:(∃rs,dc C.E s' H' fn.results.toList=some rs∧K (cf rs) H')→a'.defers=[]∧ ∃v,(results fn a'.tmps).run P w' = .ok v w' ∧iM w H φ A K (.returned v) w' :=by
   rintro ⟨rs,ju,hk⟩;refine ⟨h2.eS,?_⟩;obtain ⟨cF,k1,k2,k3⟩:=sb (P:=P) hE h1.st h2 ju;exact ⟨_,k1,_,H',ak,A',h1,pg k2 k3,hk⟩
  cases e with
  |normal=>exact fin h3
  |ret=>exact fin h3
  |exit id=>exact h3.elim
end body
end Go.VS
namespace Go.VS
def fQ (H H1:J):Prop:=a_ H H1∧H.bs.length≤H1.bs.length
theorem a_.trans {H H1 H2:J} (h:a_ H H1) (k:a_ H1 H2):a_ H H2:=⟨fun id b hb=>k.1 id b (h.1 id b hb),Nat.le_trans h.2 k.2⟩
theorem fQ.refl (H:J):fQ H H:=⟨a_.refl _,Nat.le_refl _⟩
theorem fQ.trans {H H1 H2:J} (h:fQ H H1) (k:fQ H1 H2):fQ H H2:=⟨h.1.trans k.1,Nat.le_trans h.2 k.2⟩
theorem fQ.new (H:J) (sz:Nat) (fx:Bool) (el:List AV):fQ H (H.new sz fx el):=⟨J.n_ H sz fx el,by simp [J.new]⟩
mutual
theorem pF: ∀(y:AV) (H:J),fQ H (aD y H).2
 | .own sz xs,H=>by simp only [aD];exact (iN xs H).trans (.new _ _ _ _)
 | .dB sz x,H=>by simp only [aD];exact (pF x H).trans (.new _ _ _ _)
 | .agg xs,H=>by simp only [aD];exact iN xs H
 | .aA xs,H=>by simp only [aD];exact iN xs H
 | .undef,H=> .refl _
 | .int _ _,H=> .refl _
 | .bool _,H=> .refl _
 | .str _,H=> .refl _
 | .nil,H=> .refl _
 | .e0,H=> .refl _
 | .fz _,H=> .refl _
 | .ref _ _ _ _,H=> .refl _
 | .ptr _ _ _ _,H=> .refl _
 | .fe _ _,H=> .refl _
 | .fn _ _,H=> .refl _
 | .ct _,H=> .refl _
 | .dQ,H=> .refl _
theorem iN: ∀(ys:List AV) (H:J),fQ H (az ys H).2
 |[],H=> .refl _
 |y::ys,H=>by simp only [az];exact (pF y H).trans (iN ys _)
end
structure GH (G:J) (φ :ag) (H H1:J):Prop where
 ext:a_ H1 G
 none: ∀id,H.bs.length≤id→id<H1.bs.length→ φ id=none
theorem kj (H:J) (sz:Nat) (fx:Bool) (el:List AV):(H.new sz fx el).bs.length=H.bs.length+1:=by simp [J.new]
theorem GH.fst {G:J} {φ :ag} {H H1 H2:J} (h:GH G φ H H2) (k:fQ H1 H2):GH G φ H H1:=⟨k.1.trans h.ext,fun id h1 h2=>h.none id h1 (Nat.lt_of_lt_of_le h2 k.2)⟩
section bh
variable {w:World}
structure MG (w:World) (L:J) (φL:ag) (AL:aj) (G:J) (φ :ag) (AH:aj) (L1:J) (φ1:ag) (lo hi:Nat):Prop where
 less:bw L L1
 bh:b4 w L1 (aC φL L1) AL G φ1 AH
 oh: ∀c,Ow φ1 c→Ow φ c∨(Ow φL c∧ ¬Ow (aC φL L1) c)
 hZ: ∀c,Ow φ c→Ow φ1 c
 bV: ∀id loc,φ id=some loc→ φ1 id=some loc
 new: ∀id loc,φ1 id=some loc→ φ id=some loc∨(lo≤id∧id<hi)
 le:lo≤hi
theorem MG.eh {L:J} {φL:ag} {AL:aj} {G:J} {φ :ag} {AH:aj} {L1:J} {φ1:ag} {lo hi:Nat} (m:MG w L φL AL G φ AH L1 φ1 lo hi):bT w G φ AH w G φ1 AH:=
 ⟨fun _c _arr _T fr hc hn=>⟨⟨fr,hc⟩,hn⟩,Nat.le_refl _,fun id b hb _=>⟨b,hb,rfl,rfl,rfl,rfl,fun loc h=>m.bV id loc h⟩,fun _ _=>rfl⟩
theorem MG.refl {L:J} {φL:ag} {AL:aj} {G:J} {φ :ag} {AH:aj} (h:b4 w L φL AL G φ AH) (lo:Nat):MG w L φL AL G φ AH L φ lo lo:=
 ⟨.refl _,⟨eg h.sl (.refl _),h.sh,fun c hc=>h.b_ c (bD hc),fun c hc=>h.ei c (bD hc)⟩,fun _c hc=> .inl hc,fun _c hc=>hc,fun _ _ h=>h,fun _ _ h=> .inl h,Nat.le_refl _⟩
theorem MG.trans {L L1 L2:J} {φL:ag} {AL:aj} {G:J} {φ φ1 a8:ag} {AH:aj} {lo mi hi:Nat} (h:MG w L φL AL G φ AH L1 φ1 lo mi) (k:MG w L1 (aC φL L1) AL G φ1 AH L2 a8 mi hi):MG w L φL AL G φ AH L2 a8 lo hi:=by
 have hr:=gp (φ := φL) k.less;refine ⟨h.less.trans k.less,by rw [←hr];exact k.bh,fun c hc=> ?_,fun c hc=>k.hZ c (h.hZ c hc),fun id loc hl=>k.bV id loc (h.bV id loc hl),fun id loc hl=> ?_,Nat.le_trans h.le k.le⟩
 ·rcases k.oh c hc with h1|⟨h1,h2⟩
  ·rcases h.oh c h1 with h3|⟨h3,h4⟩
   ·exact .inl h3
   ·refine .inr ⟨h3,fun h5=>h4 ?_⟩;rw [←hr] at h5;exact bD h5
  ·rw [hr] at h2;exact .inr ⟨bD h1,h2⟩
 ·have h1:=h.le;have h2:=k.le;rcases k.new id loc hl with h3|⟨h3,h4⟩
  ·rcases h.new id loc h3 with h5|⟨h5,h6⟩
   ·exact .inl h5
   ·exact .inr ⟨h5,by omega⟩
  ·exact .inr ⟨by omega,h4⟩
theorem GH.snd {L L1:J} {φL:ag} {AL:aj} {G:J} {φ φ1:ag} {AH:aj} {H H1 H2:J} (h:GH G φ H H2) (m:MG w L φL AL G φ AH L1 φ1 H.bs.length H1.bs.length):GH G φ1 H1 H2:=by
 refine ⟨h.ext,fun id h1 h2=> ?_⟩;cases hp: φ1 id with
 |none=>rfl
 |some loc=>
  have hle:=m.le;rcases m.new id loc hp with h3|⟨_,h3⟩
  ·rw [h.none id (by omega) h2] at h3;simp at h3
  ·omega
theorem sd {L L1:J} {φL:ag} {AL:aj} {G:J} {φ φ1:ag} {AH:aj} {lo hi:Nat} (m:MG w L φL AL G φ AH L1 φ1 lo hi) {ad sz:Nat} {fx:Bool} {el:List AV} {loc:Loc} (hg:G.get hi=some ⟨ad,sz,fx,el⟩) (bz:ad<G.st) (ib: φ hi=none)
 (dM: ∀(i:Nat) (x:AV),el[i]? =some x→x.cells.length=sz) (hv:loc= .aS→el=[])
 (eG: ∀c b0,loc= .at_ c b0→Ow φL c∧ ¬Ow (aC φL L1) c∧ ¬Ow φ1 c∧AH c∧ ∃arr T fr,w.heap[c]? =some (.cells arr T fr)∧(∀j,j<arr.size→ ¬(fr.1≤j∧j<fr.2))∧b0+el.length*sz≤arr.size∧
  ∀(i:Nat) (x:AV) (j:Nat) (y:AV) (v:Value),el[i]? =some x→x.cells[j]? =some y→arr[b0+i*sz+j]? =some v→R w G φ1 AH y v∧v.oneCell' =true):
 MG w L φL AL G φ AH L1 (fun i=>if i=hi then some loc else φ1 i) lo (hi+1):=by
 have fL:=m.bh.sh;have hle:=m.le;have bH: φ1 hi=none:=by
  cases hp: φ1 hi with
  |none=>rfl
  |some l=>
   rcases m.new hi l hp with h|⟨_,h⟩
   ·rw [ib] at h;simp at h
   ·omega
 have a7:bT w G φ1 AH w G (fun i=>if i=hi then some loc else φ1 i) AH:=by
  refine ⟨fun c a t fr hc hn=>⟨⟨fr,hc⟩,hn⟩,Nat.le_refl _,fun id b hb ax=>⟨b,hb,rfl,rfl,rfl,rfl,fun l hl=> ?_⟩,fun _ _=>rfl⟩;rw [if_neg (by rintro rfl;rw [bH] at hl;simp at hl)];exact hl
 have dY: ∀c,Ow (fun i=>if i=hi then some loc else φ1 i) c→Ow φ1 c∨ ∃b0,loc= .at_ c b0:=by
  rintro c ⟨i,b,h⟩;try simp only at h
  split at h
  ·simp only [Option.some.injEq] at h;exact .inr ⟨b,h⟩
  ·exact .inl ⟨i,b,h⟩
 refine ⟨m.less,⟨m.bh.sl,⟨fun i i' c b b' h1 h2=> ?_,fun c hc=> ?_,fL.cj,fun i l hl=> ?_⟩,fun c hc ho=> ?_,m.bh.ei⟩,fun c hc=> ?_,fun c hc=> ?_,fun id l hl=> ?_,fun id l hl=> ?_,by omega⟩
 ·try simp only at h1 h2
  split at h1
  ·rename_i hi;split at h2
   ·rename_i ez;omega
   ·simp only [Option.some.injEq] at h1;exact absurd ⟨i',b',h2⟩ (eG c b h1).2.2.1
  ·split at h2
   ·simp only [Option.some.injEq] at h2;exact absurd ⟨i,b,h1⟩ (eG c b' h2).2.2.1
   ·exact fL.inj _ _ _ _ _ h1 h2
 ·rcases dY c hc with h|⟨b0,h⟩
  ·exact fL.own c h
  ·exact (eG c b0 h).2.2.2.1
 ·try simp only at hl
  split at hl
  ·rename_i hi;subst hi;simp only [Option.some.injEq] at hl;subst hl;refine ⟨_,hg,bz,dM,hv,fun c b0 he=> ?_⟩;obtain ⟨_,_,_,_,arr,T,fr,k1,k2,k3,k4⟩:=eG c b0 he;exact ⟨arr,T,fr,k1,k2,k3,fun j x q y v bI hy cx=>⟨(k4 j x q y v bI hy cx).1.mono a7,(k4 j x q y v bI hy cx).2⟩⟩
  ·obtain ⟨bb,hb,af⟩:=fL.aq i l hl;refine ⟨bb,hb,af.ad,af.sized,af.aS,fun c b0 he=> ?_⟩;obtain ⟨arr,T,fr,k1,k2,k3,k4⟩:=af.here c b0 he;exact ⟨arr,T,fr,k1,k2,k3,fun j x q y v bI hy cx=>⟨(k4 j x q y v bI hy cx).1.mono a7,(k4 j x q y v bI hy cx).2⟩⟩
 ·rcases dY c ho with h|⟨b0,h⟩
  ·exact m.bh.b_ c hc h
  ·exact (eG c b0 h).2.1 hc
 ·rcases dY c hc with h|⟨b0,h⟩
  ·exact m.oh c h
  ·exact .inr ⟨(eG c b0 h).1,(eG c b0 h).2.1⟩
 ·obtain ⟨i,b,h⟩:=m.hZ c hc
  exact ⟨i,b,by show (if i=hi then some loc else φ1 i)=_;rw [if_neg (by rintro rfl;rw [bH] at h;simp at h)];exact h⟩
 ·have:=m.bV id l hl;rw [if_neg (by rintro rfl;rw [bH] at this;simp at this)];exact this
 ·try simp only at hl
  split at hl
  ·rename_i hi;subst hi;exact .inr ⟨hle,Nat.lt_succ_self _⟩
  ·rcases m.new id l hl with h|⟨h1,h2⟩
   ·exact .inl h
   ·exact .inr ⟨h1,by omega⟩
set_option maxRecDepth 4000
theorem se {es:List Sh} (hE: ∀(x:AV) (vs:List Value) (L:J) (φL:ag) (AL:aj) (H G:J) (φ :ag) (AH:aj) (y:AV) (L1:J) (a:AV) (H1:J),b4 w L φL AL G φ AH→GH G φ H H1→x.cells.length=vs.length→
 (∀(j:Nat) (c:AV) (u:Value),x.cells[j]? =some c→vs[j]? =some u→R w L φL AL c u)→aR es x L=some (y,L1)→aD y H=(a,H1)→gq AL AH y→
 ∃ φ1,MG w L φL AL G φ AH L1 φ1 H.bs.length H1.bs.length∧a.cells.length=x.cells.length∧ ∀(j:Nat) (c:AV) (u:Value),a.cells[j]? =some c→vs[j]? =some u→R w G φ1 AH c u):
 ∀(xs:List AV) (g:Nat→Nat→Value) (L:J) (φL:ag) (AL:aj) (H G:J) (φ :ag) (AH:aj) (ys:List AV) (L1:J) (as:List AV) (H1:J),b4 w L φL AL G φ AH→GH G φ H H1→
  (∀(i:Nat) (x:AV) (j:Nat) (c:AV),xs[i]? =some x→x.cells[j]? =some c→R w L φL AL c (g i j))→cW (aR es) xs L=some (ys,L1)→az ys H=(as,H1)→dN AL AH ys→
  ∃ φ1,MG w L φL AL G φ AH L1 φ1 H.bs.length H1.bs.length∧as.length=xs.length∧(∀(i:Nat) (x a:AV),xs[i]? =some x→as[i]? =some a→a.cells.length=x.cells.length)∧
   ∀(i:Nat) (a:AV) (j:Nat) (c:AV),as[i]? =some a→a.cells[j]? =some c→R w G φ1 AH c (g i j)
 |[],g,L,φL,AL,H,G,φ,AH,ys,L1,as,H1,hd,hh,_,ht,hw,_=>by
  simp only [cW,Option.some.injEq,Prod.mk.injEq] at ht;obtain ⟨rfl,rfl⟩:=ht;simp only [az,Prod.mk.injEq] at hw;obtain ⟨rfl,rfl⟩:=hw;exact ⟨φ,.refl hd _,rfl,by simp,by simp⟩
 |x::xs,g,L,φL,AL,H,G,φ,AH,ys,L1,as,H1,hd,hh,hr,ht,hw,hk=>by
  simp only [cW] at ht;split at ht
  ·rename_i y L' h1
   split at ht
   ·rename_i aU cJ h2
    simp only [Option.some.injEq,Prod.mk.injEq] at ht;obtain ⟨rfl,rfl⟩:=ht;obtain ⟨k1,k2⟩:=hk.cons;simp only [az,Prod.mk.injEq] at hw;obtain ⟨rfl,rfl⟩:=hw
    let vs:List Value:=(List.range x.cells.length).map (g 0)
    obtain ⟨φ1,m1,l1,r1⟩:=hE x vs L φL AL H G φ AH y L' _ _ hd (hh.fst (iN _ _)) (by simp [vs]) (fun j c u hj hu=>by
     have ef:j<x.cells.length:=(List.getElem?_eq_some_iff.1 hj).1;have:vs[j]? =some (g 0 j):=by simp [vs,ef]
     rw [this] at hu;simp only [Option.some.injEq] at hu;subst hu;exact hr 0 x j c rfl hj) h1 rfl k1
    obtain ⟨a8,m2,l2,s2,r2⟩:=se hE xs (fun i j=>g (i+1) j) L' (aC φL L') AL _ G φ1 AH aU cJ _ _ m1.bh (hh.snd m1) (fun i x' j c hi hj=>(hr (i+1) x' j c hi hj).mono (c5 m1.less)) h2 rfl k2
    refine ⟨a8,m1.trans m2,by simp [l2],fun i x' a hx ha=> ?_,fun i a j c ha hc=> ?_⟩
    ·cases i with
     |zero=>simp at hx ha;subst hx;subst ha;exact l1
     |succ i=>exact s2 i x' a hx ha
    ·cases i with
     |zero=>
      simp only [List.getElem?_cons_zero,Option.some.injEq] at ha;subst ha;have hj:j<x.cells.length:=by rw [←l1];exact (List.getElem?_eq_some_iff.1 hc).1
      exact (r1 j c (g 0 j) hc (by simp [vs,hj])).mono m2.eh
     |succ i=>exact r2 i a j c ha hc
   ·simp at ht
  ·simp at ht
theorem sf {L:J} {φL:ag} {AL:aj} {G:J} {φ :ag} {AH:aj} (hd:b4 w L φL AL G φ AH) {id ad:Nat} {b:bG} (hb:L.aq id ad=some b) {off n:Nat} (hle:off+n≤b.el.length) {sz:Nat} (hs:b.sz=sz) {loc:Loc} (a4: φL id=some loc)
 {L1:J} {as:List AV} {lo hi:Nat} {g:Nat→Nat→Value} {φ1:ag} (hg: ∀c b0 arr T fr,loc= .at_ c b0→w.heap[c]? =some (.cells arr T fr)→ ∀(i j:Nat) (v:Value),i<n→j<sz→arr[b0+(off+i)*sz+j]? =some v→g i j=v)
 (m:MG w (L.del id) (aC φL (L.del id)) AL G φ AH L1 φ1 lo hi) (hl:as.length=n) (dM: ∀(i:Nat) (a:AV),as[i]? =some a→a.cells.length=sz)
 (hr: ∀(i:Nat) (a:AV) (j:Nat) (c:AV),as[i]? =some a→a.cells[j]? =some c→R w G φ1 AH c (g i j)) {fp:Nat} (fx:Bool) (ik:G.get hi=some ⟨fp,sz,fx,as⟩) (bz:fp<G.st) (ib: φ hi=none) (loc' :Loc) (h_:loc' = .aS∧n=0∨ ∃c b0,loc= .at_ c b0∧loc' = .at_ c (b0+off*sz)):
 MG w L φL AL G φ AH L1 (fun i=>if i=hi then some loc' else φ1 i) lo (hi+1):=by
 have oO:=(J.bm hb).1;have oP:=(bw.del L id).trans m.less;have ia:aC (aC φL (L.del id)) L1=aC φL L1:=gp m.less;have m' :MG w L φL AL G φ AH L1 φ1 lo hi:=by
  refine ⟨oP,by have:=m.bh;rwa [ia] at this,fun c hc=> ?_,m.hZ,m.bV,m.new,m.le⟩
  rcases m.oh c hc with h|⟨h1,h2⟩
  ·exact .inl h
  ·rw [ia] at h2;exact .inr ⟨bD h1,h2⟩
 refine sd m' ik bz ib dM (fun hv=> ?_) (fun c b1 he=> ?_)
 ·rcases h_ with ⟨_,h0⟩|⟨c,b0,_,h2⟩
  ·exact List.eq_nil_of_length_eq_zero (by omega)
  ·rw [h2] at hv;simp at hv
 ·rcases h_ with ⟨h1,_⟩|⟨c',b0,h1,h2⟩
  ·rw [h1] at he;simp at he
  ·rw [h2] at he;simp only [Loc.at_.injEq] at he;obtain ⟨rfl,rfl⟩:=he;subst h1;have jl:Ow φL c' :=⟨id,b0,a4⟩
   have oQ: ¬Ow (aC φL L1) c' :=by
    rintro ⟨i,bb,hi⟩;obtain ⟨fN,bk,aY⟩:=dy hi;have:=hd.sl.inj _ _ _ _ _ fN a4;subst this;have:=m.less.get _ _ aY;rw [J.iK,if_pos rfl] at this;simp at this
   refine ⟨jl,oQ,fun ho=> ?_,hd.ei _ jl,?_⟩
   ·rcases m.oh c' ho with h|⟨⟨i,bb,hi⟩,_⟩
    ·exact hd.b_ c' jl h
    ·obtain ⟨fN,bk,aY⟩:=dy hi;have:=hd.sl.inj _ _ _ _ _ fN a4;subst this;rw [J.iK,if_pos rfl] at aY;simp at aY
   ·obtain ⟨bk,aY,af⟩:=hd.sl.aq id _ a4;rw [oO] at aY;simp only [Option.some.injEq] at aY;subst aY;obtain ⟨arr,T,fr,k1,k2,k3,k4⟩:=af.here c' b0 rfl
    have hmul:off*sz+n*sz≤b.el.length*sz:=by rw [←Nat.add_mul];exact Nat.mul_le_mul_right _ hle
    refine ⟨arr,T,fr,k1,k2,by rw [hl];rw [hs] at k3;omega,fun i a j c v ha hc hv=> ?_⟩
    have hi:i<n:=by rw [←hl];exact (List.getElem?_eq_some_iff.1 ha).1
    have hj:j<sz:=by rw [←dM i a ha];exact (List.getElem?_eq_some_iff.1 hc).1
    have e:b0+off*sz+i*sz+j=b0+(off+i)*sz+j:=by rw [Nat.add_mul];omega
    rw [e] at hv;have la:=hg c' b0 arr T fr rfl k1 i j v hi hj hv
    refine ⟨by rw [←la];exact hr i a j c ha hc,?_⟩
    have cR:off+i<b.el.length:=by omega
    have hx:=List.getElem?_eq_getElem cR;have cw:=af.sized _ _ hx;exact (k4 (off+i) _ j _ v hx (List.getElem?_eq_getElem (by omega)) (by rw [hs];exact hv)).2
mutual
theorem mV (sh:Sh) (x:AV) (v:Value) (L:J) (φL:ag) (AL:aj) (H G:J) (φ :ag) (AH:aj) (y:AV) (L1:J) (a:AV) (H1:J) (hd:b4 w L φL AL G φ AH) (hh:GH G φ H H1) (hx:R w L φL AL x v)
 (ht:aO sh x L=some (y,L1)) (hw:aD y H=(a,H1)) (hk:gq AL AH y): ∃ φ1,MG w L φL AL G φ AH L1 φ1 H.bs.length H1.bs.length∧R w G φ1 AH a v∧(x≠ .undef→a.cells=[a])∧(x= .undef→a= .undef):=by
 cases sh with
 |sc=>
  simp only [aO] at ht;split at ht
  ·rename_i hp;simp only [Option.some.injEq,Prod.mk.injEq] at ht;obtain ⟨rfl,rfl⟩:=ht;rw [rl hp] at hw;simp only [Prod.mk.injEq] at hw;obtain ⟨rfl,rfl⟩:=hw;exact ⟨φ,.refl hd _,rk hp hx,fun hu=>jm hu (by rintro cs rfl;simp [dD] at hp),fun h=>h⟩
  ·simp at ht
 |sl es=>
  have gu: ∀{v0:Option Addr},v= .slice v0 0 0→aD (.own es.length []) H=(a,H1)→L1=L→ ∃ φ1,MG w L φL AL G φ AH L1 φ1 H.bs.length H1.bs.length∧R w G φ1 AH a v∧a.cells=[a]:=by
   intro v0 hv hw hL;subst hL;simp only [aD,az,Prod.mk.injEq] at hw;obtain ⟨rfl,rfl⟩:=hw;have ik:=hh.ext.1 _ _ (J.eA H es.length false []);have bz:H.st<G.st:=Nat.lt_of_lt_of_le (Nat.lt_succ_self _) hh.ext.2;have m:=sd (MG.refl hd H.bs.length) ik bz (hh.none _ (Nat.le_refl _) (by rw [kj];exact Nat.lt_succ_self _)) (loc:= .aS) (by simp) (fun _=>rfl) (by simp)
   rw [←kj H es.length false []] at m;refine ⟨_,m,?_,rfl⟩;refine .ref _ _ _ _ _ bz ⟨_,_,hv⟩ fun b hb=> ?_;have:=kc ik hb;subst this;exact ⟨.aS,v0,0,by simp,hv,by simp,Nat.le_refl _,by simp,rfl,fun _=>rfl⟩
  cases x with
  |nil=>
   simp only [aO,Option.some.injEq,Prod.mk.injEq] at ht;obtain ⟨rfl,rfl⟩:=ht;obtain ⟨φ1,h1,h2,h3⟩:=gu hx.dn hw rfl;exact ⟨φ1,h1,h2,fun _=>h3,fun h=>by simp at h⟩
  |e0=>
   simp only [aO,Option.some.injEq,Prod.mk.injEq] at ht;obtain ⟨rfl,rfl⟩:=ht;obtain ⟨a0,jn⟩:=hx.eQ;obtain ⟨φ1,h1,h2,h3⟩:=gu jn hw rfl;exact ⟨φ1,h1,h2,fun _=>h3,fun h=>by simp at h⟩
  |fz xs=>
   simp only [aO,Option.some.injEq,Prod.mk.injEq] at ht;obtain ⟨rfl,rfl⟩:=ht;simp only [aD,Prod.mk.injEq] at hw;obtain ⟨rfl,rfl⟩:=hw;rcases hk with hk|hk
   ·exact ⟨φ,.refl hd _,.fr _ _ (hx.dU.shrink hk),fun _=>rfl,fun h=>by simp at h⟩
   ·simp [cg] at hk
  |ref id ad off len=>
   simp only [aO] at ht;split at ht
   ·rename_i b hb;split at ht
    ·rename_i hc;obtain ⟨c1,c2,c3⟩:=hc;split at ht
     ·rename_i ys L' hm
      simp only [Option.some.injEq,Prod.mk.injEq] at ht;obtain ⟨rfl,rfl⟩:=ht;simp only [aD,Prod.mk.injEq] at hw;obtain ⟨rfl,rfl⟩:=hw;have hg:=(J.bm hb).1;obtain ⟨bz,_,hr⟩:=hx.ey;obtain ⟨loc,a0,cap,q1,rfl,q3,q4,q5,q6⟩:=(hr b hb).out;obtain ⟨bk,aY,af⟩:=hd.sl.aq id _ q1;rw [hg] at aY;simp only [Option.some.injEq] at aY;subst aY;have bJ:dN AL AH ys:=by
       rcases hk with h|h
       ·exact .inl h
       ·exact .inr (by simpa [cg] using h)
      have c6:=bw.del L id;have ca:b4 w (L.del id) (aC φL (L.del id)) AL G φ AH:=⟨eg hd.sl c6,hd.sh,fun c hc=>hd.b_ c (bD hc),fun c hc=>hd.ei c (bD hc)⟩
      have bu:(aI b.el off len).length=len:=by simp [aI];omega
      have gw: ∀(i:Nat) (x:AV),(aI b.el off len)[i]? =some x→b.el[off+i]? =some x:=by
       intro i x hi;simp only [aI,List.getElem?_take,List.getElem?_drop] at hi;split at hi
       ·exact hi
       ·simp at hi
      let g:Nat→Nat→Value:=match loc with
       | .aS=>fun _ _=>undef
       | .at_ c b0=>fun i j=>match w.heap[c]? with
        |some (.cells arr _ _)=>arr.getD (b0+(off+i)*es.length+j) undef
        |_=>undef
      have gk: ∀(i:Nat) (x:AV) (j:Nat) (c:AV),(aI b.el off len)[i]? =some x→x.cells[j]? =some c→R w (L.del id) (aC φL (L.del id)) AL c (g i j):=by
       intro i x j c hi hj;have bI:=gw i x hi
       have cm:i<len:=by rw [←bu];exact (List.getElem?_eq_some_iff.1 hi).1
       cases loc with
       |aS=>have:=af.aS rfl;rw [this] at bI;simp at bI
       |at_ c0 b0=>
        obtain ⟨arr,T,fr,k1,k2,k3,k4⟩:=af.here c0 b0 rfl;have ef:j<b.sz:=by rw [←af.sized _ _ bI];exact (List.getElem?_eq_some_iff.1 hj).1
        have hle:=cH (n:=b.sz) (show off+i<b.el.length by omega)
        have ax:b0+(off+i)*b.sz+j<arr.size:=by omega
        have:g i j=arr[b0+(off+i)*b.sz+j]:=by
         simp only [g,k1,←c1,Array.getD_eq_getD_getElem?,Array.getElem?_eq_getElem ax,Option.getD_some]
        rw [this];exact ((k4 _ _ _ _ _ bI hj (Array.getElem?_eq_getElem ax)).1).mono (c5 c6)
      obtain ⟨φ1,m,l1,s1,r1⟩:=se (w:=w) (es:=es) (fun x vs L φL AL H G φ AH y L1 a H1=>sg es x vs L φL AL H G φ AH y L1 a H1) _ g _ _ _ _ _ _ _ _ _ _ _ ca (hh.fst (.new _ _ _ _)) gk hm rfl bJ
      rw [bu] at l1;have ld: ∀(i:Nat) (a:AV),(az ys H).1[i]? =some a→a.cells.length=b.sz:=by
       intro i a ha;have cm:i<(aI b.el off len).length:=by rw [bu,←l1];exact (List.getElem?_eq_some_iff.1 ha).1
       have iL:=List.getElem?_eq_getElem cm;rw [s1 i _ a iL ha];exact af.sized _ _ (gw i _ iL)
      have oR: ∀c b0 arr T fr,loc= .at_ c b0→w.heap[c]? =some (.cells arr T fr)→ ∀(i j:Nat) (v:Value),i<len→j<b.sz→arr[b0+(off+i)*b.sz+j]? =some v→g i j=v:=by
       intro c b0 arr T fr hl hh i j v _ _ hv;subst hl;simp only [g,hh,←c1,Array.getD_eq_getD_getElem?,hv,Option.getD_some]
      let loc' :Loc:=match loc with
       | .aS=> .aS
       | .at_ c b0=>if cap=0 then .aS else .at_ c (b0+off*b.sz)
      have h_:loc' = .aS∧len=0∨ ∃c b0,loc= .at_ c b0∧loc' = .at_ c (b0+off*b.sz):=by
       cases loc with
       |aS=>left;refine ⟨rfl,?_⟩;have:=af.aS rfl;rw [this] at q3;simp at q3;omega
       |at_ c b0=>
        by_cases eH:cap=0
        ·left;exact ⟨by simp [loc',eH],by omega⟩
        ·right;exact ⟨c,b0,rfl,by simp [loc',eH]⟩
      have ik:=hh.ext.1 _ _ (J.eA (az ys H).2 es.length false (az ys H).1);have bz:(az ys H).2.st<G.st:=Nat.lt_of_lt_of_le (Nat.lt_succ_self _) hh.ext.2;have M:=sf hd hb c2 rfl q1 oR m l1 ld r1 false (by rw [c1];exact ik) bz (hh.none _ (iN ys H).2 (by rw [kj];exact Nat.lt_succ_self _)) loc' h_
      rw [←kj (az ys H).2 es.length false (az ys H).1] at M;refine ⟨_,M,?_,fun _=>rfl,fun h=>by simp at h⟩
      refine .ref _ _ _ _ _ bz ⟨a0,cap,by rw [l1]⟩ fun b' ay=> ?_
      have:=kc ik ay;subst this;refine ⟨loc',a0,cap,by simp,by rw [l1],by simp,by omega,by simp only;omega,?_⟩
      cases loc with
      |aS=>
       simp only at q6;have dK:len=0:=by have:=af.aS rfl;rw [this] at q3;simp at q3;omega
       refine ⟨List.eq_nil_of_length_eq_zero (by rw [l1,dK]),fun _=> ?_⟩
       rcases c3 with c3|c3
       ·exact q6.2 c3
       ·omega
      |at_ c b0=>
       simp only at q6;by_cases eH:cap=0
       ·simp only [loc',eH,if_true];exact ⟨List.eq_nil_of_length_eq_zero (by omega),fun _=>by first|trivial|omega|rfl⟩
       ·simp only [loc',eH,if_false];rcases q6 with q6|⟨h1,h2⟩
        ·exact absurd q6 eH
        ·refine Or.inr ⟨by rw [h1];simp,?_⟩
         rw [c1] at h2⊢;have:(off+cap)*es.length=off*es.length+cap*es.length:=Nat.add_mul _ _ _;simp only [Nat.zero_add];omega
     ·simp at ht
    ·simp at ht
   ·simp at ht
  |_=>simp [aO] at ht
 |pt es=>
  cases x with
  |fe z o=>
   simp only [aO,Option.some.injEq,Prod.mk.injEq] at ht;obtain ⟨rfl,rfl⟩:=ht;simp only [aD,Prod.mk.injEq] at hw;obtain ⟨rfl,rfl⟩:=hw;rcases hk with hk|hk
   ·exact ⟨φ,.refl hd _,.fr _ _ (hx.eP.shrink hk),fun _=>rfl,fun h=>by simp at h⟩
   ·simp [cg] at hk
  |ptr id ad idx off=>
   rcases idx with _|idx
   rotate_left
   ·simp [aO] at ht
   rcases off with _|off
   rotate_left
   ·simp [aO] at ht
   simp only [aO] at ht;split at ht
   ·rename_i oS sz oT z hb;split at ht
    ·rename_i y' L' hm
     simp only [Option.some.injEq,Prod.mk.injEq] at ht;obtain ⟨rfl,rfl⟩:=ht;simp only [aD,Prod.mk.injEq] at hw;obtain ⟨rfl,rfl⟩:=hw;have hg:=(J.bm hb).1;obtain ⟨bz,_,hr⟩:=hx.fH;obtain ⟨c,b0,q1,rfl⟩:=hr _ hb;obtain ⟨bk,aY,af⟩:=hd.sl.aq id _ q1;rw [hg] at aY;simp only [Option.some.injEq] at aY;subst aY;obtain ⟨arr,T,fr,k1,k2,k3,k4⟩:=af.here c b0 rfl;have bJ:gq AL AH y' :=by
      rcases hk with h|h
      ·exact .inl h
      ·exact .inr (by simpa [cg] using h)
     have c6:=bw.del L id;have ca:b4 w (L.del id) (aC φL (L.del id)) AL G φ AH:=⟨eg hd.sl c6,hd.sh,fun c hc=>hd.b_ c (bD hc),fun c hc=>hd.ei c (bD hc)⟩
     have dw:z.cells.length=sz:=af.sized 0 z rfl;simp only [List.length_singleton,Nat.one_mul] at k3
     let vs:List Value:=(arr.extract b0 (b0+sz)).toList
     have dV:vs.length=sz:=by simp [vs];omega
     have gx: ∀j u,vs[j]? =some u→arr[b0+j]? =some u:=by
      intro j u hu;simp only [vs,Array.getElem?_toList,Array.getElem?_extract] at hu;split at hu
      ·exact hu
      ·simp at hu
     obtain ⟨φ1,m,l1,r1⟩:=sg es z vs _ _ _ _ _ _ _ _ _ _ _ ca (hh.fst (.new _ _ _ _)) (by rw [dV,dw]) (fun j c' u hj hu=>((k4 0 z j c' u rfl hj (by simpa using gx j u hu)).1).mono (c5 c6)) hm rfl bJ
     have ik:=hh.ext.1 _ _ (J.eA (aD y' H).2 sz false [(aD y' H).1])
     have bz:(aD y' H).2.st<G.st:=Nat.lt_of_lt_of_le (Nat.lt_succ_self _) hh.ext.2
     have M:=sf (as:=[(aD y' H).1]) (n:=1) (off:=0) (sz:=sz) (loc' := .at_ c b0) (g:=fun i j=>vs.getD j undef) hd hb (by simp) rfl q1 (fun c' oU arr' T' eO hl hh i j v hi hj hv=>by
      simp only [Loc.at_.injEq] at hl;obtain ⟨rfl,rfl⟩:=hl;rw [k1] at hh;simp only [Option.some.injEq,Obj.cells.injEq] at hh;obtain ⟨rfl,_,_⟩:=hh;have jo:i=0:=by omega
      subst jo;simp only [Nat.zero_mul,Nat.add_zero] at hv;have:vs[j]? =some v:=by
       simp only [vs,Array.getElem?_toList,Array.getElem?_extract];rw [if_pos (by omega)];exact hv
      simp [List.getD,this]) m rfl (fun i a ha=>by
      cases i with
      |zero=>simp at ha;subst ha;rw [l1,dw]
      |succ i=>simp at ha) (fun i a j c' ha hc=>by
      cases i with
      |zero=>
       simp at ha;subst ha;have hj:j<vs.length:=by rw [dV,←dw,←l1];exact (List.getElem?_eq_some_iff.1 hc).1
       have:=r1 j c' vs[j] hc (List.getElem?_eq_getElem hj)
       simpa [List.getD,hj] using this
      |succ i=>simp at ha) false ik bz (hh.none _ (pF y' H).2 (by rw [kj];exact Nat.lt_succ_self _)) (.inr ⟨c,b0,rfl,by simp⟩)
     rw [←kj (aD y' H).2 sz false [(aD y' H).1]] at M
     refine ⟨_,M,?_,fun _=>rfl,fun h=>by simp at h⟩
     refine .ptr _ _ _ _ _ bz ⟨_,rfl⟩ fun b' ay=>⟨c,b0,by simp,?_⟩
     simp
    ·simp at ht
   ·simp at ht
  |_=>simp [aO] at ht
 termination_by (SizeOf.sizeOf sh,0)
theorem sg (es:List Sh) (x:AV) (vs:List Value) (L:J) (φL:ag) (AL:aj) (H G:J) (φ :ag) (AH:aj) (y:AV) (L1:J) (a:AV) (H1:J) (hd:b4 w L φL AL G φ AH) (hh:GH G φ H H1) (hl:x.cells.length=vs.length)
 (hx: ∀(j:Nat) (c:AV) (u:Value),x.cells[j]? =some c→vs[j]? =some u→R w L φL AL c u) (ht:aR es x L=some (y,L1)) (hw:aD y H=(a,H1)) (hk:gq AL AH y):
 ∃ φ1,MG w L φL AL G φ AH L1 φ1 H.bs.length H1.bs.length∧a.cells.length=x.cells.length∧ ∀(j:Nat) (c:AV) (u:Value),a.cells[j]? =some c→vs[j]? =some u→R w G φ1 AH c u:=by
 by_cases b9: ∃cs,x= .agg cs
 ·obtain ⟨cs,rfl⟩:=b9;have dg: ∃aX,cu es cs L=some (aX,L1)∧y= .agg aX:=by
   match es,ht with
   |[],ht=>
    simp only [aR] at ht;split at ht
    ·rename_i aX L' hc
     simp only [Option.some.injEq,Prod.mk.injEq] at ht;obtain ⟨rfl,rfl⟩:=ht;exact ⟨aX,hc,rfl⟩
    ·simp at ht
   |[e],ht=>
    simp only [aR] at ht;split at ht
    ·rename_i aX L' hc
     simp only [Option.some.injEq,Prod.mk.injEq] at ht;obtain ⟨rfl,rfl⟩:=ht;exact ⟨aX,hc,rfl⟩
    ·simp at ht
   |e::e' ::es,ht=>
    simp only [aR] at ht;split at ht
    ·rename_i aX L' hc
     simp only [Option.some.injEq,Prod.mk.injEq] at ht;obtain ⟨rfl,rfl⟩:=ht;exact ⟨aX,hc,rfl⟩
    ·simp at ht
  obtain ⟨aX,hc,rfl⟩:=dg;simp only [aD,Prod.mk.injEq] at hw;obtain ⟨rfl,rfl⟩:=hw;have bJ:dN AL AH aX:=by
   rcases hk with h|h
   ·exact .inl h
   ·exact .inr (by simpa [cg] using h)
  exact pG es cs vs L φL AL H G φ AH aX L1 _ _ hd hh hl hx hc rfl bJ
 ·have dJ: ∀cs,x≠ .agg cs:=fun cs h=>b9 ⟨cs,h⟩
  match es,ht with
  |[e],ht=>
   have dg:aO e x L=some (y,L1):=by
    cases x<;>first|(simpa only [aR] using ht)|exact absurd rfl (dJ _)
   by_cases hu:x= .undef
   ·subst hu;have ga:vs=[]:=List.eq_nil_of_length_eq_zero (by simpa [AV.cells] using hl.symm)
    subst ga;obtain ⟨φ1,m,_,_,h4⟩:=mV e .undef undef L φL AL H G φ AH y L1 a H1 hd hh (.fr _ _ (.undef _)) dg hw hk
    exact ⟨φ1,m,by rw [h4 rfl],by simp⟩
   ·have cK:=jm hu dJ;rw [cK] at hl;obtain ⟨v,rfl⟩: ∃v,vs=[v]:=by
     match vs,hl with
     |[v],_=>exact ⟨v,rfl⟩
    obtain ⟨φ1,m,h2,h3,_⟩:=mV e x v L φL AL H G φ AH y L1 a H1 hd hh (hx 0 x v (by rw [cK];rfl) rfl) dg hw hk
    refine ⟨φ1,m,by rw [h3 hu,cK];rfl,fun j c u hj aQ=> ?_⟩
    rw [h3 hu] at hj;cases j with
    |zero=>simp at hj aQ;subst hj;subst aQ;exact h2
    |succ j=>simp at hj
  |[],ht=>cases x<;>first|(simp [aR] at ht;done)|exact absurd rfl (dJ _)
  |_::_::_,ht=>cases x<;>first|(simp [aR] at ht;done)|exact absurd rfl (dJ _)
 termination_by (SizeOf.sizeOf es,1)
theorem pG (es:List Sh) (cs:List AV) (vs:List Value) (L:J) (φL:ag) (AL:aj) (H G:J) (φ :ag) (AH:aj) (ys:List AV) (L1:J) (as:List AV) (H1:J) (hd:b4 w L φL AL G φ AH) (hh:GH G φ H H1) (hl:cs.length=vs.length)
 (hx: ∀(j:Nat) (c:AV) (u:Value),cs[j]? =some c→vs[j]? =some u→R w L φL AL c u) (ht:cu es cs L=some (ys,L1)) (hw:az ys H=(as,H1)) (hk:dN AL AH ys):
 ∃ φ1,MG w L φL AL G φ AH L1 φ1 H.bs.length H1.bs.length∧as.length=cs.length∧ ∀(j:Nat) (c:AV) (u:Value),as[j]? =some c→vs[j]? =some u→R w G φ1 AH c u:=by
 match es,cs,ht with
 |[],[],ht=>
  simp only [cu,Option.some.injEq,Prod.mk.injEq] at ht;obtain ⟨rfl,rfl⟩:=ht;simp only [az,Prod.mk.injEq] at hw;obtain ⟨rfl,rfl⟩:=hw;exact ⟨φ,.refl hd _,rfl,by simp⟩
 |e::es,x::cs,ht=>
  simp only [cu] at ht;split at ht
  ·rename_i y L' h1
   split at ht
   ·rename_i aU cJ h2
    simp only [Option.some.injEq,Prod.mk.injEq] at ht;obtain ⟨rfl,rfl⟩:=ht;simp only [az,Prod.mk.injEq] at hw;obtain ⟨rfl,rfl⟩:=hw;obtain ⟨k1,k2⟩:=hk.cons
    match vs,hl with
    |v::vs,hl=>
     obtain ⟨φ1,m1,r1,_,_⟩:=mV e x v L φL AL H G φ AH y L' _ _ hd (hh.fst (iN _ _)) (hx 0 x v rfl rfl) h1 rfl k1
     obtain ⟨a8,m2,l2,r2⟩:=pG es cs vs L' (aC φL L') AL _ G φ1 AH aU cJ _ _ m1.bh (hh.snd m1) (by simpa using hl) (fun j c u hj hu=>(hx (j+1) c u hj hu).mono (c5 m1.less)) h2 rfl k2
     refine ⟨a8,m1.trans m2,by simp [l2],fun j c u hj hu=> ?_⟩
     cases j with
     |zero=>simp at hj hu;subst hj;subst hu;exact r1.mono m2.eh
     |succ j=>exact r2 j c u hj hu
   ·simp at ht
  ·simp at ht
 |[],_::_,ht=>simp [cu] at ht
 |_::_,[],ht=>simp [cu] at ht
 termination_by (SizeOf.sizeOf es,0)
end
end bh
end Go.VS
namespace Go.VS
section bh
variable {w:World} {AL AH:aj}
theorem zb {es:List Sh} {x:AV} {v:Value} {L:J} {φL:ag} {H G:J} {φ :ag} {y:AV} {L1:J} {a:AV} {H1:J} (hd:b4 w L φL AL G φ AH) (hh:GH G φ H H1) (hx:R w L φL AL x v)
 (ht:aR es x L=some (y,L1)) (hw:aD y H=(a,H1)) (hk:gq AL AH y): ∃ φ1,MG w L φL AL G φ AH L1 φ1 H.bs.length H1.bs.length∧R w G φ1 AH a v:=by
 by_cases b9: ∃cs,x= .agg cs
 ·obtain ⟨cs,rfl⟩:=b9;obtain ⟨aX,hc,rfl⟩:=lf ht;simp only [aD,Prod.mk.injEq] at hw;obtain ⟨rfl,rfl⟩:=hw;have bJ:dN AL AH aX:=by
   rcases hk with h|h
   ·exact .inl h
   ·exact .inr (by simpa [cg] using h)
  obtain ⟨vs,rfl,hl,ho,hp⟩:=hx.gb;obtain ⟨φ1,m,l1,r1⟩:=pG es cs vs.toList L φL AL H G φ AH aX L1 _ _ hd hh (by simpa using hl) (fun j c u hj hu=>hp j c u hj (by simpa using hu)) hc rfl bJ
  exact ⟨φ1,m,.agg _ _ (by rw [l1,hl]) ho fun i x v hx hv=>r1 i x v hx (by simpa using hv)⟩
 ·obtain ⟨e,rfl,dg⟩:=jp (fun cs h=>b9 ⟨cs,h⟩) ht;obtain ⟨φ1,m,r,_⟩:=mV e x v L φL AL H G φ AH y L1 a H1 hd hh hx dg hw hk
  exact ⟨φ1,m,r⟩
theorem si: ∀(sh:List (List Sh)) (rs:List AV) (us:List Value) (L:J) (φL:ag) (H G:J) (φ :ag) (ys:List AV) (L1:J),b4 w L φL AL G φ AH→GH G φ H (az ys H).2→rs.length=us.length→
 (∀(i:Nat) (x:AV) (u:Value),rs[i]? =some x→us[i]? =some u→R w L φL AL x u)→dl sh rs L=some (ys,L1)→dN AL AH ys→
 ∃ φ1,MG w L φL AL G φ AH L1 φ1 H.bs.length (az ys H).2.bs.length∧(az ys H).1.length=us.length∧ ∀(i:Nat) (x:AV) (u:Value),(az ys H).1[i]? =some x→us[i]? =some u→R w G φ1 AH x u
 |sh,[],us,L,φL,H,G,φ,ys,L1,hd,hh,hl,hr,ht,hk=>by
  simp only [dl,Option.some.injEq,Prod.mk.injEq] at ht;obtain ⟨rfl,rfl⟩:=ht;exact ⟨φ,.refl hd _,hl,by simp [az]⟩
 |sh,x::rs,u::us,L,φL,H,G,φ,ys,L1,hd,hh,hl,hr,ht,hk=>by
  simp only [dl] at ht;split at ht
  rotate_left
  ·simp at ht
  rename_i y L' h1
  split at ht
  rotate_left
  ·simp at ht
  rename_i aU cJ h2
  simp only [Option.some.injEq,Prod.mk.injEq] at ht;obtain ⟨rfl,rfl⟩:=ht;obtain ⟨k1,k2⟩:=hk.cons;obtain ⟨φ1,m1,r1⟩:=zb (y:=y) (H:=H) hd (hh.fst (H1:=(aD y H).2) (iN aU (aD y H).2)) (hr 0 x u rfl rfl) h1 rfl k1
  obtain ⟨a8,m2,l2,r2⟩:=si sh.tail rs us L' (aC φL L') (aD y H).2 G φ1 aU cJ m1.bh (hh.snd m1) (by simpa using hl) (fun i x u hx hu=>(hr (i+1) x u hx hu).mono (c5 m1.less)) h2 k2
  refine ⟨a8,m1.trans m2,by simp [az,l2],fun i x' u' hx hu=> ?_⟩
  cases i with
  |zero=>simp [az] at hx hu;subst hx;subst hu;exact r1.mono m2.eh
  |succ i=>simp only [az,List.getElem?_cons_succ] at hx hu;exact r2 i x' u' hx hu
 |sh,x::rs,[],L,φL,H,G,φ,ys,L1,hd,hh,hl,hr,ht,hk=>by simp at hl
end bh
theorem mW {H G:J} (h:a_ H G): ∀(n:Nat) (x y:AV),aL n H x=some y→aL n G x=some y
 |0,x,y,hs=>by simp [aL] at hs
 |n+1,x,y,hs=>by
  have hm: ∀(xs ys:List AV),xs.mapM (aL n H)=some ys→xs.mapM (aL n G)=some ys:=by
   intro xs;induction xs with
   |nil=>intro ys h;simpa using h
   |cons z xs ih=>
    intro ys hy;simp only [List.mapM_cons,Option.bind_eq_bind,Option.bind_eq_some_iff,Option.pure_def,Option.some.injEq] at hy⊢;obtain ⟨a,h1,b,h2,h3⟩:=hy;exact ⟨a,mW h n z a h1,b,ih b h2,h3⟩
  cases x with
  |agg cs=>
   simp only [aL,Option.map_eq_some_iff] at hs⊢;obtain ⟨ys,h1,h2⟩:=hs;exact ⟨ys,hm _ _ h1,h2⟩
  |fn f cs=>
   simp only [aL,Option.map_eq_some_iff] at hs⊢;obtain ⟨ys,h1,h2⟩:=hs;exact ⟨ys,hm _ _ h1,h2⟩
  |ref id ad off len=>
   simp only [aL] at hs⊢;split at hs
   ·rename_i b hb;rw [h.aq hb];simp only;split at hs
    ·rename_i hle;rw [if_pos hle];simp only [Option.map_eq_some_iff] at hs⊢;obtain ⟨ys,h1,h2⟩:=hs;exact ⟨ys,hm _ _ h1,h2⟩
    ·simp at hs
   ·simp at hs
  |ptr id ad idx off=>
   simp only [aL] at hs⊢;split at hs
   ·rename_i b hb;rw [h.aq hb];simp only;split at hs
    ·rename_i z hz;simp only [Option.map_eq_some_iff] at hs⊢;obtain ⟨y',h1,h2⟩:=hs;exact ⟨y',mW h n z y' h1,h2⟩
    ·simp at hs
   ·simp at hs
  |_=>first|(simpa only [aL] using hs)|(simp [aL] at hs;done)
theorem kl {H G:J} (h:a_ H G): ∀(ms:List Mode) (as ys:List AV) (b:Bool),cd ms as H=some (ys,b)→cd ms as G=some (ys,b)
 |ms,[],ys,b,hp=>by cases ms<;>simpa only [cd] using hp
 |[],a::as,ys,b,hp=>by
  simp only [cd] at hp⊢;split at hp
  ·rename_i y hy;split at hp
   ·rename_i aU b' cy
    rw [mW h 8 a y hy,kl h [] as aU b' cy]
    exact hp
   ·simp at hp
  ·simp at hp
 |m::ms,a::as,ys,b,hp=>by
  have other:(match cd ms as H with|some (ys,b)=>some (a::ys,b)|none=>none)=some (ys,b)→(match cd ms as G with|some (ys,b)=>some (a::ys,b)|none=>none)=some (ys,b):=by
   intro hp;split at hp
   ·rename_i aU b' cy
    rw [kl h ms as aU b' cy]
    exact hp
   ·simp at hp
  cases m with
  |val=>
   simp only [cd] at hp⊢;split at hp
   ·rename_i y hy;split at hp
    ·rename_i aU b' cy
     rw [mW h 8 a y hy,kl h ms as aU b' cy]
     exact hp
    ·simp at hp
   ·simp at hp
  |dS=>
   simp only [cd] at hp⊢;split at hp
   ·rename_i aU b' cy
    rw [kl h ms as aU b' cy]
    exact hp
   ·simp at hp
  |io=>
   simp only [cd] at hp⊢;split at hp
   ·rename_i aU b' cy
    rw [kl h ms as aU b' cy]
    exact hp
   ·simp at hp
def zd (w:World) (G:J) (φ :ag) (A:aj) (H H' :J) (x:AV) (e:Ending) (w' :World):Prop:=
 match e with
 | .returned v' => ∃ak A',Out w G φ A w' G ak A' ∧R w' G ak A' x v' ∧ ∀id loc,ak id=some loc→ φ id=some loc∨(H.bs.length≤id∧id<H'.bs.length)
 |_=>False
theorem ze {P:Program} {C:aK} {X:bK} (hX: ∀f ys H K,X f ys H K→dh P f ys H K) {w:World} {G:J} {φ :ag} {A:aj} (ae:St w G φ A) {H H' :J} (hg:a_ H G) (hh:GH G φ H H') {f:FuncId} {as:List AV} {us:Array Value} (hl:as.length=us.size)
 (hr: ∀(i:Nat) (x:AV) (u:Value),as[i]? =some x→us[i]? =some u→R w G φ A x u) {th:Bool} {x:AV} (h:dF X C f as th H (fun v1 H1=>v1=x∧H1=H')):ke P f∧Calls P f us w (zd w G φ A H H' x):=by
 unfold dF at h;split at h
 ·exact h.elim
 rename_i ys bZ hy;obtain ⟨y,ln,ic,hp⟩:=h;have hm:ll []:=fun m hm=>by simp at hm
 have pk:b4 w G φ A ⟨0,[]⟩ (fun _=>none) A:=by
  refine ⟨ae,⟨fun i i' c b b' h=>by simp at h,fun c hc=> ?_,ae.cj,fun id loc h=>by simp at h⟩,fun c _ hc=> ?_,ae.own⟩
  ·obtain ⟨i,b,h⟩:=hc;simp at h
  ·obtain ⟨i,b,h⟩:=hc;simp at h
 have po:ci [] ys ⟨0,[]⟩=(ys,⟨0,[]⟩):=pj _ _ _ hy _;obtain ⟨aB,m,cq,ej⟩:=mC as [] [] us.toList G φ as G ys bZ ⟨0,[]⟩ (fun _=>none) ys ⟨0,[]⟩ pk (by simpa using hl) (fun i x u hx hu=>hr i x u hx (by simpa using hu)) (ph _ _ _ _ hm) (kl hg _ _ _ _ hy) po
 have bu: ∀c,¬Ow aB c:=fun c hc=>by
  rcases m.oh c hc with ⟨i,b,h⟩|⟨h1,h2⟩
  ·simp at h
  ·rw [kf ae] at h2;exact h2 h1
 let A0:aj:=if bZ=true then Ow aB else A
 have jr: ∀c,A0 c→A c:=by
  intro c hc;simp only [A0] at hc;split at hc
  ·exact absurd hc (bu c)
  ·exact hc
 have pq:bZ=true→ ∀c,A0 c→fO (aC φ G) A c:=by
  intro ax c hc;simp only [A0,ax,if_true] at hc;exact absurd hc (bu c)
 have c7:St w ⟨0,[]⟩ aB A0:=m.bh.sh.shrink jr (fun c hc=>absurd hc (bu c));have fm:ys.length=us.size:=by simpa using cq.1
 refine ⟨(hX _ _ _ _ ln).1,((hX _ _ _ _ ln).2 w A0 aB us c7 fm (fun i x u hx hu=>cq.2 A0 jr pq i x u hx (by simpa using hu))).mono fun e w' he=> ?_⟩
 cases e with
 |panicked c=>exact he.elim
 |outgrown=>exact he.elim
 |returned v' =>
 obtain ⟨x0,L,ak,A',ho,pr,rs,gX,L2,rfl,lp,rfl⟩:=he;obtain ⟨cF,rfl,lq,ia⟩:=rR pr
 let AH:aj:=if bZ=true then fun c=>A c∨(A' c∧w.heap.size≤c) else A'
 have jt: ∀c,Ow ak c→w.heap.size≤c:=fun c hc=>(ho.post.own c hc).resolve_left (bu c)
 have ha:o9 w A aB w' ak AH:=by
  refine ⟨fun c hc hn=> ?_,fun c hc=> ?_,fun c hc=> ?_,fun c arr T fr hc hn=> ?_⟩
  ·simp only [AH];split
   ·exact .inl hc
   ·rename_i ax;refine ho.bQ c ?_ hn;simp only [A0,ax];exact hc
  ·simp only [AH];split
   ·exact .inr ⟨ho.st.own c hc,jt c hc⟩
   ·exact ho.st.own c hc
  ·simp only [AH] at hc;split at hc
   ·rcases hc with h|⟨h,_⟩
    ·exact Nat.lt_of_lt_of_le (ae.cj c h) ho.post.size
    ·exact ho.st.cj c h
   ·exact ho.st.cj c hc
  ·obtain ⟨h1,h2⟩:=ho.b8.fz c arr T fr hc (fun h=>hn (jr c h));refine ⟨h1,?_⟩;simp only [AH];split
   ·rintro (h|⟨_,h⟩)
    ·exact hn h
    ·have:c<w.heap.size:=by
      rcases Nat.lt_or_ge c w.heap.size with h' |h'
      ·exact h'
      ·rw [Array.getElem?_eq_none h'] at hc;simp at hc
     omega
   ·exact h2
 obtain ⟨D,E⟩:=rH (ls:=[]) (Lm:=L) ae m (by rw [hl,fm]) ej ho ha (by simp [fE])
 rw [pi _ _ _ _ hm,kf ae] at D E;have pu:dN A' AH gX:=by
  cases ax:bZ with
  |false=>exact .inl fun c h=>by simpa [AH,ax] using h
  |true=>
   rcases ic with h|h
   ·rw [ax] at h;simp at h
   ·rw [rQ] at h;exact .inr h
 have ju: ∀(i:Nat) (x:AV) (u:Value),rs[i]? =some x→cF[i]? =some u→R w' L (aC ak L) A' x u:=fun i x u hx hu=>by
  rw [kf ho.st];exact ia i x u hx hu
 have fI: ∀{c8:ag},(∀c,Ow c8 c→Ow φ c∨Ow ak c)→fF w φ w' c8:=fun hq=>
  ⟨ho.post.os,ho.post.tape,ho.post.output,ho.post.size,fun c hc _=>ho.post.kept c hc (bu c),ho.post.bj,fun c hc=>by
   rcases hq c hc with h|h
   ·exact .inl h
   ·exact .inr (jt c h)⟩
 have jv: ∀c,A c→ ¬Ow φ c→AH c:=fun c hc _=>ha.own c hc (bu c);have dp: ∀c,Ow φ c→bj w' c=bj w c:=fun c hc=>ho.post.bj c (Ow.lt ae hc)
 cases gn:(th||bZ) with
 |true=>
  rw [gn] at hp;simp only [if_true,rO] at hp;obtain ⟨rfl,rfl⟩:=hp;obtain ⟨c8,m3,l3,r3⟩:=si _ rs cF L _ H G φ gX L2 D hh lq ju lp pu
  refine ⟨c8,AH,⟨m3.bh.sh,fI fun c hc=> ?_,E.trans m3.eh dp,jv⟩,pg l3 r3,m3.new⟩;rcases m3.oh c hc with h|⟨h,_⟩
  ·exact .inl h
  ·exact .inr (bD h)
 |false=>
  rw [gn] at hp;simp only [Bool.false_eq_true,if_false,rP] at hp;obtain ⟨rfl,rfl⟩:=hp;simp only [Bool.or_eq_false_iff] at gn;have pv:AH=A' :=by simp [AH,gn.2]
  rw [pv] at D E jv
  let A2:aj:=gone (aC ak L) A' L2
  obtain ⟨l3,r3⟩:=pf (A' :=A2) _ rs cF L (aC ak L) gX L2 D.sl lq ju lp (fun c h=>h)
  have pw: ∀c,Ow φ c→A2 c:=fun c hc=>⟨D.sh.own c hc,fun h=>absurd hc (D.b_ c h)⟩;have px:bT w G φ A w' G φ A2:=⟨fun c arr T fr hc hn=>⟨(E.fz c arr T fr hc hn).1,fun h2=>(E.fz c arr T fr hc hn).2 h2.1⟩,E.st,E.ids,E.sz⟩
  refine ⟨φ,A2,⟨D.sh.shrink (fun c h=>h.1) pw,fI fun c hc=> .inl hc,px,fun c hc hn=>⟨jv c hc hn,fun h=> ?_⟩⟩,.fr _ _ (rN l3 r3),fun id loc h=> .inl h⟩;have:=jt c (bD h)
  have:=ae.cj c hc;omega
end Go.VS
namespace Go.VS
def zf (H H1:J):Prop:= ∀id b,H1.get id=some b→b.ad<H.st→H.get id=some b
def QG (H H1:J):Prop:=fQ H H1∧zf H H1
theorem QG.refl (H:J):QG H H:=⟨.refl _,fun _ _ h _=>h⟩
theorem QG.trans {H H1 H2:J} (h:QG H H1) (k:QG H1 H2):QG H H2:=
 ⟨h.1.trans k.1,fun id b hb hv=>h.2 id b (k.2 id b hb (Nat.lt_of_lt_of_le hv h.1.1.2)) hv⟩
theorem QG.of {H H' :J} (h:H' =H∨ ∃sz fx el,H' =H.new sz fx el):QG H H' :=by
 obtain ⟨h1,h2,h3⟩:=J.jj h;exact ⟨⟨h1,h3⟩,h2⟩
theorem QG.new (H:J) (sz:Nat) (fx:Bool) (el:List AV):QG H (H.new sz fx el):= .of (.inr ⟨_,_,_,rfl⟩)
mutual
theorem pH: ∀(y:AV) (H:J),QG H (aD y H).2
 | .own sz xs,H=>by simp only [aD];exact (mX xs H).trans (.new _ _ _ _)
 | .dB sz x,H=>by simp only [aD];exact (pH x H).trans (.new _ _ _ _)
 | .agg xs,H=>by simp only [aD];exact mX xs H
 | .aA xs,H=>by simp only [aD];exact mX xs H
 | .undef,H=> .refl _
 | .int _ _,H=> .refl _
 | .bool _,H=> .refl _
 | .str _,H=> .refl _
 | .nil,H=> .refl _
 | .e0,H=> .refl _
 | .fz _,H=> .refl _
 | .ref _ _ _ _,H=> .refl _
 | .ptr _ _ _ _,H=> .refl _
 | .fe _ _,H=> .refl _
 | .fn _ _,H=> .refl _
 | .ct _,H=> .refl _
 | .dQ,H=> .refl _
theorem mX: ∀(ys:List AV) (H:J),QG H (az ys H).2
 |[],H=> .refl _
 |y::ys,H=>by simp only [az];exact (pH y H).trans (mX ys _)
end
section ops
variable {P:Program} {E:aE} (hE: ∀t ti,E t=some ti→aW P t ti)
variable {w:World} {G:J} {φ :ag} {A:aj}
theorem zg {b:Builtin} {tys:Array TypeId} {args:List AV} {H H' :J} {z:AV} (hq:eM b args=true) (h:ck E b tys args H=some (z,H')):QG H H' :=by
 have zh: ∀{te:TI} {s x:AV},s= .nil∨s= .e0→dR te s x H=some (z,H')→QG H H' :=by
  intro te s x hs h;refine .of ?_;rcases hs with rfl|rfl;all_goals
   simp only [dR] at h;repeat' split at h
   all_goals first
    |(simp at h;done)
    |(simp only [Option.some.injEq,Prod.mk.injEq] at h;first|exact .inl h.2.symm|exact .inr ⟨_,_,_,h.2.symm⟩)
 unfold ck at h;split at h
 ·repeat' split at h
  all_goals first
   |(simp at h;done)
   |(simp only [Option.some.injEq,Prod.mk.injEq] at h;rw [←h.2];exact .refl _)
 ·rename_i s x;have hs:s= .nil∨s= .e0:=by
   cases s<;>first|exact .inl rfl|exact .inr rfl|(simp [eM] at hq)
  split at h
  ·split at h
   ·split at h
    ·split at h
     ·unfold jP at h;refine .of ?_;repeat' split at h
      all_goals first
       |(simp at h;done)
       |(simp only [Option.some.injEq,Prod.mk.injEq] at h;first|exact .inl h.2.symm|exact .inr ⟨_,_,_,h.2.symm⟩)
     ·simp at h
    ·exact zh hs h
   ·simp at h
  ·simp at h
 ·simp [eM] at hq
 ·simp [eM] at hq
 ·split at h
  ·simp only [Option.some.injEq,Prod.mk.injEq] at h;rw [←h.2];exact .refl _
  ·simp at h
 ·split at h
  ·simp only [Option.some.injEq,Prod.mk.injEq] at h;rw [←h.2];exact .refl _
  ·simp at h
 ·split at h
  ·split at h
   ·simp only [Option.some.injEq,Prod.mk.injEq] at h;rw [←h.2];exact .refl _
   ·simp at h
  ·simp at h
 ·simp at h
include hE in
theorem zi (ae:St w G φ A) {H H' :J} (hX:a_ H G) (sj:a_ H' G) (bH:H.bs.length<H'.bs.length→ φ H.bs.length=none) {b:Builtin} {tys:Array TypeId} {ty:TypeId} {consts:Array Bool} {args:List AV} {vs:Array Value} {z:AV} (hq:eM b args=true) (hl:args.length=vs.size)
 (aT: ∀(i:Nat) (a:AV) (u:Value),args[i]? =some a→vs[i]? =some u→R w G φ A a u) (h:ck E b tys args H=some (z,H')):
 a9 w G φ A H H' ((builtin b tys ty consts vs).run P w) z:=by
 unfold ck at h;split at h
 ·rename_i x;obtain ⟨a,rfl⟩: ∃a,vs= #[a]:=by
   have h1:vs.size=1:=hl.symm;exact ⟨vs[0],by apply Array.ext;simp [h1];intro i h1 h2;simp at h2;subst h2;rfl⟩
  have hx:=aT 0 x a rfl rfl;split at h
  ·rename_i ti n ht hn;obtain ⟨t,h0,ht⟩:=Option.bind_eq_some_iff.1 ht;have key: ∀{q:AV×J},some q=some (z,H')→q=(AV.int .i64 n,H)→((∃e,ti.au= .sl e∧ ∀s,x≠ .str s)∨(ti.au= .str∧ ∃s,x= .str s))→a9 w G φ A H H' ((builtin .len tys ty consts #[a]).run P w) z:=by
    intro q hq oN hu;subst oN;simp only [Option.some.injEq,Prod.mk.injEq] at hq;obtain ⟨rfl,rfl⟩:=hq;have:=ri (tys:=tys) (ty:=ty) hE h0 hx hX hn ht hu;exact a9.val ae (by simp [builtin,this]) (.fr _ _ (.int _ _))
   split at h
   ·rename_i s hu;exact key h rfl (.inr ⟨hu,s,rfl⟩)
   ·simp at h
   ·rename_i e hu aH;exact key h rfl (.inl ⟨e,hu,fun s hs=>aH s hs⟩)
   ·simp at h
  ·simp at h
 ·rename_i s x;obtain ⟨a,b,rfl⟩: ∃a b,vs= #[a,b]:=by
   have h1:vs.size=2:=hl.symm;exact ⟨vs[0],vs[1],by apply Array.ext;simp [h1];intro i h1 h2;simp at h2;rcases i with _|_|i;rfl;rfl;omega⟩
  have hs:=aT 0 s a rfl rfl;have hx:=aT 1 x b rfl rfl;have eD:s= .nil∨s= .e0:=by
   cases s<;>first|exact .inl rfl|exact .inr rfl|(simp [eM] at hq)
  split at h
  ·rename_i t h0;split at h
   ·rename_i te tx bn cI;obtain ⟨t2,h1,cI⟩:=Option.bind_eq_some_iff.1 cI;split at h
    ·rename_i k hit;split at h
     ·exact qZ hE ae sj bH h0 h1 bn cI hit hs hx h
     ·simp at h
    ·rename_i aH;exact oB hE ae hX sj bH h0 h1 bn cI (fun k hk=>aH k hk) hs hx eD h
   ·simp at h
  ·simp at h
 ·simp [eM] at hq
 ·simp [eM] at hq
 ·split at h
  ·rename_i v hv;simp only [Option.some.injEq,Prod.mk.injEq] at h;obtain ⟨rfl,rfl⟩:=h;cases args with
   |nil=>simp [jR] at hv
   |cons x rest=>
    obtain ⟨a,us,dL⟩: ∃a us,vs.toList=a::us:=by
     cases fm:vs.toList with
     |nil=>have:=congrArg List.length fm;simp at this;simp [this] at hl
     |cons a us=>exact ⟨a,us,rfl⟩
    have hlen:rest.length=us.length:=by have:=congrArg List.length dL;simp at this;simp at hl;omega
    have bB: ∀(i:Nat) (u:Value),(a::us)[i]? =some u→vs[i]? =some u:=fun i u hu=>by rw [←dL] at hu;simpa using hu
    obtain ⟨u,hu,hz⟩:=k_ (P:=P) (op:=Builtin.min2) (f:=fun a b=>match a,b with| .int k x,.int _ y=>some (.int k (if y<x then y else x))|_,_=>none) (fun a b x y z ha hb hf=>by
     split at hf
     ·have e1:=ha.cG;have e2:=hb.cG;subst e1;subst e2;simp only [Option.some.injEq] at hf;subst hf;exact ⟨_,by simp [Builtin.min2],.fr _ _ (.int _ _)⟩
     ·simp at hf) rest us x a v hlen (fun i p q hp hq=>aT (i+1) p q hp (bB (i+1) q hq)) (aT 0 x a rfl (bB 0 a rfl)) hv
    exact a9.val ae (by simp [builtin,Builtin.min_,dL,hu]) hz
  ·simp at h
 ·split at h
  ·rename_i v hv;simp only [Option.some.injEq,Prod.mk.injEq] at h;obtain ⟨rfl,rfl⟩:=h;cases args with
   |nil=>simp [jS] at hv
   |cons x rest=>
    obtain ⟨a,us,dL⟩: ∃a us,vs.toList=a::us:=by
     cases fm:vs.toList with
     |nil=>have:=congrArg List.length fm;simp at this;simp [this] at hl
     |cons a us=>exact ⟨a,us,rfl⟩
    have hlen:rest.length=us.length:=by have:=congrArg List.length dL;simp at this;simp at hl;omega
    have bB: ∀(i:Nat) (u:Value),(a::us)[i]? =some u→vs[i]? =some u:=fun i u hu=>by rw [←dL] at hu;simpa using hu
    obtain ⟨u,hu,hz⟩:=k_ (P:=P) (op:=Builtin.max2) (f:=fun a b=>match a,b with| .int k x,.int _ y=>some (.int k (if y>x then y else x))|_,_=>none) (fun a b x y z ha hb hf=>by
     split at hf
     ·have e1:=ha.cG;have e2:=hb.cG;subst e1;subst e2;simp only [Option.some.injEq] at hf;subst hf;exact ⟨_,by simp [Builtin.max2],.fr _ _ (.int _ _)⟩
     ·simp at hf) rest us x a v hlen (fun i p q hp hq=>aT (i+1) p q hp (bB (i+1) q hq)) (aT 0 x a rfl (bB 0 a rfl)) hv
    exact a9.val ae (by simp [builtin,Builtin.max_,dL,hu]) hz
  ·simp at h
 ·obtain ⟨a,rfl⟩: ∃a,vs= #[a]:=by
   have h1:vs.size=1:=hl.symm;exact ⟨vs[0],by apply Array.ext;simp [h1];intro i h1 h2;simp at h2;subst h2;rfl⟩
  have hx:=(aT 0 .nil a rfl rfl).dn;subst hx;split at h
  ·rename_i ti ht;obtain ⟨t,h0,ht⟩:=Option.bind_eq_some_iff.1 ht;split at h
   ·rename_i e hu;simp only [Option.some.injEq,Prod.mk.injEq] at h;obtain ⟨rfl,rfl⟩:=h;have hc:(Builtin.cap_ tys ty #[.slice none 0 0]).run P w= .ok (.int .i64 0) w:=by
     unfold Builtin.cap_;simp only [h0,List.getElem?_toArray,List.getElem?_cons_zero,Sem.run_bind,(hE _ _ ht).sl w hu,Result.andThen_ok];rfl
    exact a9.val ae (by simp [builtin,hc]) (.fr _ _ (.int _ _))
   ·simp at h
  ·simp at h
 ·simp at h
end ops
section step
variable {P:Program} {C:aK} {X:bK} {w:World} {G:J} {φ :ag} {A:aj}
theorem a9.upon {H H' :J} {r:Result Next} {x:AV} (h:a9 w G φ A H H' r x) {o:Oper} {a:Act} {next:Act→World→Prop} {Q:Exit→Act→World→Prop}
 (hn: ∀v w' ak A',Out w G φ A w' G ak A' →R w' G ak A' x v→(∀id loc,ak id=some loc→ φ id=some loc∨(H.bs.length≤id∧id<H'.bs.length))→next (a.put o.dst v) w'):o.upon P a next Q r:=by
 obtain ⟨n,v,w',ak,A',rfl,hv,hr,ho,hi⟩:=h;rcases hv with rfl|⟨rfl,rfl⟩
 ·exact hn v w' ak A' ho hr hi
 ·exact hn _ w' ak A' ho hr hi
theorem ly (hE: ∀t ti,C.E t=some ti→aW P t ti) (hX: ∀f ys H K,X f ys H K→dh P f ys H K) (ae:St w G φ A) {o:Oper} {s:ah} {a:Act} (hs: ∀x∈o.op.operands,R w G φ A (ev s x) (a.eval x)) {th:Bool} {H H' :J} {x:AV} (hg:a_ H G) (hh:GH G φ H H')
 (h:wpOp X C true th o s H (fun v1 H1=>v1=x∧H1=H')) {next:Act→World→Prop} {Q:Exit→Act→World→Prop}
 (hn: ∀v w' ak A',Out w G φ A w' G ak A' →R w' G ak A' x v→(∀id loc,ak id=some loc→ φ id=some loc∨(H.bs.length≤id∧id<H'.bs.length))→next (a.put o.dst v) w'):o.wp P a w next Q:=by
 have bH:H.bs.length<H'.bs.length→ φ H.bs.length=none:=fun ax=>hh.none _ (Nat.le_refl _) ax;have lr:dX o.op=true→(match aP C.E o.op s H with|some (v,H1)=>v=x∧H1=H' |none=>False)→o.wp P a w next Q:=by
  intro hq jx;split at jx
  ·rename_i v H1 he;obtain ⟨rfl,rfl⟩:=jx;exact (oD hE ae hg hh.ext bH hq hs he).upon hn
  ·exact jx.elim
 unfold wpOp at h;split at h
 ·rename_i b args tys bA;obtain ⟨hq,h⟩:=h;have hq:=hq rfl;split at h
  ·rename_i v H1 he;obtain ⟨rfl,rfl⟩:=h;obtain ⟨consts,cY⟩:=rT (P:=P) (w:=w) (ρ :=a.eval) bA;have:=zi hE ae hg hh.ext bH (ty:=o.type) (consts:=consts) (vs:=args.map a.eval) hq (by simp) (fun i x u hx hu=>by
    simp only [List.getElem?_map,Option.map_eq_some_iff] at hx;obtain ⟨y,hy,rfl⟩:=hx;simp only [Array.getElem?_map,Option.map_eq_some_iff] at hu;obtain ⟨y',eF,rfl⟩:=hu;have:y' =y:=by simp at hy;rw [hy] at eF;simpa using eF.symm
    subst this;exact hs y' (by rw [bA];simp only [Op.operands,Call.operands];simp [Array.mem_of_getElem? eF])) he
   rw [←cY] at this;exact this.upon hn
  ·exact h.elim
 ·rename_i y args tys bA;split at h
  ·rename_i g bP de;simp only [if_true] at h;have hx:=hs y (by rw [bA];simp [Op.operands,Call.operands])
   rw [de] at hx;obtain ⟨vs,hv,hl,hp⟩:=hx.kK;have hc:=ze hX ae hg hh (us:=args.map a.eval ++ vs) (by simp [hl]) (fun i y u hy hu=>by
    rcases Nat.lt_or_ge i args.size with hi|hi
    ·rw [List.getElem?_append_left (by simpa using hi)] at hy
     rw [Array.getElem?_append_left (by simpa using hi)] at hu
     simp only [List.getElem?_map,Option.map_eq_some_iff] at hy;obtain ⟨z,hz,rfl⟩:=hy;simp only [Array.getElem?_map,Option.map_eq_some_iff] at hu;obtain ⟨z',ea,rfl⟩:=hu;have:z' =z:=by simp at hz;rw [hz] at ea;simpa using ea.symm
     subst this;exact hs z' (by rw [bA];simp only [Op.operands,Call.operands];simp [Array.mem_of_getElem? ea])
    ·rw [List.getElem?_append_right (by simpa using hi)] at hy
     rw [Array.getElem?_append_right (by simpa using hi)] at hu
     exact hp _ y u (by simpa using hy) (by simpa using hu)) h
   unfold Oper.wp;rw [rS bA hv hc.1,Oper.upon_enter];refine hc.2.mono fun e w' he=> ?_
   cases e with
   |returned v' =>
    obtain ⟨ak,A',h1,h2,h3⟩:=he;exact hn v' w' ak A' h1 h2 h3
   |panicked c=>exact he.elim
   |outgrown=>exact he.elim
  ·exact h.elim
 ·exact lr (h.1 rfl) h.2
theorem zj {o:Oper} {s:ah} {th:Bool} {H H' :J} {x:AV} (h:wpOp X C true th o s H (fun v1 H1=>v1=x∧H1=H')):QG H H' :=by
 have lr:dX o.op=true→(match aP C.E o.op s H with|some (v,H1)=>v=x∧H1=H' |none=>False)→QG H H' :=by
  intro hq jx;split at jx
  ·rename_i v H1 he;obtain ⟨rfl,rfl⟩:=jx;exact .of (rj hq he)
  ·exact jx.elim
 unfold wpOp at h;split at h
 ·obtain ⟨hq,h⟩:=h;split at h
  ·rename_i v H1 he;obtain ⟨rfl,rfl⟩:=h;exact zg (hq rfl) he
  ·exact h.elim
 ·split at h
  ·rename_i g bP de;simp only [if_true] at h;unfold dF at h;split at h
   ·exact h.elim
   obtain ⟨y,_,_,hp⟩:=h;split at hp
   ·obtain ⟨_,rfl⟩:=hp;exact pH _ _
   ·obtain ⟨_,rfl⟩:=hp;exact .refl _
  ·exact h.elim
 ·exact lr (h.1 rfl) h.2
end step
end Go.VS
namespace Go.VS
section tr
variable {C:aK} {X:bK}
theorem lz (dA:Exact X) {q th:Bool} {o:Oper} {s:ah} {H:J} {K:AV→J→Prop} (h:wpOp X C q th o s H K): ∃v H',wpOp X C q th o s H (fun v1 H1=>v1=v∧H1=H')∧K v H' :=by
 unfold wpOp at h⊢;split at h
 ·rename_i b args tys bA;obtain ⟨hq,h⟩:=h;split at h
  ·rename_i v H' he
   refine ⟨v,H',?_,h⟩;first
    |exact ⟨hq,rfl,rfl⟩
    |(simp only [bA];exact ⟨hq,trivial,trivial⟩)
    |(simp only [bA,he];exact ⟨hq,trivial,trivial⟩)
  ·exact h.elim
 ·rename_i x args tys bA;split at h
  ·rename_i g bP hg;have hQ:dF X C g (args.toList.map (ev s) ++ bP) th H K→ ∃v H',dF X C g (args.toList.map (ev s) ++ bP) th H (fun v1 H1=>v1=v∧H1=H')∧K v H' :=by
    intro h;unfold dF at h⊢;split at h
    ·exact h.elim
    rename_i ys bZ hy;obtain ⟨y,h1,h2,h3⟩:=h;split at h3
    ·rename_i ht;refine ⟨_,_,⟨y,h1,h2,?_⟩,h3⟩;simp only [ht,if_true];exact ⟨trivial,trivial⟩
    ·rename_i ht;refine ⟨_,_,⟨y,h1,h2,?_⟩,h3⟩;simp only [ht];exact ⟨trivial,trivial⟩
   have key: ∃v H',(if q then dF X C g (args.toList.map (ev s) ++ bP) th H (fun v1 H1=>v1=v∧H1=H') else X g (args.toList.map (ev s) ++ bP) H (fun v1 H1=>v1=v∧H1=H')∨dF X C g (args.toList.map (ev s) ++ bP) th H (fun v1 H1=>v1=v∧H1=H'))∧K v H' :=by
    cases q with
    |false=>
     simp only [Bool.false_eq_true,if_false] at h⊢;rcases h with h|h
     ·obtain ⟨v,H',h1,h2⟩:=dA _ _ _ _ h;exact ⟨v,H',.inl h1,h2⟩
     ·obtain ⟨v,H',h1,h2⟩:=hQ h;exact ⟨v,H',.inr h1,h2⟩
    |true=>
     simp only [if_true] at h⊢;exact hQ h
   obtain ⟨v,H',k1,k2⟩:=key;refine ⟨v,H',?_,k2⟩;first
    |exact k1
    |(simp only [bA,hg];exact k1)
  ·exact h.elim
 ·rename_i op me BC;obtain ⟨hq,h⟩:=h;split at h
  ·rename_i v H' he
   refine ⟨v,H',?_,h⟩;exact ⟨hq,rfl,rfl⟩
  ·exact h.elim
theorem mY (C:aK) (ops:Array Oper) (s:ah) (H:J) (K:Prop): ∀(l:List Nat),fC C ops s H K l→(∀j∈l,jU C ops s H j)∧K
 |[],h=>⟨by simp,h⟩
 |j::js,h=>by
  obtain ⟨h1,h2⟩:=h;obtain ⟨k1,k2⟩:=mY C ops s H K js h2;refine ⟨fun i hi=> ?_,k2⟩;rcases List.mem_cons.1 hi with rfl|hi
  ·exact h1
  ·exact k1 i hi
structure Tr (X:bK) (C:aK) (ops:Array Oper) (q:Nat→Bool) (late:Nat→List Nat) (th:List Nat) (K:ah→J→Prop) (l:List Oper) (k:Nat) (s:Nat→ah) (H:Nat→J) (v:Nat→AV) (act:Nat→Bool):Prop where
 step: ∀i o,l[i]? =some o→s (i+1)=aZ (s i) o.dst (v i)∧dG ops o (s i)=some (act i)∧(act i=true→wpOp X C (q (k+i)) (th.contains (k+i)) o (s i) (H i) (fun v1 H1=>v1=v i∧H1=H (i+1)))∧
  (act i=false→v i= .aA []∧H (i+1)=H i)∧ ∀j∈late (k+i),jU C ops (s (i+1)) (H (i+1)) j
 fin:K (s l.length) (H l.length)
theorem sk (dA:Exact X) {ops:Array Oper} {q:Nat→Bool} {late:Nat→List Nat} {th:List Nat} {K:ah→J→Prop}: ∀(l:List Oper) (k:Nat) (s0:ah) (H0:J),db X C ops q late th K l k s0 H0→
 ∃s H v act,s 0=s0∧H 0=H0∧Tr X C ops q late th K l k s H v act
 |[],k,s0,H0,h=>⟨fun _=>s0,fun _=>H0,fun _=> .undef,fun _=>true,rfl,rfl,⟨by simp,h⟩⟩
 |o::l,k,s0,H0,h=>by
  have key: ∃v0 H1 a0,dG ops o s0=some a0∧(a0=true→wpOp X C (q k) (th.contains k) o s0 H0 (fun v1 H' =>v1=v0∧H' =H1))∧(a0=false→v0= .aA []∧H1=H0)∧(∀j∈late k,jU C ops (aZ s0 o.dst v0) H1 j)∧
   db X C ops q late th K l (k+1) (aZ s0 o.dst v0) H1:=by
   simp only [db] at h;cases hg:o.guard with
   |none=>
    rw [hg] at h;obtain ⟨v,H',h1,h2⟩:=lz dA h;obtain ⟨k1,k2⟩:=mY _ _ _ _ _ _ h2;exact ⟨v,H',true,by simp [dG,hg],fun _=>h1,fun h=>by simp at h,k1,k2⟩
   |some p=>
    rw [hg] at h;obtain ⟨v,H',h1,h2⟩:=h;obtain ⟨k1,k2⟩:=mY _ _ _ _ _ _ h2;split at h1
    ·rename_i b hb;cases b with
     |true=>exact ⟨v,H',true,hb,fun _=>by simpa using h1,fun h=>by simp at h,k1,k2⟩
     |false=>exact ⟨v,H',false,hb,fun h=>by simp at h,fun _=>by simpa using h1,k1,k2⟩
    ·exact h1.elim
  obtain ⟨v0,H1,a0,g1,g2,g3,g4,g5⟩:=key;obtain ⟨s,H,v,act,e1,e2,t⟩:=sk dA l (k+1) _ _ g5;refine ⟨fun i=>match i with|0=>s0|i+1=>s i,fun i=>match i with|0=>H0|i+1=>H i,fun i=>match i with|0=>v0|i+1=>v i,fun i=>match i with|0=>a0|i+1=>act i,rfl,rfl,⟨fun i o' hi=> ?_,t.fin⟩⟩
  cases i with
  |zero=>
   simp only [List.getElem?_cons_zero,Option.some.injEq] at hi;subst hi;simp only [Nat.add_zero,e1,e2];exact ⟨trivial,g1,g2,g3,g4⟩
  |succ i=>
   have:=t.step i o' (by simpa using hi)
   rw [show k+1+i=k+(i+1) by omega] at this
   exact this
end tr
theorem sm (bs:Edge→Bool) (acc:List Nat) (j:Nat): ∀(l:List Edge) (m0:Nat),(l.foldl (fun m e=>if bs e then m|||2^e.on|||acc.getD e.on 0 else m) m0).testBit j=true→m0.testBit j=true∨ ∃e∈l,bs e=true∧(e.on=j∨(acc.getD e.on 0).testBit j=true)
 |[],m0,h=> .inl h
 |e::l,m0,h=>by
  simp only [List.foldl_cons] at h;rcases sm bs acc j l _ h with h|⟨e',h1,h2⟩
  ·split at h
   ·rename_i hb;simp only [Nat.testBit_or,Nat.testBit_two_pow,Bool.or_eq_true,decide_eq_true_eq] at h;rcases h with (h|h)|h
    ·exact .inl h
    ·exact .inr ⟨e,by simp,hb,.inl h⟩
    ·exact .inr ⟨e,by simp,hb,.inr h⟩
   ·exact .inl h
  ·exact .inr ⟨e',by simp [h1],h2⟩
theorem sn: ∀(os:List Oper) (acc:List Nat),(gN os acc).length=acc.length+os.length∧(∀i,i<acc.length→(gN os acc).getD i 0=acc.getD i 0)∧
 ∀i o,os[i]? =some o→ ∀j,((gN os acc).getD (acc.length+i) 0).testBit j=true→ ∃e∈o.after.toList,Region.binds .any e=true∧(e.on=j∨(e.on<acc.length+i∧((gN os acc).getD e.on 0).testBit j=true))
 |[],acc=>⟨by simp [gN],by simp [gN],by simp⟩
 |o::os,acc=>by
  obtain ⟨h1,h2,h3⟩:=sn os (acc ++ [o.after.toList.foldl (fun m e=>if Region.binds .any e then m|||2^e.on|||acc.getD e.on 0 else m) 0]);simp only [gN];have hold: ∀i,i<acc.length→(gN os (acc ++ [o.after.toList.foldl (fun m e=>if Region.binds .any e then m|||2^e.on|||acc.getD e.on 0 else m) 0])).getD i 0=acc.getD i 0:=by
   intro i hi;rw [h2 i (by simp;omega)]
   simp [List.getD,List.getElem?_append_left hi]
  refine ⟨by rw [h1];simp;omega,hold,fun i o' ho j hj=> ?_⟩
  cases i with
  |zero=>
   simp only [List.getElem?_cons_zero,Option.some.injEq] at ho;subst ho;rw [Nat.add_zero,h2 _ (by simp)] at hj
   simp only [List.getD,List.getElem?_append_right (Nat.le_refl _),Nat.sub_self,List.getElem?_cons_zero,Option.getD_some] at hj;rcases sm (Region.binds .any) acc j _ _ hj with h|⟨e,q1,q2,q3⟩
   ·simp at h
   ·refine ⟨e,q1,q2,?_⟩;rcases q3 with q3|q3
    ·exact .inl q3
    ·have ax:e.on<acc.length:=by
      rcases Nat.lt_or_ge e.on acc.length with h|h
      ·exact h
      ·rw [List.getD,List.getElem?_eq_none h] at q3;simp at q3
     exact .inr ⟨by omega,by rw [hold _ ax];exact q3⟩
  |succ i=>
   simp only [List.length_append,List.length_singleton] at h3;have:=h3 i o' (by simpa using ho) j (by rw [show acc.length+1+i=acc.length+(i+1) by omega];exact hj)
   obtain ⟨e,q1,q2,q3⟩:=this;refine ⟨e,q1,q2,?_⟩;rcases q3 with q3|⟨q3,q4⟩
   ·exact .inl q3
   ·exact .inr ⟨by omega,q4⟩
def so (ops:Array Oper) (L:Nat→Prop):Prop:= ∀i o,ops[i]? =some o→L i→ ∀e∈o.after,Region.binds .any e=true→L e.on
theorem mZ {ops:Array Oper} {L:Nat→Prop} (hs:so ops L) (ax: ∀i o,ops[i]? =some o→ ∀e∈o.after,Region.binds .any e=true→e.on<i):
 ∀(i:Nat) (o:Oper),ops[i]? =some o→(∀e∈o.after,Region.binds .any e=true→L e.on)→ ∀j,((fD ops.toList).getD i 0).testBit j=true→L j:=by
 intro i;induction i using Nat.strongRecOn with
 |_ i ih=>
  intro o ho ha j hj;have:=(sn ops.toList []).2.2 i o (by simpa using ho) j (by simpa [fD] using hj)
  obtain ⟨e,q1,q2,q3⟩:=this;have sq:=ha e (by simpa using q1) q2
  rcases q3 with rfl|⟨_,q4⟩
  ·exact sq
  ·have zk:=ax i o ho e (by simpa using q1) q2
   have hi:i<ops.size:=(Array.getElem?_eq_some_iff.1 ho).1;have ss:=Array.getElem?_eq_getElem (xs:=ops) (show e.on<ops.size by omega)
   exact ih e.on zk _ ss (hs e.on _ ss sq) j q4
end Go.VS
