import Derived.Test.YtclgbpneokeaeaaVaB
import Derived.Tactics
import Derived.Laws.Sem
namespace Go.VS
section bu
variable {w:World} {A:ah}
theorem rb {m:Mode} {sh:List Sh} {v:AV} {H:J} {y:AV} {H1:J} (h:eQ m sh v H=some (y,H1)):bB H H1:=by
 cases m with
 |val=>simp only [eQ,Option.some.injEq,Prod.mk.injEq] at h;obtain ⟨_,rfl⟩:=h;exact .refl _
 |eD=>exact ff sh v H y H1 h
 |io=>
  cases v<;>simp only [eQ] at h
  case nil=>simp only [Option.some.injEq,Prod.mk.injEq] at h;obtain ⟨_,rfl⟩:=h;exact .refl _
  case e0=>simp only [Option.some.injEq,Prod.mk.injEq] at h;obtain ⟨_,rfl⟩:=h;exact .refl _
  case ref=>
   split at h
   ·split at h
    ·simp only [Option.some.injEq,Prod.mk.injEq] at h;obtain ⟨_,rfl⟩:=h;exact .refl _
    ·split at h
     ·exact ff _ _ H y H1 h
     ·simp at h
   ·simp at h
  case ptr=>exact ff _ _ H y H1 h
  all_goals simp at h
theorem rf: ∀(ms:List Mode) (sh:List (List Sh)) (as:List AV) (H:J) (zs:List AV) (H1:J),fl ms sh as H=some (zs,H1)→bB H H1
 |[],sh,as,H,zs,H1,h=>by
  simp only [fl,Option.some.injEq,Prod.mk.injEq] at h;obtain ⟨_,rfl⟩:=h;exact .refl _
 |m::ms,sh,[],H,zs,H1,h=>by
  simp only [fl,Option.some.injEq,Prod.mk.injEq] at h;obtain ⟨_,rfl⟩:=h;exact .refl _
 |m::ms,sh,a::as,H,zs,H1,h=>by
  simp only [fl] at h;split at h
  ·rename_i y H' h1
   split at h
   ·rename_i ys jN h2
    simp only [Option.some.injEq,Prod.mk.injEq] at h;obtain ⟨_,rfl⟩:=h;exact (rb h1).trans (rf ms _ as H' ys _ h2)
   ·simp at h
  ·simp at h
def gf (w:World) (A:ah) (B:ah) (L0:J) (aB:af) (bU:Bool) (vs:List AV) (us:List Value):Prop:=
 vs.length=us.length∧ ∀A0:ah,(∀c,A0 c→A c)→(bU=true→ ∀c,A0 c→B c)→ ∀(i:Nat) (x:AV) (u:Value),vs[i]? =some x→us[i]? =some u→R w L0 aB A0 x u
theorem gf.cons {B:ah} {L L0:J} {φL aB:af} {l1 l2:Bool} {x:AV} {u:Value} {vs:List AV} {us:List Value} (hx: ∀A0:ah,(∀c,A0 c→A c)→(l1=true→ ∀c,A0 c→B c)→R w L φL A0 x u)
 (he: ∀A0,bF w L φL A0 w L0 aB A0) (h:gf w A B L0 aB l2 vs us):gf w A B L0 aB (l1||l2) (x::vs) (u::us):=by
 refine ⟨by simp [h.1],fun A0 h1 h2 i x' u' bD aK=> ?_⟩
 cases i with
 |zero=>simp at bD aK;subst bD;subst aK;exact (hx A0 h1 (fun hl=>h2 (by simp [hl]))).mono (he A0)
 |succ i=>exact h.2 A0 h1 (fun hl=>h2 (by simp [hl])) i x' u' bD aK
theorem bF.any {L L0:J} {φL aB:af} {A1:ah} (h:bF w L φL A1 w L0 aB A1) (A0:ah):bF w L φL A0 w L0 aB A0:=
 ⟨fun _c _a _t fr hc hn=>⟨⟨fr,hc⟩,hn⟩,h.st,h.ids,h.sz⟩
theorem rh {H:J} {φ :af} {H1:J} {L:J} {φL:af} (ae:St w H φ A) (hl:bB H H1) {a:AV} {u:Value} (ha:R w H φ A a u) {y:AV} (hs:aX 8 H1 a=some y):
 ∀A0:ah,(∀c,A0 c→A c)→(eE a=true→ ∀c,A0 c→fg (aC φ H1) A c)→R w L φL A0 y u:=by
 intro A0 h1 h2;obtain ⟨s1,s2,_⟩:=(q0 (dS ae hl) 8).1 a u y (ha.mono (cV hl)) hs;cases hle:eE a with
 |false=>exact .fr _ _ ((s2 hle).shrink h1)
 |true=>exact .fr _ _ (s1.shrink (h2 hle))
theorem me: ∀(as:List AV) (ms:List Mode) (fj:List (List Sh)) (us:List Value) (H:J) (φ :af) (zs:List AV) (H1:J) (ys:List AV) (bU:Bool) (L:J) (φL:af) (vs:List AV) (L0:J),
 bW w H φ A L φL A→as.length=us.length→(∀(i:Nat) (x:AV) (u:Value),as[i]? =some x→us[i]? =some u→R w H φ A x u)→fl ms fj as H=some (zs,H1)→cb ms zs H1=some (ys,bU)→ca ms ys L=(vs,L0)→
 ∃aB,b9 w H φ A L φL A H1 L0 aB∧gf w A (fg (aC φ H1) A) L0 aB bU vs us∧b7 H φ L0 aB ms as vs
 |[],ms,fj,us,H,φ,zs,H1,ys,bU,L,φL,vs,L0,hd,hl,hr,h1,h2,h3=>by
  have gN:zs=[]∧H1=H:=by
   cases ms<;>simp only [fl,Option.some.injEq,Prod.mk.injEq] at h1<;>exact ⟨h1.1.symm,h1.2.symm⟩
  obtain ⟨rfl,rfl⟩:=gN;have cq:ys=[]∧bU=false:=by
   cases ms<;>simp only [cb,Option.some.injEq,Prod.mk.injEq] at h2<;>exact ⟨h2.1.symm,h2.2.symm⟩
  obtain ⟨rfl,rfl⟩:=cq;have dx:vs=[]∧L0=L:=by
   cases ms<;>simp only [ca,Prod.mk.injEq] at h3<;>exact ⟨h3.1.symm,h3.2.symm⟩
  obtain ⟨rfl,rfl⟩:=dx;refine ⟨φL,.refl hd,⟨by simpa using hl,by simp⟩,?_⟩
  cases ms with
  |nil=>simp [b7]
  |cons m ms=>cases m<;>simp [b7]
 |a::as,[],fj,us,H,φ,zs,H1,ys,bU,L,φL,vs,L0,hd,hl,hr,h1,h2,h3=>by
  match us,hl with
  |u::us,hl=>
  simp only [fl,Option.some.injEq,Prod.mk.injEq] at h1;obtain ⟨rfl,rfl⟩:=h1;simp only [cb] at h2;split at h2
  ·rename_i y hy;split at h2
   ·rename_i aS b cq
    simp only [Option.some.injEq,Prod.mk.injEq] at h2;obtain ⟨rfl,rfl⟩:=h2;simp only [ca,mb _ _ _ _ hy,List.tail_nil,Prod.mk.injEq] at h3;obtain ⟨rfl,rfl⟩:=h3;obtain ⟨aB,m,cu,_⟩:=me as [] fj us H φ as H aS b L φL _ _ hd (by simpa using hl) (fun i x u hx hu=>hr (i+1) x u hx hu) rfl cq rfl
    exact ⟨aB,m,gf.cons (rh (L:=L) (φL:= φL) hd.sl (.refl _) (hr 0 a u rfl rfl) hy) (fun A0=>m.eh.any A0) cu,by simp [b7]⟩
   ·simp at h2
  ·simp at h2
 |a::as,md::ms,fj,us,H,φ,zs,H1,ys,bU,L,φL,vs,L0,hd,hl,hr,h1,h2,h3=>by
  match us,hl with
  |u::us,hl=>
  simp only [fl] at h1;split at h1
  rotate_left
  ·simp at h1
  rename_i z H' hz
  split at h1
  rotate_left
  ·simp at h1
  rename_i gg jN gN
  simp only [Option.some.injEq,Prod.mk.injEq] at h1;obtain ⟨rfl,rfl⟩:=h1;have cZ:=rb hz;have da:=rf _ _ _ _ _ _ gN;have ha:=hr 0 a u rfl rfl;have rest: ∀{aS:List AV} {b:Bool} {L' :J} {aj:af} (m1:b9 w H φ A L φL A H' L' aj) (cq:cb ms gg jN=some (aS,b)),
   ∃aB,b9 w H' (aC φ H') A L' aj A jN (ca ms aS L').2 aB∧gf w A (fg (aC φ jN) A) (ca ms aS L').2 aB b (ca ms aS L').1 us∧b7 H' (aC φ H') (ca ms aS L').2 aB ms as (ca ms aS L').1:=by
   intro aS b L' aj m1 cq
   obtain ⟨aB,m,cu,dK⟩:=me as ms fj.tail us H' (aC φ H') gg jN aS b L' aj _ _ m1.bu (by simpa using hl) (fun i x u hx hu=>(hr (i+1) x u hx hu).mono (cV cZ)) gN cq rfl
   refine ⟨aB,m,?_,dK⟩;rw [fE da] at cu;exact cu
  cases md with
  |val=>
   simp only [eQ,Option.some.injEq,Prod.mk.injEq] at hz;obtain ⟨rfl,rfl⟩:=hz;simp only [cb] at h2;split at h2
   rotate_left
   ·simp at h2
   rename_i y hy;split at h2
   rotate_left
   ·simp at h2
   rename_i aS b cq
   simp only [Option.some.injEq,Prod.mk.injEq] at h2;obtain ⟨rfl,rfl⟩:=h2;have jb:ca (.val::ms) (y::aS) L=(y::(ca ms aS L).1,(ca ms aS L).2):=by
    simp only [ca,mb _ _ _ _ hy,List.tail_cons]
   rw [jb] at h3;simp only [Prod.mk.injEq] at h3;obtain ⟨rfl,rfl⟩:=h3;obtain ⟨aB,m,cu,dK⟩:=rest (b9.refl hd) cq;refine ⟨aB,(b9.refl hd).trans m,gf.cons (L:=L) (φL:= φL) (fun A0 q1 q2=> ?_) (fun A0=>m.eh.any A0) cu,?_⟩
   ·exact rh (L:=L) (φL:= φL) hd.sl da ha hy A0 q1 q2
   ·simp only [b7];exact b7.mono (.refl _) (fun _ _ h=>h) (fun _ _ h=>h) dK
  |eD=>
   have dF:a8 (fj.headD []) a H=some (z,H'):=hz
   simp only [cb] at h2;split at h2
   rotate_left
   ·simp at h2
   rename_i aS b cq
   simp only [Option.some.injEq,Prod.mk.injEq] at h2;obtain ⟨rfl,rfl⟩:=h2;have jb:ca (.eD::ms) (z::aS) L=((aI z L).1::(ca ms aS (aI z L).2).1,(ca ms aS (aI z L).2).2):=by
    simp only [ca,List.tail_cons]
   rw [jb] at h3;simp only [Prod.mk.injEq] at h3;obtain ⟨rfl,rfl⟩:=h3;obtain ⟨φ1,m1,r1⟩:=qU hd ha dF rfl (.inl fun _ h=>h)
   obtain ⟨aB,m,cu,dK⟩:=rest m1 cq;have:=gf.cons (l1:=false) (L:=(aI z L).2) (φL:= φ1) (x:=(aI z L).1) (u:=u) (fun A0 q1 _=>r1.l9 q1) (fun A0=>m.eh.any A0) cu;refine ⟨aB,m1.trans m,by simpa using this,?_⟩
   simp only [b7];exact b7.mono cZ (fun _ _ h=>h) (fun _ _ h=>h) dK
  |io=>
   simp only [cb] at h2;split at h2
   rotate_left
   ·simp at h2
   rename_i aS b cq
   simp only [Option.some.injEq,Prod.mk.injEq] at h2;obtain ⟨rfl,rfl⟩:=h2;rcases yj hd ha hz with ⟨sz,xs,φ1,rfl,m1,r1,ro⟩|⟨sz,x,φ1,rfl,m1,r1,ro⟩
   ·have jb:ca (.io::ms) (.own sz xs::aS) L=(.ref (aG xs L).2.bs.length (aG xs L).2.st 0 (aG xs L).1.length::(ca ms aS ((aG xs L).2.new sz true (aG xs L).1)).1,(ca ms aS ((aG xs L).2.new sz true (aG xs L).1)).2):=by
     simp only [ca]
    rw [jb] at h3;simp only [Prod.mk.injEq] at h3;obtain ⟨rfl,rfl⟩:=h3;obtain ⟨aB,m,cu,dK⟩:=rest m1 cq;have:=gf.cons (l1:=false) (φL:= φ1) (u:=u) (fun A0 q1 _=>r1.l9 q1) (fun A0=>m.eh.any A0) cu;refine ⟨aB,m1.trans m,by simpa using this,?_⟩
    simp only [b7];refine ⟨?_,b7.mono cZ (fun _ _ h=>h) (fun _ _ h=>h) dK⟩;obtain ⟨k,kv,bk,e1,e2,⟨loc,kO⟩,e3,e4⟩:=ro;exact ⟨k,kv,bk,e1,oO m.bz e2,⟨loc,m.bX _ _ kO⟩,e3,fun id ad hr=>by obtain ⟨b,c,b0,q1,q2,q3,q4,q5⟩:=e4 id ad hr;exact ⟨b,c,b0,q1,q2,q3,q4,m.bX _ _ q5⟩⟩
   ·have jb:ca (.io::ms) (.de sz x::aS) L=((aI (.de sz x) L).1::(ca ms aS (aI (.de sz x) L).2).1,(ca ms aS (aI (.de sz x) L).2).2):=by
     simp only [ca,List.tail_cons]
    rw [jb] at h3;simp only [Prod.mk.injEq] at h3;obtain ⟨rfl,rfl⟩:=h3;obtain ⟨aB,m,cu,dK⟩:=rest m1 cq;have:=gf.cons (l1:=false) (φL:= φ1) (u:=u) (fun A0 q1 _=>r1.l9 q1) (fun A0=>m.eh.any A0) cu;refine ⟨aB,m1.trans m,by simpa using this,?_⟩
    simp only [b7];refine ⟨?_,b7.mono cZ (fun _ _ h=>h) (fun _ _ h=>h) dK⟩;obtain ⟨k,kv,bk,e1,e2,⟨loc,kO⟩,e3,e4⟩:=ro;exact ⟨k,kv,bk,e1,oO m.bz e2,⟨loc,m.bX _ _ kO⟩,e3,fun id ad hr=>by obtain ⟨b,c,b0,q1,q2,q3,q4,q5⟩:=e4 id ad hr;exact ⟨b,c,b0,q1,q2,q3,q4,m.bX _ _ q5⟩⟩
end bu
end Go.VS
namespace Go.VS
def cN (L Lm:J):List Mode→List AV→List (List AV)→Prop
 | .io::ms,x::xs,l::ls=>(∃k kv b,kd x=some (k,kv)∧L.ap k kv=some b∧b.el=l∧Lm.get k=none)∧cN L Lm ms xs ls
 | .io::_,_::_,[]=>False
 | .val::ms,_::xs,ls=>cN L Lm ms xs ls
 | .eD::ms,_::xs,ls=>cN L Lm ms xs ls
 |_,_,_=>True
theorem cN.mono {L0 L Lm:J} (h:bB L0 L): ∀{ms:List Mode} {xs:List AV} {ls:List (List AV)},cN L Lm ms xs ls→cN L0 Lm ms xs ls
 |[],xs,ls,_=>by simp [cN]
 |m::ms,[],ls,_=>by cases m<;>simp [cN]
 | .val::ms,x::xs,ls,hr=>by simp only [cN] at hr⊢;exact hr.mono h
 | .eD::ms,x::xs,ls,hr=>by simp only [cN] at hr⊢;exact hr.mono h
 | .io::ms,x::xs,[],hr=>by simp only [cN] at hr
 | .io::ms,x::xs,l::ls,hr=>by
  simp only [cN] at hr⊢;obtain ⟨⟨k,kv,b,h1,h2,h3,h4⟩,h5⟩:=hr;exact ⟨⟨k,kv,b,h1,J.ra h h2,h3,h4⟩,h5.mono h⟩
theorem mf: ∀(ms:List Mode) (vs:List AV) (L:J) (ls:List (List AV)) (Lm:J),eV ms vs L=some (ls,Lm)→bB L Lm∧cN L Lm ms vs ls
 |[],vs,L,ls,Lm,h=>by
  simp only [eV,Option.some.injEq,Prod.mk.injEq] at h;obtain ⟨rfl,rfl⟩:=h;exact ⟨.refl _,by simp [cN]⟩
 |m::ms,[],L,ls,Lm,h=>by
  cases m<;>(simp only [eV,Option.some.injEq,Prod.mk.injEq] at h;obtain ⟨rfl,rfl⟩:=h;exact ⟨.refl _,by simp [cN]⟩)
 | .val::ms,x::xs,L,ls,Lm,h=>by simp only [eV] at h;simpa only [cN] using mf ms xs L ls Lm h
 | .eD::ms,x::xs,L,ls,Lm,h=>by simp only [eV] at h;simpa only [cN] using mf ms xs L ls Lm h
 | .io::ms,x::xs,L,ls,Lm,h=>by
  simp only [eV] at h;split at h
  ·rename_i id ad hk;split at h
   ·rename_i b hb;split at h
    ·rename_i r H' hr
     simp only [Option.some.injEq,Prod.mk.injEq] at h;obtain ⟨rfl,rfl⟩:=h;obtain ⟨h1,h2⟩:=mf ms xs _ _ _ hr;refine ⟨(bB.del L id).trans h1,?_⟩;simp only [cN];refine ⟨⟨id,ad,b,hk,hb,rfl,?_⟩,h2.mono (bB.del L id)⟩;cases hq:H'.get id with
     |none=>rfl
     |some b=>have:=h1.get _ _ hq;rw [J.iy,if_pos rfl] at this;simp at this
    ·simp at h
   ·simp at h
  ·simp at h
def junk (b:bw):bw:={b with el:=b.el.map fun _=> .agg (List.replicate b.sz .undef)}
theorem ym {H:J} {id k:Nat} {b b' :bw} (h:(H.aZ id b).get k=some b'):(k=id∧b' =b)∨H.get k=some b' :=by
 unfold J.aZ J.get at h;simp only [List.getElem?_set] at h;by_cases hk:id=k
 ·subst hk;simp only [if_true] at h;split at h
  ·simp at h;exact .inl ⟨rfl,h.symm⟩
  ·simp at h
 ·rw [if_neg hk] at h;exact .inr h
theorem yn {H:J} {id:Nat} {b:bw} (h:id<H.bs.length) (k:Nat):(H.aZ id b).get k=if k=id then some b else H.get k:=by
 unfold J.aZ J.get;simp only [List.getElem?_set];by_cases hk:id=k
 ·subst hk;simp [h]
 ·rw [if_neg hk,if_neg (fun e=>hk e.symm)]
def gh (H0:J) (v:AV) (H:J):J:=
 match dB v with
 |some (id,ad)=>match H0.ap id ad with
  |some b=>H.aZ id (junk b)
  |none=>H
 |none=>H
theorem yo (H0:J) (v:AV) (H:J):(gh H0 v H).bs.length=H.bs.length∧(gh H0 v H).st=H.st:=by
 unfold gh;split
 ·split
  ·simp [J.aZ]
  ·exact ⟨rfl,rfl⟩
 ·exact ⟨rfl,rfl⟩
theorem ri (H0:J) (ms:List Mode) (v:AV) (vs:List AV) (H:J):cx H0 (.io::ms) (v::vs) H=cx H0 ms vs (gh H0 v H):=rfl
theorem yp {H0:J} {v:AV} {H:J} {k:Nat} {b' :bw} (h:(gh H0 v H).get k=some b'):H.get k=some b' ∨ ∃ad b,dB v=some (k,ad)∧H0.ap k ad=some b∧b' =junk b:=by
 unfold gh at h;split at h
 ·rename_i id ad hr;split at h
  ·rename_i b hb;rcases ym h with ⟨rfl,rfl⟩|h
   ·exact .inr ⟨ad,b,hr,hb,rfl⟩
   ·exact .inl h
  ·exact .inl h
 ·exact .inl h
theorem mg (H0:J): ∀(ms:List Mode) (as:List AV) (H:J),(cx H0 ms as H).bs.length=H.bs.length∧(cx H0 ms as H).st=H.st
 |[],as,H=>by simp [cx]
 |m::ms,[],H=>by cases m<;>simp [cx]
 | .val::ms,a::as,H=>by simp only [cx];exact mg H0 ms as H
 | .eD::ms,a::as,H=>by simp only [cx];exact mg H0 ms as H
 | .io::ms,a::as,H=>by
  rw [ri];have:=mg H0 ms as (gh H0 a H);have h2:=yo H0 a H;exact ⟨this.1.trans h2.1,this.2.trans h2.2⟩
theorem mh (H0:J) {Lx Lm:J} {φ :af} {L0:J} {aB:af}: ∀(ms:List Mode) (as vs:List AV) (ls:List (List AV)) (H:J) (k:Nat) (b' :bw),as.length=vs.length→b7 H0 φ L0 aB ms as vs→cN Lx Lm ms vs ls→
 (cx H0 ms as H).get k=some b' →H.get k=some b' ∨ ∃a x ad b kk kv bk,dB a=some (k,ad)∧H0.ap k ad=some b∧b' =junk b∧gU H0 φ L0 aB a x∧kd x=some (kk,kv)∧Lx.ap kk kv=some bk∧Lm.get kk=none
 |[],as,vs,ls,H,k,b',_,_,_,h=>by simp only [cx] at h;exact .inl h
 |m::ms,[],vs,ls,H,k,b',_,_,_,h=>by cases m<;>(simp only [cx] at h;exact .inl h)
 |m::ms,a::as,[],ls,H,k,b',hl,_,_,h=>by simp at hl
 | .val::ms,a::as,x::vs,ls,H,k,b',hl,h1,h2,h=>by
  simp only [cx] at h;exact mh H0 ms as vs ls H k b' (by simpa using hl) (by simpa only [b7] using h1) (by simpa only [cN] using h2) h
 | .eD::ms,a::as,x::vs,ls,H,k,b',hl,h1,h2,h=>by
  simp only [cx] at h;exact mh H0 ms as vs ls H k b' (by simpa using hl) (by simpa only [b7] using h1) (by simpa only [cN] using h2) h
 | .io::ms,a::as,x::vs,[],H,k,b',hl,h1,h2,h=>by simp only [cN] at h2
 | .io::ms,a::as,x::vs,l::ls,H,k,b',hl,h1,h2,h=>by
  rw [ri] at h;simp only [b7] at h1;simp only [cN] at h2;rcases mh H0 ms as vs ls _ k b' (by simpa using hl) h1.2 h2.2 h with h3|h3
  ·rcases yp h3 with h4|⟨ad,b,q1,q2,q3⟩
   ·exact .inl h4
   ·obtain ⟨kk,kv,bk,p1,p2,_,p4⟩:=h2.1;exact .inr ⟨a,x,ad,b,kk,kv,bk,q1,q2,q3,h1.1,p1,p2,p4⟩
  ·exact .inr h3
def Has (Hx:J) (id ad:Nat) (b:bw):Prop:= ∃b',Hx.ap id ad=some b' ∧b'.sz=b.sz∧b'.el.length=b.el.length
theorem Has.gh {H0 Hx:J} {id ad:Nat} {b:bw} (h0:H0.ap id ad=some b) (h:Has Hx id ad b) (v:AV):Has (gh H0 v Hx) id ad b:=by
 obtain ⟨b',h1,h2,h3⟩:=h;unfold VS.gh;split
 ·rename_i mj Bs hr;split
  ·rename_i b2 iu;have ax:id<Hx.bs.length:=J.fW (J.bp h1).1;by_cases bN:mj=id
   ·subst bN;have g1:=J.bp h0;have g2:=J.bp iu;have:b2=b:=by have:=g1.1.symm.trans g2.1;simp only [Option.some.injEq] at this;exact this.symm
    subst this;refine ⟨junk b2,?_,rfl,by simp [junk]⟩
    have:=J.fV (H:=Hx.aZ mj (junk b2)) (id:=mj) (b:=junk b2) (by rw [yn ax,if_pos rfl])
    rw [←g1.2];exact this
   ·refine ⟨b',?_,h2,h3⟩;have g:=J.bp h1;have:(Hx.aZ mj (junk b2)).get id=some b' :=by
     unfold J.aZ J.get;simp only [List.getElem?_set];rw [if_neg bN];exact g.1
    rw [←g.2];exact J.fV this
  ·exact ⟨b',h1,h2,h3⟩
 ·exact ⟨b',h1,h2,h3⟩
structure oQ (w:World) (A:ah) (aB:af) (w' :World) (aj:af) (AH:ah):Prop where
 own: ∀c,A c→ ¬Ow aB c→AH c
 d_: ∀c,Ow aj c→AH c
 bV: ∀c,AH c→c<w'.heap.size
 fz: ∀c arr T fr,w.heap[c]? =some (.cells arr T fr)→ ¬A c→(∃eF,w'.heap[c]? =some (.cells arr T eF))∧ ¬AH c
def yq (w:World) (L:J) (φL:af) (AL:ah) (H:J) (φ :af) (a:AV) (l:List AV):Prop:=
 (dB a=none→l=[])∧ ∀id ad,dB a=some (id,ad)→ ∃c b0 b arr T fr,H.ap id ad=some b∧ φ id=some (.at_ c b0)∧w.heap[c]? =some (.cells arr T fr)∧l.length=b.el.length∧
  (∀(i:Nat) (x:AV),l[i]? =some x→x.cells.length=b.sz)∧ ∀(i:Nat) (x:AV) (j:Nat) (y:AV) (v:Value),l[i]? =some x→x.cells[j]? =some y→arr[b0+i*b.sz+j]? =some v→R w L φL AL y v
def ef (w:World) (L:J) (φL:af) (AL:ah) (H:J) (φ :af):List Mode→List AV→List (List AV)→Prop
 | .io::ms,a::as,l::ls=>yq w L φL AL H φ a l∧ef w L φL AL H φ ms as ls
 | .val::ms,_::as,ls=>ef w L φL AL H φ ms as ls
 | .eD::ms,_::as,ls=>ef w L φL AL H φ ms as ls
 |_,_,_=>True
section back
variable {w w' :World} {A:ah} {H:J} {φ :af} {H1 L0:J} {aB:af} {A0:ah} {L:J} {aj:af} {A' AH:ah} {ms:List Mode} {as vs:List AV} {ls:List (List AV)} {Lm:J}
theorem oR (m:b9 w H φ A ⟨0,[]⟩ (fun _=>none) A H1 L0 aB) (ho:Out w L0 aB A0 w' L aj A') {a x:AV} (hr:gU H φ L0 aB a x) {kk kv:Nat} {bk:bw} (hk:kd x=some (kk,kv)) (hb:L.ap kk kv=some bk):
 (dB a=none→bk.el=[])∧ ∀id ad,dB a=some (id,ad)→ ∃b c b0,H.ap id ad=some b∧bk.sz=b.sz∧bk.el.length=b.el.length∧ φ id=some (.at_ c b0)∧aj kk=some (.at_ c b0)∧qa w' L aj A' bk (.at_ c b0):=by
 obtain ⟨k,Bt,b1,e1,e2,⟨loc,kO⟩,e3,e4⟩:=hr;rw [hk] at e1;simp only [Option.some.injEq,Prod.mk.injEq] at e1;obtain ⟨rfl,rfl⟩:=e1;obtain ⟨g1,g2⟩:=J.bp hb;obtain ⟨f1,f2⟩:=J.bp e2;have ax:kv<L0.st:=by
  obtain ⟨bb,p1,p2⟩:=m.bu.sh.ap kk loc kO;rw [f1] at p1;simp only [Option.some.injEq] at p1;subst p1;rw [←f2];exact p2.ad
 ·obtain ⟨b2,i1,i2,i3,i4,i5,i6⟩:=ho.bM.ids kk bk g1 (by omega)
  rw [f1] at i1;simp only [Option.some.injEq] at i1;subst i1;refine ⟨fun h=>List.eq_nil_of_length_eq_zero (by rw [i5,e3 h];rfl),fun id ad h=> ?_⟩
  obtain ⟨b,c,b0,q1,q2,q3,q4,q5⟩:=e4 id ad h;have hp:=i6 _ q5;obtain ⟨bb,p1,p2⟩:=ho.st.ap kk _ hp;rw [g1] at p1;simp only [Option.some.injEq] at p1;subst p1;exact ⟨b,c,b0,q1,i3.trans q2,i5.trans q3,q4,hp,p2⟩
theorem rj (ae:St w H φ A) (m:b9 w H φ A ⟨0,[]⟩ (fun _=>none) A H1 L0 aB) (hlen:as.length=vs.length) (dK:b7 H φ L0 aB ms as vs) (ho:Out w L0 aB A0 w' L aj A') (ha:oQ w A aB w' aj AH) (ht:eV ms vs L=some (ls,Lm)):
 bW w' Lm (aC aj Lm) A' (cx H ms as H1) (aC φ (cx H ms as H1)) AH∧bF w H φ A w' (cx H ms as H1) (aC φ (cx H ms as H1)) AH:=by
 obtain ⟨cZ,oS⟩:=mf _ _ _ _ _ ht;have br: ∀c,Ow aB c→Ow φ c:=fun c hc=>by
  rcases m.oh c hc with ⟨i,b,h⟩|h
  ·simp at h
  ·exact h.1
 have bz:=fun k b' =>mh H ms as vs ls H1 k b' hlen dK oS
 have oT:=(mg H ms as H1).2;have aP:bF w H φ A w' (cx H ms as H1) (aC φ (cx H ms as H1)) AH:=by
  refine ⟨ha.fz,by rw [oT,m.less.st];exact Nat.le_refl _,fun id b' aw _=> ?_,fun c hc=>ho.post.aY c (Ow.lt ae hc)⟩
  have bX: ∀loc,φ id=some loc→aC φ (cx H ms as H1) id=some loc:=fun loc h=>by simp [aC,aw,h]
  rcases bz id b' aw with h|⟨a,x,ad,b,kk,kv,bk,q1,q2,rfl,q4,q5,q6,q7⟩
  ·exact ⟨b',m.less.get _ _ h,rfl,rfl,rfl,rfl,bX⟩
  ·exact ⟨b,(J.bp q2).1,rfl,rfl,rfl,by simp [junk],bX⟩
 refine ⟨⟨dS ho.st cZ,⟨fun i i' c b b' h1 h2=>ae.inj _ _ _ _ _ (db h1).1 (db h2).1,fun c hc=> ?_,ha.bV,fun id loc hl=> ?_⟩,fun c hc hj=> ?_,fun c hc=>ha.d_ c (bH hc)⟩,aP⟩
 ·obtain ⟨id,b0,h⟩:=hc;obtain ⟨h1,b',aw⟩:=db h;rcases bz id b' aw with h2|⟨a,x,ad,b,kk,kv,bk,q1,q2,rfl,q4,q5,q6,q7⟩
  ·refine ha.own c (ae.own c ⟨id,b0,h1⟩) (m.bu.b8 c ⟨id,b0,?_⟩);simp [aC,h2,h1]
  ·obtain ⟨_,re⟩:=oR m ho q4 q5 q6;obtain ⟨b2,c2,oU,_,_,_,r4,r5,_⟩:=re id _ q1;rw [h1] at r4;simp only [Option.some.injEq,Loc.at_.injEq] at r4;obtain ⟨rfl,rfl⟩:=r4;exact ha.d_ c ⟨kk,b0,r5⟩
 ·obtain ⟨h1,b',aw⟩:=db hl;refine ⟨b',aw,?_⟩;rcases bz id b' aw with h2|⟨a,x,ad,b,kk,kv,bk,q1,q2,rfl,q4,q5,q6,q7⟩
  ·obtain ⟨b2,iu,ag⟩:=ae.ap id loc h1;rw [m.less.get _ _ h2] at iu;simp only [Option.some.injEq] at iu;subst iu;refine ⟨by rw [oT,m.less.st];exact ag.ad,ag.sized,ag.aN,fun c b0 he=> ?_⟩
   subst he;obtain ⟨arr,T,fr,k1,k2,k3,k4⟩:=ag.here c b0 rfl;have hn: ¬Ow aB c:=m.bu.b8 c ⟨id,b0,by simp [aC,h2,h1]⟩
   refine ⟨arr,T,fr,?_,k2,k3,fun i x j y v hx hy hv=>⟨(k4 i x j y v hx hy hv).1.mono aP,(k4 i x j y v hx hy hv).2⟩⟩;rw [ho.post.kept c (Ow.lt ae ⟨id,b0,h1⟩) hn];exact k1
  ·obtain ⟨_,re⟩:=oR m ho q4 q5 q6;obtain ⟨b2,c2,oU,r1,r2,r3,r4,r5,ag⟩:=re id _ q1;rw [h1] at r4;simp only [Option.some.injEq] at r4;subst r4;rw [q2] at r1;simp only [Option.some.injEq] at r1;subst r1;obtain ⟨b3,kA,yr⟩:=ae.ap id _ h1;rw [(J.bp q2).1] at kA;simp only [Option.some.injEq] at kA;subst kA;have hcs: ∀(i:Nat) (x:AV),(junk b).el[i]? =some x→i<b.el.length∧x= .agg (List.replicate b.sz .undef):=by
    intro i x hx;simp only [junk,List.getElem?_map,Option.map_eq_some_iff] at hx;obtain ⟨z,hz,rfl⟩:=hx;exact ⟨(List.getElem?_eq_some_iff.1 hz).1,rfl⟩
   refine ⟨by rw [oT,m.less.st];exact yr.ad,fun i x hx=>by rw [(hcs i x hx).2];simp [AV.cells,junk],fun h=>by simp at h,fun c b0 he=> ?_⟩
   simp only [Loc.at_.injEq] at he;obtain ⟨rfl,rfl⟩:=he;obtain ⟨arr,T,fr,k1,k2,k3,k4⟩:=ag.here c2 oU rfl;refine ⟨arr,T,fr,k1,k2,by simp only [junk,List.length_map];rw [←r3,←r2];exact k3,fun i x j y v hx hy hv=> ?_⟩
   obtain ⟨hi,rfl⟩:=hcs i x hx;have hj:j<b.sz:=by have:=(List.getElem?_eq_some_iff.1 hy).1;simpa [AV.cells] using this
   have yt:y= .undef:=by simp only [AV.cells] at hy;rw [List.getElem?_replicate,if_pos hj] at hy;simpa using hy.symm
   subst yt;refine ⟨.fr _ _ (.undef _),?_⟩;have rk:=List.getElem?_eq_getElem (show i<bk.el.length by omega)
   exact (k4 i _ j _ v rk (List.getElem?_eq_getElem (show j<_ by rw [ag.sized _ _ rk,r2];exact hj)) (by rw [r2];exact hv)).2
 ·obtain ⟨id,b0,h⟩:=hj;obtain ⟨h1,b',aw⟩:=db h;rcases bz id b' aw with h2|⟨a,x,ad,b,kk,kv,bk,q1,q2,rfl,q4,q5,q6,q7⟩
  ·rcases ho.post.own c (bH hc) with h3|h3
   ·exact m.bu.b8 c ⟨id,b0,by simp [aC,h2,h1]⟩ h3
   ·have:=Ow.lt ae ⟨id,b0,h1⟩;omega
  ·obtain ⟨_,re⟩:=oR m ho q4 q5 q6;obtain ⟨b2,c2,oU,_,_,_,r4,r5,_⟩:=re id _ q1;rw [h1] at r4;simp only [Option.some.injEq,Loc.at_.injEq] at r4;obtain ⟨rfl,rfl⟩:=r4;obtain ⟨i,bb,hi⟩:=hc;obtain ⟨fc,bx,rl⟩:=db hi;have:=ho.st.inj _ _ _ _ _ fc r5;subst this;rw [q7] at rl;simp at rl
end back
end Go.VS
namespace Go.VS
section back
variable {w:World} {AL AH:ah}
structure Mv (w:World) (L:J) (φL:af) (AL:ah) (H:J) (φ :af) (AH:ah) (L1 H1:J) (φ1:af):Prop where
 less:bB L L1
 bu:bW w L1 (aC φL L1) AL H1 φ1 AH
 eh:bF w H φ AH w H1 φ1 AH
 oh: ∀c,Ow φ1 c→Ow φ c∨(Ow φL c∧ ¬Ow (aC φL L1) c)
 has: ∀id ad b,H.ap id ad=some b→ ∃b',H1.ap id ad=some b' ∧b'.sz=b.sz∧b'.el.length=b.el.length
 bX: ∀id loc,φ id=some loc→ φ1 id=some loc
theorem Mv.trans {L L1 L2:J} {φL:af} {H H1 H2:J} {φ φ1 a_:af} (h:Mv w L φL AL H φ AH L1 H1 φ1) (k:Mv w L1 (aC φL L1) AL H1 φ1 AH L2 H2 a_):Mv w L φL AL H φ AH L2 H2 a_:=by
 have hr:=fE (φ := φL) k.less;refine ⟨h.less.trans k.less,by rw [←hr];exact k.bu,h.eh.trans k.eh (fun _ _=>rfl),fun c hc=> ?_,fun id ad b hb=> ?_,fun id loc hl=>k.bX id loc (h.bX id loc hl)⟩
 ·rcases k.oh c hc with h1|⟨h1,h2⟩
  ·rcases h.oh c h1 with h3|⟨h3,h4⟩
   ·exact .inl h3
   ·refine .inr ⟨h3,fun h5=>h4 ?_⟩;rw [←hr] at h5;exact bH h5
  ·rw [hr] at h2;exact .inr ⟨bH h1,h2⟩
 ·obtain ⟨b1,e1,e2,e3⟩:=h.has id ad b hb;obtain ⟨b2,f1,f2,f3⟩:=k.has id ad b1 e1;exact ⟨b2,f1,f2.trans e2,f3.trans e3⟩
theorem iv.refl {w:World} {c:Nat} {o:Obj} (h:w.heap[c]? =some o):iv w c o w:=⟨h,fun _ _=>rfl,rfl,rfl,rfl,rfl⟩
theorem ef.mono {L L1:J} {φL:af} {H H1:J} {φ φ1:af} (hl:bB L L1) (has: ∀id ad b,H.ap id ad=some b→ ∃b',H1.ap id ad=some b' ∧b'.sz=b.sz∧b'.el.length=b.el.length) (bX: ∀id loc,φ id=some loc→ φ1 id=some loc):
 ∀{ms:List Mode} {as:List AV} {ls:List (List AV)},ef w L φL AL H φ ms as ls→ef w L1 (aC φL L1) AL H1 φ1 ms as ls
 |[],as,ls,_=>by simp [ef]
 |m::ms,[],ls,_=>by cases m<;>simp [ef]
 | .val::ms,a::as,ls,h=>by simp only [ef] at h⊢;exact ef.mono hl has bX h
 | .eD::ms,a::as,ls,h=>by simp only [ef] at h⊢;exact ef.mono hl has bX h
 | .io::ms,a::as,[],h=>by simp [ef]
 | .io::ms,a::as,l::ls,h=>by
  simp only [ef] at h⊢;refine ⟨⟨h.1.1,fun id ad hr=> ?_⟩,ef.mono hl has bX h.2⟩;obtain ⟨c,b0,b,arr,T,fr,k1,k2,k3,k4,k5,k6⟩:=h.1.2 id ad hr;obtain ⟨b',e1,e2,e3⟩:=has id ad b k1;exact ⟨c,b0,b',arr,T,fr,e1,bX _ _ k2,k3,by rw [k4,e3],fun i x hx=>by rw [e2];exact k5 i x hx,fun i x j y v hx hy hv=>(k6 i x j y v hx hy (by rw [←e2];exact hv)).mono (cV hl)⟩
theorem rm: ∀(sh:List (List Sh)) (rs:List AV) (us:List Value) (L:J) (φL:af) (H:J) (φ :af) (ys:List AV) (L1:J),bW w L φL AL H φ AH→rs.length=us.length→
 (∀(i:Nat) (x:AV) (u:Value),rs[i]? =some x→us[i]? =some u→R w L φL AL x u)→di sh rs L=some (ys,L1)→dJ AL AH ys→
 ∃ φ1,b9 w L φL AL H φ AH L1 (aG ys H).2 φ1∧(aG ys H).1.length=us.length∧ ∀(i:Nat) (x:AV) (u:Value),(aG ys H).1[i]? =some x→us[i]? =some u→R w (aG ys H).2 φ1 AH x u
 |sh,[],us,L,φL,H,φ,ys,L1,hd,hl,hr,ht,hk=>by
  simp only [di,Option.some.injEq,Prod.mk.injEq] at ht;obtain ⟨rfl,rfl⟩:=ht;exact ⟨φ,.refl hd,hl,by simp [aG]⟩
 |sh,x::rs,u::us,L,φL,H,φ,ys,L1,hd,hl,hr,ht,hk=>by
  simp only [di] at ht;split at ht
  rotate_left
  ·simp at ht
  rename_i y L' h1
  split at ht
  rotate_left
  ·simp at ht
  rename_i aS cY h2
  simp only [Option.some.injEq,Prod.mk.injEq] at ht;obtain ⟨rfl,rfl⟩:=ht;obtain ⟨k1,k2⟩:=hk.cons;obtain ⟨φ1,m1,r1⟩:=qU hd (hr 0 x u rfl rfl) h1 rfl k1;obtain ⟨a_,m2,l2,r2⟩:=rm sh.tail rs us L' (aC φL L') (aI y H).2 φ1 aS cY m1.bu (by simpa using hl) (fun i x u hx hu=>(hr (i+1) x u hx hu).mono (cV m1.less)) h2 k2
  refine ⟨a_,m1.trans m2,by simp [aG,l2],fun i x' u' hx hu=> ?_⟩
  cases i with
  |zero=>simp [aG] at hx hu;subst hx;subst hu;exact r1.mono m2.eh
  |succ i=>simp only [aG,List.getElem?_cons_succ] at hx hu;exact r2 i x' u' hx hu
 |sh,x::rs,[],L,φL,H,φ,ys,L1,hd,hl,hr,ht,hk=>by simp at hl
theorem rn: ∀(sh:List (List Sh)) (rs:List AV) (L:J) (ys:List AV) (L1:J),di sh rs L=some (ys,L1)→bB L L1
 |sh,[],L,ys,L1,ht=>by simp only [di,Option.some.injEq,Prod.mk.injEq] at ht;obtain ⟨rfl,rfl⟩:=ht;exact .refl _
 |sh,x::rs,L,ys,L1,ht=>by
  simp only [di] at ht;split at ht
  ·rename_i y L' h1
   split at ht
   ·rename_i aS cY h2
    simp only [Option.some.injEq,Prod.mk.injEq] at ht;obtain ⟨rfl,rfl⟩:=ht;exact (ff _ _ _ _ _ h1).trans (rn _ rs _ _ _ h2)
   ·simp at ht
  ·simp at ht
theorem rq {es:List Sh} {x:AV} {v:Value} {L:J} {φL:af} {A' :ah} {y:AV} {L1:J} (ae:St w L φL AL) (hx:R w L φL AL x v) (ht:a8 es x L=some (y,L1)) (hk: ∀c,A' c→gone φL AL L1 c):FR w A' (bA y) v:=by
 by_cases bT: ∃cs,x= .agg cs
 ·obtain ⟨cs,rfl⟩:=bT;obtain ⟨aV,hc,rfl⟩:=kL ht;obtain ⟨vs,rfl,hl,ho,hp⟩:=hx.fu;obtain ⟨l1,r1⟩:=oM es cs vs.toList L φL AL A' aV L1 ae (by simpa using hl) (fun j c u hj hu=>hp j c u hj (by simpa using hu)) hc hk
  exact .agg _ _ (by rw [l1,hl]) ho fun i x v hx hv=>r1 i x v hx (by simpa using hv)
 ·obtain ⟨e,rfl,ct⟩:=ja (fun cs h=>bT ⟨cs,h⟩) ht;exact (ma e x v L φL AL A' y L1 ae hx ct hk).1
theorem oV {A' :ah}: ∀(sh:List (List Sh)) (rs:List AV) (us:List Value) (L:J) (φL:af) (ys:List AV) (L1:J),St w L φL AL→rs.length=us.length→
 (∀(i:Nat) (x:AV) (u:Value),rs[i]? =some x→us[i]? =some u→R w L φL AL x u)→di sh rs L=some (ys,L1)→(∀c,A' c→gone φL AL L1 c)→
 (bR ys).length=us.length∧ ∀(i:Nat) (x:AV) (u:Value),(bR ys)[i]? =some x→us[i]? =some u→FR w A' x u
 |sh,[],us,L,φL,ys,L1,hd,hl,hr,ht,hk=>by
  simp only [di,Option.some.injEq,Prod.mk.injEq] at ht;obtain ⟨rfl,rfl⟩:=ht;exact ⟨hl,by simp [bR]⟩
 |sh,x::rs,u::us,L,φL,ys,L1,hd,hl,hr,ht,hk=>by
  simp only [di] at ht;split at ht
  rotate_left
  ·simp at ht
  rename_i y L' h1
  split at ht
  rotate_left
  ·simp at ht
  rename_i aS cY h2
  simp only [Option.some.injEq,Prod.mk.injEq] at ht;obtain ⟨rfl,rfl⟩:=ht;have cZ:=ff _ _ _ _ _ h1;have da:=rn _ _ _ _ _ h2;have r1:=rq (A' :=A') hd (hr 0 x u rfl rfl) h1 (fun c hc=>oI da (hk c hc))
  obtain ⟨l2,r2⟩:=oV sh.tail rs us L' (aC φL L') aS cY (dS hd cZ) (by simpa using hl) (fun i x u hx hu=>(hr (i+1) x u hx hu).mono (cV cZ)) h2 (fun c hc=>by
   obtain ⟨k1,k2⟩:=hk c hc;exact ⟨k1,fun ho=>by rw [fE da];exact k2 (bH ho)⟩)
  refine ⟨by simp [bR,l2],fun i x' u' hx hu=> ?_⟩
  cases i with
  |zero=>simp [bR] at hx hu;subst hx;subst hu;exact r1
  |succ i=>simp only [bR,List.getElem?_cons_succ] at hx hu;exact r2 i x' u' hx hu
 |sh,x::rs,[],L,φL,ys,L1,hd,hl,hr,ht,hk=>by simp at hl
end back
end Go.VS
namespace Go.VS
def gV:List Value→Value
 |[v]=>v
 |vs=> .tuple vs.toArray
def gi (P:Program) (f:FuncId):Prop:= ∃fn,P.funcs[f]? =some fn∧(fn.name== "runtime.NumGoroutine")=false∧fn.body.isNone=false
def iA (w:World) (H:J) (φ :af) (A:ah) (K:AV→J→Prop) (e:Ending) (w' :World):Prop:=
 match e with
 | .returned v' => ∃x H' aj A',Out w H φ A w' H' aj A' ∧R w' H' aj A' x v' ∧K x H'
 |_=>False
theorem iA.mono {w:World} {H:J} {φ :af} {A:ah} {K K' :AV→J→Prop} (h: ∀v H,K v H→K' v H) {e:Ending} {w' :World} (k:iA w H φ A K e w'):iA w H φ A K' e w' :=by
 cases e with
 |returned v' =>obtain ⟨x,H',aj,A',h1,h2,h3⟩:=k;exact ⟨x,H',aj,A',h1,h2,h _ _ h3⟩
 |panicked c=>exact k
 |outgrown=>exact k
def b_ (P:Program):bq:=fun f ys H K=>gi P f∧
 ∀(w:World) (A:ah) (φ :af) (us:Array Value),St w H φ A→ys.length=us.size→
  (∀(i:Nat) (x:AV) (u:Value),ys[i]? =some x→us[i]? =some u→R w H φ A x u)→Calls P f us w (iA w H φ A K)
theorem b_.mono {P:Program} {f:FuncId} {ys:List AV} {H:J} {K K' :AV→J→Prop} (h: ∀v H,K v H→K' v H) (k:b_ P f ys H K):b_ P f ys H K' :=
 ⟨k.1,fun w A φ us h1 h2 h3=>(k.2 w A φ us h1 h2 h3).mono fun _ _ he=>he.mono h⟩
def Exact (X:bq):Prop:= ∀f ys H K,X f ys H K→ ∃v H',X f ys H (fun v1 H1=>v1=v∧H1=H')∧K v H'
theorem St.shrink {w:World} {H:J} {φ :af} {A A' :ah} (h:St w H φ A) (h1: ∀c,A' c→A c) (h2: ∀c,Ow φ c→A' c):St w H φ A' :=by
 refine ⟨h.inj,h2,fun c hc=>h.bV c (h1 c hc),fun id loc hl=> ?_⟩;obtain ⟨b,hb,ag⟩:=h.ap id loc hl;refine ⟨b,hb,ag.ad,ag.sized,ag.aN,fun c b0 he=> ?_⟩;obtain ⟨arr,T,fr,k1,k2,k3,k4⟩:=ag.here c b0 he;exact ⟨arr,T,fr,k1,k2,k3,fun i x j y v hx hy hv=>⟨(k4 i x j y v hx hy hv).1.l9 h1,(k4 i x j y v hx hy hv).2⟩⟩
section
variable {w:World} {H:J} {φ :af} {A:ah}
theorem oW {xs:List AV} {us:List Value} (hl:xs.length=us.length) (h: ∀(i:Nat) (x:AV) (u:Value),xs[i]? =some x→us[i]? =some u→R w H φ A x u):R w H φ A (cB xs) (gV us):=by
 have key: ∀{xs:List AV} {us:List Value},xs.length=us.length→(∀(i:Nat) (x:AV) (u:Value),xs[i]? =some x→us[i]? =some u→R w H φ A x u)→R w H φ A (.ay xs) (.tuple us.toArray):=
  fun hl h=> .ay _ _ (by simpa using hl) fun i x v hx hv=>h i x v hx (by simpa using hv)
 match xs,us,hl with
 |[],[],hl=>exact key hl h
 |[x],[u],_=>exact h 0 x u rfl rfl
 |x::x' ::xs,u::u' ::us,hl=>exact key hl h
theorem rr {xs:List AV} {us:List Value} (hl:xs.length=us.length) (h: ∀(i:Nat) (x:AV) (u:Value),xs[i]? =some x→us[i]? =some u→FR w A x u):FR w A (cB xs) (gV us):=by
 have key: ∀{xs:List AV} {us:List Value},xs.length=us.length→(∀(i:Nat) (x:AV) (u:Value),xs[i]? =some x→us[i]? =some u→FR w A x u)→FR w A (.ay xs) (.tuple us.toArray):=
  fun hl h=> .ay _ _ (by simpa using hl) fun i x v hx hv=>h i x v hx (by simpa using hv)
 match xs,us,hl with
 |[],[],hl=>exact key hl h
 |[x],[u],_=>exact h 0 x u rfl rfl
 |x::x' ::xs,u::u' ::us,hl=>exact key hl h
end
theorem ru (zs:List AV) (H:J):aI (cB zs) H=(cB (aG zs H).1,(aG zs H).2):=by
 match zs with
 |[]=>rfl
 |[z]=>rfl
 |z::z' ::zs=>rfl
theorem rv (zs:List AV):bA (cB zs)=cB (bR zs):=by
 match zs with
 |[]=>rfl
 |[z]=>rfl
 |z::z' ::zs=>rfl
theorem ry (zs:List AV):dh (cB zs)=ic zs:=by
 match zs with
 |[]=>rfl
 |[z]=>simp [cB,ic]
 |z::z' ::zs=>rfl
theorem rz {xs:List AV} {v:Value} {w:World} {H:J} {φ :af} {A:ah} (h:R w H φ A (cB xs) v): ∃us:List Value,v=gV us∧xs.length=us.length∧ ∀(i:Nat) (x:AV) (u:Value),xs[i]? =some x→us[i]? =some u→R w H φ A x u:=by
 have key: ∀{xs:List AV},xs.length≠1→R w H φ A (.ay xs) v→ ∃us:List Value,v=gV us∧xs.length=us.length∧ ∀(i:Nat) (x:AV) (u:Value),xs[i]? =some x→us[i]? =some u→R w H φ A x u:=by
  intro xs hl h;obtain ⟨vs,rfl,h1,h2⟩:=h.lD;refine ⟨vs.toList,?_,by simpa using h1,fun i x u hx hu=>h2 i x u hx (by simpa using hu)⟩
  have c8:vs.toList.length≠1:=by simp only [Array.length_toList];omega
  generalize hv:vs.toList=l at c8;have:Value.tuple vs= .tuple l.toArray:=by rw [←hv]
  rw [this]
  match l with
  |[]=>rfl
  |[u]=>exact absurd rfl c8
  |u::u' ::l=>rfl
 match xs with
 |[]=>exact key (by simp) h
 |[x]=>exact ⟨[v],rfl,rfl,fun i x' u hx hu=>by
  cases i with
  |zero=>simp at hx hu;subst hx;subst hu;exact h
  |succ i=>simp at hx⟩
 |x::x' ::xs=>exact key (by simp) h
def ml (ms:List Mode):Prop:= ∀m∈ms,m= .val
theorem oX: ∀(ms:List Mode) (sh:List (List Sh)) (as:List AV) (H:J),ml ms→fl ms sh as H=some (as,H)
 |[],sh,as,H,_=>rfl
 |m::ms,sh,[],H,_=>rfl
 |m::ms,sh,a::as,H,h=>by
  have hm:=h m (by simp)
  subst hm;simp only [fl,eQ,oX ms sh.tail as H (fun m hm=>h m (by simp [hm]))]
theorem oY (H0:J): ∀(ms:List Mode) (as:List AV) (H:J),ml ms→cx H0 ms as H=H
 |[],as,H,_=>by simp [cx]
 |m::ms,[],H,_=>by cases m<;>simp [cx]
 |m::ms,a::as,H,h=>by
  have hm:=h m (by simp)
  subst hm;simp only [cx];exact oY H0 ms as H (fun m hm=>h m (by simp [hm]))
theorem jO {w:World} {H:J} {φ :af} {A:ah} (ae:St w H φ A):aC φ H= φ :=by
 funext id
 unfold aC;cases hp: φ id with
 |none=>simp
 |some loc=>obtain ⟨b,hb,_⟩:=ae.ap id loc hp;simp [hb]
theorem oZ {H:J}: ∀(as ys:List AV) (b:Bool),cb [] as H=some (ys,b)→ ∀L,ca [] ys L=(ys,L)
 |[],ys,b,h,L=>by simp only [cb,Option.some.injEq,Prod.mk.injEq] at h;obtain ⟨rfl,_⟩:=h;rfl
 |a::as,ys,b,h,L=>by
  simp only [cb] at h;split at h
  ·rename_i y hy;split at h
   ·rename_i aS b' cq
    simp only [Option.some.injEq,Prod.mk.injEq] at h;obtain ⟨rfl,_⟩:=h;simp only [ca,mb H 8 a y hy,List.tail_nil,oZ as aS b' cq]
   ·simp at h
  ·simp at h
theorem yu {P:Program} {C:aH} {X:bq} (hX: ∀f ys H K,X f ys H K→b_ P f ys H K) {w:World} {H:J} {φ :af} {A:ah} (ae:St w H φ A) {f:FuncId} {as:List AV} {us:Array Value} (hl:as.length=us.size)
 (hr: ∀(i:Nat) (x:AV) (u:Value),as[i]? =some x→us[i]? =some u→R w H φ A x u) {th:Bool} {K:AV→J→Prop} (h:dj X C f as th H K):gi P f∧Calls P f us w (iA w H φ A K):=by
 unfold dj at h;split at h
 ·exact h.elim
 rename_i ys bU hy;obtain ⟨y,kP,gT,hp⟩:=h;have hm:ml []:=fun m hm=>by simp at hm
 have o0:bW w H φ A ⟨0,[]⟩ (fun _=>none) A:=by
  refine ⟨ae,⟨fun i i' c b b' h=>by simp at h,fun c hc=> ?_,ae.bV,fun id loc h=>by simp at h⟩,fun c _ hc=> ?_,ae.own⟩
  ·obtain ⟨i,b,h⟩:=hc;simp at h
  ·obtain ⟨i,b,h⟩:=hc;simp at h
 have o7:ca [] ys ⟨0,[]⟩=(ys,⟨0,[]⟩):=oZ _ _ _ hy _;obtain ⟨aB,m,cu,dK⟩:=me as [] [] us.toList H φ as H ys bU ⟨0,[]⟩ (fun _=>none) ys ⟨0,[]⟩ o0 (by simpa using hl) (fun i x u hx hu=>hr i x u hx (by simpa using hu)) (oX _ _ _ _ hm) hy o7
 have br: ∀c,¬Ow aB c:=fun c hc=>by
  rcases m.oh c hc with ⟨i,b,h⟩|⟨h1,h2⟩
  ·simp at h
  ·rw [jO ae] at h2;exact h2 h1
 let A0:ah:=if bU=true then Ow aB else A
 have jc: ∀c,A0 c→A c:=by
  intro c hc;simp only [A0] at hc;split at hc
  ·exact absurd hc (br c)
  ·exact hc
 have o8:bU=true→ ∀c,A0 c→fg (aC φ H) A c:=by
  intro ax c hc;simp only [A0,ax,if_true] at hc;exact absurd hc (br c)
 have cO:St w ⟨0,[]⟩ aB A0:=m.bu.sh.shrink jc (fun c hc=>absurd hc (br c));have eK:ys.length=us.size:=by simpa using cu.1
 refine ⟨(hX _ _ _ _ kP).1,((hX _ _ _ _ kP).2 w A0 aB us cO eK (fun i x u hx hu=>cu.2 A0 jc o8 i x u hx (by simpa using hu))).mono fun e w' he=> ?_⟩
 cases e with
 |panicked c=>exact he.elim
 |outgrown=>exact he.elim
 |returned v' =>
 obtain ⟨x0,L,aj,A',ho,o9,rs,gg,L2,rfl,kQ,rfl⟩:=he;obtain ⟨cz,rfl,gj,gR⟩:=rz o9
 let AH:ah:=if bU=true then fun c=>A c∨(A' c∧w.heap.size≤c) else A'
 have jd: ∀c,Ow aj c→w.heap.size≤c:=fun c hc=>(ho.post.own c hc).resolve_left (br c)
 have ha:oQ w A aB w' aj AH:=by
  refine ⟨fun c hc hn=> ?_,fun c hc=> ?_,fun c hc=> ?_,fun c arr T fr hc hn=> ?_⟩
  ·simp only [AH];split
   ·exact .inl hc
   ·rename_i ax;refine ho.keep c ?_ hn;simp only [A0,ax];exact hc
  ·simp only [AH];split
   ·exact .inr ⟨ho.st.own c hc,jd c hc⟩
   ·exact ho.st.own c hc
  ·simp only [AH] at hc;split at hc
   ·rcases hc with h|⟨h,_⟩
    ·exact Nat.lt_of_lt_of_le (ae.bV c h) ho.post.size
    ·exact ho.st.bV c h
   ·exact ho.st.bV c hc
  ·obtain ⟨h1,h2⟩:=ho.bM.fz c arr T fr hc (fun h=>hn (jc c h));refine ⟨h1,?_⟩;simp only [AH];split
   ·rintro (h|⟨_,h⟩)
    ·exact hn h
    ·have:c<w.heap.size:=by
      rcases Nat.lt_or_ge c w.heap.size with h' |h'
      ·exact h'
      ·rw [Array.getElem?_eq_none h'] at hc;simp at hc
     omega
   ·exact h2
 obtain ⟨D,E⟩:=rj (ls:=[]) (Lm:=L) ae m (by rw [hl,eK]) dK ho ha (by simp [eV])
 rw [oY _ _ _ _ hm,jO ae] at D E;have o_:dJ A' AH gg:=by
  cases ax:bU with
  |false=>exact .inl fun c h=>by simpa [AH,ax] using h
  |true=>
   rcases gT with h|h
   ·rw [ax] at h;simp at h
   ·rw [ry] at h;exact .inr h
 have je: ∀(i:Nat) (x:AV) (u:Value),rs[i]? =some x→cz[i]? =some u→R w' L (aC aj L) A' x u:=fun i x u hx hu=>by
  rw [jO ho.st];exact gR i x u hx hu
 have eZ: ∀{cP:af},(∀c,Ow cP c→Ow φ c∨Ow aj c)→eW w φ w' cP:=fun hq=>
  ⟨ho.post.os,ho.post.tape,ho.post.output,ho.post.size,fun c hc _=>ho.post.kept c hc (br c),ho.post.aY,fun c hc=>by
   rcases hq c hc with h|h
   ·exact .inl h
   ·exact .inr (jd c h)⟩
 have jf: ∀c,A c→ ¬Ow φ c→AH c:=fun c hc _=>ha.own c hc (br c);have cp: ∀c,Ow φ c→aY w' c=aY w c:=fun c hc=>ho.post.aY c (Ow.lt ae hc)
 cases fD:(th||bU) with
 |true=>
  rw [fD] at hp;simp only [if_true,ru] at hp;obtain ⟨cP,m3,l3,r3⟩:=rm _ rs cz L _ H φ gg L2 D gj je kQ o_
  refine ⟨_,_,cP,AH,⟨m3.bu.sh,eZ fun c hc=> ?_,E.trans m3.eh cp,jf⟩,oW l3 r3,hp⟩;rcases m3.oh c hc with h|⟨h,_⟩
  ·exact .inl h
  ·exact .inr (bH h)
 |false=>
  rw [fD] at hp;simp only [Bool.false_eq_true,if_false,rv] at hp;simp only [Bool.or_eq_false_iff] at fD;have pa:AH=A' :=by simp [AH,fD.2]
  rw [pa] at D E jf
  let A2:ah:=gone (aC aj L) A' L2
  obtain ⟨l3,r3⟩:=oV (A' :=A2) _ rs cz L (aC aj L) gg L2 D.sl gj je kQ (fun c h=>h)
  have pb: ∀c,Ow φ c→A2 c:=fun c hc=>⟨D.sh.own c hc,fun h=>absurd hc (D.b8 c h)⟩;have pc:bF w H φ A w' H φ A2:=⟨fun c arr T fr hc hn=>⟨(E.fz c arr T fr hc hn).1,fun h2=>(E.fz c arr T fr hc hn).2 h2.1⟩,E.st,E.ids,E.sz⟩
  refine ⟨_,_,φ,A2,⟨D.sh.shrink (fun c h=>h.1) pb,eZ fun c hc=> .inl hc,pc,fun c hc hn=>⟨jf c hc hn,fun h=> ?_⟩⟩,.fr _ _ (rr l3 r3),hp⟩;have:=jd c (bH h)
  have:=ae.bV c hc;omega
end Go.VS
namespace Go.VS
section ops
variable {P:Program} {C:aH} {X:bq} {w:World} {H:J} {φ :af} {A:ah}
theorem yv {f:FuncId} (h:gi P f) (args:Array Value) (w:World):(callFunc f args).run P w= .ok (.enter f args) w:=by
 obtain ⟨fn,h1,h2,h3⟩:=h;have kN:fn.name≠ "runtime.NumGoroutine" :=by simpa using h2
 have yw:fn.body≠none:=by intro e;rw [e] at h3;simp at h3
 simp [callFunc,h1,kN,yw]
theorem rA {o:Oper} {ρ :Operand→Value} {x:Operand} {args:Array Operand} {tys:Array TypeId} (ho:o.op= .call {callee:= .value x,args,argTypes:=tys}) {g:FuncId} {b5:Array Value} (hx: ρ x= .func (.func g) #[] b5) (hc:gi P g):
 (execOp ρ o).run P w= .ok (.enter g (args.map ρ ++ b5)) w:=by
 simp [execOp,ho,resolve,hx,Deferred.ofValue,invoke,yv hc]
theorem rB {o:Oper} {ρ :Operand→Value} {b:Builtin} {args:Array Operand} {tys:Array TypeId} (ho:o.op= .call {callee:= .builtin b,args,argTypes:=tys}):
 ∃consts,(execOp ρ o).run P w=(builtin b tys o.type consts (args.map ρ)).run P w:=
 ⟨_,by simp only [execOp,ho,resolve,invoke,Sem.run_bind,Sem.run_pure,Result.andThen_ok];rfl⟩
theorem cd.upon {H' :J} {r:Result Next} {x:AV} (h:cd w H φ A H' r x) {o:Oper} {a:Act} {next:Act→World→Prop} {Q:Exit→Act→World→Prop}
 (hn: ∀v w' aj A',Out w H φ A w' H' aj A' →R w' H' aj A' x v→next (a.put o.dst v) w'):o.upon P a next Q r:=by
 obtain ⟨n,v,w',aj,A',rfl,hv,hr,ho⟩:=h;rcases hv with rfl|⟨rfl,rfl⟩
 ·exact hn v w' aj A' ho hr
 ·exact hn _ w' aj A' ho hr
theorem mm (hE: ∀t ti,C.E t=some ti→aQ P t ti) (hX: ∀f ys H K,X f ys H K→b_ P f ys H K) (ae:St w H φ A) {o:Oper} {s:ak} {a:Act} (hs: ∀x∈o.op.operands,R w H φ A (ev s x) (a.eval x)) {th:Bool} {K:AV→J→Prop} (h:wpOp X C false th o s H K)
 {next:Act→World→Prop} {Q:Exit→Act→World→Prop} (hn: ∀x v w' H' aj A',Out w H φ A w' H' aj A' →R w' H' aj A' x v→K x H' →next (a.put o.dst v) w'):o.wp P a w next Q:=by
 have kR: ∀(hh:(match aO C.E o.op s H with|some (v,H')=>K v H' |none=>False)),o.wp P a w next Q:=by
  intro hh;split at hh
  ·rename_i v H' he
   exact (x9 hE ae hs he).upon (fun u w' aj A' h1 h2=>hn v u w' H' aj A' h1 h2 hh)
  ·exact hh.elim
 unfold wpOp at h;split at h
 ·rename_i b args tys bn;obtain ⟨_,h⟩:=h;split at h
  ·rename_i v H' he
   obtain ⟨consts,cK⟩:=rB (P:=P) (w:=w) (ρ :=a.eval) bn;have:=x_ hE ae (ty:=o.type) (consts:=consts) (vs:=args.map a.eval) (by simp) (fun i x u hx hu=>by
    simp only [List.getElem?_map,Option.map_eq_some_iff] at hx;obtain ⟨y,hy,rfl⟩:=hx;simp only [Array.getElem?_map,Option.map_eq_some_iff] at hu;obtain ⟨y',dZ,rfl⟩:=hu;have:y' =y:=by simp at hy;rw [hy] at dZ;simpa using dZ.symm
    subst this;exact hs y' (by rw [bn];simp only [Op.operands,Call.operands];simp [Array.mem_of_getElem? dZ])) he
   rw [←cK] at this;exact this.upon (fun u w' aj A' h1 h2=>hn v u w' H' aj A' h1 h2 h)
  ·exact h.elim
 ·rename_i x args tys bn;split at h
  ·rename_i g b5 hg;simp only [Bool.false_eq_true,if_false] at h;have hx:=hs x (by rw [bn];simp [Op.operands,Call.operands])
   rw [hg] at hx;obtain ⟨vs,hv,hl,hp⟩:=hx.kf;have rC: ∀(i:Nat) (y:AV) (u:Value),(args.toList.map (ev s) ++ b5)[i]? =some y→(args.map a.eval ++ vs)[i]? =some u→R w H φ A y u:=fun i y u hy hu=>by
    rcases Nat.lt_or_ge i args.size with hi|hi
    ·rw [List.getElem?_append_left (by simpa using hi)] at hy
     rw [Array.getElem?_append_left (by simpa using hi)] at hu
     simp only [List.getElem?_map,Option.map_eq_some_iff] at hy;obtain ⟨z,hz,rfl⟩:=hy;simp only [Array.getElem?_map,Option.map_eq_some_iff] at hu;obtain ⟨z',dF,rfl⟩:=hu;have:z' =z:=by simp at hz;rw [hz] at dF;simpa using dF.symm
     subst this;exact hs z' (by rw [bn];simp only [Op.operands,Call.operands];simp [Array.mem_of_getElem? dF])
    ·rw [List.getElem?_append_right (by simpa using hi)] at hy
     rw [Array.getElem?_append_right (by simpa using hi)] at hu
     exact hp _ y u (by simpa using hy) (by simpa using hu)
   have hc:gi P g∧Calls P g (args.map a.eval ++ vs) w (iA w H φ A K):=by
    rcases h with h|h
    ·exact ⟨(hX _ _ _ _ h).1,(hX _ _ _ _ h).2 w A φ (args.map a.eval ++ vs) ae (by simp [hl]) rC⟩
    ·exact yu hX ae (us:=args.map a.eval ++ vs) (by simp [hl]) rC h
   unfold Oper.wp;rw [rA bn hv hc.1,Oper.upon_enter];refine hc.2.mono fun e w' he=> ?_
   cases e with
   |returned v' =>
    obtain ⟨x',H',aj,A',h1,h2,h3⟩:=he;exact hn x' v' w' H' aj A' h1 h2 h3
   |panicked c=>exact he.elim
   |outgrown=>exact he.elim
  ·exact h.elim
 ·exact kR h.2
end ops
end Go.VS
namespace Go.VS
structure jP (π :List Nat) (ops:Array Oper):Prop where
 len: π.length=ops.size
 nodup: π.Nodup
 lt: ∀i∈ π,i<ops.size
 mem: ∀i,i<ops.size→i∈ π
 rD: ∀(i:Nat) (o:Oper),ops[i]? =some o→ ∀e∈o.after.toList,Region.binds .any e=true→e.on<ops.size
 gW: ∀(i:Nat) (o:Oper) (j:Nat) (b:Bool),ops[i]? =some o→o.guard=some (j,b)→j<ops.size
theorem yx {π :List Nat} {ops:Array Oper} (h:nx π ops=true):jP π ops:=by
 simp only [nx,Bool.and_eq_true,beq_iff_eq,List.all_eq_true,decide_eq_true_eq,List.mem_range,List.contains_iff_mem] at h;obtain ⟨⟨⟨⟨h1,h0⟩,h2⟩,h3⟩,h4⟩:=h;refine ⟨h1,h0,h2,h3,fun i o ho e he hb=> ?_,fun i o j b ho hg=> ?_⟩
 ·have:=(h4 o (by rw [←Array.getElem?_toList] at ho;exact List.mem_of_getElem? ho)).1
  rw [Array.all_eq_true_iff_forall_mem] at this;have:=this e (by simpa using he)
  rw [hb] at this;simpa using this
 ·have:=(h4 o (by rw [←Array.getElem?_toList] at ho;exact List.mem_of_getElem? ho)).2
  rw [hg] at this;simpa using this
section
variable {π :List Nat} {ops:Array Oper} (hp:jP π ops)
include hp
theorem jP.at_ {k:Nat} (hk:k< π.length): ∃o,ops[π[k]]? =some o∧(en π ops)[k]? =some (ig π o):=by
 have:=hp.lt _ (List.getElem_mem hk);refine ⟨ops[π[k]],by simp [this],?_⟩
 unfold en nw;rw [List.getElem?_toArray,List.getElem?_map,List.getElem?_eq_getElem hk];simp [List.getD,this]
theorem jP.size:(en π ops).size=ops.size:=by
 simp [en,nw,hp.len]
theorem jP.jQ {i:Nat} (hi:i<ops.size):dA π i< π.length∧ π[dA π i]? =some i:=by
 have:=hp.mem i hi;unfold dA;have h:=List.idxOf_lt_length_of_mem this;exact ⟨h,by rw [List.getElem?_eq_getElem h,List.getElem_idxOf]⟩
theorem jP.get {i:Nat} {o:Oper} (ho:ops[i]? =some o):(en π ops)[dA π i]? =some (ig π o):=by
 have hi:i<ops.size:=(Array.getElem?_eq_some_iff.1 ho).1;obtain ⟨h1,h2⟩:=hp.jQ hi;obtain ⟨o',h3,h4⟩:=hp.at_ h1;have: π[dA π i]=i:=by rw [List.getElem?_eq_getElem h1] at h2;simpa using h2
 rw [this,ho] at h3;simp only [Option.some.injEq] at h3;subst h3;exact h4
def PL (π :List Nat) (n:Nat) (l l' :Array Bool):Prop:=l.size=n∧l'.size=n∧ ∀i,i<n→l'[dA π i]? =l[i]?
theorem PL.set {l l' :Array Bool} (h:PL π ops.size l l') {i:Nat} (hi:i<ops.size):PL π ops.size (l.setIfInBounds i true) (l'.setIfInBounds (dA π i) true):=by
 obtain ⟨h1,h2,h3⟩:=h;refine ⟨by simp [h1],by simp [h2],fun j hj=> ?_⟩
 obtain ⟨yy,pd⟩:=hp.jQ hi;obtain ⟨Bu,yz⟩:=hp.jQ hj;rw [Array.getElem?_setIfInBounds,Array.getElem?_setIfInBounds];by_cases e:i=j
 ·subst e;rw [if_pos rfl,if_pos rfl,if_pos (by rw [h2,←hp.len];exact yy),if_pos (by rw [h1];exact hi)]
 ·have: ¬dA π i=dA π j:=by
   intro e2;rw [e2,yz] at pd;simp at pd;exact e pd.symm
  rw [if_neg this,if_neg e];exact h3 j hj
omit hp in
theorem PL.getD {l l' :Array Bool} (h:PL π ops.size l l') {i:Nat} (hi:i<ops.size) (b:Bool):l'.getD (dA π i) b=l.getD i b:=by
 have:=h.2.2 i hi;rw [Array.getD_eq_getD_getElem?,Array.getD_eq_getD_getElem?,this]
theorem rE {l l' :Array Bool} (h:PL π ops.size l l') {i:Nat} (hi:i∈Region.ready .any ops l):i<ops.size∧dA π i∈Region.ready .any (en π ops) l' :=by
 unfold Region.ready at hi⊢;simp only [List.mem_filter,List.mem_range,Bool.and_eq_true] at hi⊢;obtain ⟨h1,h2,h3⟩:=hi;have ho:ops[i]? =some ops[i]:=by simp [h1]
 obtain ⟨r1,r2⟩:=hp.jQ h1;refine ⟨h1,by rw [hp.size,←hp.len];exact r1,by rw [h.getD h1];exact h2,?_⟩
 rw [hp.get ho];rw [ho] at h3;simp only [Option.map_some,Option.getD_some,Array.all_eq_true_iff_forall_mem] at h3⊢;intro e he;simp only [ig,List.mem_toArray,List.mem_filterMap] at he;obtain ⟨e0,rF,mn⟩:=he;split at mn
 ·rename_i hb;simp only [Option.some.injEq] at mn;subst mn;have:=h3 e0 (by simpa using rF)
  rw [hb] at this;simp only [Bool.not_true,Bool.false_or] at this;rw [h.getD (hp.rD i _ ho e0 rF hb)];simp [this]
 ·simp at mn
theorem yA {i:Nat} {o:Oper} (ho:ops[i]? =some o) (t:Array Value):Region.wanted (ig π o) (yielded (en π ops) t)=Region.wanted o (yielded ops t):=by
 unfold Region.wanted ig;simp only;cases hg:o.guard with
 |none=>rfl
 |some p=>
  obtain ⟨j,b⟩:=p;have hj:=hp.gW i o j b ho hg;simp only [Option.map_some];congr 1;unfold yielded;have rG:ops[j]? =some ops[j]:=by simp [hj]
  rw [hp.get rG,rG];rfl
omit hp in
theorem rH (ρ :Operand→Value) (o:Oper):execOp ρ (ig π o)=execOp ρ o:=by
 cases o;rfl
theorem yB {P:Program} {Q:Exit→Act→World→Prop} {i:Nat} {o:Oper} (ho:ops[i]? =some o) {K K' :Act→World→Prop} (hK: ∀a w,K' a w→K a w) {a:Act} {w:World} (h:Go.wpOp P (en π ops) Q (dA π i) K' a w):Go.wpOp P ops Q i K a w:=by
 unfold Go.wpOp at h⊢;rw [hp.get ho] at h;rw [ho];simp only at h⊢;rw [yA hp ho] at h;split at h
 ·rename_i hw;rw [if_pos hw];rcases h with h|⟨h1,h2⟩
  ·refine .inl (Oper.wp_mono hK ?_);unfold Oper.wp at h⊢;rw [rH] at h;exact h
  ·refine .inr ⟨?_,h2⟩;unfold Oper.asks at h1⊢;rw [rH] at h1;exact h1
 ·rename_i hw;rw [if_neg hw];exact hK _ _ h
theorem yC {l l' :Array Bool} (h:PL π ops.size l l') {k:Nat} (hk:k∈Region.ready .any (en π ops) l'): ∃i,i∈Region.ready .any ops l:=by
 unfold Region.ready at hk⊢;simp only [List.mem_filter,List.mem_range,Bool.and_eq_true] at hk;obtain ⟨h1,h2,h3⟩:=hk;rw [hp.size,←hp.len] at h1;obtain ⟨o,ho,ag⟩:=hp.at_ h1;have hi:=hp.lt _ (List.getElem_mem h1);have hr:dA π π[k]=k:=by
  obtain ⟨r1,r2⟩:=hp.jQ hi;rw [List.getElem?_eq_getElem r1] at r2;simp only [Option.some.injEq] at r2;exact (List.getElem_inj hp.nodup).1 r2
 refine ⟨π[k],?_⟩;simp only [List.mem_filter,List.mem_range,Bool.and_eq_true];refine ⟨hi,by rw [←h.getD hi,hr];exact h2,?_⟩
 rw [ag] at h3;rw [ho];simp only [Option.map_some,Option.getD_some,Array.all_eq_true_iff_forall_mem] at h3⊢;intro e he;by_cases hb:Region.binds .any e=true
 ·have hl:=hp.rD _ o ho e (by simpa using he) hb
  have:=h3 {e with on:=dA π e.on} (by
   simp only [ig,List.mem_toArray,List.mem_filterMap];exact ⟨e,by simpa using he,by rw [if_pos hb]⟩)
  have aw:Region.binds .any {e with on:=dA π e.on}=true:=hb
  rw [aw] at this;simp only [Bool.not_true,Bool.false_or] at this;rw [h.getD hl] at this;simp [this]
 ·simp [hb]
theorem rI {P:Program} {Q:Exit→Act→World→Prop}: ∀(n:Nat) (l l' :Array Bool) (a:Act) (w:World),PL π ops.size l l' →wpAny P .any (en π ops) Q n l' a w→wpAny P .any ops Q n l a w
 |0,l,l',a,w,hl,h=>by
  simp only [wpAny] at h⊢;refine ⟨?_,h.2⟩;rw [List.eq_nil_iff_forall_not_mem];intro i hi;have:=(rE hp hl hi).2;rw [h.1] at this;simp at this
 |n+1,l,l',a,w,hl,h=>by
  simp only [wpAny] at h⊢;refine ⟨fun he=>h.1 ?_,fun i hi=> ?_⟩
  ·rw [List.eq_nil_iff_forall_not_mem];intro k hk;obtain ⟨i,hi⟩:=yC hp hl hk;rw [he] at hi;simp at hi
  ·obtain ⟨h1,h2⟩:=rE hp hl hi;have ho:ops[i]? =some ops[i]:=by simp [h1]
   exact yB hp ho (fun a w hh=>rI n _ _ a w (hl.set hp h1) hh) (h.2 _ h2)
theorem yD {P:Program} {Q:Exit→Act→World→Prop} {a:Act} {w:World} (h:wpAny P .any (en π ops) Q (en π ops).size (Array.replicate (en π ops).size false) a w):wpAny P .any ops Q ops.size (Array.replicate ops.size false) a w:=by
 rw [hp.size] at h;refine rI hp _ _ _ a w ⟨by simp,by simp,fun i hi=> ?_⟩ h
 obtain ⟨r1,_⟩:=hp.jQ hi;rw [hp.len] at r1;simp [hi,r1]
end
theorem SF.kill {w:World} {H:J} {φ :af} {A:ah} {s:ak} {a:Act} (h:SF w H φ A s a) (l:List Nat):SF w H φ A (eo l s) a:=by
 have key: ∀(s:ak) (i:Nat),(eo.go l i s).length=s.length∧ ∀(t:Nat) (x:AV),(eo.go l i s)[t]? =some x→x= .undef∨s[t]? =some x:=by
  intro s;induction s with
  |nil=>intro i;simp [eo.go]
  |cons y s ih=>
   intro i;obtain ⟨h1,h2⟩:=ih (i+1);refine ⟨by simp [eo.go,h1],fun t x hx=> ?_⟩
   cases t with
   |zero=>
    simp only [eo.go,List.getElem?_cons_zero,Option.some.injEq] at hx;split at hx
    ·exact .inr (by simp [hx])
    ·exact .inl hx.symm
   |succ t=>simp only [eo.go,List.getElem?_cons_succ] at hx⊢;exact h2 t x hx
 obtain ⟨h1,h2⟩:=key s 0;refine ⟨h1.trans h.len,fun t x v hx hv=> ?_,h.ez⟩;rcases h2 t x hx with rfl|hx
 ·exact .fr _ _ (.undef _)
 ·exact h.val t x v hx hv
theorem yE {w:World} {H:J} {φ :af} {A:ah} (ae:St w H φ A) (n:Nat):Out w H φ A w (H.trim n) (aC φ (H.trim n)) A:=by
 have hg: ∀id b,(H.trim n).get id=some b→H.get id=some b:=by
  intro id b h;unfold J.trim J.get at h;unfold J.get;simp only [List.getElem?_take] at h;split at h
  ·exact h
  ·simp at h
 have aP:bF w H φ A w (H.trim n) (aC φ (H.trim n)) A:=
  ⟨fun c arr T fr hc hn=>⟨⟨fr,hc⟩,hn⟩,Nat.le_refl _,fun id b hb _=>⟨b,hg id b hb,rfl,rfl,rfl,rfl,fun loc hl=>by simp [aC,hb,hl]⟩,fun _ _=>rfl⟩
 refine ⟨⟨fun i i' c b b' h h' =>ae.inj _ _ _ _ _ (db h).1 (db h').1,fun c hc=>ae.own c (bH hc),ae.bV,fun id loc h=> ?_⟩,⟨rfl,rfl,rfl,Nat.le_refl _,fun _ _ _=>rfl,fun _ _=>rfl,fun c hc=> .inl (bH hc)⟩,aP,fun c hc _=>hc⟩
 obtain ⟨h1,b,hb⟩:=db h;obtain ⟨b',aw,ag⟩:=ae.ap id loc h1;rw [hg id b hb] at aw;simp only [Option.some.injEq] at aw;subst aw;refine ⟨b,hb,ag.ad,ag.sized,ag.aN,fun c b0 he=> ?_⟩;obtain ⟨arr,T,fr,k1,k2,k3,k4⟩:=ag.here c b0 he;exact ⟨arr,T,fr,k1,k2,k3,fun i x j y v hx hy hv=>⟨(k4 i x j y v hx hy hv).1.mono aP,(k4 i x j y v hx hy hv).2⟩⟩
def rJ:Ex→Exit
 | .normal=> .normal
 | .exit id=> .exit id
 | .ret=> .ret
theorem mo {x y:AV} (h:eU x y=true):x=y:=by
 unfold eU at h;split at h
 ·simp only [Bool.and_eq_true,beq_iff_eq] at h;obtain ⟨⟨⟨rfl,rfl⟩,rfl⟩,rfl⟩:=h;rfl
 ·rfl
 ·rfl
 ·simp at h
theorem yF {w:World} {H:J} {φ :af} {A:ah} {s:ak} {a:Act} (ae:St w H φ A) (hs:SF w H φ A s a) {t:Nat} {ts:List Nat} {sh:List Sh} {y:AV} {H1:J} (h:a8 sh (s.getD t .undef) H=some (y,H1)):
 Out w H φ A w H1 (aC φ H1) (gone φ A H1)∧SF w H1 (aC φ H1) (gone φ A H1) (fU (s.getD t .undef) (bA y) ts (s.set t (bA y))) a:=by
 have hl:=ff _ _ _ _ _ h;have aP:bF w H φ A w H1 (aC φ H1) (gone φ A H1):=by
  have e:=cV (w:=w) (φ := φ) (A:=A) hl;exact ⟨fun c arr T fr hc hn=>⟨(e.fz c arr T fr hc hn).1,fun h2=>hn h2.1⟩,e.st,e.ids,e.sz⟩
 refine ⟨⟨(dS ae hl).shrink (fun c hc=>hc.1) (fun c hc=>⟨ae.own c (bH hc),fun _=>hc⟩),⟨rfl,rfl,rfl,Nat.le_refl _,fun _ _ _=>rfl,fun _ _=>rfl,fun c hc=> .inl (bH hc)⟩,aP,fun c hc hn=>⟨hc,fun ho=>absurd ho hn⟩⟩,?_⟩;have cF:=hs.mono aP;have one: ∀(k:Nat) (v:Value),s.getD k .undef=s.getD t .undef→a.tmps[k]? =some v→R w H1 (aC φ H1) (gone φ A H1) (bA y) v:=by
  intro k v hk hv;have hr:=hs.ev (.tmp k);simp only [ev,Act.eval] at hr;rw [Array.getD_eq_getD_getElem?,hv,hk] at hr;exact .fr _ _ (rq ae hr h (fun c hc=>hc))
 have base:SF w H1 (aC φ H1) (gone φ A H1) (s.set t (bA y)) a∧ ∀k,(s.set t (bA y)).getD k .undef=bA y∨(s.set t (bA y)).getD k .undef=s.getD k .undef:=by
  refine ⟨⟨by simpa using cF.len,fun k x v hx hv=> ?_,cF.ez⟩,fun k=> ?_⟩
  ·rw [List.getElem?_set] at hx;split at hx
   ·rename_i hk;subst hk;split at hx
    ·simp only [Option.some.injEq] at hx;subst hx;exact one t v rfl hv
    ·simp at hx
   ·exact cF.val k x v hx hv
  ·simp only [List.getD_eq_getElem?_getD,List.getElem?_set];split
   ·rename_i hk;subst hk;split
    ·exact .inl rfl
    ·rename_i ax;right;rw [List.getElem?_eq_none (by omega)]
   ·exact .inr rfl
 have gen: ∀(ts:List Nat) (s' :ak),SF w H1 (aC φ H1) (gone φ A H1) s' a→(∀k,eU (s'.getD k .undef) (s.getD t .undef)=true→s.getD k .undef=s.getD t .undef∨bA y=s.getD t .undef)→SF w H1 (aC φ H1) (gone φ A H1) (fU (s.getD t .undef) (bA y) ts s') a:=by
  intro ts;induction ts with
  |nil=>intro s' h _;exact h
  |cons k ks ih=>
   intro s' h1 h2
   simp only [fU];split
   ·rename_i rK;have hval: ∀v,a.tmps[k]? =some v→R w H1 (aC φ H1) (gone φ A H1) (bA y) v:=by
     intro v hv;rcases h2 k rK with e|e
     ·exact one k v e hv
     ·have:=h1.ev (.tmp k);simp only [ev,Act.eval] at this;rw [Array.getD_eq_getD_getElem?,hv,mo rK,←e] at this;exact this
    refine ih _ ⟨by simpa using h1.len,fun m x v hx hv=> ?_,h1.ez⟩ (fun m hm=> ?_)
    ·rw [List.getElem?_set] at hx;split at hx
     ·rename_i hk;subst hk;split at hx
      ·simp only [Option.some.injEq] at hx;subst hx;exact hval v hv
      ·simp at hx
     ·exact h1.val m x v hx hv
    ·simp only [List.getD_eq_getElem?_getD,List.getElem?_set] at hm;split at hm
     ·split at hm
      ·exact .inr (mo hm)
      ·rename_i hk ax;refine h2 m ?_;subst hk;rw [List.getD_eq_getElem?_getD,List.getElem?_eq_none (by omega)]
       exact hm
     ·exact h2 m (by rw [List.getD_eq_getElem?_getD];exact hm)
   ·exact ih s' h1 h2
 refine gen ts _ base.1 fun k hk=> ?_;rcases base.2 k with e|e
 ·rw [e] at hk;exact .inr (mo hk)
 ·rw [e] at hk;exact .inl (mo hk)
theorem pe {w:World} {H:J} {φ :af} {A:ah} {x:AV} {v:Value} (h:R w H φ A x v):R w H φ A (j_ x) v:=by
 cases x with
 |nil=>have:=h.cX;subst this;exact .fr _ _ (.cE none 0)
 |e0=>obtain ⟨a,rfl⟩:=h.ew;exact .fr _ _ (.cE a 0)
 |_=>exact h
theorem yG {w:World} {H:J} {φ :af} {A:ah} {x:AV} {v:Value} (h:R w H φ A x v):R w H φ A (dz x) v:=by
 cases x with
 |agg cs=>
  obtain ⟨vs,rfl,h1,h2,h3⟩:=h.fu;refine .agg _ _ (by simpa using h1) h2 fun i x v hx hv=> ?_
  simp only [List.getElem?_map,Option.map_eq_some_iff] at hx;obtain ⟨y,hy,rfl⟩:=hx;exact pe (h3 i y v hy hv)
 |_=>exact pe h
theorem yH {w:World} {H:J} {φ :af} {A:ah} {s:ak} {a:Act} (t:Nat) (ae:St w H φ A) (hs:SF w H φ A s a): ∃aj A',Out w H φ A w (jB t s H).2 aj A' ∧SF w (jB t s H).2 aj A' (jB t s H).1 a:=by
 have plain: ∀v,s.getD t .undef=v→SF w H φ A (s.set t (dz v)) a:=by
  intro v hv;refine ⟨by simpa using hs.len,fun k x u hx hu=> ?_,hs.ez⟩
  rw [List.getElem?_set] at hx;split at hx
  ·rename_i hk;subst hk;split at hx
   ·simp only [Option.some.injEq] at hx;subst hx;have hr:=hs.ev (.tmp t);simp only [ev,Act.eval] at hr;rw [Array.getD_eq_getD_getElem?,hu,hv] at hr;exact yG hr
   ·simp at hx
  ·exact hs.val k x u hx hu
 have key: ∀v,s.getD t .undef=v→ ∃aj A',Out w H φ A w (match v with
  | .ref id ad _ _=>match H.ap id ad with
   |some b=>(s,H.aZ id {b with el:=b.el.map dz})
   |none=>(s,H)
  |v=>(s.set t (dz v),H)).2 aj A' ∧SF w (match v with
  | .ref id ad _ _=>match H.ap id ad with
   |some b=>(s,H.aZ id {b with el:=b.el.map dz})
   |none=>(s,H)
  |v=>(s.set t (dz v),H)).2 aj A' (match v with
  | .ref id ad _ _=>match H.ap id ad with
   |some b=>(s,H.aZ id {b with el:=b.el.map dz})
   |none=>(s,H)
  |v=>(s.set t (dz v),H)).1 a:=by
  intro v hv;cases v with
  |ref id ad off len=>
   simp only;cases hb:H.ap id ad with
   |none=>exact ⟨φ,A,.refl ae,hs⟩
   |some b=>
    simp only;have hg:=(J.bp hb).1;have ax:=J.fW hg;have bz: ∀k,(H.aZ id {b with el:=b.el.map dz}).get k=if k=id then some {b with el:=b.el.map dz} else H.get k:=by
     intro k;simp only [J.get,J.aZ,List.getElem?_set];by_cases h:id=k
     ·subst h;simp [ax]
     ·have h' : ¬k=id:=fun e=>h e.symm
      simp [h,h']
    have aP:bF w H φ A w (H.aZ id {b with el:=b.el.map dz}) φ A:=by
     refine ⟨fun c arr T fr hc hn=>⟨⟨fr,hc⟩,hn⟩,Nat.le_refl _,fun k b' hk _=> ?_,fun _ _=>rfl⟩
     rw [bz] at hk;split at hk
     ·rename_i e;subst e;simp only [Option.some.injEq] at hk;subst hk;exact ⟨b,hg,rfl,rfl,rfl,by simp,fun _ h=>h⟩
     ·exact ⟨b',hk,rfl,rfl,rfl,rfl,fun _ h=>h⟩
    have yI:St w (H.aZ id {b with el:=b.el.map dz}) φ A:=by
     refine ⟨ae.inj,ae.own,ae.bV,fun k loc hk=> ?_⟩;obtain ⟨b0,mq,ag⟩:=ae.ap k loc hk;by_cases h:k=id
     ·subst h;rw [hg] at mq;simp only [Option.some.injEq] at mq;subst mq;refine ⟨{b with el:=b.el.map dz},by rw [bz,if_pos rfl],ag.ad,fun i x hx=> ?_,fun h=>by simp [ag.aN h],fun c b0 he=> ?_⟩
      ·simp only [List.getElem?_map,Option.map_eq_some_iff] at hx;obtain ⟨y,hy,rfl⟩:=hx;rw [ky,List.length_map];exact ag.sized i y hy
      ·obtain ⟨arr,T,fr,k1,k2,k3,k4⟩:=ag.here c b0 he;refine ⟨arr,T,fr,k1,k2,by simpa using k3,fun i x j y v hx hy hv=> ?_⟩
       simp only [List.getElem?_map,Option.map_eq_some_iff] at hx;obtain ⟨x',bD,rfl⟩:=hx;rw [ky] at hy;simp only [List.getElem?_map,Option.map_eq_some_iff] at hy;obtain ⟨y',dZ,rfl⟩:=hy;have:=k4 i x' j y' v bD dZ hv
       exact ⟨pe (this.1.mono aP),this.2⟩
     ·refine ⟨b0,by rw [bz,if_neg h];exact mq,ag.ad,ag.sized,ag.aN,fun c b1 he=> ?_⟩
      obtain ⟨arr,T,fr,k1,k2,k3,k4⟩:=ag.here c b1 he;exact ⟨arr,T,fr,k1,k2,k3,fun i x j y v hx hy hv=>⟨(k4 i x j y v hx hy hv).1.mono aP,(k4 i x j y v hx hy hv).2⟩⟩
    exact ⟨φ,A,⟨yI,.refl _ _,aP,fun c hc _=>hc⟩,hs.mono aP⟩
  |_=>exact ⟨φ,A,.refl ae,plain _ hv⟩
 unfold jB;exact key _ rfl
theorem mr {w:World} {a:Act}: ∀(l:List (List Nat×List Sh)) {H:J} {φ :af} {A:ah} {s s' :ak} {H' :J},St w H φ A→SF w H φ A s a→dt l s H=some (s',H')→
 ∃aj A',Out w H φ A w H' aj A' ∧SF w H' aj A' s' a
 |[],H,φ,A,s,s',H',ae,hs,h=>by
  simp only [dt,Option.some.injEq,Prod.mk.injEq] at h;obtain ⟨rfl,rfl⟩:=h;exact ⟨φ,A,.refl ae,hs⟩
 |([],sh)::l,H,φ,A,s,s',H',ae,hs,h=>by simp [dt] at h
 |(t::ts,[])::l,H,φ,A,s,s',H',ae,hs,h=>by
  simp only [dt] at h;obtain ⟨φ1,A1,h1,h2⟩:=yH t ae hs;obtain ⟨aj,A',h3,h4⟩:=mr l h1.st h2 h;exact ⟨aj,A',h1.trans ae h3,h4⟩
 |(t::ts,e::sh)::l,H,φ,A,s,s',H',ae,hs,h=>by
  simp only [dt] at h;split at h
  ·rename_i y H1 hy;obtain ⟨h1,h2⟩:=yF (ts:=ts) ae hs hy;obtain ⟨aj,A',h3,h4⟩:=mr l h1.st h2 h;exact ⟨aj,A',h1.trans ae h3,h4⟩
  ·simp at h
section code
variable {P:Program} {C:aH} {X:bq}
def Ends (Q:Exit→Act→World→Prop) (K:Ex→ak→J→Prop) (w:World) (H:J) (φ :af) (A:ah):Prop:=
 ∀e s' H' aj A' a' w',Out w H φ A w' H' aj A' →SF w' H' aj A' s' a' →K e s' H' →Q (rJ e) a' w'
theorem pf {w:World} {H:J} {φ :af} {A:ah} {s:ak} {a:Act} {ops:Array Oper} {o:Oper} {b:Bool} (hs: ∀j want t,o.guard=some (j,want)→(ops[j]?).bind (·.dst)=some t→R w H φ A (ev s (.tmp t)) (a.eval (.tmp t))) (h:dl ops o s=some b):Region.wanted o (yielded ops a.tmps)=b:=by
 unfold dl at h;unfold Region.wanted;cases hg:o.guard with
 |none=>rw [hg] at h;simp at h;subst h;simp
 |some p=>
  obtain ⟨j,want⟩:=p;rw [hg] at h;simp only at h⊢;split at h
  ·rename_i t ht;have hv:=hs j want t hg ht;simp only [ev,Act.eval] at hv;split at h
   ·rename_i c hc;rw [hc] at hv;simp only [Option.some.injEq] at h;subst h;have:=hv.eG;have hy:yielded ops a.tmps j=some c:=by
     unfold yielded;rw [ht];simp only [Option.bind_some];rw [Array.getD_eq_getD_getElem?] at this;cases hq:a.tmps[t]? with
     |none=>rw [hq] at this;simp [undef] at this
     |some v=>rw [hq] at this;simp at this;subst this;rfl
    rw [hy];cases c<;>cases want<;>rfl
   ·rename_i cs hc;rw [hc] at hv;simp only [Option.some.injEq] at h;subst h;obtain ⟨vs,bC,_⟩:=hv.lD;have hy:yielded ops a.tmps j=none:=by
     unfold yielded;rw [ht];simp only [Option.bind_some];rw [Array.getD_eq_getD_getElem?] at bC;cases hq:a.tmps[t]? with
     |none=>rfl
     |some v=>rw [hq] at bC;simp at bC;subst bC;rfl
    rw [hy];cases want<;>rfl
   ·simp at h
  ·simp at h
theorem rL (hE: ∀t ti,C.E t=some ti→aQ P t ti) (hX: ∀f ys H K,X f ys H K→b_ P f ys H K) {ops:Array Oper} {th:List Nat} {fz:List (Nat×List (List Nat×List Sh))} {K:ak→J→Prop} {Q:Exit→Act→World→Prop}:
 ∀(l:List Oper) (i:Nat) (s:ak) (H:J) (w:World) (φ :af) (A:ah) (a:Act),cJ X C ops th fz K l i s H→St w H φ A→SF w H φ A s a→
  (∀s' H' aj A' a' w',Out w H φ A w' H' aj A' →SF w' H' aj A' s' a' →K s' H' →Q .normal a' w')→wpList P ops Q l a w
 |[],i,s,H,w,φ,A,a,h,ae,hs,hq=>hq s H φ A a w (.refl ae) hs h
 |o::rest,i,s0,H0,w,aB,A0,a,h,cO,dX,yJ=>by
  simp only [cJ] at h;obtain ⟨s,H,hf,h⟩:=h;obtain ⟨φ,A,ho,hs⟩:=mr _ cO dX hf;have ae:=ho.st;have hq: ∀s' H' aj A' a' w',Out w H φ A w' H' aj A' →SF w' H' aj A' s' a' →K s' H' →Q .normal a' w' :=fun s' H' aj A' a' w' k1 k2 k3=>yJ s' H' aj A' a' w' (ho.trans cO k1) k2 k3
  have next: ∀{x:AV} {v:Value} {w' :World} {H' :J} {aj:af} {A' :ah},Out w H φ A w' H' aj A' →R w' H' aj A' x v→cJ X C ops th fz K rest (i+1) (bj s o.dst x) H' →wpList P ops Q rest (a.put o.dst v) w' :=by
   intro x v w' H' aj A' h1 h2 h3
   exact rL hE hX rest (i+1) _ H' w' aj A' _ h3 h1.st ((hs.mono h1.bM).set o.dst h2) fun s2 H2 a_ A2 a2 w2 k1 k2 k3=>hq s2 H2 a_ A2 a2 w2 (h1.trans ae k1) k2 k3
  simp only [wpList];cases hg:o.guard with
  |none=>
   rw [hg] at h;simp only at h;have hw:Region.wanted o (yielded ops a.tmps)=true:=by simp [Region.wanted,hg]
   rw [if_pos hw];exact .inl (mm hE hX ae (fun x _=>hs.ev x) h fun x v w' H' aj A' h1 h2 h3=>next h1 h2 h3)
  |some p=>
   rw [hg] at h;simp only at h;obtain ⟨v,H',h1,h2⟩:=h;split at h1
   ·rename_i b hb;have hw:=pf (fun _ _ t _ _=>hs.ev (.tmp t)) hb;cases b with
    |true=>
     rw [if_pos hw];simp only [if_true] at h1;exact .inl (mm hE hX ae (fun x _=>hs.ev x) h1 fun x u w' jN aj A' k1 k2 k3=>by obtain ⟨rfl,rfl⟩:=k3;exact next k1 k2 h2)
    |false=>
     rw [if_neg (by rw [hw];simp)]
     simp only [Bool.false_eq_true,if_false] at h1;obtain ⟨rfl,rfl⟩:=h1;exact next (.refl ae) (.fr _ _ (.ay [] #[] rfl (by simp))) h2
   ·exact h1.elim
def mu (P:Program) (C:aH) (X:bq):Prop:=
 ∀(ops:Array Oper) (aA:List Nat) (th:List Nat) (s:ak) (H:J) (K:ak→J→Prop) (Q:Exit→Act→World→Prop) (w:World) (φ :af) (A:ah) (a:Act),ij ops aA=true→
  cU X C ops (fun i=> !aA.contains i) (fm ops aA) th K ops.toList 0 s H→St w H φ A→SF w H φ A s a→(∀s' H' aj A' a' w',Out w H φ A w' H' aj A' →SF w' H' aj A' s' a' →K s' H' →Q .normal a' w')→wpAny P .any ops Q ops.size (Array.replicate ops.size false) a {w with drawn:=w.drawn+1}
theorem Ends.trans {Q:Exit→Act→World→Prop} {K:Ex→ak→J→Prop} {w w1:World} {H H1:J} {φ φ1:af} {A A1:ah} (ae:St w H φ A) (h:Out w H φ A w1 H1 φ1 A1) (k:Ends Q K w H φ A):Ends Q K w1 H1 φ1 A1:=
 fun e s' H' aj A' a' w' h1 h2 h3=>k e s' H' aj A' a' w' (h.trans ae h1) h2 h3
theorem rM (hm:P.follows .mixedOrders=true) (hE: ∀t ti,C.E t=some ti→aQ P t ti) (hX: ∀f ys H K,X f ys H K→b_ P f ys H K) (hD:mu P C X) (p:kc):
 ∀(c:Code) (cw:Nat) (s:ak) (H:J) (K:Ex→ak→J→Prop) (Q:Exit→Act→World→Prop) (w:World) (φ :af) (A:ah) (a:Act),cS p c=true→aJ X C (cT p cw c) s H K→St w H φ A→SF w H φ A s a→Ends Q K w H φ A→c.wp P Q a w:=by
 intro c;induction c with
 |skip=>intro cw s H K Q w φ A a ho h ae hs hq;exact wp_skip (hq .normal s H φ A a w (.refl ae) hs h)
 |ret=>intro cw s H K Q w φ A a ho h ae hs hq;exact wp_ret (hq .ret s H φ A a w (.refl ae) hs h)
 |exit id=>intro cw s H K Q w φ A a ho h ae hs hq;exact wp_exit (hq (.exit id) s H φ A a w (.refl ae) hs h)
 |seq x y yK pg=>
  intro cw s H K Q w φ A a ho h ae hs hq;simp only [cT,aJ] at h;simp only [cS,Bool.and_eq_true] at ho;refine wp_seq (yK cw s H _ _ w φ A a ho.1 h ae hs fun e s' H' aj A' a' w' h1 h2 h3=> ?_)
  cases e with
  |normal=>exact pg cw s' H' K Q w' aj A' a' ho.2 h3 h1.st h2 (Ends.trans ae h1 hq)
  |exit id=>exact hq (.exit id) s' H' aj A' a' w' h1 h2 h3
  |ret=>exact hq .ret s' H' aj A' a' w' h1 h2 h3
 |cond x y z pg yL=>
  intro cw s H K Q w φ A a ho h ae hs hq;simp only [cS,Bool.and_eq_true] at ho;have key: ∀(K:Ex→ak→J→Prop),aJ X C (.cond x (cT p cw y) (cT p cw z)) s H K→Ends Q K w H φ A→(Code.cond x y z).wp P Q a w:=by
   intro K h hq;simp only [aJ] at h;split at h
   ·rename_i t ht;have hv:=hs.ev x;rw [ht] at hv;refine wp_cond hv.eG ?_;cases t with
    |true=>exact pg cw s H K Q w φ A a ho.1 h ae hs hq
    |false=>exact yL cw s H K Q w φ A a ho.2 h ae hs hq
   ·exact h.elim
  simp only [cT] at h;unfold lB at h;split at h
  ·rename_i kp _;simp only [aJ,dt] at h;refine key _ h fun e s' H' aj A' a' w' h1 h2 h3=> ?_
   cases e with
   |normal=>exact hq .normal _ H' aj A' a' w' h1 (h2.kill kp) h3
   |exit id=>exact hq (.exit id) s' H' aj A' a' w' h1 h2 h3
   |ret=>exact hq .ret s' H' aj A' a' w' h1 h2 h3
  ·exact key K h hq
 |block id x ih=>
  intro cw s H K Q w φ A a ho h ae hs hq;simp only [cT,aJ] at h;have mv: ∀{w:World} {H:J} {φ :af} {A:ah} {s:ak} {a:Act} (kp:Option (List Nat)),SF w H φ A s a→SF w H φ A (ep kp s) a:=by
   intro w H φ A s a kp h;cases kp with
   |none=>exact h
   |some l=>exact h.kill l
  simp only [cS] at ho;refine wp_block (ih id s H _ _ w φ A a ho h ae hs fun e s' H' aj A' a' w' h1 h2 h3=> ?_)
  cases e with
  |normal=>exact hq .normal _ H' aj A' a' w' h1 (mv _ h2) h3
  |exit j=>
   simp only at h3;simp only [rJ,Exit.inBlock];split at h3
   ·rename_i hj;rw [if_pos hj];exact hq .normal _ H' aj A' a' w' h1 (mv _ h2) h3
   ·rename_i hj;rw [if_neg hj];exact hq (.exit j) s' H' aj A' a' w' h1 h2 h3
  |ret=>exact hq .ret s' H' aj A' a' w' h1 h2 h3
 |loop c ih=>
  intro cw s H K Q w φ A a ho h ae hs hq;simp only [cT,aJ] at h;have rN: ∀{w:World} {H:J} {φ :af} {A:ah} {s:ak} {a:Act} (sp:lA) (n:Nat),St w H φ A→SF w H φ A s a→ ∃ φ1,Out w H φ A w (gH sp n s H).2 φ1 A∧SF w (gH sp n s H).2 φ1 A (gH sp n s H).1 a:=by
   intro w H φ A s a sp n h1 h2;unfold gH;by_cases ht:sp.trim=true
   ·have ho:=yE h1 n;simp only [ht,if_true];exact ⟨_,ho,(h2.mono ho.bM).kill _⟩
   ·simp only [ht];exact ⟨φ,.refl h1,h2.kill _⟩
  intro b k cs;have main:=h (fun s H=> ∀(w:World) (φ :af) (A:ah) (a:Act),St w H φ A→SF w H φ A s a→Ends Q K w H φ A→
   ∀(b:Frame) (k:List Item) (cs:List Frame),∃e a' w',Q e a' w' ∧Arrives P (lone (b.at a (.code c:: .inLoop c::k)) cs w) b k cs e a' w') (fun s H hB w φ A a ae hs hq b k cs=>by
    obtain ⟨e,a1,w1,gX,dE⟩:=ih cw s H _ (Exit.then (fun a1 w1=> ∀(b:Frame) (k:List Item) (cs:List Frame),∃e a' w',Q e a' w' ∧Arrives P (lone (b.at a1 (.code c:: .inLoop c::k)) cs w1) b k cs e a' w') Q) w φ A a (by simpa only [cS] using ho) hB ae hs (fun e s' H' aj A' a' w' h1 h2 h3=>by
     cases e with
     |normal=>
      obtain ⟨φ1,k1,k2⟩:=rN ((p.loops.lookup cw).getD {}) _ h1.st h2;exact h3 w' φ1 A' a' k1.st k2 (Ends.trans ae (h1.trans ae k1) hq)
     |exit id=>exact hq (.exit id) s' H' aj A' a' w' h1 h2 h3
     |ret=>exact hq .ret s' H' aj A' a' w' h1 h2 h3) b (.inLoop c::k) cs
    cases e with
    |normal=>
     obtain ⟨yM,a₂,yN,yO,yP⟩:=gX b k cs;exact ⟨yM,a₂,yN,yO,.of_steps (Steps.trans dE (.one step_inLoop)) yP⟩
    |exit id=>exact ⟨_,a1,w1,gX,.pass (x:= .inLoop c) rfl (fun _ _=> .inl (by simp)) dE⟩
    |goto l=>exact ⟨_,a1,w1,gX,.pass (x:= .inLoop c) rfl (fun _ _=> .inl (by simp)) dE⟩
    |ret=>exact ⟨_,a1,w1,gX,.pass (x:= .inLoop c) rfl (fun _ _=> .inl (by simp)) dE⟩
    |panic ch=>exact ⟨_,a1,w1,gX,.pass (x:= .inLoop c) rfl (fun _ _=> .inl (by simp)) dE⟩
    |outgrown=>exact ⟨_,a1,w1,gX,.pass (x:= .inLoop c) rfl (fun _ _=> .inl (by simp)) dE⟩)
  obtain ⟨φ1,k1,k2⟩:=rN ((p.loops.lookup cw).getD {}) H.bs.length ae hs;obtain ⟨e,a',w',yQ,dE⟩:=main w φ1 A a k1.st k2 (Ends.trans ae k1 hq) b k cs;exact ⟨e,a',w',yQ,.of_steps (.one step_loop) dE⟩
 |region id ops draw=>
  intro cw s H K Q w φ A a ho h ae hs hq;have key: ∀(K:Ex→ak→J→Prop),aJ X C (ie (p.nv.lookup id) ((p.fz.lookup id).getD []) id (fk (p.fR.lookup id) ops) draw) s H K→Ends Q K w H φ A→(Code.region id ops draw).wp P Q a w:=by
   intro K h hq;cases draw with
   |false=>
    have eL:fk (p.fR.lookup id) ops=ops:=by
     simp only [cS] at ho;cases hl:p.fR.lookup id with
     |none=>rfl
     |some π =>rw [hl] at ho;simp at ho
    rw [eL] at h;have h' :cJ X C ops (match p.nv.lookup id with|some (_,th)=>th|none=>[]) ((p.fz.lookup id).getD []) (fun s H=>K .normal s H) ops.toList 0 s H:=by
     unfold ie at h;split at h
     ·rename_i n th he;rw [he];exact h
     ·rename_i he;rw [he];exact h
    exact wp_region_list (rL hE hX ops.toList 0 s H w φ A a h' ae hs fun s' H' aj A' a' w' h1 h2 h3=>hq .normal s' H' aj A' a' w' h1 h2 h3)
   |true=>
    have h' : ∃q th,ij (fk (p.fR.lookup id) ops) q=true∧cU X C (fk (p.fR.lookup id) ops) (fun i=> !q.contains i) (fm (fk (p.fR.lookup id) ops) q) th (fun s H=>K .normal s H) (fk (p.fR.lookup id) ops).toList 0 s H:=by
     unfold ie at h;split at h
     ·exact ⟨_,_,h.1,h.2⟩
     ·exact ⟨_,_,h.1,h.2⟩
    obtain ⟨q,th,hd,h'⟩:=h';have hw:=hD _ q th s H _ Q w φ A a hd h' ae hs fun s' H' aj A' a' w' h1 h2 h3=>hq .normal s' H' aj A' a' w' h1 h2 h3
    refine wp_region_any hm ?_;simp only [cS] at ho;cases hl:p.fR.lookup id with
    |none=>rw [hl] at hw;exact hw
    |some π =>
     rw [hl] at hw ho;simp only [Bool.true_and] at ho;exact yD (yx ho) hw
  simp only [cT] at h;unfold jy at h;split at h
  ·rename_i l kp _;have mv: ∀{w:World} {H:J} {φ :af} {A:ah} {s:ak} {a:Act} (kp:Option (List Nat)),SF w H φ A s a→SF w H φ A (ep kp s) a:=by
    intro w H φ A s a kp h;cases kp with
    |none=>exact h
    |some l=>exact h.kill l
   simp only [aJ] at h;refine key _ h fun e s' H' aj A' a' w' h1 h2 h3=> ?_
   cases e with
   |normal=>
    simp only at h3;split at h3
    ·rename_i s2 H2 hf;obtain ⟨a_,A2,k1,k2⟩:=mr l h1.st h2 hf;exact hq .normal _ H2 a_ A2 a' w' (h1.trans ae k1) (mv kp k2) h3
    ·exact h3.elim
   |exit id=>exact hq (.exit id) s' H' aj A' a' w' h1 h2 h3
   |ret=>exact hq .ret s' H' aj A' a' w' h1 h2 h3
  ·exact key K h hq
 |_=>intro cw s H K Q w φ A a ho h ae hs hq;simp only [cT,aJ] at h
end code
end Go.VS
namespace Go.VS
section body
variable {P:Program} {C:aH} {X:bq}
theorem ph (hE: ∀t ti,C.E t=some ti→aQ P t ti) {w:World} {H:J} {φ :af} {A:ah} {s:ak} {a:Act} (ae:St w H φ A) (hs:SF w H φ A s a) {f:ResultVar→Sem Value} (kS: ∀t,f (.tmp t)=pure (a.tmps.getD t undef)) (kT: ∀x t,f (.cell x t)=(do loadVar t (←asAddr (a.tmps.getD x undef)))):
 ∀(l:List ResultVar) (rs:List AV),fo C.E s H l=some rs→
 ∃cz:List Value,(l.mapM f).run P w= .ok cz w∧rs.length=cz.length∧ ∀(i:Nat) (x:AV) (u:Value),rs[i]? =some x→cz[i]? =some u→R w H φ A x u
 |[],rs,h=>by
  simp only [fo,Option.some.injEq] at h;subst h;exact ⟨[],by simp,rfl,by simp⟩
 | .tmp t::l,rs,h=>by
  simp only [fo,Option.map_eq_some_iff] at h;obtain ⟨pj,h1,rfl⟩:=h;obtain ⟨cz,k1,k2,k3⟩:=ph hE ae hs kS kT l pj h1
  refine ⟨a.tmps.getD t undef::cz,by simp [List.mapM_cons,k1,kS],by simp [k2],fun i x u hx hu=> ?_⟩
  cases i with
  |zero=>simp at hx hu;subst hx;subst hu;have:=hs.ev (.tmp t);simpa [ev,Act.eval] using this
  |succ i=>exact k3 i x u hx hu
 | .cell b t::l,rs,h=>by
  simp only [fo] at h;split at h
  ·rename_i v H' he
   simp only [Option.map_eq_some_iff] at h;obtain ⟨pj,h1,rfl⟩:=h;obtain ⟨cz,k1,k2,k3⟩:=ph hE ae hs kS kT l pj h1
   have hb:=hs.ev (.tmp b);simp only [aO] at he;obtain ⟨u,hu,hr⟩:=qq (P:=P) hE ae (a7.refl H) hb he;have aK:(do loadVar t (←asAddr (a.tmps.getD b undef)):Sem Value).run P w= .ok u w:=by
    revert hu;simp only [Act.eval];unfold Instr.loadAt;generalize a.tmps.getD b undef=q;intro hu;cases q with
    |pointer o=>cases o with
     |none=>simp [Instr.sureAddr] at hu
     |some o=>simpa [Instr.sureAddr,asAddr] using hu
    |_=>simp [Instr.sureAddr] at hu
   refine ⟨u::cz,by rw [List.mapM_cons,kT,Sem.run_bind,aK];simp [k1],by simp [k2],fun i x u' hx aK=> ?_⟩
   cases i with
   |zero=>simp at hx aK;subst hx;subst aK;exact hr
   |succ i=>exact k3 i x u' hx aK
  ·simp at h
theorem rO (hE: ∀t ti,C.E t=some ti→aQ P t ti) {w:World} {H:J} {φ :af} {A:ah} {s:ak} {a:Act} (ae:St w H φ A) (hs:SF w H φ A s a) {fn:Func} {rs:List AV} (h:fo C.E s H fn.results.toList=some rs):
 ∃cz:List Value,(results fn a.tmps).run P w= .ok (gV cz) w∧rs.length=cz.length∧ ∀(i:Nat) (x:AV) (u:Value),rs[i]? =some x→cz[i]? =some u→R w H φ A x u:=by
 obtain ⟨f,kS,kT,yR⟩: ∃f:ResultVar→Sem Value,(∀t,f (.tmp t)=pure (a.tmps.getD t undef))∧(∀x t,f (.cell x t)=(do loadVar t (←asAddr (a.tmps.getD x undef))))∧
  results fn a.tmps=(do let vs←fn.results.mapM f;pure (if h:vs.size=1 then vs[0] else .tuple vs)):=⟨_,fun _=>rfl,fun _ _=>rfl,rfl⟩
 obtain ⟨cz,h1,h2,h3⟩:=ph hE ae hs kS kT fn.results.toList rs h;refine ⟨cz,?_,h2,h3⟩;rw [yR,Sem.run_bind,Array.mapM_eq_mapM_toList,Sem.run_map,h1]
 match cz with
 |[]=>simp [gV]
 |[u]=>simp [gV]
 |u::u' ::us=>simp [gV]
theorem yS (hm:P.follows .mixedOrders=true) (hE: ∀t ti,C.E t=some ti→aQ P t ti) (hC: ∀f fn,C.code f=some fn→P.funcs[f]? =some fn∧(fn.name== "runtime.NumGoroutine")=false∧ny (C.gF f) fn=true) (hX: ∀f ys H K,X f ys H K→b_ P f ys H K) (hD:mu P C X)
 {f:FuncId} {ys:List AV} {H:J} {K:AV→J→Prop} (h:Body X C f ys H K):b_ P f ys H K:=by
 unfold Body at h;split at h
 ·exact h.elim
 rename_i fn kj;split at h
 ·exact h.elim
 rename_i c hc;obtain ⟨hf,pk,kU⟩:=hC f fn kj;have kU:cS (C.gF f) c=true:=by unfold ny at kU;rw [hc] at kU;exact kU
 refine ⟨⟨fn,hf,pk,by simp [hc]⟩,fun w A φ us ae hl hr=> ?_⟩
 refine calls_of_wp hf hc (rM hm hE hX hD (C.gF f) c 0 _ H _ _ w φ A _ kU h ae ⟨by simp [hl],fun t x v hx hv=> ?_,rfl⟩ ?_)
 ·rcases Nat.lt_or_ge t us.size with ht|ht
  ·rw [List.getElem?_append_left (by rw [hl];exact ht)] at hx
   rw [Array.getElem?_append_left ht] at hv;exact hr t x v hx hv
  ·rw [List.getElem?_append_right (by rw [hl];exact ht)] at hx
   have:x= .undef:=by
    rw [List.getElem?_replicate] at hx;split at hx<;>simp at hx;exact hx.symm
   subst this;exact .fr _ _ (.undef _)
 ·intro e s' H' aj A' a' w' h1 h2 h3
  have fin:(∃rs,fo C.E s' H' fn.results.toList=some rs∧K (cB rs) H')→a'.defers=[]∧ ∃v,(results fn a'.tmps).run P w' = .ok v w' ∧iA w H φ A K (.returned v) w' :=by
   rintro ⟨rs,je,hk⟩;refine ⟨h2.ez,?_⟩;obtain ⟨cz,k1,k2,k3⟩:=rO (P:=P) hE h1.st h2 je;exact ⟨_,k1,_,H',aj,A',h1,oW k2 k3,hk⟩
  cases e with
  |normal=>exact fin h3
  |ret=>exact fin h3
  |exit id=>exact h3.elim
end body
end Go.VS
namespace Go.VS
def fh (H H1:J):Prop:=a7 H H1∧H.bs.length≤H1.bs.length
theorem a7.trans {H H1 H2:J} (h:a7 H H1) (k:a7 H1 H2):a7 H H2:=⟨fun id b hb=>k.1 id b (h.1 id b hb),Nat.le_trans h.2 k.2⟩
theorem fh.refl (H:J):fh H H:=⟨a7.refl _,Nat.le_refl _⟩
theorem fh.trans {H H1 H2:J} (h:fh H H1) (k:fh H1 H2):fh H H2:=⟨h.1.trans k.1,Nat.le_trans h.2 k.2⟩
theorem fh.new (H:J) (sz:Nat) (fx:Bool) (el:List AV):fh H (H.new sz fx el):=⟨J.nS H sz fx el,by simp [J.new]⟩
mutual
theorem po: ∀(y:AV) (H:J),fh H (aI y H).2
 | .own sz xs,H=>by simp only [aI];exact (iB xs H).trans (.new _ _ _ _)
 | .de sz x,H=>by simp only [aI];exact (po x H).trans (.new _ _ _ _)
 | .agg xs,H=>by simp only [aI];exact iB xs H
 | .ay xs,H=>by simp only [aI];exact iB xs H
 | .undef,H=> .refl _
 | .int _ _,H=> .refl _
 | .bool _,H=> .refl _
 | .str _,H=> .refl _
 | .nil,H=> .refl _
 | .e0,H=> .refl _
 | .fz _,H=> .refl _
 | .ref _ _ _ _,H=> .refl _
 | .ptr _ _ _ _,H=> .refl _
 | .fe _ _,H=> .refl _
 | .fn _ _,H=> .refl _
 | .cf _,H=> .refl _
 | .dq,H=> .refl _
theorem iB: ∀(ys:List AV) (H:J),fh H (aG ys H).2
 |[],H=> .refl _
 |y::ys,H=>by simp only [aG];exact (po y H).trans (iB ys _)
end
structure GH (G:J) (φ :af) (H H1:J):Prop where
 ext:a7 H1 G
 none: ∀id,H.bs.length≤id→id<H1.bs.length→ φ id=none
theorem jR (H:J) (sz:Nat) (fx:Bool) (el:List AV):(H.new sz fx el).bs.length=H.bs.length+1:=by simp [J.new]
theorem GH.fst {G:J} {φ :af} {H H1 H2:J} (h:GH G φ H H2) (k:fh H1 H2):GH G φ H H1:=⟨k.1.trans h.ext,fun id h1 h2=>h.none id h1 (Nat.lt_of_lt_of_le h2 k.2)⟩
section bu
variable {w:World}
structure MG (w:World) (L:J) (φL:af) (AL:ah) (G:J) (φ :af) (AH:ah) (L1:J) (φ1:af) (lo hi:Nat):Prop where
 less:bB L L1
 bu:bW w L1 (aC φL L1) AL G φ1 AH
 oh: ∀c,Ow φ1 c→Ow φ c∨(Ow φL c∧ ¬Ow (aC φL L1) c)
 gP: ∀c,Ow φ c→Ow φ1 c
 bX: ∀id loc,φ id=some loc→ φ1 id=some loc
 new: ∀id loc,φ1 id=some loc→ φ id=some loc∨(lo≤id∧id<hi)
 le:lo≤hi
theorem MG.eh {L:J} {φL:af} {AL:ah} {G:J} {φ :af} {AH:ah} {L1:J} {φ1:af} {lo hi:Nat} (m:MG w L φL AL G φ AH L1 φ1 lo hi):bF w G φ AH w G φ1 AH:=
 ⟨fun _c _arr _T fr hc hn=>⟨⟨fr,hc⟩,hn⟩,Nat.le_refl _,fun id b hb _=>⟨b,hb,rfl,rfl,rfl,rfl,fun loc h=>m.bX id loc h⟩,fun _ _=>rfl⟩
theorem MG.refl {L:J} {φL:af} {AL:ah} {G:J} {φ :af} {AH:ah} (h:bW w L φL AL G φ AH) (lo:Nat):MG w L φL AL G φ AH L φ lo lo:=
 ⟨.refl _,⟨dS h.sl (.refl _),h.sh,fun c hc=>h.b8 c (bH hc),fun c hc=>h.d_ c (bH hc)⟩,fun _c hc=> .inl hc,fun _c hc=>hc,fun _ _ h=>h,fun _ _ h=> .inl h,Nat.le_refl _⟩
theorem MG.trans {L L1 L2:J} {φL:af} {AL:ah} {G:J} {φ φ1 a_:af} {AH:ah} {lo mi hi:Nat} (h:MG w L φL AL G φ AH L1 φ1 lo mi) (k:MG w L1 (aC φL L1) AL G φ1 AH L2 a_ mi hi):MG w L φL AL G φ AH L2 a_ lo hi:=by
 have hr:=fE (φ := φL) k.less;refine ⟨h.less.trans k.less,by rw [←hr];exact k.bu,fun c hc=> ?_,fun c hc=>k.gP c (h.gP c hc),fun id loc hl=>k.bX id loc (h.bX id loc hl),fun id loc hl=> ?_,Nat.le_trans h.le k.le⟩
 ·rcases k.oh c hc with h1|⟨h1,h2⟩
  ·rcases h.oh c h1 with h3|⟨h3,h4⟩
   ·exact .inl h3
   ·refine .inr ⟨h3,fun h5=>h4 ?_⟩;rw [←hr] at h5;exact bH h5
  ·rw [hr] at h2;exact .inr ⟨bH h1,h2⟩
 ·have h1:=h.le;have h2:=k.le;rcases k.new id loc hl with h3|⟨h3,h4⟩
  ·rcases h.new id loc h3 with h5|⟨h5,h6⟩
   ·exact .inl h5
   ·exact .inr ⟨h5,by omega⟩
  ·exact .inr ⟨by omega,h4⟩
theorem GH.snd {L L1:J} {φL:af} {AL:ah} {G:J} {φ φ1:af} {AH:ah} {H H1 H2:J} (h:GH G φ H H2) (m:MG w L φL AL G φ AH L1 φ1 H.bs.length H1.bs.length):GH G φ1 H1 H2:=by
 refine ⟨h.ext,fun id h1 h2=> ?_⟩;cases hp: φ1 id with
 |none=>rfl
 |some loc=>
  have hle:=m.le;rcases m.new id loc hp with h3|⟨_,h3⟩
  ·rw [h.none id (by omega) h2] at h3;simp at h3
  ·omega
theorem rP {L L1:J} {φL:af} {AL:ah} {G:J} {φ φ1:af} {AH:ah} {lo hi:Nat} (m:MG w L φL AL G φ AH L1 φ1 lo hi) {ad sz:Nat} {fx:Bool} {el:List AV} {loc:Loc} (hg:G.get hi=some ⟨ad,sz,fx,el⟩) (bI:ad<G.st) (gS: φ hi=none)
 (dQ: ∀(i:Nat) (x:AV),el[i]? =some x→x.cells.length=sz) (hv:loc= .aN→el=[])
 (ea: ∀c b0,loc= .at_ c b0→Ow φL c∧ ¬Ow (aC φL L1) c∧ ¬Ow φ1 c∧AH c∧ ∃arr T fr,w.heap[c]? =some (.cells arr T fr)∧(∀j,j<arr.size→ ¬(fr.1≤j∧j<fr.2))∧b0+el.length*sz≤arr.size∧
  ∀(i:Nat) (x:AV) (j:Nat) (y:AV) (v:Value),el[i]? =some x→x.cells[j]? =some y→arr[b0+i*sz+j]? =some v→R w G φ1 AH y v∧v.oneCell' =true):
 MG w L φL AL G φ AH L1 (fun i=>if i=hi then some loc else φ1 i) lo (hi+1):=by
 have e9:=m.bu.sh;have hle:=m.le;have bm: φ1 hi=none:=by
  cases hp: φ1 hi with
  |none=>rfl
  |some l=>
   rcases m.new hi l hp with h|⟨_,h⟩
   ·rw [gS] at h;simp at h
   ·omega
 have aP:bF w G φ1 AH w G (fun i=>if i=hi then some loc else φ1 i) AH:=by
  refine ⟨fun c a t fr hc hn=>⟨⟨fr,hc⟩,hn⟩,Nat.le_refl _,fun id b hb ax=>⟨b,hb,rfl,rfl,rfl,rfl,fun l hl=> ?_⟩,fun _ _=>rfl⟩;rw [if_neg (by rintro rfl;rw [bm] at hl;simp at hl)];exact hl
 have dD: ∀c,Ow (fun i=>if i=hi then some loc else φ1 i) c→Ow φ1 c∨ ∃b0,loc= .at_ c b0:=by
  rintro c ⟨i,b,h⟩;try simp only at h
  split at h
  ·simp only [Option.some.injEq] at h;exact .inr ⟨b,h⟩
  ·exact .inl ⟨i,b,h⟩
 refine ⟨m.less,⟨m.bu.sl,⟨fun i i' c b b' h1 h2=> ?_,fun c hc=> ?_,e9.bV,fun i l hl=> ?_⟩,fun c hc ho=> ?_,m.bu.d_⟩,fun c hc=> ?_,fun c hc=> ?_,fun id l hl=> ?_,fun id l hl=> ?_,by omega⟩
 ·try simp only at h1 h2
  split at h1
  ·rename_i hi;split at h2
   ·rename_i gL;omega
   ·simp only [Option.some.injEq] at h1;exact absurd ⟨i',b',h2⟩ (ea c b h1).2.2.1
  ·split at h2
   ·simp only [Option.some.injEq] at h2;exact absurd ⟨i,b,h1⟩ (ea c b' h2).2.2.1
   ·exact e9.inj _ _ _ _ _ h1 h2
 ·rcases dD c hc with h|⟨b0,h⟩
  ·exact e9.own c h
  ·exact (ea c b0 h).2.2.2.1
 ·try simp only at hl
  split at hl
  ·rename_i hi;subst hi;simp only [Option.some.injEq] at hl;subst hl;refine ⟨_,hg,bI,dQ,hv,fun c b0 he=> ?_⟩;obtain ⟨_,_,_,_,arr,T,fr,k1,k2,k3,k4⟩:=ea c b0 he;exact ⟨arr,T,fr,k1,k2,k3,fun j x q y v bD hy ck=>⟨(k4 j x q y v bD hy ck).1.mono aP,(k4 j x q y v bD hy ck).2⟩⟩
  ·obtain ⟨bb,hb,ag⟩:=e9.ap i l hl;refine ⟨bb,hb,ag.ad,ag.sized,ag.aN,fun c b0 he=> ?_⟩;obtain ⟨arr,T,fr,k1,k2,k3,k4⟩:=ag.here c b0 he;exact ⟨arr,T,fr,k1,k2,k3,fun j x q y v bD hy ck=>⟨(k4 j x q y v bD hy ck).1.mono aP,(k4 j x q y v bD hy ck).2⟩⟩
 ·rcases dD c ho with h|⟨b0,h⟩
  ·exact m.bu.b8 c hc h
  ·exact (ea c b0 h).2.1 hc
 ·rcases dD c hc with h|⟨b0,h⟩
  ·exact m.oh c h
  ·exact .inr ⟨(ea c b0 h).1,(ea c b0 h).2.1⟩
 ·obtain ⟨i,b,h⟩:=m.gP c hc
  exact ⟨i,b,by show (if i=hi then some loc else φ1 i)=_;rw [if_neg (by rintro rfl;rw [bm] at h;simp at h)];exact h⟩
 ·have:=m.bX id l hl;rw [if_neg (by rintro rfl;rw [bm] at this;simp at this)];exact this
 ·try simp only at hl
  split at hl
  ·rename_i hi;subst hi;exact .inr ⟨hle,Nat.lt_succ_self _⟩
  ·rcases m.new id l hl with h|⟨h1,h2⟩
   ·exact .inl h
   ·exact .inr ⟨h1,by omega⟩
set_option maxRecDepth 4000
theorem rQ {es:List Sh} (hE: ∀(x:AV) (vs:List Value) (L:J) (φL:af) (AL:ah) (H G:J) (φ :af) (AH:ah) (y:AV) (L1:J) (a:AV) (H1:J),bW w L φL AL G φ AH→GH G φ H H1→x.cells.length=vs.length→
 (∀(j:Nat) (c:AV) (u:Value),x.cells[j]? =some c→vs[j]? =some u→R w L φL AL c u)→a8 es x L=some (y,L1)→aI y H=(a,H1)→fF AL AH y→
 ∃ φ1,MG w L φL AL G φ AH L1 φ1 H.bs.length H1.bs.length∧a.cells.length=x.cells.length∧ ∀(j:Nat) (c:AV) (u:Value),a.cells[j]? =some c→vs[j]? =some u→R w G φ1 AH c u):
 ∀(xs:List AV) (g:Nat→Nat→Value) (L:J) (φL:af) (AL:ah) (H G:J) (φ :af) (AH:ah) (ys:List AV) (L1:J) (as:List AV) (H1:J),bW w L φL AL G φ AH→GH G φ H H1→
  (∀(i:Nat) (x:AV) (j:Nat) (c:AV),xs[i]? =some x→x.cells[j]? =some c→R w L φL AL c (g i j))→dg (a8 es) xs L=some (ys,L1)→aG ys H=(as,H1)→dJ AL AH ys→
  ∃ φ1,MG w L φL AL G φ AH L1 φ1 H.bs.length H1.bs.length∧as.length=xs.length∧(∀(i:Nat) (x a:AV),xs[i]? =some x→as[i]? =some a→a.cells.length=x.cells.length)∧
   ∀(i:Nat) (a:AV) (j:Nat) (c:AV),as[i]? =some a→a.cells[j]? =some c→R w G φ1 AH c (g i j)
 |[],g,L,φL,AL,H,G,φ,AH,ys,L1,as,H1,hd,hh,_,ht,hw,_=>by
  simp only [dg,Option.some.injEq,Prod.mk.injEq] at ht;obtain ⟨rfl,rfl⟩:=ht;simp only [aG,Prod.mk.injEq] at hw;obtain ⟨rfl,rfl⟩:=hw;exact ⟨φ,.refl hd _,rfl,by simp,by simp⟩
 |x::xs,g,L,φL,AL,H,G,φ,AH,ys,L1,as,H1,hd,hh,hr,ht,hw,hk=>by
  simp only [dg] at ht;split at ht
  ·rename_i y L' h1
   split at ht
   ·rename_i aS cY h2
    simp only [Option.some.injEq,Prod.mk.injEq] at ht;obtain ⟨rfl,rfl⟩:=ht;obtain ⟨k1,k2⟩:=hk.cons;simp only [aG,Prod.mk.injEq] at hw;obtain ⟨rfl,rfl⟩:=hw
    let vs:List Value:=(List.range x.cells.length).map (g 0)
    obtain ⟨φ1,m1,l1,r1⟩:=hE x vs L φL AL H G φ AH y L' _ _ hd (hh.fst (iB _ _)) (by simp [vs]) (fun j c u hj hu=>by
     have dI:j<x.cells.length:=(List.getElem?_eq_some_iff.1 hj).1;have:vs[j]? =some (g 0 j):=by simp [vs,dI]
     rw [this] at hu;simp only [Option.some.injEq] at hu;subst hu;exact hr 0 x j c rfl hj) h1 rfl k1
    obtain ⟨a_,m2,l2,s2,r2⟩:=rQ hE xs (fun i j=>g (i+1) j) L' (aC φL L') AL _ G φ1 AH aS cY _ _ m1.bu (hh.snd m1) (fun i x' j c hi hj=>(hr (i+1) x' j c hi hj).mono (cV m1.less)) h2 rfl k2
    refine ⟨a_,m1.trans m2,by simp [l2],fun i x' a hx ha=> ?_,fun i a j c ha hc=> ?_⟩
    ·cases i with
     |zero=>simp at hx ha;subst hx;subst ha;exact l1
     |succ i=>exact s2 i x' a hx ha
    ·cases i with
     |zero=>
      simp only [List.getElem?_cons_zero,Option.some.injEq] at ha;subst ha;have hj:j<x.cells.length:=by rw [←l1];exact (List.getElem?_eq_some_iff.1 hc).1
      exact (r1 j c (g 0 j) hc (by simp [vs,hj])).mono m2.eh
     |succ i=>exact r2 i a j c ha hc
   ·simp at ht
  ·simp at ht
theorem rR {L:J} {φL:af} {AL:ah} {G:J} {φ :af} {AH:ah} (hd:bW w L φL AL G φ AH) {id ad:Nat} {b:bw} (hb:L.ap id ad=some b) {off n:Nat} (hle:off+n≤b.el.length) {sz:Nat} (hs:b.sz=sz) {loc:Loc} (aU: φL id=some loc)
 {L1:J} {as:List AV} {lo hi:Nat} {g:Nat→Nat→Value} {φ1:af} (hg: ∀c b0 arr T fr,loc= .at_ c b0→w.heap[c]? =some (.cells arr T fr)→ ∀(i j:Nat) (v:Value),i<n→j<sz→arr[b0+(off+i)*sz+j]? =some v→g i j=v)
 (m:MG w (L.del id) (aC φL (L.del id)) AL G φ AH L1 φ1 lo hi) (hl:as.length=n) (dQ: ∀(i:Nat) (a:AV),as[i]? =some a→a.cells.length=sz)
 (hr: ∀(i:Nat) (a:AV) (j:Nat) (c:AV),as[i]? =some a→a.cells[j]? =some c→R w G φ1 AH c (g i j)) {gd:Nat} (fx:Bool) (gY:G.get hi=some ⟨gd,sz,fx,as⟩) (bI:gd<G.st) (gS: φ hi=none) (loc' :Loc) (gQ:loc' = .aN∧n=0∨ ∃c b0,loc= .at_ c b0∧loc' = .at_ c (b0+off*sz)):
 MG w L φL AL G φ AH L1 (fun i=>if i=hi then some loc' else φ1 i) lo (hi+1):=by
 have oz:=(J.bp hb).1;have oA:=(bB.del L id).trans m.less;have gR:aC (aC φL (L.del id)) L1=aC φL L1:=fE m.less;have m' :MG w L φL AL G φ AH L1 φ1 lo hi:=by
  refine ⟨oA,by have:=m.bu;rwa [gR] at this,fun c hc=> ?_,m.gP,m.bX,m.new,m.le⟩
  rcases m.oh c hc with h|⟨h1,h2⟩
  ·exact .inl h
  ·rw [gR] at h2;exact .inr ⟨bH h1,h2⟩
 refine rP m' gY bI gS dQ (fun hv=> ?_) (fun c b1 he=> ?_)
 ·rcases gQ with ⟨_,h0⟩|⟨c,b0,_,h2⟩
  ·exact List.eq_nil_of_length_eq_zero (by omega)
  ·rw [h2] at hv;simp at hv
 ·rcases gQ with ⟨h1,_⟩|⟨c',b0,h1,h2⟩
  ·rw [h1] at he;simp at he
  ·rw [h2] at he;simp only [Loc.at_.injEq] at he;obtain ⟨rfl,rfl⟩:=he;subst h1;have iZ:Ow φL c' :=⟨id,b0,aU⟩
   have oB: ¬Ow (aC φL L1) c' :=by
    rintro ⟨i,bb,hi⟩;obtain ⟨fc,bk,aW⟩:=db hi;have:=hd.sl.inj _ _ _ _ _ fc aU;subst this;have:=m.less.get _ _ aW;rw [J.iy,if_pos rfl] at this;simp at this
   refine ⟨iZ,oB,fun ho=> ?_,hd.d_ _ iZ,?_⟩
   ·rcases m.oh c' ho with h|⟨⟨i,bb,hi⟩,_⟩
    ·exact hd.b8 c' iZ h
    ·obtain ⟨fc,bk,aW⟩:=db hi;have:=hd.sl.inj _ _ _ _ _ fc aU;subst this;rw [J.iy,if_pos rfl] at aW;simp at aW
   ·obtain ⟨bk,aW,ag⟩:=hd.sl.ap id _ aU;rw [oz] at aW;simp only [Option.some.injEq] at aW;subst aW;obtain ⟨arr,T,fr,k1,k2,k3,k4⟩:=ag.here c' b0 rfl
    have hmul:off*sz+n*sz≤b.el.length*sz:=by rw [←Nat.add_mul];exact Nat.mul_le_mul_right _ hle
    refine ⟨arr,T,fr,k1,k2,by rw [hl];rw [hs] at k3;omega,fun i a j c v ha hc hv=> ?_⟩
    have hi:i<n:=by rw [←hl];exact (List.getElem?_eq_some_iff.1 ha).1
    have hj:j<sz:=by rw [←dQ i a ha];exact (List.getElem?_eq_some_iff.1 hc).1
    have e:b0+off*sz+i*sz+j=b0+(off+i)*sz+j:=by rw [Nat.add_mul];omega
    rw [e] at hv;have oC:=hg c' b0 arr T fr rfl k1 i j v hi hj hv
    refine ⟨by rw [←oC];exact hr i a j c ha hc,?_⟩
    have bO:off+i<b.el.length:=by omega
    have hx:=List.getElem?_eq_getElem bO;have cj:=ag.sized _ _ hx;exact (k4 (off+i) _ j _ v hx (List.getElem?_eq_getElem (by omega)) (by rw [hs];exact hv)).2
mutual
theorem mw (sh:Sh) (x:AV) (v:Value) (L:J) (φL:af) (AL:ah) (H G:J) (φ :af) (AH:ah) (y:AV) (L1:J) (a:AV) (H1:J) (hd:bW w L φL AL G φ AH) (hh:GH G φ H H1) (hx:R w L φL AL x v)
 (ht:aT sh x L=some (y,L1)) (hw:aI y H=(a,H1)) (hk:fF AL AH y): ∃ φ1,MG w L φL AL G φ AH L1 φ1 H.bs.length H1.bs.length∧R w G φ1 AH a v∧(x≠ .undef→a.cells=[a])∧(x= .undef→a= .undef):=by
 cases sh with
 |sc=>
  simp only [aT] at ht;split at ht
  ·rename_i hp;simp only [Option.some.injEq,Prod.mk.injEq] at ht;obtain ⟨rfl,rfl⟩:=ht;rw [qT hp] at hw;simp only [Prod.mk.injEq] at hw;obtain ⟨rfl,rfl⟩:=hw;exact ⟨φ,.refl hd _,qS hp hx,fun hu=>cells_one hu (by rintro cs rfl;simp [dr] at hp),fun h=>h⟩
  ·simp at ht
 |sl es=>
  have kI: ∀{v0:Option Addr},v= .slice v0 0 0→aI (.own es.length []) H=(a,H1)→L1=L→ ∃ φ1,MG w L φL AL G φ AH L1 φ1 H.bs.length H1.bs.length∧R w G φ1 AH a v∧a.cells=[a]:=by
   intro v0 hv hw hL;subst hL;simp only [aI,aG,Prod.mk.injEq] at hw;obtain ⟨rfl,rfl⟩:=hw;have gY:=hh.ext.1 _ _ (J.dP H es.length false []);have bI:H.st<G.st:=Nat.lt_of_lt_of_le (Nat.lt_succ_self _) hh.ext.2;have m:=rP (MG.refl hd H.bs.length) gY bI (hh.none _ (Nat.le_refl _) (by rw [jR];exact Nat.lt_succ_self _)) (loc:= .aN) (by simp) (fun _=>rfl) (by simp)
   rw [←jR H es.length false []] at m;refine ⟨_,m,?_,rfl⟩;refine .ref _ _ _ _ _ bI ⟨_,_,hv⟩ fun b hb=> ?_;have:=jM gY hb;subst this;exact ⟨.aN,v0,0,by simp,hv,by simp,Nat.le_refl _,by simp,rfl,fun _=>rfl⟩
  cases x with
  |nil=>
   simp only [aT,Option.some.injEq,Prod.mk.injEq] at ht;obtain ⟨rfl,rfl⟩:=ht;obtain ⟨φ1,h1,h2,h3⟩:=kI hx.cX hw rfl;exact ⟨φ1,h1,h2,fun _=>h3,fun h=>by simp at h⟩
  |e0=>
   simp only [aT,Option.some.injEq,Prod.mk.injEq] at ht;obtain ⟨rfl,rfl⟩:=ht;obtain ⟨a0,kJ⟩:=hx.ew;obtain ⟨φ1,h1,h2,h3⟩:=kI kJ hw rfl;exact ⟨φ1,h1,h2,fun _=>h3,fun h=>by simp at h⟩
  |fz xs=>
   simp only [aT,Option.some.injEq,Prod.mk.injEq] at ht;obtain ⟨rfl,rfl⟩:=ht;simp only [aI,Prod.mk.injEq] at hw;obtain ⟨rfl,rfl⟩:=hw;rcases hk with hk|hk
   ·exact ⟨φ,.refl hd _,.fr _ _ (hx.du.shrink hk),fun _=>rfl,fun h=>by simp at h⟩
   ·simp [dh] at hk
  |ref id ad off len=>
   simp only [aT] at ht;split at ht
   ·rename_i b hb;split at ht
    ·rename_i hc;obtain ⟨c1,c2,c3⟩:=hc;split at ht
     ·rename_i ys L' hm
      simp only [Option.some.injEq,Prod.mk.injEq] at ht;obtain ⟨rfl,rfl⟩:=ht;simp only [aI,Prod.mk.injEq] at hw;obtain ⟨rfl,rfl⟩:=hw;have hg:=(J.bp hb).1;obtain ⟨bI,_,hr⟩:=hx.c7;obtain ⟨loc,a0,cap,q1,rfl,q3,q4,q5,q6⟩:=(hr b hb).out;obtain ⟨bk,aW,ag⟩:=hd.sl.ap id _ q1;rw [hg] at aW;simp only [Option.some.injEq] at aW;subst aW;have bE:dJ AL AH ys:=by
       rcases hk with h|h
       ·exact .inl h
       ·exact .inr (by simpa [dh] using h)
      have cM:=bB.del L id;have bY:bW w (L.del id) (aC φL (L.del id)) AL G φ AH:=⟨dS hd.sl cM,hd.sh,fun c hc=>hd.b8 c (bH hc),fun c hc=>hd.d_ c (bH hc)⟩
      have br:(aD b.el off len).length=len:=by simp [aD];omega
      have fG: ∀(i:Nat) (x:AV),(aD b.el off len)[i]? =some x→b.el[off+i]? =some x:=by
       intro i x hi;simp only [aD,List.getElem?_take,List.getElem?_drop] at hi;split at hi
       ·exact hi
       ·simp at hi
      let g:Nat→Nat→Value:=match loc with
       | .aN=>fun _ _=>undef
       | .at_ c b0=>fun i j=>match w.heap[c]? with
        |some (.cells arr _ _)=>arr.getD (b0+(off+i)*es.length+j) undef
        |_=>undef
      have cr: ∀(i:Nat) (x:AV) (j:Nat) (c:AV),(aD b.el off len)[i]? =some x→x.cells[j]? =some c→R w (L.del id) (aC φL (L.del id)) AL c (g i j):=by
       intro i x j c hi hj;have bD:=fG i x hi
       have cc:i<len:=by rw [←br];exact (List.getElem?_eq_some_iff.1 hi).1
       cases loc with
       |aN=>have:=ag.aN rfl;rw [this] at bD;simp at bD
       |at_ c0 b0=>
        obtain ⟨arr,T,fr,k1,k2,k3,k4⟩:=ag.here c0 b0 rfl;have dI:j<b.sz:=by rw [←ag.sized _ _ bD];exact (List.getElem?_eq_some_iff.1 hj).1
        have hle:=cH (n:=b.sz) (show off+i<b.el.length by omega)
        have ax:b0+(off+i)*b.sz+j<arr.size:=by omega
        have:g i j=arr[b0+(off+i)*b.sz+j]:=by
         simp only [g,k1,←c1,Array.getD_eq_getD_getElem?,Array.getElem?_eq_getElem ax,Option.getD_some]
        rw [this];exact ((k4 _ _ _ _ _ bD hj (Array.getElem?_eq_getElem ax)).1).mono (cV cM)
      obtain ⟨φ1,m,l1,s1,r1⟩:=rQ (w:=w) (es:=es) (fun x vs L φL AL H G φ AH y L1 a H1=>rS es x vs L φL AL H G φ AH y L1 a H1) _ g _ _ _ _ _ _ _ _ _ _ _ bY (hh.fst (.new _ _ _ _)) cr hm rfl bE
      rw [br] at l1;have kK: ∀(i:Nat) (a:AV),(aG ys H).1[i]? =some a→a.cells.length=b.sz:=by
       intro i a ha;have cc:i<(aD b.el off len).length:=by rw [br,←l1];exact (List.getElem?_eq_some_iff.1 ha).1
       have iz:=List.getElem?_eq_getElem cc;rw [s1 i _ a iz ha];exact ag.sized _ _ (fG i _ iz)
      have oD: ∀c b0 arr T fr,loc= .at_ c b0→w.heap[c]? =some (.cells arr T fr)→ ∀(i j:Nat) (v:Value),i<len→j<b.sz→arr[b0+(off+i)*b.sz+j]? =some v→g i j=v:=by
       intro c b0 arr T fr hl hh i j v _ _ hv;subst hl;simp only [g,hh,←c1,Array.getD_eq_getD_getElem?,hv,Option.getD_some]
      let loc' :Loc:=match loc with
       | .aN=> .aN
       | .at_ c b0=>if cap=0 then .aN else .at_ c (b0+off*b.sz)
      have gQ:loc' = .aN∧len=0∨ ∃c b0,loc= .at_ c b0∧loc' = .at_ c (b0+off*b.sz):=by
       cases loc with
       |aN=>left;refine ⟨rfl,?_⟩;have:=ag.aN rfl;rw [this] at q3;simp at q3;omega
       |at_ c b0=>
        by_cases eb:cap=0
        ·left;exact ⟨by simp [loc',eb],by omega⟩
        ·right;exact ⟨c,b0,rfl,by simp [loc',eb]⟩
      have gY:=hh.ext.1 _ _ (J.dP (aG ys H).2 es.length false (aG ys H).1);have bI:(aG ys H).2.st<G.st:=Nat.lt_of_lt_of_le (Nat.lt_succ_self _) hh.ext.2;have M:=rR hd hb c2 rfl q1 oD m l1 kK r1 false (by rw [c1];exact gY) bI (hh.none _ (iB ys H).2 (by rw [jR];exact Nat.lt_succ_self _)) loc' gQ
      rw [←jR (aG ys H).2 es.length false (aG ys H).1] at M;refine ⟨_,M,?_,fun _=>rfl,fun h=>by simp at h⟩
      refine .ref _ _ _ _ _ bI ⟨a0,cap,by rw [l1]⟩ fun b' aw=> ?_
      have:=jM gY aw;subst this;refine ⟨loc',a0,cap,by simp,by rw [l1],by simp,by omega,by simp only;omega,?_⟩
      cases loc with
      |aN=>
       simp only at q6;have cm:len=0:=by have:=ag.aN rfl;rw [this] at q3;simp at q3;omega
       refine ⟨List.eq_nil_of_length_eq_zero (by rw [l1,cm]),fun _=> ?_⟩
       rcases c3 with c3|c3
       ·exact q6.2 c3
       ·omega
      |at_ c b0=>
       simp only at q6;by_cases eb:cap=0
       ·simp only [loc',eb,if_true];exact ⟨List.eq_nil_of_length_eq_zero (by omega),fun _=>by first|trivial|omega|rfl⟩
       ·simp only [loc',eb,if_false];rcases q6 with q6|⟨h1,h2⟩
        ·exact absurd q6 eb
        ·refine Or.inr ⟨by rw [h1];simp,?_⟩
         rw [c1] at h2⊢;have:(off+cap)*es.length=off*es.length+cap*es.length:=Nat.add_mul _ _ _;simp only [Nat.zero_add];omega
     ·simp at ht
    ·simp at ht
   ·simp at ht
  |_=>simp [aT] at ht
 |pt es=>
  cases x with
  |fe z o=>
   simp only [aT,Option.some.injEq,Prod.mk.injEq] at ht;obtain ⟨rfl,rfl⟩:=ht;simp only [aI,Prod.mk.injEq] at hw;obtain ⟨rfl,rfl⟩:=hw;rcases hk with hk|hk
   ·exact ⟨φ,.refl hd _,.fr _ _ (hx.eu.shrink hk),fun _=>rfl,fun h=>by simp at h⟩
   ·simp [dh] at hk
  |ptr id ad idx off=>
   rcases idx with _|idx
   rotate_left
   ·simp [aT] at ht
   rcases off with _|off
   rotate_left
   ·simp [aT] at ht
   simp only [aT] at ht;split at ht
   ·rename_i oE sz oF z hb;split at ht
    ·rename_i y' L' hm
     simp only [Option.some.injEq,Prod.mk.injEq] at ht;obtain ⟨rfl,rfl⟩:=ht;simp only [aI,Prod.mk.injEq] at hw;obtain ⟨rfl,rfl⟩:=hw;have hg:=(J.bp hb).1;obtain ⟨bI,_,hr⟩:=hx.eY;obtain ⟨c,b0,q1,rfl⟩:=hr _ hb;obtain ⟨bk,aW,ag⟩:=hd.sl.ap id _ q1;rw [hg] at aW;simp only [Option.some.injEq] at aW;subst aW;obtain ⟨arr,T,fr,k1,k2,k3,k4⟩:=ag.here c b0 rfl;have bE:fF AL AH y' :=by
      rcases hk with h|h
      ·exact .inl h
      ·exact .inr (by simpa [dh] using h)
     have cM:=bB.del L id;have bY:bW w (L.del id) (aC φL (L.del id)) AL G φ AH:=⟨dS hd.sl cM,hd.sh,fun c hc=>hd.b8 c (bH hc),fun c hc=>hd.d_ c (bH hc)⟩
     have c9:z.cells.length=sz:=ag.sized 0 z rfl;simp only [List.length_singleton,Nat.one_mul] at k3
     let vs:List Value:=(arr.extract b0 (b0+sz)).toList
     have dx:vs.length=sz:=by simp [vs];omega
     have fH: ∀j u,vs[j]? =some u→arr[b0+j]? =some u:=by
      intro j u hu;simp only [vs,Array.getElem?_toList,Array.getElem?_extract] at hu;split at hu
      ·exact hu
      ·simp at hu
     obtain ⟨φ1,m,l1,r1⟩:=rS es z vs _ _ _ _ _ _ _ _ _ _ _ bY (hh.fst (.new _ _ _ _)) (by rw [dx,c9]) (fun j c' u hj hu=>((k4 0 z j c' u rfl hj (by simpa using fH j u hu)).1).mono (cV cM)) hm rfl bE
     have gY:=hh.ext.1 _ _ (J.dP (aI y' H).2 sz false [(aI y' H).1])
     have bI:(aI y' H).2.st<G.st:=Nat.lt_of_lt_of_le (Nat.lt_succ_self _) hh.ext.2
     have M:=rR (as:=[(aI y' H).1]) (n:=1) (off:=0) (sz:=sz) (loc' := .at_ c b0) (g:=fun i j=>vs.getD j undef) hd hb (by simp) rfl q1 (fun c' oG arr' T' eF hl hh i j v hi hj hv=>by
      simp only [Loc.at_.injEq] at hl;obtain ⟨rfl,rfl⟩:=hl;rw [k1] at hh;simp only [Option.some.injEq,Obj.cells.injEq] at hh;obtain ⟨rfl,_,_⟩:=hh;have i_:i=0:=by omega
      subst i_;simp only [Nat.zero_mul,Nat.add_zero] at hv;have:vs[j]? =some v:=by
       simp only [vs,Array.getElem?_toList,Array.getElem?_extract];rw [if_pos (by omega)];exact hv
      simp [List.getD,this]) m rfl (fun i a ha=>by
      cases i with
      |zero=>simp at ha;subst ha;rw [l1,c9]
      |succ i=>simp at ha) (fun i a j c' ha hc=>by
      cases i with
      |zero=>
       simp at ha;subst ha;have hj:j<vs.length:=by rw [dx,←c9,←l1];exact (List.getElem?_eq_some_iff.1 hc).1
       have:=r1 j c' vs[j] hc (List.getElem?_eq_getElem hj)
       simpa [List.getD,hj] using this
      |succ i=>simp at ha) false gY bI (hh.none _ (po y' H).2 (by rw [jR];exact Nat.lt_succ_self _)) (.inr ⟨c,b0,rfl,by simp⟩)
     rw [←jR (aI y' H).2 sz false [(aI y' H).1]] at M
     refine ⟨_,M,?_,fun _=>rfl,fun h=>by simp at h⟩
     refine .ptr _ _ _ _ _ bI ⟨_,rfl⟩ fun b' aw=>⟨c,b0,by simp,?_⟩
     simp
    ·simp at ht
   ·simp at ht
  |_=>simp [aT] at ht
 termination_by (SizeOf.sizeOf sh,0)
theorem rS (es:List Sh) (x:AV) (vs:List Value) (L:J) (φL:af) (AL:ah) (H G:J) (φ :af) (AH:ah) (y:AV) (L1:J) (a:AV) (H1:J) (hd:bW w L φL AL G φ AH) (hh:GH G φ H H1) (hl:x.cells.length=vs.length)
 (hx: ∀(j:Nat) (c:AV) (u:Value),x.cells[j]? =some c→vs[j]? =some u→R w L φL AL c u) (ht:a8 es x L=some (y,L1)) (hw:aI y H=(a,H1)) (hk:fF AL AH y):
 ∃ φ1,MG w L φL AL G φ AH L1 φ1 H.bs.length H1.bs.length∧a.cells.length=x.cells.length∧ ∀(j:Nat) (c:AV) (u:Value),a.cells[j]? =some c→vs[j]? =some u→R w G φ1 AH c u:=by
 by_cases bT: ∃cs,x= .agg cs
 ·obtain ⟨cs,rfl⟩:=bT;have ct: ∃aV,cv es cs L=some (aV,L1)∧y= .agg aV:=by
   match es,ht with
   |[],ht=>
    simp only [a8] at ht;split at ht
    ·rename_i aV L' hc
     simp only [Option.some.injEq,Prod.mk.injEq] at ht;obtain ⟨rfl,rfl⟩:=ht;exact ⟨aV,hc,rfl⟩
    ·simp at ht
   |[e],ht=>
    simp only [a8] at ht;split at ht
    ·rename_i aV L' hc
     simp only [Option.some.injEq,Prod.mk.injEq] at ht;obtain ⟨rfl,rfl⟩:=ht;exact ⟨aV,hc,rfl⟩
    ·simp at ht
   |e::e' ::es,ht=>
    simp only [a8] at ht;split at ht
    ·rename_i aV L' hc
     simp only [Option.some.injEq,Prod.mk.injEq] at ht;obtain ⟨rfl,rfl⟩:=ht;exact ⟨aV,hc,rfl⟩
    ·simp at ht
  obtain ⟨aV,hc,rfl⟩:=ct;simp only [aI,Prod.mk.injEq] at hw;obtain ⟨rfl,rfl⟩:=hw;have bE:dJ AL AH aV:=by
   rcases hk with h|h
   ·exact .inl h
   ·exact .inr (by simpa [dh] using h)
  exact pq es cs vs L φL AL H G φ AH aV L1 _ _ hd hh hl hx hc rfl bE
 ·have dn: ∀cs,x≠ .agg cs:=fun cs h=>bT ⟨cs,h⟩
  match es,ht with
  |[e],ht=>
   have ct:aT e x L=some (y,L1):=by
    cases x<;>first|(simpa only [a8] using ht)|exact absurd rfl (dn _)
   by_cases hu:x= .undef
   ·subst hu;have fq:vs=[]:=List.eq_nil_of_length_eq_zero (by simpa [AV.cells] using hl.symm)
    subst fq;obtain ⟨φ1,m,_,_,h4⟩:=mw e .undef undef L φL AL H G φ AH y L1 a H1 hd hh (.fr _ _ (.undef _)) ct hw hk
    exact ⟨φ1,m,by rw [h4 rfl],by simp⟩
   ·have ec:=cells_one hu dn;rw [ec] at hl;obtain ⟨v,rfl⟩: ∃v,vs=[v]:=by
     match vs,hl with
     |[v],_=>exact ⟨v,rfl⟩
    obtain ⟨φ1,m,h2,h3,_⟩:=mw e x v L φL AL H G φ AH y L1 a H1 hd hh (hx 0 x v (by rw [ec];rfl) rfl) ct hw hk
    refine ⟨φ1,m,by rw [h3 hu,ec];rfl,fun j c u hj aK=> ?_⟩
    rw [h3 hu] at hj;cases j with
    |zero=>simp at hj aK;subst hj;subst aK;exact h2
    |succ j=>simp at hj
  |[],ht=>cases x<;>first|(simp [a8] at ht;done)|exact absurd rfl (dn _)
  |_::_::_,ht=>cases x<;>first|(simp [a8] at ht;done)|exact absurd rfl (dn _)
 termination_by (SizeOf.sizeOf es,1)
theorem pq (es:List Sh) (cs:List AV) (vs:List Value) (L:J) (φL:af) (AL:ah) (H G:J) (φ :af) (AH:ah) (ys:List AV) (L1:J) (as:List AV) (H1:J) (hd:bW w L φL AL G φ AH) (hh:GH G φ H H1) (hl:cs.length=vs.length)
 (hx: ∀(j:Nat) (c:AV) (u:Value),cs[j]? =some c→vs[j]? =some u→R w L φL AL c u) (ht:cv es cs L=some (ys,L1)) (hw:aG ys H=(as,H1)) (hk:dJ AL AH ys):
 ∃ φ1,MG w L φL AL G φ AH L1 φ1 H.bs.length H1.bs.length∧as.length=cs.length∧ ∀(j:Nat) (c:AV) (u:Value),as[j]? =some c→vs[j]? =some u→R w G φ1 AH c u:=by
 match es,cs,ht with
 |[],[],ht=>
  simp only [cv,Option.some.injEq,Prod.mk.injEq] at ht;obtain ⟨rfl,rfl⟩:=ht;simp only [aG,Prod.mk.injEq] at hw;obtain ⟨rfl,rfl⟩:=hw;exact ⟨φ,.refl hd _,rfl,by simp⟩
 |e::es,x::cs,ht=>
  simp only [cv] at ht;split at ht
  ·rename_i y L' h1
   split at ht
   ·rename_i aS cY h2
    simp only [Option.some.injEq,Prod.mk.injEq] at ht;obtain ⟨rfl,rfl⟩:=ht;simp only [aG,Prod.mk.injEq] at hw;obtain ⟨rfl,rfl⟩:=hw;obtain ⟨k1,k2⟩:=hk.cons
    match vs,hl with
    |v::vs,hl=>
     obtain ⟨φ1,m1,r1,_,_⟩:=mw e x v L φL AL H G φ AH y L' _ _ hd (hh.fst (iB _ _)) (hx 0 x v rfl rfl) h1 rfl k1
     obtain ⟨a_,m2,l2,r2⟩:=pq es cs vs L' (aC φL L') AL _ G φ1 AH aS cY _ _ m1.bu (hh.snd m1) (by simpa using hl) (fun j c u hj hu=>(hx (j+1) c u hj hu).mono (cV m1.less)) h2 rfl k2
     refine ⟨a_,m1.trans m2,by simp [l2],fun j c u hj hu=> ?_⟩
     cases j with
     |zero=>simp at hj hu;subst hj;subst hu;exact r1.mono m2.eh
     |succ j=>exact r2 j c u hj hu
   ·simp at ht
  ·simp at ht
 |[],_::_,ht=>simp [cv] at ht
 |_::_,[],ht=>simp [cv] at ht
 termination_by (SizeOf.sizeOf es,0)
end
end bu
end Go.VS
namespace Go.VS
section bu
variable {w:World} {AL AH:ah}
theorem yT {es:List Sh} {x:AV} {v:Value} {L:J} {φL:af} {H G:J} {φ :af} {y:AV} {L1:J} {a:AV} {H1:J} (hd:bW w L φL AL G φ AH) (hh:GH G φ H H1) (hx:R w L φL AL x v)
 (ht:a8 es x L=some (y,L1)) (hw:aI y H=(a,H1)) (hk:fF AL AH y): ∃ φ1,MG w L φL AL G φ AH L1 φ1 H.bs.length H1.bs.length∧R w G φ1 AH a v:=by
 by_cases bT: ∃cs,x= .agg cs
 ·obtain ⟨cs,rfl⟩:=bT;obtain ⟨aV,hc,rfl⟩:=kL ht;simp only [aI,Prod.mk.injEq] at hw;obtain ⟨rfl,rfl⟩:=hw;have bE:dJ AL AH aV:=by
   rcases hk with h|h
   ·exact .inl h
   ·exact .inr (by simpa [dh] using h)
  obtain ⟨vs,rfl,hl,ho,hp⟩:=hx.fu;obtain ⟨φ1,m,l1,r1⟩:=pq es cs vs.toList L φL AL H G φ AH aV L1 _ _ hd hh (by simpa using hl) (fun j c u hj hu=>hp j c u hj (by simpa using hu)) hc rfl bE
  exact ⟨φ1,m,.agg _ _ (by rw [l1,hl]) ho fun i x v hx hv=>r1 i x v hx (by simpa using hv)⟩
 ·obtain ⟨e,rfl,ct⟩:=ja (fun cs h=>bT ⟨cs,h⟩) ht;obtain ⟨φ1,m,r,_⟩:=mw e x v L φL AL H G φ AH y L1 a H1 hd hh hx ct hw hk
  exact ⟨φ1,m,r⟩
theorem rT: ∀(sh:List (List Sh)) (rs:List AV) (us:List Value) (L:J) (φL:af) (H G:J) (φ :af) (ys:List AV) (L1:J),bW w L φL AL G φ AH→GH G φ H (aG ys H).2→rs.length=us.length→
 (∀(i:Nat) (x:AV) (u:Value),rs[i]? =some x→us[i]? =some u→R w L φL AL x u)→di sh rs L=some (ys,L1)→dJ AL AH ys→
 ∃ φ1,MG w L φL AL G φ AH L1 φ1 H.bs.length (aG ys H).2.bs.length∧(aG ys H).1.length=us.length∧ ∀(i:Nat) (x:AV) (u:Value),(aG ys H).1[i]? =some x→us[i]? =some u→R w G φ1 AH x u
 |sh,[],us,L,φL,H,G,φ,ys,L1,hd,hh,hl,hr,ht,hk=>by
  simp only [di,Option.some.injEq,Prod.mk.injEq] at ht;obtain ⟨rfl,rfl⟩:=ht;exact ⟨φ,.refl hd _,hl,by simp [aG]⟩
 |sh,x::rs,u::us,L,φL,H,G,φ,ys,L1,hd,hh,hl,hr,ht,hk=>by
  simp only [di] at ht;split at ht
  rotate_left
  ·simp at ht
  rename_i y L' h1
  split at ht
  rotate_left
  ·simp at ht
  rename_i aS cY h2
  simp only [Option.some.injEq,Prod.mk.injEq] at ht;obtain ⟨rfl,rfl⟩:=ht;obtain ⟨k1,k2⟩:=hk.cons;obtain ⟨φ1,m1,r1⟩:=yT (y:=y) (H:=H) hd (hh.fst (H1:=(aI y H).2) (iB aS (aI y H).2)) (hr 0 x u rfl rfl) h1 rfl k1
  obtain ⟨a_,m2,l2,r2⟩:=rT sh.tail rs us L' (aC φL L') (aI y H).2 G φ1 aS cY m1.bu (hh.snd m1) (by simpa using hl) (fun i x u hx hu=>(hr (i+1) x u hx hu).mono (cV m1.less)) h2 k2
  refine ⟨a_,m1.trans m2,by simp [aG,l2],fun i x' u' hx hu=> ?_⟩
  cases i with
  |zero=>simp [aG] at hx hu;subst hx;subst hu;exact r1.mono m2.eh
  |succ i=>simp only [aG,List.getElem?_cons_succ] at hx hu;exact r2 i x' u' hx hu
 |sh,x::rs,[],L,φL,H,G,φ,ys,L1,hd,hh,hl,hr,ht,hk=>by simp at hl
end bu
theorem my {H G:J} (h:a7 H G): ∀(n:Nat) (x y:AV),aX n H x=some y→aX n G x=some y
 |0,x,y,hs=>by simp [aX] at hs
 |n+1,x,y,hs=>by
  have hm: ∀(xs ys:List AV),xs.mapM (aX n H)=some ys→xs.mapM (aX n G)=some ys:=by
   intro xs;induction xs with
   |nil=>intro ys h;simpa using h
   |cons z xs ih=>
    intro ys hy;simp only [List.mapM_cons,Option.bind_eq_bind,Option.bind_eq_some_iff,Option.pure_def,Option.some.injEq] at hy⊢;obtain ⟨a,h1,b,h2,h3⟩:=hy;exact ⟨a,my h n z a h1,b,ih b h2,h3⟩
  cases x with
  |agg cs=>
   simp only [aX,Option.map_eq_some_iff] at hs⊢;obtain ⟨ys,h1,h2⟩:=hs;exact ⟨ys,hm _ _ h1,h2⟩
  |fn f cs=>
   simp only [aX,Option.map_eq_some_iff] at hs⊢;obtain ⟨ys,h1,h2⟩:=hs;exact ⟨ys,hm _ _ h1,h2⟩
  |ref id ad off len=>
   simp only [aX] at hs⊢;split at hs
   ·rename_i b hb;rw [h.ap hb];simp only;split at hs
    ·rename_i hle;rw [if_pos hle];simp only [Option.map_eq_some_iff] at hs⊢;obtain ⟨ys,h1,h2⟩:=hs;exact ⟨ys,hm _ _ h1,h2⟩
    ·simp at hs
   ·simp at hs
  |ptr id ad idx off=>
   simp only [aX] at hs⊢;split at hs
   ·rename_i b hb;rw [h.ap hb];simp only;split at hs
    ·rename_i z hz;simp only [Option.map_eq_some_iff] at hs⊢;obtain ⟨y',h1,h2⟩:=hs;exact ⟨y',my h n z y' h1,h2⟩
    ·simp at hs
   ·simp at hs
  |_=>first|(simpa only [aX] using hs)|(simp [aX] at hs;done)
theorem jS {H G:J} (h:a7 H G): ∀(ms:List Mode) (as ys:List AV) (b:Bool),cb ms as H=some (ys,b)→cb ms as G=some (ys,b)
 |ms,[],ys,b,hp=>by cases ms<;>simpa only [cb] using hp
 |[],a::as,ys,b,hp=>by
  simp only [cb] at hp⊢;split at hp
  ·rename_i y hy;split at hp
   ·rename_i aS b' cq
    rw [my h 8 a y hy,jS h [] as aS b' cq]
    exact hp
   ·simp at hp
  ·simp at hp
 |m::ms,a::as,ys,b,hp=>by
  have other:(match cb ms as H with|some (ys,b)=>some (a::ys,b)|none=>none)=some (ys,b)→(match cb ms as G with|some (ys,b)=>some (a::ys,b)|none=>none)=some (ys,b):=by
   intro hp;split at hp
   ·rename_i aS b' cq
    rw [jS h ms as aS b' cq]
    exact hp
   ·simp at hp
  cases m with
  |val=>
   simp only [cb] at hp⊢;split at hp
   ·rename_i y hy;split at hp
    ·rename_i aS b' cq
     rw [my h 8 a y hy,jS h ms as aS b' cq]
     exact hp
    ·simp at hp
   ·simp at hp
  |eD=>
   simp only [cb] at hp⊢;split at hp
   ·rename_i aS b' cq
    rw [jS h ms as aS b' cq]
    exact hp
   ·simp at hp
  |io=>
   simp only [cb] at hp⊢;split at hp
   ·rename_i aS b' cq
    rw [jS h ms as aS b' cq]
    exact hp
   ·simp at hp
def yU (w:World) (G:J) (φ :af) (A:ah) (H H' :J) (x:AV) (e:Ending) (w' :World):Prop:=
 match e with
 | .returned v' => ∃aj A',Out w G φ A w' G aj A' ∧R w' G aj A' x v' ∧ ∀id loc,aj id=some loc→ φ id=some loc∨(H.bs.length≤id∧id<H'.bs.length)
 |_=>False
theorem yV {P:Program} {C:aH} {X:bq} (hX: ∀f ys H K,X f ys H K→b_ P f ys H K) {w:World} {G:J} {φ :af} {A:ah} (ae:St w G φ A) {H H' :J} (hg:a7 H G) (hh:GH G φ H H') {f:FuncId} {as:List AV} {us:Array Value} (hl:as.length=us.size)
 (hr: ∀(i:Nat) (x:AV) (u:Value),as[i]? =some x→us[i]? =some u→R w G φ A x u) {th:Bool} {x:AV} (h:dj X C f as th H (fun v1 H1=>v1=x∧H1=H')):gi P f∧Calls P f us w (yU w G φ A H H' x):=by
 unfold dj at h;split at h
 ·exact h.elim
 rename_i ys bU hy;obtain ⟨y,kP,gT,hp⟩:=h;have hm:ml []:=fun m hm=>by simp at hm
 have o0:bW w G φ A ⟨0,[]⟩ (fun _=>none) A:=by
  refine ⟨ae,⟨fun i i' c b b' h=>by simp at h,fun c hc=> ?_,ae.bV,fun id loc h=>by simp at h⟩,fun c _ hc=> ?_,ae.own⟩
  ·obtain ⟨i,b,h⟩:=hc;simp at h
  ·obtain ⟨i,b,h⟩:=hc;simp at h
 have o7:ca [] ys ⟨0,[]⟩=(ys,⟨0,[]⟩):=oZ _ _ _ hy _;obtain ⟨aB,m,cu,dK⟩:=me as [] [] us.toList G φ as G ys bU ⟨0,[]⟩ (fun _=>none) ys ⟨0,[]⟩ o0 (by simpa using hl) (fun i x u hx hu=>hr i x u hx (by simpa using hu)) (oX _ _ _ _ hm) (jS hg _ _ _ _ hy) o7
 have br: ∀c,¬Ow aB c:=fun c hc=>by
  rcases m.oh c hc with ⟨i,b,h⟩|⟨h1,h2⟩
  ·simp at h
  ·rw [jO ae] at h2;exact h2 h1
 let A0:ah:=if bU=true then Ow aB else A
 have jc: ∀c,A0 c→A c:=by
  intro c hc;simp only [A0] at hc;split at hc
  ·exact absurd hc (br c)
  ·exact hc
 have o8:bU=true→ ∀c,A0 c→fg (aC φ G) A c:=by
  intro ax c hc;simp only [A0,ax,if_true] at hc;exact absurd hc (br c)
 have cO:St w ⟨0,[]⟩ aB A0:=m.bu.sh.shrink jc (fun c hc=>absurd hc (br c));have eK:ys.length=us.size:=by simpa using cu.1
 refine ⟨(hX _ _ _ _ kP).1,((hX _ _ _ _ kP).2 w A0 aB us cO eK (fun i x u hx hu=>cu.2 A0 jc o8 i x u hx (by simpa using hu))).mono fun e w' he=> ?_⟩
 cases e with
 |panicked c=>exact he.elim
 |outgrown=>exact he.elim
 |returned v' =>
 obtain ⟨x0,L,aj,A',ho,o9,rs,gg,L2,rfl,kQ,rfl⟩:=he;obtain ⟨cz,rfl,gj,gR⟩:=rz o9
 let AH:ah:=if bU=true then fun c=>A c∨(A' c∧w.heap.size≤c) else A'
 have jd: ∀c,Ow aj c→w.heap.size≤c:=fun c hc=>(ho.post.own c hc).resolve_left (br c)
 have ha:oQ w A aB w' aj AH:=by
  refine ⟨fun c hc hn=> ?_,fun c hc=> ?_,fun c hc=> ?_,fun c arr T fr hc hn=> ?_⟩
  ·simp only [AH];split
   ·exact .inl hc
   ·rename_i ax;refine ho.keep c ?_ hn;simp only [A0,ax];exact hc
  ·simp only [AH];split
   ·exact .inr ⟨ho.st.own c hc,jd c hc⟩
   ·exact ho.st.own c hc
  ·simp only [AH] at hc;split at hc
   ·rcases hc with h|⟨h,_⟩
    ·exact Nat.lt_of_lt_of_le (ae.bV c h) ho.post.size
    ·exact ho.st.bV c h
   ·exact ho.st.bV c hc
  ·obtain ⟨h1,h2⟩:=ho.bM.fz c arr T fr hc (fun h=>hn (jc c h));refine ⟨h1,?_⟩;simp only [AH];split
   ·rintro (h|⟨_,h⟩)
    ·exact hn h
    ·have:c<w.heap.size:=by
      rcases Nat.lt_or_ge c w.heap.size with h' |h'
      ·exact h'
      ·rw [Array.getElem?_eq_none h'] at hc;simp at hc
     omega
   ·exact h2
 obtain ⟨D,E⟩:=rj (ls:=[]) (Lm:=L) ae m (by rw [hl,eK]) dK ho ha (by simp [eV])
 rw [oY _ _ _ _ hm,jO ae] at D E;have o_:dJ A' AH gg:=by
  cases ax:bU with
  |false=>exact .inl fun c h=>by simpa [AH,ax] using h
  |true=>
   rcases gT with h|h
   ·rw [ax] at h;simp at h
   ·rw [ry] at h;exact .inr h
 have je: ∀(i:Nat) (x:AV) (u:Value),rs[i]? =some x→cz[i]? =some u→R w' L (aC aj L) A' x u:=fun i x u hx hu=>by
  rw [jO ho.st];exact gR i x u hx hu
 have eZ: ∀{cP:af},(∀c,Ow cP c→Ow φ c∨Ow aj c)→eW w φ w' cP:=fun hq=>
  ⟨ho.post.os,ho.post.tape,ho.post.output,ho.post.size,fun c hc _=>ho.post.kept c hc (br c),ho.post.aY,fun c hc=>by
   rcases hq c hc with h|h
   ·exact .inl h
   ·exact .inr (jd c h)⟩
 have jf: ∀c,A c→ ¬Ow φ c→AH c:=fun c hc _=>ha.own c hc (br c);have cp: ∀c,Ow φ c→aY w' c=aY w c:=fun c hc=>ho.post.aY c (Ow.lt ae hc)
 cases fD:(th||bU) with
 |true=>
  rw [fD] at hp;simp only [if_true,ru] at hp;obtain ⟨rfl,rfl⟩:=hp;obtain ⟨cP,m3,l3,r3⟩:=rT _ rs cz L _ H G φ gg L2 D hh gj je kQ o_
  refine ⟨cP,AH,⟨m3.bu.sh,eZ fun c hc=> ?_,E.trans m3.eh cp,jf⟩,oW l3 r3,m3.new⟩;rcases m3.oh c hc with h|⟨h,_⟩
  ·exact .inl h
  ·exact .inr (bH h)
 |false=>
  rw [fD] at hp;simp only [Bool.false_eq_true,if_false,rv] at hp;obtain ⟨rfl,rfl⟩:=hp;simp only [Bool.or_eq_false_iff] at fD;have pa:AH=A' :=by simp [AH,fD.2]
  rw [pa] at D E jf
  let A2:ah:=gone (aC aj L) A' L2
  obtain ⟨l3,r3⟩:=oV (A' :=A2) _ rs cz L (aC aj L) gg L2 D.sl gj je kQ (fun c h=>h)
  have pb: ∀c,Ow φ c→A2 c:=fun c hc=>⟨D.sh.own c hc,fun h=>absurd hc (D.b8 c h)⟩;have pc:bF w G φ A w' G φ A2:=⟨fun c arr T fr hc hn=>⟨(E.fz c arr T fr hc hn).1,fun h2=>(E.fz c arr T fr hc hn).2 h2.1⟩,E.st,E.ids,E.sz⟩
  refine ⟨φ,A2,⟨D.sh.shrink (fun c h=>h.1) pb,eZ fun c hc=> .inl hc,pc,fun c hc hn=>⟨jf c hc hn,fun h=> ?_⟩⟩,.fr _ _ (rr l3 r3),fun id loc h=> .inl h⟩;have:=jd c (bH h)
  have:=ae.bV c hc;omega
end Go.VS
namespace Go.VS
def yW (H H1:J):Prop:= ∀id b,H1.get id=some b→b.ad<H.st→H.get id=some b
def QG (H H1:J):Prop:=fh H H1∧yW H H1
theorem QG.refl (H:J):QG H H:=⟨.refl _,fun _ _ h _=>h⟩
theorem QG.trans {H H1 H2:J} (h:QG H H1) (k:QG H1 H2):QG H H2:=
 ⟨h.1.trans k.1,fun id b hb hv=>h.2 id b (k.2 id b hb (Nat.lt_of_lt_of_le hv h.1.1.2)) hv⟩
theorem QG.of {H H' :J} (h:H' =H∨ ∃sz fx el,H' =H.new sz fx el):QG H H' :=by
 obtain ⟨h1,h2,h3⟩:=J.iX h;exact ⟨⟨h1,h3⟩,h2⟩
theorem QG.new (H:J) (sz:Nat) (fx:Bool) (el:List AV):QG H (H.new sz fx el):= .of (.inr ⟨_,_,_,rfl⟩)
mutual
theorem pr: ∀(y:AV) (H:J),QG H (aI y H).2
 | .own sz xs,H=>by simp only [aI];exact (mz xs H).trans (.new _ _ _ _)
 | .de sz x,H=>by simp only [aI];exact (pr x H).trans (.new _ _ _ _)
 | .agg xs,H=>by simp only [aI];exact mz xs H
 | .ay xs,H=>by simp only [aI];exact mz xs H
 | .undef,H=> .refl _
 | .int _ _,H=> .refl _
 | .bool _,H=> .refl _
 | .str _,H=> .refl _
 | .nil,H=> .refl _
 | .e0,H=> .refl _
 | .fz _,H=> .refl _
 | .ref _ _ _ _,H=> .refl _
 | .ptr _ _ _ _,H=> .refl _
 | .fe _ _,H=> .refl _
 | .fn _ _,H=> .refl _
 | .cf _,H=> .refl _
 | .dq,H=> .refl _
theorem mz: ∀(ys:List AV) (H:J),QG H (aG ys H).2
 |[],H=> .refl _
 |y::ys,H=>by simp only [aG];exact (pr y H).trans (mz ys _)
end
section ops
variable {P:Program} {E:aL} (hE: ∀t ti,E t=some ti→aQ P t ti)
variable {w:World} {G:J} {φ :af} {A:ah}
theorem yX {b:Builtin} {tys:Array TypeId} {args:List AV} {H H' :J} {z:AV} (hq:eR b args=true) (h:df E b tys args H=some (z,H')):QG H H' :=by
 have yY: ∀{te:TI} {s x:AV},s= .nil∨s= .e0→dW te s x H=some (z,H')→QG H H' :=by
  intro te s x hs h;refine .of ?_;rcases hs with rfl|rfl;all_goals
   simp only [dW] at h;repeat' split at h
   all_goals first
    |(simp at h;done)
    |(simp only [Option.some.injEq,Prod.mk.injEq] at h;first|exact .inl h.2.symm|exact .inr ⟨_,_,_,h.2.symm⟩)
 unfold df at h;split at h
 ·repeat' split at h
  all_goals first
   |(simp at h;done)
   |(simp only [Option.some.injEq,Prod.mk.injEq] at h;rw [←h.2];exact .refl _)
 ·rename_i s x;have hs:s= .nil∨s= .e0:=by
   cases s<;>first|exact .inl rfl|exact .inr rfl|(simp [eR] at hq)
  split at h
  ·split at h
   ·split at h
    ·split at h
     ·unfold kb at h;refine .of ?_;repeat' split at h
      all_goals first
       |(simp at h;done)
       |(simp only [Option.some.injEq,Prod.mk.injEq] at h;first|exact .inl h.2.symm|exact .inr ⟨_,_,_,h.2.symm⟩)
     ·simp at h
    ·exact yY hs h
   ·simp at h
  ·simp at h
 ·simp [eR] at hq
 ·simp [eR] at hq
 ·split at h
  ·simp only [Option.some.injEq,Prod.mk.injEq] at h;rw [←h.2];exact .refl _
  ·simp at h
 ·split at h
  ·simp only [Option.some.injEq,Prod.mk.injEq] at h;rw [←h.2];exact .refl _
  ·simp at h
 ·split at h
  ·split at h
   ·simp only [Option.some.injEq,Prod.mk.injEq] at h;rw [←h.2];exact .refl _
   ·simp at h
  ·simp at h
 ·simp at h
include hE in
theorem yZ (ae:St w G φ A) {H H' :J} (hX:a7 H G) (rU:a7 H' G) (bm:H.bs.length<H'.bs.length→ φ H.bs.length=none) {b:Builtin} {tys:Array TypeId} {ty:TypeId} {consts:Array Bool} {args:List AV} {vs:Array Value} {z:AV} (hq:eR b args=true) (hl:args.length=vs.size)
 (aR: ∀(i:Nat) (a:AV) (u:Value),args[i]? =some a→vs[i]? =some u→R w G φ A a u) (h:df E b tys args H=some (z,H')):
 bf w G φ A H H' ((builtin b tys ty consts vs).run P w) z:=by
 unfold df at h;split at h
 ·rename_i x;obtain ⟨a,rfl⟩: ∃a,vs= #[a]:=by
   have h1:vs.size=1:=hl.symm;exact ⟨vs[0],by apply Array.ext;simp [h1];intro i h1 h2;simp at h2;subst h2;rfl⟩
  have hx:=aR 0 x a rfl rfl;split at h
  ·rename_i ti n ht hn;obtain ⟨t,h0,ht⟩:=Option.bind_eq_some_iff.1 ht;have key: ∀{q:AV×J},some q=some (z,H')→q=(AV.int .i64 n,H)→((∃e,ti.aq= .sl e∧ ∀s,x≠ .str s)∨(ti.aq= .str∧ ∃s,x= .str s))→bf w G φ A H H' ((builtin .len tys ty consts #[a]).run P w) z:=by
    intro q hq ou hu;subst ou;simp only [Option.some.injEq,Prod.mk.injEq] at hq;obtain ⟨rfl,rfl⟩:=hq;have:=qQ (tys:=tys) (ty:=ty) hE h0 hx hX hn ht hu;exact bf.val ae (by simp [builtin,this]) (.fr _ _ (.int _ _))
   split at h
   ·rename_i s hu;exact key h rfl (.inr ⟨hu,s,rfl⟩)
   ·simp at h
   ·rename_i e hu aM;exact key h rfl (.inl ⟨e,hu,fun s hs=>aM s hs⟩)
   ·simp at h
  ·simp at h
 ·rename_i s x;obtain ⟨a,b,rfl⟩: ∃a b,vs= #[a,b]:=by
   have h1:vs.size=2:=hl.symm;exact ⟨vs[0],vs[1],by apply Array.ext;simp [h1];intro i h1 h2;simp at h2;rcases i with _|_|i;rfl;rfl;omega⟩
  have hs:=aR 0 s a rfl rfl;have hx:=aR 1 x b rfl rfl;have dX:s= .nil∨s= .e0:=by
   cases s<;>first|exact .inl rfl|exact .inr rfl|(simp [eR] at hq)
  split at h
  ·rename_i t h0;split at h
   ·rename_i te tx bh cC;obtain ⟨t2,h1,cC⟩:=Option.bind_eq_some_iff.1 cC;split at h
    ·rename_i k hit;split at h
     ·exact qH hE ae rU bm h0 h1 bh cC hit hs hx h
     ·simp at h
    ·rename_i aM;exact ob hE ae hX rU bm h0 h1 bh cC (fun k hk=>aM k hk) hs hx dX h
   ·simp at h
  ·simp at h
 ·simp [eR] at hq
 ·simp [eR] at hq
 ·split at h
  ·rename_i v hv;simp only [Option.some.injEq,Prod.mk.injEq] at h;obtain ⟨rfl,rfl⟩:=h;cases args with
   |nil=>simp [jw] at hv
   |cons x rest=>
    obtain ⟨a,us,dp⟩: ∃a us,vs.toList=a::us:=by
     cases eK:vs.toList with
     |nil=>have:=congrArg List.length eK;simp at this;simp [this] at hl
     |cons a us=>exact ⟨a,us,rfl⟩
    have hlen:rest.length=us.length:=by have:=congrArg List.length dp;simp at this;simp at hl;omega
    have bz: ∀(i:Nat) (u:Value),(a::us)[i]? =some u→vs[i]? =some u:=fun i u hu=>by rw [←dp] at hu;simpa using hu
    obtain ⟨u,hu,hz⟩:=kH (P:=P) (op:=Builtin.min2) (f:=fun a b=>match a,b with| .int k x,.int _ y=>some (.int k (if y<x then y else x))|_,_=>none) (fun a b x y z ha hb hf=>by
     split at hf
     ·have e1:=ha.cg;have e2:=hb.cg;subst e1;subst e2;simp only [Option.some.injEq] at hf;subst hf;exact ⟨_,by simp [Builtin.min2],.fr _ _ (.int _ _)⟩
     ·simp at hf) rest us x a v hlen (fun i p q hp hq=>aR (i+1) p q hp (bz (i+1) q hq)) (aR 0 x a rfl (bz 0 a rfl)) hv
    exact bf.val ae (by simp [builtin,Builtin.min_,dp,hu]) hz
  ·simp at h
 ·split at h
  ·rename_i v hv;simp only [Option.some.injEq,Prod.mk.injEq] at h;obtain ⟨rfl,rfl⟩:=h;cases args with
   |nil=>simp [jx] at hv
   |cons x rest=>
    obtain ⟨a,us,dp⟩: ∃a us,vs.toList=a::us:=by
     cases eK:vs.toList with
     |nil=>have:=congrArg List.length eK;simp at this;simp [this] at hl
     |cons a us=>exact ⟨a,us,rfl⟩
    have hlen:rest.length=us.length:=by have:=congrArg List.length dp;simp at this;simp at hl;omega
    have bz: ∀(i:Nat) (u:Value),(a::us)[i]? =some u→vs[i]? =some u:=fun i u hu=>by rw [←dp] at hu;simpa using hu
    obtain ⟨u,hu,hz⟩:=kH (P:=P) (op:=Builtin.max2) (f:=fun a b=>match a,b with| .int k x,.int _ y=>some (.int k (if y>x then y else x))|_,_=>none) (fun a b x y z ha hb hf=>by
     split at hf
     ·have e1:=ha.cg;have e2:=hb.cg;subst e1;subst e2;simp only [Option.some.injEq] at hf;subst hf;exact ⟨_,by simp [Builtin.max2],.fr _ _ (.int _ _)⟩
     ·simp at hf) rest us x a v hlen (fun i p q hp hq=>aR (i+1) p q hp (bz (i+1) q hq)) (aR 0 x a rfl (bz 0 a rfl)) hv
    exact bf.val ae (by simp [builtin,Builtin.max_,dp,hu]) hz
  ·simp at h
 ·obtain ⟨a,rfl⟩: ∃a,vs= #[a]:=by
   have h1:vs.size=1:=hl.symm;exact ⟨vs[0],by apply Array.ext;simp [h1];intro i h1 h2;simp at h2;subst h2;rfl⟩
  have hx:=(aR 0 .nil a rfl rfl).cX;subst hx;split at h
  ·rename_i ti ht;obtain ⟨t,h0,ht⟩:=Option.bind_eq_some_iff.1 ht;split at h
   ·rename_i e hu;simp only [Option.some.injEq,Prod.mk.injEq] at h;obtain ⟨rfl,rfl⟩:=h;have hc:(Builtin.cap_ tys ty #[.slice none 0 0]).run P w= .ok (.int .i64 0) w:=by
     unfold Builtin.cap_;simp only [h0,List.getElem?_toArray,List.getElem?_cons_zero,Sem.run_bind,(hE _ _ ht).sl w hu,Result.andThen_ok];rfl
    exact bf.val ae (by simp [builtin,hc]) (.fr _ _ (.int _ _))
   ·simp at h
  ·simp at h
 ·simp at h
end ops
section step
variable {P:Program} {C:aH} {X:bq} {w:World} {G:J} {φ :af} {A:ah}
theorem bf.upon {H H' :J} {r:Result Next} {x:AV} (h:bf w G φ A H H' r x) {o:Oper} {a:Act} {next:Act→World→Prop} {Q:Exit→Act→World→Prop}
 (hn: ∀v w' aj A',Out w G φ A w' G aj A' →R w' G aj A' x v→(∀id loc,aj id=some loc→ φ id=some loc∨(H.bs.length≤id∧id<H'.bs.length))→next (a.put o.dst v) w'):o.upon P a next Q r:=by
 obtain ⟨n,v,w',aj,A',rfl,hv,hr,ho,hi⟩:=h;rcases hv with rfl|⟨rfl,rfl⟩
 ·exact hn v w' aj A' ho hr hi
 ·exact hn _ w' aj A' ho hr hi
theorem jT (hE: ∀t ti,C.E t=some ti→aQ P t ti) (hX: ∀f ys H K,X f ys H K→b_ P f ys H K) (ae:St w G φ A) {o:Oper} {s:ak} {a:Act} (hs: ∀x∈o.op.operands,R w G φ A (ev s x) (a.eval x)) {th:Bool} {H H' :J} {x:AV} (hg:a7 H G) (hh:GH G φ H H')
 (h:wpOp X C true th o s H (fun v1 H1=>v1=x∧H1=H')) {next:Act→World→Prop} {Q:Exit→Act→World→Prop}
 (hn: ∀v w' aj A',Out w G φ A w' G aj A' →R w' G aj A' x v→(∀id loc,aj id=some loc→ φ id=some loc∨(H.bs.length≤id∧id<H'.bs.length))→next (a.put o.dst v) w'):o.wp P a w next Q:=by
 have bm:H.bs.length<H'.bs.length→ φ H.bs.length=none:=fun ax=>hh.none _ (Nat.le_refl _) ax;have kR:dC o.op=true→(match aO C.E o.op s H with|some (v,H1)=>v=x∧H1=H' |none=>False)→o.wp P a w next Q:=by
  intro hq jg;split at jg
  ·rename_i v H1 he;obtain ⟨rfl,rfl⟩:=jg;exact (qK hE ae hg hh.ext bm hq hs he).upon hn
  ·exact jg.elim
 unfold wpOp at h;split at h
 ·rename_i b args tys bn;obtain ⟨hq,h⟩:=h;have hq:=hq rfl;split at h
  ·rename_i v H1 he;obtain ⟨rfl,rfl⟩:=h;obtain ⟨consts,cK⟩:=rB (P:=P) (w:=w) (ρ :=a.eval) bn;have:=yZ hE ae hg hh.ext bm (ty:=o.type) (consts:=consts) (vs:=args.map a.eval) hq (by simp) (fun i x u hx hu=>by
    simp only [List.getElem?_map,Option.map_eq_some_iff] at hx;obtain ⟨y,hy,rfl⟩:=hx;simp only [Array.getElem?_map,Option.map_eq_some_iff] at hu;obtain ⟨y',dZ,rfl⟩:=hu;have:y' =y:=by simp at hy;rw [hy] at dZ;simpa using dZ.symm
    subst this;exact hs y' (by rw [bn];simp only [Op.operands,Call.operands];simp [Array.mem_of_getElem? dZ])) he
   rw [←cK] at this;exact this.upon hn
  ·exact h.elim
 ·rename_i y args tys bn;split at h
  ·rename_i g b5 cy;simp only [if_true] at h;have hx:=hs y (by rw [bn];simp [Op.operands,Call.operands])
   rw [cy] at hx;obtain ⟨vs,hv,hl,hp⟩:=hx.kf;have hc:=yV hX ae hg hh (us:=args.map a.eval ++ vs) (by simp [hl]) (fun i y u hy hu=>by
    rcases Nat.lt_or_ge i args.size with hi|hi
    ·rw [List.getElem?_append_left (by simpa using hi)] at hy
     rw [Array.getElem?_append_left (by simpa using hi)] at hu
     simp only [List.getElem?_map,Option.map_eq_some_iff] at hy;obtain ⟨z,hz,rfl⟩:=hy;simp only [Array.getElem?_map,Option.map_eq_some_iff] at hu;obtain ⟨z',dF,rfl⟩:=hu;have:z' =z:=by simp at hz;rw [hz] at dF;simpa using dF.symm
     subst this;exact hs z' (by rw [bn];simp only [Op.operands,Call.operands];simp [Array.mem_of_getElem? dF])
    ·rw [List.getElem?_append_right (by simpa using hi)] at hy
     rw [Array.getElem?_append_right (by simpa using hi)] at hu
     exact hp _ y u (by simpa using hy) (by simpa using hu)) h
   unfold Oper.wp;rw [rA bn hv hc.1,Oper.upon_enter];refine hc.2.mono fun e w' he=> ?_
   cases e with
   |returned v' =>
    obtain ⟨aj,A',h1,h2,h3⟩:=he;exact hn v' w' aj A' h1 h2 h3
   |panicked c=>exact he.elim
   |outgrown=>exact he.elim
  ·exact h.elim
 ·exact kR (h.1 rfl) h.2
theorem y0 {o:Oper} {s:ak} {th:Bool} {H H' :J} {x:AV} (h:wpOp X C true th o s H (fun v1 H1=>v1=x∧H1=H')):QG H H' :=by
 have kR:dC o.op=true→(match aO C.E o.op s H with|some (v,H1)=>v=x∧H1=H' |none=>False)→QG H H' :=by
  intro hq jg;split at jg
  ·rename_i v H1 he;obtain ⟨rfl,rfl⟩:=jg;exact .of (qR hq he)
  ·exact jg.elim
 unfold wpOp at h;split at h
 ·obtain ⟨hq,h⟩:=h;split at h
  ·rename_i v H1 he;obtain ⟨rfl,rfl⟩:=h;exact yX (hq rfl) he
  ·exact h.elim
 ·split at h
  ·rename_i g b5 cy;simp only [if_true] at h;unfold dj at h;split at h
   ·exact h.elim
   obtain ⟨y,_,_,hp⟩:=h;split at hp
   ·obtain ⟨_,rfl⟩:=hp;exact pr _ _
   ·obtain ⟨_,rfl⟩:=hp;exact .refl _
  ·exact h.elim
 ·exact kR (h.1 rfl) h.2
end step
end Go.VS
namespace Go.VS
section tr
variable {C:aH} {X:bq}
theorem kV (dc:Exact X) {q th:Bool} {o:Oper} {s:ak} {H:J} {K:AV→J→Prop} (h:wpOp X C q th o s H K): ∃v H',wpOp X C q th o s H (fun v1 H1=>v1=v∧H1=H')∧K v H' :=by
 unfold wpOp at h⊢;split at h
 ·rename_i b args tys bn;obtain ⟨hq,h⟩:=h;split at h
  ·rename_i v H' he
   refine ⟨v,H',?_,h⟩;first
    |exact ⟨hq,rfl,rfl⟩
    |(simp only [bn];exact ⟨hq,trivial,trivial⟩)
    |(simp only [bn,he];exact ⟨hq,trivial,trivial⟩)
  ·exact h.elim
 ·rename_i x args tys bn;split at h
  ·rename_i g b5 hg;have hQ:dj X C g (args.toList.map (ev s) ++ b5) th H K→ ∃v H',dj X C g (args.toList.map (ev s) ++ b5) th H (fun v1 H1=>v1=v∧H1=H')∧K v H' :=by
    intro h;unfold dj at h⊢;split at h
    ·exact h.elim
    rename_i ys bU hy;obtain ⟨y,h1,h2,h3⟩:=h;split at h3
    ·rename_i ht;refine ⟨_,_,⟨y,h1,h2,?_⟩,h3⟩;simp only [ht,if_true];exact ⟨trivial,trivial⟩
    ·rename_i ht;refine ⟨_,_,⟨y,h1,h2,?_⟩,h3⟩;simp only [ht];exact ⟨trivial,trivial⟩
   have key: ∃v H',(if q then dj X C g (args.toList.map (ev s) ++ b5) th H (fun v1 H1=>v1=v∧H1=H') else X g (args.toList.map (ev s) ++ b5) H (fun v1 H1=>v1=v∧H1=H')∨dj X C g (args.toList.map (ev s) ++ b5) th H (fun v1 H1=>v1=v∧H1=H'))∧K v H' :=by
    cases q with
    |false=>
     simp only [Bool.false_eq_true,if_false] at h⊢;rcases h with h|h
     ·obtain ⟨v,H',h1,h2⟩:=dc _ _ _ _ h;exact ⟨v,H',.inl h1,h2⟩
     ·obtain ⟨v,H',h1,h2⟩:=hQ h;exact ⟨v,H',.inr h1,h2⟩
    |true=>
     simp only [if_true] at h⊢;exact hQ h
   obtain ⟨v,H',k1,k2⟩:=key;refine ⟨v,H',?_,k2⟩;first
    |exact k1
    |(simp only [bn,hg];exact k1)
  ·exact h.elim
 ·rename_i op lR Bv;obtain ⟨hq,h⟩:=h;split at h
  ·rename_i v H' he
   refine ⟨v,H',?_,h⟩;exact ⟨hq,rfl,rfl⟩
  ·exact h.elim
theorem mA (C:aH) (ops:Array Oper) (s:ak) (H:J) (K:Prop): ∀(l:List Nat),eS C ops s H K l→(∀j∈l,jA C ops s H j)∧K
 |[],h=>⟨by simp,h⟩
 |j::js,h=>by
  obtain ⟨h1,h2⟩:=h;obtain ⟨k1,k2⟩:=mA C ops s H K js h2;refine ⟨fun i hi=> ?_,k2⟩;rcases List.mem_cons.1 hi with rfl|hi
  ·exact h1
  ·exact k1 i hi
structure Tr (X:bq) (C:aH) (ops:Array Oper) (q:Nat→Bool) (late:Nat→List Nat) (th:List Nat) (K:ak→J→Prop) (l:List Oper) (k:Nat) (s:Nat→ak) (H:Nat→J) (v:Nat→AV) (act:Nat→Bool):Prop where
 step: ∀i o,l[i]? =some o→s (i+1)=bj (s i) o.dst (v i)∧dl ops o (s i)=some (act i)∧(act i=true→wpOp X C (q (k+i)) (th.contains (k+i)) o (s i) (H i) (fun v1 H1=>v1=v i∧H1=H (i+1)))∧
  (act i=false→v i= .ay []∧H (i+1)=H i)∧ ∀j∈late (k+i),jA C ops (s (i+1)) (H (i+1)) j
 fin:K (s l.length) (H l.length)
theorem rV (dc:Exact X) {ops:Array Oper} {q:Nat→Bool} {late:Nat→List Nat} {th:List Nat} {K:ak→J→Prop}: ∀(l:List Oper) (k:Nat) (s0:ak) (H0:J),cU X C ops q late th K l k s0 H0→
 ∃s H v act,s 0=s0∧H 0=H0∧Tr X C ops q late th K l k s H v act
 |[],k,s0,H0,h=>⟨fun _=>s0,fun _=>H0,fun _=> .undef,fun _=>true,rfl,rfl,⟨by simp,h⟩⟩
 |o::l,k,s0,H0,h=>by
  have key: ∃v0 H1 a0,dl ops o s0=some a0∧(a0=true→wpOp X C (q k) (th.contains k) o s0 H0 (fun v1 H' =>v1=v0∧H' =H1))∧(a0=false→v0= .ay []∧H1=H0)∧(∀j∈late k,jA C ops (bj s0 o.dst v0) H1 j)∧
   cU X C ops q late th K l (k+1) (bj s0 o.dst v0) H1:=by
   simp only [cU] at h;cases hg:o.guard with
   |none=>
    rw [hg] at h;obtain ⟨v,H',h1,h2⟩:=kV dc h;obtain ⟨k1,k2⟩:=mA _ _ _ _ _ _ h2;exact ⟨v,H',true,by simp [dl,hg],fun _=>h1,fun h=>by simp at h,k1,k2⟩
   |some p=>
    rw [hg] at h;obtain ⟨v,H',h1,h2⟩:=h;obtain ⟨k1,k2⟩:=mA _ _ _ _ _ _ h2;split at h1
    ·rename_i b hb;cases b with
     |true=>exact ⟨v,H',true,hb,fun _=>by simpa using h1,fun h=>by simp at h,k1,k2⟩
     |false=>exact ⟨v,H',false,hb,fun h=>by simp at h,fun _=>by simpa using h1,k1,k2⟩
    ·exact h1.elim
  obtain ⟨v0,H1,a0,g1,g2,g3,g4,g5⟩:=key;obtain ⟨s,H,v,act,e1,e2,t⟩:=rV dc l (k+1) _ _ g5;refine ⟨fun i=>match i with|0=>s0|i+1=>s i,fun i=>match i with|0=>H0|i+1=>H i,fun i=>match i with|0=>v0|i+1=>v i,fun i=>match i with|0=>a0|i+1=>act i,rfl,rfl,⟨fun i o' hi=> ?_,t.fin⟩⟩
  cases i with
  |zero=>
   simp only [List.getElem?_cons_zero,Option.some.injEq] at hi;subst hi;simp only [Nat.add_zero,e1,e2];exact ⟨trivial,g1,g2,g3,g4⟩
  |succ i=>
   have:=t.step i o' (by simpa using hi)
   rw [show k+1+i=k+(i+1) by omega] at this
   exact this
end tr
theorem rW (bs:Edge→Bool) (acc:List Nat) (j:Nat): ∀(l:List Edge) (m0:Nat),(l.foldl (fun m e=>if bs e then m|||2^e.on|||acc.getD e.on 0 else m) m0).testBit j=true→m0.testBit j=true∨ ∃e∈l,bs e=true∧(e.on=j∨(acc.getD e.on 0).testBit j=true)
 |[],m0,h=> .inl h
 |e::l,m0,h=>by
  simp only [List.foldl_cons] at h;rcases rW bs acc j l _ h with h|⟨e',h1,h2⟩
  ·split at h
   ·rename_i hb;simp only [Nat.testBit_or,Nat.testBit_two_pow,Bool.or_eq_true,decide_eq_true_eq] at h;rcases h with (h|h)|h
    ·exact .inl h
    ·exact .inr ⟨e,by simp,hb,.inl h⟩
    ·exact .inr ⟨e,by simp,hb,.inr h⟩
   ·exact .inl h
  ·exact .inr ⟨e',by simp [h1],h2⟩
theorem rX: ∀(os:List Oper) (acc:List Nat),(fT os acc).length=acc.length+os.length∧(∀i,i<acc.length→(fT os acc).getD i 0=acc.getD i 0)∧
 ∀i o,os[i]? =some o→ ∀j,((fT os acc).getD (acc.length+i) 0).testBit j=true→ ∃e∈o.after.toList,Region.binds .any e=true∧(e.on=j∨(e.on<acc.length+i∧((fT os acc).getD e.on 0).testBit j=true))
 |[],acc=>⟨by simp [fT],by simp [fT],by simp⟩
 |o::os,acc=>by
  obtain ⟨h1,h2,h3⟩:=rX os (acc ++ [o.after.toList.foldl (fun m e=>if Region.binds .any e then m|||2^e.on|||acc.getD e.on 0 else m) 0]);simp only [fT];have hold: ∀i,i<acc.length→(fT os (acc ++ [o.after.toList.foldl (fun m e=>if Region.binds .any e then m|||2^e.on|||acc.getD e.on 0 else m) 0])).getD i 0=acc.getD i 0:=by
   intro i hi;rw [h2 i (by simp;omega)]
   simp [List.getD,List.getElem?_append_left hi]
  refine ⟨by rw [h1];simp;omega,hold,fun i o' ho j hj=> ?_⟩
  cases i with
  |zero=>
   simp only [List.getElem?_cons_zero,Option.some.injEq] at ho;subst ho;rw [Nat.add_zero,h2 _ (by simp)] at hj
   simp only [List.getD,List.getElem?_append_right (Nat.le_refl _),Nat.sub_self,List.getElem?_cons_zero,Option.getD_some] at hj;rcases rW (Region.binds .any) acc j _ _ hj with h|⟨e,q1,q2,q3⟩
   ·simp at h
   ·refine ⟨e,q1,q2,?_⟩;rcases q3 with q3|q3
    ·exact .inl q3
    ·have ax:e.on<acc.length:=by
      rcases Nat.lt_or_ge e.on acc.length with h|h
      ·exact h
      ·rw [List.getD,List.getElem?_eq_none h] at q3;simp at q3
     exact .inr ⟨by omega,by rw [hold _ ax];exact q3⟩
  |succ i=>
   simp only [List.length_append,List.length_singleton] at h3;have:=h3 i o' (by simpa using ho) j (by rw [show acc.length+1+i=acc.length+(i+1) by omega];exact hj)
   obtain ⟨e,q1,q2,q3⟩:=this;refine ⟨e,q1,q2,?_⟩;rcases q3 with q3|⟨q3,q4⟩
   ·exact .inl q3
   ·exact .inr ⟨by omega,q4⟩
def rY (ops:Array Oper) (L:Nat→Prop):Prop:= ∀i o,ops[i]? =some o→L i→ ∀e∈o.after,Region.binds .any e=true→L e.on
theorem mB {ops:Array Oper} {L:Nat→Prop} (hs:rY ops L) (ax: ∀i o,ops[i]? =some o→ ∀e∈o.after,Region.binds .any e=true→e.on<i):
 ∀(i:Nat) (o:Oper),ops[i]? =some o→(∀e∈o.after,Region.binds .any e=true→L e.on)→ ∀j,((eT ops.toList).getD i 0).testBit j=true→L j:=by
 intro i;induction i using Nat.strongRecOn with
 |_ i ih=>
  intro o ho ha j hj;have:=(rX ops.toList []).2.2 i o (by simpa using ho) j (by simpa [eT] using hj)
  obtain ⟨e,q1,q2,q3⟩:=this;have rZ:=ha e (by simpa using q1) q2
  rcases q3 with rfl|⟨_,q4⟩
  ·exact rZ
  ·have y1:=ax i o ho e (by simpa using q1) q2
   have hi:i<ops.size:=(Array.getElem?_eq_some_iff.1 ho).1;have r6:=Array.getElem?_eq_getElem (xs:=ops) (show e.on<ops.size by omega)
   exact ih e.on y1 _ r6 (hs e.on _ r6 rZ) j q4
end Go.VS
