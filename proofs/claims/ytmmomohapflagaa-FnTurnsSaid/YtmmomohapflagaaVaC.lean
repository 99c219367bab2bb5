import Derived.Test.YtmmomohapflagaaVaB
import Derived.Tactics
import Derived.Laws.Sem
namespace Go.VS
section bm
variable {w:World} {A:ah}
theorem qM {m:Mode} {sh:List Sh} {v:AV} {H:J} {y:AV} {H1:J} (h:e8 m sh v H=some (y,H1)):bq H H1:=by
 cases m with
 |val=>simp only [e8,Option.some.injEq,Prod.mk.injEq] at h;obtain ⟨_,rfl⟩:=h;exact .refl _
 |eH=>exact fp sh v H y H1 h
 |io=>
  cases v<;>simp only [e8] at h
  case nil=>simp only [Option.some.injEq,Prod.mk.injEq] at h;obtain ⟨_,rfl⟩:=h;exact .refl _
  case e0=>simp only [Option.some.injEq,Prod.mk.injEq] at h;obtain ⟨_,rfl⟩:=h;exact .refl _
  case ref=>
   split at h
   ·split at h
    ·simp only [Option.some.injEq,Prod.mk.injEq] at h;obtain ⟨_,rfl⟩:=h;exact .refl _
    ·split at h
     ·exact fp _ _ H y H1 h
     ·simp at h
   ·simp at h
  case ptr=>exact fp _ _ H y H1 h
  all_goals simp at h
theorem qN: ∀(ms:List Mode) (sh:List (List Sh)) (as:List AV) (H:J) (zs:List AV) (H1:J),fF ms sh as H=some (zs,H1)→bq H H1
 |[],sh,as,H,zs,H1,h=>by
  simp only [fF,Option.some.injEq,Prod.mk.injEq] at h;obtain ⟨_,rfl⟩:=h;exact .refl _
 |m::ms,sh,[],H,zs,H1,h=>by
  simp only [fF,Option.some.injEq,Prod.mk.injEq] at h;obtain ⟨_,rfl⟩:=h;exact .refl _
 |m::ms,sh,a::as,H,zs,H1,h=>by
  simp only [fF] at h;split at h
  ·rename_i y H' h1
   split at h
   ·rename_i ys fu h2
    simp only [Option.some.injEq,Prod.mk.injEq] at h;obtain ⟨_,rfl⟩:=h;exact (qM h1).trans (qN ms _ as H' ys _ h2)
   ·simp at h
  ·simp at h
def gB (w:World) (A:ah) (B:ah) (L0:J) (aB:ag) (bT:Bool) (vs:List AV) (us:List Value):Prop:=
 vs.length=us.length∧ ∀A0:ah,(∀c,A0 c→A c)→(bT=true→ ∀c,A0 c→B c)→ ∀(i:Nat) (x:AV) (u:Value),vs[i]? =some x→us[i]? =some u→R w L0 aB A0 x u
theorem gB.cons {B:ah} {L L0:J} {φL aB:ag} {l1 l2:Bool} {x:AV} {u:Value} {vs:List AV} {us:List Value} (hx: ∀A0:ah,(∀c,A0 c→A c)→(l1=true→ ∀c,A0 c→B c)→R w L φL A0 x u)
 (he: ∀A0,bM w L φL A0 w L0 aB A0) (h:gB w A B L0 aB l2 vs us):gB w A B L0 aB (l1||l2) (x::vs) (u::us):=by
 refine ⟨by simp [h.1],fun A0 h1 h2 i x' u' bA aQ=> ?_⟩
 cases i with
 |zero=>simp at bA aQ;subst bA;subst aQ;exact (hx A0 h1 (fun hl=>h2 (by simp [hl]))).mono (he A0)
 |succ i=>exact h.2 A0 h1 (fun hl=>h2 (by simp [hl])) i x' u' bA aQ
theorem bM.any {L L0:J} {φL aB:ag} {A1:ah} (h:bM w L φL A1 w L0 aB A1) (A0:ah):bM w L φL A0 w L0 aB A0:=
 ⟨fun _c _a _t fr hc hn=>⟨⟨fr,hc⟩,hn⟩,h.st,h.ids,h.sz⟩
theorem qO {H:J} {φ :ag} {H1:J} {L:J} {φL:ag} (ae:St w H φ A) (hl:bq H H1) {a:AV} {u:Value} (ha:R w H φ A a u) {y:AV} (hs:aL 8 H1 a=some y):
 ∀A0:ah,(∀c,A0 c→A c)→(eI a=true→ ∀c,A0 c→fq (aD φ H1) A c)→R w L φL A0 y u:=by
 intro A0 h1 h2;obtain ⟨s1,s2,_⟩:=(qH (dY ae hl) 8).1 a u y (ha.mono (cU hl)) hs;cases hle:eI a with
 |false=>exact .fr _ _ ((s2 hle).shrink h1)
 |true=>exact .fr _ _ (s1.shrink (h2 hle))
theorem lZ: ∀(as:List AV) (ms:List Mode) (fD:List (List Sh)) (us:List Value) (H:J) (φ :ag) (zs:List AV) (H1:J) (ys:List AV) (bT:Bool) (L:J) (φL:ag) (vs:List AV) (L0:J),
 bX w H φ A L φL A→as.length=us.length→(∀(i:Nat) (x:AV) (u:Value),as[i]? =some x→us[i]? =some u→R w H φ A x u)→fF ms fD as H=some (zs,H1)→b_ ms zs H1=some (ys,bT)→ca ms ys L=(vs,L0)→
 ∃aB,b9 w H φ A L φL A H1 L0 aB∧gB w A (fq (aD φ H1) A) L0 aB bT vs us∧b8 H φ L0 aB ms as vs
 |[],ms,fD,us,H,φ,zs,H1,ys,bT,L,φL,vs,L0,hd,hl,hr,h1,h2,h3=>by
  have gT:zs=[]∧H1=H:=by
   cases ms<;>simp only [fF,Option.some.injEq,Prod.mk.injEq] at h1<;>exact ⟨h1.1.symm,h1.2.symm⟩
  obtain ⟨rfl,rfl⟩:=gT;have cu:ys=[]∧bT=false:=by
   cases ms<;>simp only [b_,Option.some.injEq,Prod.mk.injEq] at h2<;>exact ⟨h2.1.symm,h2.2.symm⟩
  obtain ⟨rfl,rfl⟩:=cu;have dy:vs=[]∧L0=L:=by
   cases ms<;>simp only [ca,Prod.mk.injEq] at h3<;>exact ⟨h3.1.symm,h3.2.symm⟩
  obtain ⟨rfl,rfl⟩:=dy;refine ⟨φL,.refl hd,⟨by simpa using hl,by simp⟩,?_⟩
  cases ms with
  |nil=>simp [b8]
  |cons m ms=>cases m<;>simp [b8]
 |a::as,[],fD,us,H,φ,zs,H1,ys,bT,L,φL,vs,L0,hd,hl,hr,h1,h2,h3=>by
  match us,hl with
  |u::us,hl=>
  simp only [fF,Option.some.injEq,Prod.mk.injEq] at h1;obtain ⟨rfl,rfl⟩:=h1;simp only [b_] at h2;split at h2
  ·rename_i y hy;split at h2
   ·rename_i aU b cu
    simp only [Option.some.injEq,Prod.mk.injEq] at h2;obtain ⟨rfl,rfl⟩:=h2;simp only [ca,lX _ _ _ _ hy,List.tail_nil,Prod.mk.injEq] at h3;obtain ⟨rfl,rfl⟩:=h3;obtain ⟨aB,m,cg,_⟩:=lZ as [] fD us H φ as H aU b L φL _ _ hd (by simpa using hl) (fun i x u hx hu=>hr (i+1) x u hx hu) rfl cu rfl
    exact ⟨aB,m,gB.cons (qO (L:=L) (φL:= φL) hd.sl (.refl _) (hr 0 a u rfl rfl) hy) (fun A0=>m.eh.any A0) cg,by simp [b8]⟩
   ·simp at h2
  ·simp at h2
 |a::as,md::ms,fD,us,H,φ,zs,H1,ys,bT,L,φL,vs,L0,hd,hl,hr,h1,h2,h3=>by
  match us,hl with
  |u::us,hl=>
  simp only [fF] at h1;split at h1
  rotate_left
  ·simp at h1
  rename_i z H' hz
  split at h1
  rotate_left
  ·simp at h1
  rename_i gD fu gT
  simp only [Option.some.injEq,Prod.mk.injEq] at h1;obtain ⟨rfl,rfl⟩:=h1;have ek:=qM hz;have dc:=qN _ _ _ _ _ _ gT;have ha:=hr 0 a u rfl rfl;have rest: ∀{aU:List AV} {b:Bool} {L' :J} {ak:ag} (m1:b9 w H φ A L φL A H' L' ak) (cu:b_ ms gD fu=some (aU,b)),
   ∃aB,b9 w H' (aD φ H') A L' ak A fu (ca ms aU L').2 aB∧gB w A (fq (aD φ fu) A) (ca ms aU L').2 aB b (ca ms aU L').1 us∧b8 H' (aD φ H') (ca ms aU L').2 aB ms as (ca ms aU L').1:=by
   intro aU b L' ak m1 cu
   obtain ⟨aB,m,cg,dM⟩:=lZ as ms fD.tail us H' (aD φ H') gD fu aU b L' ak _ _ m1.bm (by simpa using hl) (fun i x u hx hu=>(hr (i+1) x u hx hu).mono (cU ek)) gT cu rfl
   refine ⟨aB,m,?_,dM⟩;rw [fQ dc] at cg;exact cg
  cases md with
  |val=>
   simp only [e8,Option.some.injEq,Prod.mk.injEq] at hz;obtain ⟨rfl,rfl⟩:=hz;simp only [b_] at h2;split at h2
   rotate_left
   ·simp at h2
   rename_i y hy;split at h2
   rotate_left
   ·simp at h2
   rename_i aU b cu
   simp only [Option.some.injEq,Prod.mk.injEq] at h2;obtain ⟨rfl,rfl⟩:=h2;have iZ:ca (.val::ms) (y::aU) L=(y::(ca ms aU L).1,(ca ms aU L).2):=by
    simp only [ca,lX _ _ _ _ hy,List.tail_cons]
   rw [iZ] at h3;simp only [Prod.mk.injEq] at h3;obtain ⟨rfl,rfl⟩:=h3;obtain ⟨aB,m,cg,dM⟩:=rest (b9.refl hd) cu;refine ⟨aB,(b9.refl hd).trans m,gB.cons (L:=L) (φL:= φL) (fun A0 q1 q2=> ?_) (fun A0=>m.eh.any A0) cg,?_⟩
   ·exact qO (L:=L) (φL:= φL) hd.sl dc ha hy A0 q1 q2
   ·simp only [b8];exact b8.mono (.refl _) (fun _ _ h=>h) (fun _ _ h=>h) dM
  |eH=>
   have dF:aR (fD.headD []) a H=some (z,H'):=hz
   simp only [b_] at h2;split at h2
   rotate_left
   ·simp at h2
   rename_i aU b cu
   simp only [Option.some.injEq,Prod.mk.injEq] at h2;obtain ⟨rfl,rfl⟩:=h2;have iZ:ca (.eH::ms) (z::aU) L=((az z L).1::(ca ms aU (az z L).2).1,(ca ms aU (az z L).2).2):=by
    simp only [ca,List.tail_cons]
   rw [iZ] at h3;simp only [Prod.mk.injEq] at h3;obtain ⟨rfl,rfl⟩:=h3;obtain ⟨φ1,m1,r1⟩:=qB hd ha dF rfl (.inl fun _ h=>h)
   obtain ⟨aB,m,cg,dM⟩:=rest m1 cu;have:=gB.cons (l1:=false) (L:=(az z L).2) (φL:= φ1) (x:=(az z L).1) (u:=u) (fun A0 q1 _=>r1.lU q1) (fun A0=>m.eh.any A0) cg;refine ⟨aB,m1.trans m,by simpa using this,?_⟩
   simp only [b8];exact b8.mono ek (fun _ _ h=>h) (fun _ _ h=>h) dM
  |io=>
   simp only [b_] at h2;split at h2
   rotate_left
   ·simp at h2
   rename_i aU b cu
   simp only [Option.some.injEq,Prod.mk.injEq] at h2;obtain ⟨rfl,rfl⟩:=h2;rcases xY hd ha hz with ⟨sz,xs,φ1,rfl,m1,r1,ro⟩|⟨sz,x,φ1,rfl,m1,r1,ro⟩
   ·have iZ:ca (.io::ms) (.own sz xs::aU) L=(.ref (aC xs L).2.bs.length (aC xs L).2.st 0 (aC xs L).1.length::(ca ms aU ((aC xs L).2.new sz true (aC xs L).1)).1,(ca ms aU ((aC xs L).2.new sz true (aC xs L).1)).2):=by
     simp only [ca]
    rw [iZ] at h3;simp only [Prod.mk.injEq] at h3;obtain ⟨rfl,rfl⟩:=h3;obtain ⟨aB,m,cg,dM⟩:=rest m1 cu;have:=gB.cons (l1:=false) (φL:= φ1) (u:=u) (fun A0 q1 _=>r1.lU q1) (fun A0=>m.eh.any A0) cg;refine ⟨aB,m1.trans m,by simpa using this,?_⟩
    simp only [b8];refine ⟨?_,b8.mono ek (fun _ _ h=>h) (fun _ _ h=>h) dM⟩;obtain ⟨k,kv,bk,e1,e2,⟨loc,g9⟩,e3,e4⟩:=ro;exact ⟨k,kv,bk,e1,ol m.bB e2,⟨loc,m.bY _ _ g9⟩,e3,fun id ad hr=>by obtain ⟨b,c,b0,q1,q2,q3,q4,q5⟩:=e4 id ad hr;exact ⟨b,c,b0,q1,q2,q3,q4,m.bY _ _ q5⟩⟩
   ·have iZ:ca (.io::ms) (.dh sz x::aU) L=((az (.dh sz x) L).1::(ca ms aU (az (.dh sz x) L).2).1,(ca ms aU (az (.dh sz x) L).2).2):=by
     simp only [ca,List.tail_cons]
    rw [iZ] at h3;simp only [Prod.mk.injEq] at h3;obtain ⟨rfl,rfl⟩:=h3;obtain ⟨aB,m,cg,dM⟩:=rest m1 cu;have:=gB.cons (l1:=false) (φL:= φ1) (u:=u) (fun A0 q1 _=>r1.lU q1) (fun A0=>m.eh.any A0) cg;refine ⟨aB,m1.trans m,by simpa using this,?_⟩
    simp only [b8];refine ⟨?_,b8.mono ek (fun _ _ h=>h) (fun _ _ h=>h) dM⟩;obtain ⟨k,kv,bk,e1,e2,⟨loc,g9⟩,e3,e4⟩:=ro;exact ⟨k,kv,bk,e1,ol m.bB e2,⟨loc,m.bY _ _ g9⟩,e3,fun id ad hr=>by obtain ⟨b,c,b0,q1,q2,q3,q4,q5⟩:=e4 id ad hr;exact ⟨b,c,b0,q1,q2,q3,q4,m.bY _ _ q5⟩⟩
end bm
end Go.VS
namespace Go.VS
def cL (L Lm:J):List Mode→List AV→List (List AV)→Prop
 | .io::ms,x::xs,l::ls=>(∃k kv b,kb x=some (k,kv)∧L.ap k kv=some b∧b.el=l∧Lm.get k=none)∧cL L Lm ms xs ls
 | .io::_,_::_,[]=>False
 | .val::ms,_::xs,ls=>cL L Lm ms xs ls
 | .eH::ms,_::xs,ls=>cL L Lm ms xs ls
 |_,_,_=>True
theorem cL.mono {L0 L Lm:J} (h:bq L0 L): ∀{ms:List Mode} {xs:List AV} {ls:List (List AV)},cL L Lm ms xs ls→cL L0 Lm ms xs ls
 |[],xs,ls,_=>by simp [cL]
 |m::ms,[],ls,_=>by cases m<;>simp [cL]
 | .val::ms,x::xs,ls,hr=>by simp only [cL] at hr⊢;exact hr.mono h
 | .eH::ms,x::xs,ls,hr=>by simp only [cL] at hr⊢;exact hr.mono h
 | .io::ms,x::xs,[],hr=>by simp only [cL] at hr
 | .io::ms,x::xs,l::ls,hr=>by
  simp only [cL] at hr⊢;obtain ⟨⟨k,kv,b,h1,h2,h3,h4⟩,h5⟩:=hr;exact ⟨⟨k,kv,b,h1,J.qL h h2,h3,h4⟩,h5.mono h⟩
theorem l4: ∀(ms:List Mode) (vs:List AV) (L:J) (ls:List (List AV)) (Lm:J),ff ms vs L=some (ls,Lm)→bq L Lm∧cL L Lm ms vs ls
 |[],vs,L,ls,Lm,h=>by
  simp only [ff,Option.some.injEq,Prod.mk.injEq] at h;obtain ⟨rfl,rfl⟩:=h;exact ⟨.refl _,by simp [cL]⟩
 |m::ms,[],L,ls,Lm,h=>by
  cases m<;>(simp only [ff,Option.some.injEq,Prod.mk.injEq] at h;obtain ⟨rfl,rfl⟩:=h;exact ⟨.refl _,by simp [cL]⟩)
 | .val::ms,x::xs,L,ls,Lm,h=>by simp only [ff] at h;simpa only [cL] using l4 ms xs L ls Lm h
 | .eH::ms,x::xs,L,ls,Lm,h=>by simp only [ff] at h;simpa only [cL] using l4 ms xs L ls Lm h
 | .io::ms,x::xs,L,ls,Lm,h=>by
  simp only [ff] at h;split at h
  ·rename_i id ad hk;split at h
   ·rename_i b hb;split at h
    ·rename_i r H' hr
     simp only [Option.some.injEq,Prod.mk.injEq] at h;obtain ⟨rfl,rfl⟩:=h;obtain ⟨h1,h2⟩:=l4 ms xs _ _ _ hr;refine ⟨(bq.del L id).trans h1,?_⟩;simp only [cL];refine ⟨⟨id,ad,b,hk,hb,rfl,?_⟩,h2.mono (bq.del L id)⟩;cases hq:H'.get id with
     |none=>rfl
     |some b=>have:=h1.get _ _ hq;rw [J.iv,if_pos rfl] at this;simp at this
    ·simp at h
   ·simp at h
  ·simp at h
def junk (b:bJ):bJ:={b with el:=b.el.map fun _=> .agg (List.replicate b.sz .undef)}
theorem x1 {H:J} {id k:Nat} {b b' :bJ} (h:(H.br id b).get k=some b'):(k=id∧b' =b)∨H.get k=some b' :=by
 unfold J.br J.get at h;simp only [List.getElem?_set] at h;by_cases hk:id=k
 ·subst hk;simp only [if_true] at h;split at h
  ·simp at h;exact .inl ⟨rfl,h.symm⟩
  ·simp at h
 ·rw [if_neg hk] at h;exact .inr h
theorem x2 {H:J} {id:Nat} {b:bJ} (h:id<H.bs.length) (k:Nat):(H.br id b).get k=if k=id then some b else H.get k:=by
 unfold J.br J.get;simp only [List.getElem?_set];by_cases hk:id=k
 ·subst hk;simp [h]
 ·rw [if_neg hk,if_neg (fun e=>hk e.symm)]
def gE (H0:J) (v:AV) (H:J):J:=
 match dB v with
 |some (id,ad)=>match H0.ap id ad with
  |some b=>H.br id (junk b)
  |none=>H
 |none=>H
theorem x4 (H0:J) (v:AV) (H:J):(gE H0 v H).bs.length=H.bs.length∧(gE H0 v H).st=H.st:=by
 unfold gE;split
 ·split
  ·simp [J.br]
  ·exact ⟨rfl,rfl⟩
 ·exact ⟨rfl,rfl⟩
theorem qP (H0:J) (ms:List Mode) (v:AV) (vs:List AV) (H:J):cw H0 (.io::ms) (v::vs) H=cw H0 ms vs (gE H0 v H):=rfl
theorem x5 {H0:J} {v:AV} {H:J} {k:Nat} {b' :bJ} (h:(gE H0 v H).get k=some b'):H.get k=some b' ∨ ∃ad b,dB v=some (k,ad)∧H0.ap k ad=some b∧b' =junk b:=by
 unfold gE at h;split at h
 ·rename_i id ad hr;split at h
  ·rename_i b hb;rcases x1 h with ⟨rfl,rfl⟩|h
   ·exact .inr ⟨ad,b,hr,hb,rfl⟩
   ·exact .inl h
  ·exact .inl h
 ·exact .inl h
theorem l5 (H0:J): ∀(ms:List Mode) (as:List AV) (H:J),(cw H0 ms as H).bs.length=H.bs.length∧(cw H0 ms as H).st=H.st
 |[],as,H=>by simp [cw]
 |m::ms,[],H=>by cases m<;>simp [cw]
 | .val::ms,a::as,H=>by simp only [cw];exact l5 H0 ms as H
 | .eH::ms,a::as,H=>by simp only [cw];exact l5 H0 ms as H
 | .io::ms,a::as,H=>by
  rw [qP];have:=l5 H0 ms as (gE H0 a H);have h2:=x4 H0 a H;exact ⟨this.1.trans h2.1,this.2.trans h2.2⟩
theorem l6 (H0:J) {Lx Lm:J} {φ :ag} {L0:J} {aB:ag}: ∀(ms:List Mode) (as vs:List AV) (ls:List (List AV)) (H:J) (k:Nat) (b' :bJ),as.length=vs.length→b8 H0 φ L0 aB ms as vs→cL Lx Lm ms vs ls→
 (cw H0 ms as H).get k=some b' →H.get k=some b' ∨ ∃a x ad b kk kv bk,dB a=some (k,ad)∧H0.ap k ad=some b∧b' =junk b∧gZ H0 φ L0 aB a x∧kb x=some (kk,kv)∧Lx.ap kk kv=some bk∧Lm.get kk=none
 |[],as,vs,ls,H,k,b',_,_,_,h=>by simp only [cw] at h;exact .inl h
 |m::ms,[],vs,ls,H,k,b',_,_,_,h=>by cases m<;>(simp only [cw] at h;exact .inl h)
 |m::ms,a::as,[],ls,H,k,b',hl,_,_,h=>by simp at hl
 | .val::ms,a::as,x::vs,ls,H,k,b',hl,h1,h2,h=>by
  simp only [cw] at h;exact l6 H0 ms as vs ls H k b' (by simpa using hl) (by simpa only [b8] using h1) (by simpa only [cL] using h2) h
 | .eH::ms,a::as,x::vs,ls,H,k,b',hl,h1,h2,h=>by
  simp only [cw] at h;exact l6 H0 ms as vs ls H k b' (by simpa using hl) (by simpa only [b8] using h1) (by simpa only [cL] using h2) h
 | .io::ms,a::as,x::vs,[],H,k,b',hl,h1,h2,h=>by simp only [cL] at h2
 | .io::ms,a::as,x::vs,l::ls,H,k,b',hl,h1,h2,h=>by
  rw [qP] at h;simp only [b8] at h1;simp only [cL] at h2;rcases l6 H0 ms as vs ls _ k b' (by simpa using hl) h1.2 h2.2 h with h3|h3
  ·rcases x5 h3 with h4|⟨ad,b,q1,q2,q3⟩
   ·exact .inl h4
   ·obtain ⟨kk,kv,bk,p1,p2,_,p4⟩:=h2.1;exact .inr ⟨a,x,ad,b,kk,kv,bk,q1,q2,q3,h1.1,p1,p2,p4⟩
  ·exact .inr h3
def Has (Hx:J) (id ad:Nat) (b:bJ):Prop:= ∃b',Hx.ap id ad=some b' ∧b'.sz=b.sz∧b'.el.length=b.el.length
theorem Has.gE {H0 Hx:J} {id ad:Nat} {b:bJ} (h0:H0.ap id ad=some b) (h:Has Hx id ad b) (v:AV):Has (gE H0 v Hx) id ad b:=by
 obtain ⟨b',h1,h2,h3⟩:=h;unfold VS.gE;split
 ·rename_i l7 AG hr;split
  ·rename_i b2 il;have ax:id<Hx.bs.length:=J.ig (J.bw h1).1;by_cases bV:l7=id
   ·subst bV;have g1:=J.bw h0;have g2:=J.bw il;have:b2=b:=by have:=g1.1.symm.trans g2.1;simp only [Option.some.injEq] at this;exact this.symm
    subst this;refine ⟨junk b2,?_,rfl,by simp [junk]⟩
    have:=J.gp (H:=Hx.br l7 (junk b2)) (id:=l7) (b:=junk b2) (by rw [x2 ax,if_pos rfl])
    rw [←g1.2];exact this
   ·refine ⟨b',?_,h2,h3⟩;have g:=J.bw h1;have:(Hx.br l7 (junk b2)).get id=some b' :=by
     unfold J.br J.get;simp only [List.getElem?_set];rw [if_neg bV];exact g.1
    rw [←g.2];exact J.gp this
  ·exact ⟨b',h1,h2,h3⟩
 ·exact ⟨b',h1,h2,h3⟩
structure oo (w:World) (A:ah) (aB:ag) (w' :World) (ak:ag) (AH:ah):Prop where
 own: ∀c,A c→ ¬Ow aB c→AH c
 eg: ∀c,Ow ak c→AH c
 cb: ∀c,AH c→c<w'.heap.size
 fz: ∀c arr T fr,w.heap[c]? =some (.cells arr T fr)→ ¬A c→(∃eK,w'.heap[c]? =some (.cells arr T eK))∧ ¬AH c
def x6 (w:World) (L:J) (φL:ag) (AL:ah) (H:J) (φ :ag) (a:AV) (l:List AV):Prop:=
 (dB a=none→l=[])∧ ∀id ad,dB a=some (id,ad)→ ∃c b0 b arr T fr,H.ap id ad=some b∧ φ id=some (.at_ c b0)∧w.heap[c]? =some (.cells arr T fr)∧l.length=b.el.length∧
  (∀(i:Nat) (x:AV),l[i]? =some x→x.cells.length=b.sz)∧ ∀(i:Nat) (x:AV) (j:Nat) (y:AV) (v:Value),l[i]? =some x→x.cells[j]? =some y→arr[b0+i*b.sz+j]? =some v→R w L φL AL y v
def en (w:World) (L:J) (φL:ag) (AL:ah) (H:J) (φ :ag):List Mode→List AV→List (List AV)→Prop
 | .io::ms,a::as,l::ls=>x6 w L φL AL H φ a l∧en w L φL AL H φ ms as ls
 | .val::ms,_::as,ls=>en w L φL AL H φ ms as ls
 | .eH::ms,_::as,ls=>en w L φL AL H φ ms as ls
 |_,_,_=>True
section back
variable {w w' :World} {A:ah} {H:J} {φ :ag} {H1 L0:J} {aB:ag} {A0:ah} {L:J} {ak:ag} {A' AH:ah} {ms:List Mode} {as vs:List AV} {ls:List (List AV)} {Lm:J}
theorem oq (m:b9 w H φ A ⟨0,[]⟩ (fun _=>none) A H1 L0 aB) (ho:Out w L0 aB A0 w' L ak A') {a x:AV} (hr:gZ H φ L0 aB a x) {kk kv:Nat} {bk:bJ} (hk:kb x=some (kk,kv)) (hb:L.ap kk kv=some bk):
 (dB a=none→bk.el=[])∧ ∀id ad,dB a=some (id,ad)→ ∃b c b0,H.ap id ad=some b∧bk.sz=b.sz∧bk.el.length=b.el.length∧ φ id=some (.at_ c b0)∧ak kk=some (.at_ c b0)∧pK w' L ak A' bk (.at_ c b0):=by
 obtain ⟨k,AI,b1,e1,e2,⟨loc,g9⟩,e3,e4⟩:=hr;rw [hk] at e1;simp only [Option.some.injEq,Prod.mk.injEq] at e1;obtain ⟨rfl,rfl⟩:=e1;obtain ⟨g1,g2⟩:=J.bw hb;obtain ⟨f1,f2⟩:=J.bw e2;have ax:kv<L0.st:=by
  obtain ⟨bb,p1,p2⟩:=m.bm.sh.ap kk loc g9;rw [f1] at p1;simp only [Option.some.injEq] at p1;subst p1;rw [←f2];exact p2.ad
 ·obtain ⟨b2,i1,i2,i3,i4,i5,i6⟩:=ho.bW.ids kk bk g1 (by omega)
  rw [f1] at i1;simp only [Option.some.injEq] at i1;subst i1;refine ⟨fun h=>List.eq_nil_of_length_eq_zero (by rw [i5,e3 h];rfl),fun id ad h=> ?_⟩
  obtain ⟨b,c,b0,q1,q2,q3,q4,q5⟩:=e4 id ad h;have hp:=i6 _ q5;obtain ⟨bb,p1,p2⟩:=ho.st.ap kk _ hp;rw [g1] at p1;simp only [Option.some.injEq] at p1;subst p1;exact ⟨b,c,b0,q1,i3.trans q2,i5.trans q3,q4,hp,p2⟩
theorem qQ (ae:St w H φ A) (m:b9 w H φ A ⟨0,[]⟩ (fun _=>none) A H1 L0 aB) (hlen:as.length=vs.length) (dM:b8 H φ L0 aB ms as vs) (ho:Out w L0 aB A0 w' L ak A') (ha:oo w A aB w' ak AH) (ht:ff ms vs L=some (ls,Lm)):
 bX w' Lm (aD ak Lm) A' (cw H ms as H1) (aD φ (cw H ms as H1)) AH∧bM w H φ A w' (cw H ms as H1) (aD φ (cw H ms as H1)) AH:=by
 obtain ⟨ek,ou⟩:=l4 _ _ _ _ _ ht;have bj: ∀c,Ow aB c→Ow φ c:=fun c hc=>by
  rcases m.oh c hc with ⟨i,b,h⟩|h
  ·simp at h
  ·exact h.1
 have bB:=fun k b' =>l6 H ms as vs ls H1 k b' hlen dM ou
 have ov:=(l5 H ms as H1).2;have aY:bM w H φ A w' (cw H ms as H1) (aD φ (cw H ms as H1)) AH:=by
  refine ⟨ha.fz,by rw [ov,m.less.st];exact Nat.le_refl _,fun id b' ay _=> ?_,fun c hc=>ho.post.a_ c (Ow.lt ae hc)⟩
  have bY: ∀loc,φ id=some loc→aD φ (cw H ms as H1) id=some loc:=fun loc h=>by simp [aD,ay,h]
  rcases bB id b' ay with h|⟨a,x,ad,b,kk,kv,bk,q1,q2,rfl,q4,q5,q6,q7⟩
  ·exact ⟨b',m.less.get _ _ h,rfl,rfl,rfl,rfl,bY⟩
  ·exact ⟨b,(J.bw q2).1,rfl,rfl,rfl,by simp [junk],bY⟩
 refine ⟨⟨dY ho.st ek,⟨fun i i' c b b' h1 h2=>ae.inj _ _ _ _ _ (de h1).1 (de h2).1,fun c hc=> ?_,ha.cb,fun id loc hl=> ?_⟩,fun c hc hj=> ?_,fun c hc=>ha.eg c (bF hc)⟩,aY⟩
 ·obtain ⟨id,b0,h⟩:=hc;obtain ⟨h1,b',ay⟩:=de h;rcases bB id b' ay with h2|⟨a,x,ad,b,kk,kv,bk,q1,q2,rfl,q4,q5,q6,q7⟩
  ·refine ha.own c (ae.own c ⟨id,b0,h1⟩) (m.bm.b7 c ⟨id,b0,?_⟩);simp [aD,h2,h1]
  ·obtain ⟨_,re⟩:=oq m ho q4 q5 q6;obtain ⟨b2,c2,oz,_,_,_,r4,r5,_⟩:=re id _ q1;rw [h1] at r4;simp only [Option.some.injEq,Loc.at_.injEq] at r4;obtain ⟨rfl,rfl⟩:=r4;exact ha.eg c ⟨kk,b0,r5⟩
 ·obtain ⟨h1,b',ay⟩:=de hl;refine ⟨b',ay,?_⟩;rcases bB id b' ay with h2|⟨a,x,ad,b,kk,kv,bk,q1,q2,rfl,q4,q5,q6,q7⟩
  ·obtain ⟨b2,il,af⟩:=ae.ap id loc h1;rw [m.less.get _ _ h2] at il;simp only [Option.some.injEq] at il;subst il;refine ⟨by rw [ov,m.less.st];exact af.ad,af.sized,af.aS,fun c b0 he=> ?_⟩
   subst he;obtain ⟨arr,T,fr,k1,k2,k3,k4⟩:=af.here c b0 rfl;have hn: ¬Ow aB c:=m.bm.b7 c ⟨id,b0,by simp [aD,h2,h1]⟩
   refine ⟨arr,T,fr,?_,k2,k3,fun i x j y v hx hy hv=>⟨(k4 i x j y v hx hy hv).1.mono aY,(k4 i x j y v hx hy hv).2⟩⟩;rw [ho.post.kept c (Ow.lt ae ⟨id,b0,h1⟩) hn];exact k1
  ·obtain ⟨_,re⟩:=oq m ho q4 q5 q6;obtain ⟨b2,c2,oz,r1,r2,r3,r4,r5,af⟩:=re id _ q1;rw [h1] at r4;simp only [Option.some.injEq] at r4;subst r4;rw [q2] at r1;simp only [Option.some.injEq] at r1;subst r1;obtain ⟨b3,ky,x7⟩:=ae.ap id _ h1;rw [(J.bw q2).1] at ky;simp only [Option.some.injEq] at ky;subst ky;have hcs: ∀(i:Nat) (x:AV),(junk b).el[i]? =some x→i<b.el.length∧x= .agg (List.replicate b.sz .undef):=by
    intro i x hx;simp only [junk,List.getElem?_map,Option.map_eq_some_iff] at hx;obtain ⟨z,hz,rfl⟩:=hx;exact ⟨(List.getElem?_eq_some_iff.1 hz).1,rfl⟩
   refine ⟨by rw [ov,m.less.st];exact x7.ad,fun i x hx=>by rw [(hcs i x hx).2];simp [AV.cells,junk],fun h=>by simp at h,fun c b0 he=> ?_⟩
   simp only [Loc.at_.injEq] at he;obtain ⟨rfl,rfl⟩:=he;obtain ⟨arr,T,fr,k1,k2,k3,k4⟩:=af.here c2 oz rfl;refine ⟨arr,T,fr,k1,k2,by simp only [junk,List.length_map];rw [←r3,←r2];exact k3,fun i x j y v hx hy hv=> ?_⟩
   obtain ⟨hi,rfl⟩:=hcs i x hx;have hj:j<b.sz:=by have:=(List.getElem?_eq_some_iff.1 hy).1;simpa [AV.cells] using this
   have x8:y= .undef:=by simp only [AV.cells] at hy;rw [List.getElem?_replicate,if_pos hj] at hy;simpa using hy.symm
   subst x8;refine ⟨.fr _ _ (.undef _),?_⟩;have qR:=List.getElem?_eq_getElem (show i<bk.el.length by omega)
   exact (k4 i _ j _ v qR (List.getElem?_eq_getElem (show j<_ by rw [af.sized _ _ qR,r2];exact hj)) (by rw [r2];exact hv)).2
 ·obtain ⟨id,b0,h⟩:=hj;obtain ⟨h1,b',ay⟩:=de h;rcases bB id b' ay with h2|⟨a,x,ad,b,kk,kv,bk,q1,q2,rfl,q4,q5,q6,q7⟩
  ·rcases ho.post.own c (bF hc) with h3|h3
   ·exact m.bm.b7 c ⟨id,b0,by simp [aD,h2,h1]⟩ h3
   ·have:=Ow.lt ae ⟨id,b0,h1⟩;omega
  ·obtain ⟨_,re⟩:=oq m ho q4 q5 q6;obtain ⟨b2,c2,oz,_,_,_,r4,r5,_⟩:=re id _ q1;rw [h1] at r4;simp only [Option.some.injEq,Loc.at_.injEq] at r4;obtain ⟨rfl,rfl⟩:=r4;obtain ⟨i,bb,hi⟩:=hc;obtain ⟨fo,bx,qS⟩:=de hi;have:=ho.st.inj _ _ _ _ _ fo r5;subst this;rw [q7] at qS;simp at qS
end back
end Go.VS
namespace Go.VS
section back
variable {w:World} {AL AH:ah}
structure Mv (w:World) (L:J) (φL:ag) (AL:ah) (H:J) (φ :ag) (AH:ah) (L1 H1:J) (φ1:ag):Prop where
 less:bq L L1
 bm:bX w L1 (aD φL L1) AL H1 φ1 AH
 eh:bM w H φ AH w H1 φ1 AH
 oh: ∀c,Ow φ1 c→Ow φ c∨(Ow φL c∧ ¬Ow (aD φL L1) c)
 has: ∀id ad b,H.ap id ad=some b→ ∃b',H1.ap id ad=some b' ∧b'.sz=b.sz∧b'.el.length=b.el.length
 bY: ∀id loc,φ id=some loc→ φ1 id=some loc
theorem Mv.trans {L L1 L2:J} {φL:ag} {H H1 H2:J} {φ φ1 a7:ag} (h:Mv w L φL AL H φ AH L1 H1 φ1) (k:Mv w L1 (aD φL L1) AL H1 φ1 AH L2 H2 a7):Mv w L φL AL H φ AH L2 H2 a7:=by
 have hr:=fQ (φ := φL) k.less;refine ⟨h.less.trans k.less,by rw [←hr];exact k.bm,h.eh.trans k.eh (fun _ _=>rfl),fun c hc=> ?_,fun id ad b hb=> ?_,fun id loc hl=>k.bY id loc (h.bY id loc hl)⟩
 ·rcases k.oh c hc with h1|⟨h1,h2⟩
  ·rcases h.oh c h1 with h3|⟨h3,h4⟩
   ·exact .inl h3
   ·refine .inr ⟨h3,fun h5=>h4 ?_⟩;rw [←hr] at h5;exact bF h5
  ·rw [hr] at h2;exact .inr ⟨bF h1,h2⟩
 ·obtain ⟨b1,e1,e2,e3⟩:=h.has id ad b hb;obtain ⟨b2,f1,f2,f3⟩:=k.has id ad b1 e1;exact ⟨b2,f1,f2.trans e2,f3.trans e3⟩
theorem kz.refl {w:World} {c:Nat} {o:Obj} (h:w.heap[c]? =some o):kz w c o w:=⟨h,fun _ _=>rfl,rfl,rfl,rfl,rfl⟩
theorem en.mono {L L1:J} {φL:ag} {H H1:J} {φ φ1:ag} (hl:bq L L1) (has: ∀id ad b,H.ap id ad=some b→ ∃b',H1.ap id ad=some b' ∧b'.sz=b.sz∧b'.el.length=b.el.length) (bY: ∀id loc,φ id=some loc→ φ1 id=some loc):
 ∀{ms:List Mode} {as:List AV} {ls:List (List AV)},en w L φL AL H φ ms as ls→en w L1 (aD φL L1) AL H1 φ1 ms as ls
 |[],as,ls,_=>by simp [en]
 |m::ms,[],ls,_=>by cases m<;>simp [en]
 | .val::ms,a::as,ls,h=>by simp only [en] at h⊢;exact en.mono hl has bY h
 | .eH::ms,a::as,ls,h=>by simp only [en] at h⊢;exact en.mono hl has bY h
 | .io::ms,a::as,[],h=>by simp [en]
 | .io::ms,a::as,l::ls,h=>by
  simp only [en] at h⊢;refine ⟨⟨h.1.1,fun id ad hr=> ?_⟩,en.mono hl has bY h.2⟩;obtain ⟨c,b0,b,arr,T,fr,k1,k2,k3,k4,k5,k6⟩:=h.1.2 id ad hr;obtain ⟨b',e1,e2,e3⟩:=has id ad b k1;exact ⟨c,b0,b',arr,T,fr,e1,bY _ _ k2,k3,by rw [k4,e3],fun i x hx=>by rw [e2];exact k5 i x hx,fun i x j y v hx hy hv=>(k6 i x j y v hx hy (by rw [←e2];exact hv)).mono (cU hl)⟩
theorem qT: ∀(sh:List (List Sh)) (rs:List AV) (us:List Value) (L:J) (φL:ag) (H:J) (φ :ag) (ys:List AV) (L1:J),bX w L φL AL H φ AH→rs.length=us.length→
 (∀(i:Nat) (x:AV) (u:Value),rs[i]? =some x→us[i]? =some u→R w L φL AL x u)→c9 sh rs L=some (ys,L1)→dL AL AH ys→
 ∃ φ1,b9 w L φL AL H φ AH L1 (aC ys H).2 φ1∧(aC ys H).1.length=us.length∧ ∀(i:Nat) (x:AV) (u:Value),(aC ys H).1[i]? =some x→us[i]? =some u→R w (aC ys H).2 φ1 AH x u
 |sh,[],us,L,φL,H,φ,ys,L1,hd,hl,hr,ht,hk=>by
  simp only [c9,Option.some.injEq,Prod.mk.injEq] at ht;obtain ⟨rfl,rfl⟩:=ht;exact ⟨φ,.refl hd,hl,by simp [aC]⟩
 |sh,x::rs,u::us,L,φL,H,φ,ys,L1,hd,hl,hr,ht,hk=>by
  simp only [c9] at ht;split at ht
  rotate_left
  ·simp at ht
  rename_i y L' h1
  split at ht
  rotate_left
  ·simp at ht
  rename_i aU c6 h2
  simp only [Option.some.injEq,Prod.mk.injEq] at ht;obtain ⟨rfl,rfl⟩:=ht;obtain ⟨k1,k2⟩:=hk.cons;obtain ⟨φ1,m1,r1⟩:=qB hd (hr 0 x u rfl rfl) h1 rfl k1;obtain ⟨a7,m2,l2,r2⟩:=qT sh.tail rs us L' (aD φL L') (az y H).2 φ1 aU c6 m1.bm (by simpa using hl) (fun i x u hx hu=>(hr (i+1) x u hx hu).mono (cU m1.less)) h2 k2
  refine ⟨a7,m1.trans m2,by simp [aC,l2],fun i x' u' hx hu=> ?_⟩
  cases i with
  |zero=>simp [aC] at hx hu;subst hx;subst hu;exact r1.mono m2.eh
  |succ i=>simp only [aC,List.getElem?_cons_succ] at hx hu;exact r2 i x' u' hx hu
 |sh,x::rs,[],L,φL,H,φ,ys,L1,hd,hl,hr,ht,hk=>by simp at hl
theorem qU: ∀(sh:List (List Sh)) (rs:List AV) (L:J) (ys:List AV) (L1:J),c9 sh rs L=some (ys,L1)→bq L L1
 |sh,[],L,ys,L1,ht=>by simp only [c9,Option.some.injEq,Prod.mk.injEq] at ht;obtain ⟨rfl,rfl⟩:=ht;exact .refl _
 |sh,x::rs,L,ys,L1,ht=>by
  simp only [c9] at ht;split at ht
  ·rename_i y L' h1
   split at ht
   ·rename_i aU c6 h2
    simp only [Option.some.injEq,Prod.mk.injEq] at ht;obtain ⟨rfl,rfl⟩:=ht;exact (fp _ _ _ _ _ h1).trans (qU _ rs _ _ _ h2)
   ·simp at ht
  ·simp at ht
theorem qV {es:List Sh} {x:AV} {v:Value} {L:J} {φL:ag} {A' :ah} {y:AV} {L1:J} (ae:St w L φL AL) (hx:R w L φL AL x v) (ht:aR es x L=some (y,L1)) (hk: ∀c,A' c→gone φL AL L1 c):FR w A' (bp y) v:=by
 by_cases bU: ∃cs,x= .agg cs
 ·obtain ⟨cs,rfl⟩:=bU;obtain ⟨aW,hc,rfl⟩:=kH ht;obtain ⟨vs,rfl,hl,ho,hp⟩:=hx.fI;obtain ⟨l1,r1⟩:=oi es cs vs.toList L φL AL A' aW L1 ae (by simpa using hl) (fun j c u hj hu=>hp j c u hj (by simpa using hu)) hc hk
  exact .agg _ _ (by rw [l1,hl]) ho fun i x v hx hv=>r1 i x v hx (by simpa using hv)
 ·obtain ⟨e,rfl,cV⟩:=iY (fun cs h=>bU ⟨cs,h⟩) ht;exact (lW e x v L φL AL A' y L1 ae hx cV hk).1
theorem oA {A' :ah}: ∀(sh:List (List Sh)) (rs:List AV) (us:List Value) (L:J) (φL:ag) (ys:List AV) (L1:J),St w L φL AL→rs.length=us.length→
 (∀(i:Nat) (x:AV) (u:Value),rs[i]? =some x→us[i]? =some u→R w L φL AL x u)→c9 sh rs L=some (ys,L1)→(∀c,A' c→gone φL AL L1 c)→
 (bS ys).length=us.length∧ ∀(i:Nat) (x:AV) (u:Value),(bS ys)[i]? =some x→us[i]? =some u→FR w A' x u
 |sh,[],us,L,φL,ys,L1,hd,hl,hr,ht,hk=>by
  simp only [c9,Option.some.injEq,Prod.mk.injEq] at ht;obtain ⟨rfl,rfl⟩:=ht;exact ⟨hl,by simp [bS]⟩
 |sh,x::rs,u::us,L,φL,ys,L1,hd,hl,hr,ht,hk=>by
  simp only [c9] at ht;split at ht
  rotate_left
  ·simp at ht
  rename_i y L' h1
  split at ht
  rotate_left
  ·simp at ht
  rename_i aU c6 h2
  simp only [Option.some.injEq,Prod.mk.injEq] at ht;obtain ⟨rfl,rfl⟩:=ht;have ek:=fp _ _ _ _ _ h1;have dc:=qU _ _ _ _ _ h2;have r1:=qV (A' :=A') hd (hr 0 x u rfl rfl) h1 (fun c hc=>oc dc (hk c hc))
  obtain ⟨l2,r2⟩:=oA sh.tail rs us L' (aD φL L') aU c6 (dY hd ek) (by simpa using hl) (fun i x u hx hu=>(hr (i+1) x u hx hu).mono (cU ek)) h2 (fun c hc=>by
   obtain ⟨k1,k2⟩:=hk c hc;exact ⟨k1,fun ho=>by rw [fQ dc];exact k2 (bF ho)⟩)
  refine ⟨by simp [bS,l2],fun i x' u' hx hu=> ?_⟩
  cases i with
  |zero=>simp [bS] at hx hu;subst hx;subst hu;exact r1
  |succ i=>simp only [bS,List.getElem?_cons_succ] at hx hu;exact r2 i x' u' hx hu
 |sh,x::rs,[],L,φL,ys,L1,hd,hl,hr,ht,hk=>by simp at hl
end back
end Go.VS
namespace Go.VS
def g_:List Value→Value
 |[v]=>v
 |vs=> .tuple vs.toArray
def jO (P:Program) (f:FuncId):Prop:= ∃fn,P.funcs[f]? =some fn∧(fn.name== "runtime.NumGoroutine")=false∧fn.body.isNone=false
def iy (w:World) (H:J) (φ :ag) (A:ah) (K:AV→J→Prop) (e:Ending) (w' :World):Prop:=
 match e with
 | .returned v' => ∃x H' ak A',Out w H φ A w' H' ak A' ∧R w' H' ak A' x v' ∧K x H'
 |_=>False
theorem iy.mono {w:World} {H:J} {φ :ag} {A:ah} {K K' :AV→J→Prop} (h: ∀v H,K v H→K' v H) {e:Ending} {w' :World} (k:iy w H φ A K e w'):iy w H φ A K' e w' :=by
 cases e with
 |returned v' =>obtain ⟨x,H',ak,A',h1,h2,h3⟩:=k;exact ⟨x,H',ak,A',h1,h2,h _ _ h3⟩
 |panicked c=>exact k
 |outgrown=>exact k
def cW (P:Program):bD:=fun f ys H K=>jO P f∧
 ∀(w:World) (A:ah) (φ :ag) (us:Array Value),St w H φ A→ys.length=us.size→
  (∀(i:Nat) (x:AV) (u:Value),ys[i]? =some x→us[i]? =some u→R w H φ A x u)→Calls P f us w (iy w H φ A K)
theorem cW.mono {P:Program} {f:FuncId} {ys:List AV} {H:J} {K K' :AV→J→Prop} (h: ∀v H,K v H→K' v H) (k:cW P f ys H K):cW P f ys H K' :=
 ⟨k.1,fun w A φ us h1 h2 h3=>(k.2 w A φ us h1 h2 h3).mono fun _ _ he=>he.mono h⟩
def Exact (X:bD):Prop:= ∀f ys H K,X f ys H K→ ∃v H',X f ys H (fun v1 H1=>v1=v∧H1=H')∧K v H'
theorem St.shrink {w:World} {H:J} {φ :ag} {A A' :ah} (h:St w H φ A) (h1: ∀c,A' c→A c) (h2: ∀c,Ow φ c→A' c):St w H φ A' :=by
 refine ⟨h.inj,h2,fun c hc=>h.cb c (h1 c hc),fun id loc hl=> ?_⟩;obtain ⟨b,hb,af⟩:=h.ap id loc hl;refine ⟨b,hb,af.ad,af.sized,af.aS,fun c b0 he=> ?_⟩;obtain ⟨arr,T,fr,k1,k2,k3,k4⟩:=af.here c b0 he;exact ⟨arr,T,fr,k1,k2,k3,fun i x j y v hx hy hv=>⟨(k4 i x j y v hx hy hv).1.lU h1,(k4 i x j y v hx hy hv).2⟩⟩
section
variable {w:World} {H:J} {φ :ag} {A:ah}
theorem oB {xs:List AV} {us:List Value} (hl:xs.length=us.length) (h: ∀(i:Nat) (x:AV) (u:Value),xs[i]? =some x→us[i]? =some u→R w H φ A x u):R w H φ A (cm xs) (g_ us):=by
 have key: ∀{xs:List AV} {us:List Value},xs.length=us.length→(∀(i:Nat) (x:AV) (u:Value),xs[i]? =some x→us[i]? =some u→R w H φ A x u)→R w H φ A (.aE xs) (.tuple us.toArray):=
  fun hl h=> .aE _ _ (by simpa using hl) fun i x v hx hv=>h i x v hx (by simpa using hv)
 match xs,us,hl with
 |[],[],hl=>exact key hl h
 |[x],[u],_=>exact h 0 x u rfl rfl
 |x::x' ::xs,u::u' ::us,hl=>exact key hl h
theorem qW {xs:List AV} {us:List Value} (hl:xs.length=us.length) (h: ∀(i:Nat) (x:AV) (u:Value),xs[i]? =some x→us[i]? =some u→FR w A x u):FR w A (cm xs) (g_ us):=by
 have key: ∀{xs:List AV} {us:List Value},xs.length=us.length→(∀(i:Nat) (x:AV) (u:Value),xs[i]? =some x→us[i]? =some u→FR w A x u)→FR w A (.aE xs) (.tuple us.toArray):=
  fun hl h=> .aE _ _ (by simpa using hl) fun i x v hx hv=>h i x v hx (by simpa using hv)
 match xs,us,hl with
 |[],[],hl=>exact key hl h
 |[x],[u],_=>exact h 0 x u rfl rfl
 |x::x' ::xs,u::u' ::us,hl=>exact key hl h
end
theorem qX (zs:List AV) (H:J):az (cm zs) H=(cm (aC zs H).1,(aC zs H).2):=by
 match zs with
 |[]=>rfl
 |[z]=>rfl
 |z::z' ::zs=>rfl
theorem qY (zs:List AV):bp (cm zs)=cm (bS zs):=by
 match zs with
 |[]=>rfl
 |[z]=>rfl
 |z::z' ::zs=>rfl
theorem qZ (zs:List AV):cc (cm zs)=dT zs:=by
 match zs with
 |[]=>rfl
 |[z]=>simp [cm,dT]
 |z::z' ::zs=>rfl
theorem q0 {xs:List AV} {v:Value} {w:World} {H:J} {φ :ag} {A:ah} (h:R w H φ A (cm xs) v): ∃us:List Value,v=g_ us∧xs.length=us.length∧ ∀(i:Nat) (x:AV) (u:Value),xs[i]? =some x→us[i]? =some u→R w H φ A x u:=by
 have key: ∀{xs:List AV},xs.length≠1→R w H φ A (.aE xs) v→ ∃us:List Value,v=g_ us∧xs.length=us.length∧ ∀(i:Nat) (x:AV) (u:Value),xs[i]? =some x→us[i]? =some u→R w H φ A x u:=by
  intro xs hl h;obtain ⟨vs,rfl,h1,h2⟩:=h.lx;refine ⟨vs.toList,?_,by simpa using h1,fun i x u hx hu=>h2 i x u hx (by simpa using hu)⟩
  have da:vs.toList.length≠1:=by simp only [Array.length_toList];omega
  generalize hv:vs.toList=l at da;have:Value.tuple vs= .tuple l.toArray:=by rw [←hv]
  rw [this]
  match l with
  |[]=>rfl
  |[u]=>exact absurd rfl da
  |u::u' ::l=>rfl
 match xs with
 |[]=>exact key (by simp) h
 |[x]=>exact ⟨[v],rfl,rfl,fun i x' u hx hu=>by
  cases i with
  |zero=>simp at hx hu;subst hx;subst hu;exact h
  |succ i=>simp at hx⟩
 |x::x' ::xs=>exact key (by simp) h
def l8 (ms:List Mode):Prop:= ∀m∈ms,m= .val
theorem oC: ∀(ms:List Mode) (sh:List (List Sh)) (as:List AV) (H:J),l8 ms→fF ms sh as H=some (as,H)
 |[],sh,as,H,_=>rfl
 |m::ms,sh,[],H,_=>rfl
 |m::ms,sh,a::as,H,h=>by
  have hm:=h m (by simp)
  subst hm;simp only [fF,e8,oC ms sh.tail as H (fun m hm=>h m (by simp [hm]))]
theorem oD (H0:J): ∀(ms:List Mode) (as:List AV) (H:J),l8 ms→cw H0 ms as H=H
 |[],as,H,_=>by simp [cw]
 |m::ms,[],H,_=>by cases m<;>simp [cw]
 |m::ms,a::as,H,h=>by
  have hm:=h m (by simp)
  subst hm;simp only [cw];exact oD H0 ms as H (fun m hm=>h m (by simp [hm]))
theorem jP {w:World} {H:J} {φ :ag} {A:ah} (ae:St w H φ A):aD φ H= φ :=by
 funext id
 unfold aD;cases hp: φ id with
 |none=>simp
 |some loc=>obtain ⟨b,hb,_⟩:=ae.ap id loc hp;simp [hb]
theorem oE {H:J}: ∀(as ys:List AV) (b:Bool),b_ [] as H=some (ys,b)→ ∀L,ca [] ys L=(ys,L)
 |[],ys,b,h,L=>by simp only [b_,Option.some.injEq,Prod.mk.injEq] at h;obtain ⟨rfl,_⟩:=h;rfl
 |a::as,ys,b,h,L=>by
  simp only [b_] at h;split at h
  ·rename_i y hy;split at h
   ·rename_i aU b' cu
    simp only [Option.some.injEq,Prod.mk.injEq] at h;obtain ⟨rfl,_⟩:=h;simp only [ca,lX H 8 a y hy,List.tail_nil,oE as aU b' cu]
   ·simp at h
  ·simp at h
theorem x9 {P:Program} {C:aH} {X:bD} (hX: ∀f ys H K,X f ys H K→cW P f ys H K) {w:World} {H:J} {φ :ag} {A:ah} (ae:St w H φ A) {f:FuncId} {as:List AV} {us:Array Value} (hl:as.length=us.size)
 (hr: ∀(i:Nat) (x:AV) (u:Value),as[i]? =some x→us[i]? =some u→R w H φ A x u) {th:Bool} {K:AV→J→Prop} (h:dl X C f as th H K):jO P f∧Calls P f us w (iy w H φ A K):=by
 unfold dl at h;split at h
 ·exact h.elim
 rename_i ys bT hy;obtain ⟨y,kK,gY,hp⟩:=h;have hm:l8 []:=fun m hm=>by simp at hm
 have oF:bX w H φ A ⟨0,[]⟩ (fun _=>none) A:=by
  refine ⟨ae,⟨fun i i' c b b' h=>by simp at h,fun c hc=> ?_,ae.cb,fun id loc h=>by simp at h⟩,fun c _ hc=> ?_,ae.own⟩
  ·obtain ⟨i,b,h⟩:=hc;simp at h
  ·obtain ⟨i,b,h⟩:=hc;simp at h
 have oG:ca [] ys ⟨0,[]⟩=(ys,⟨0,[]⟩):=oE _ _ _ hy _;obtain ⟨aB,m,cg,dM⟩:=lZ as [] [] us.toList H φ as H ys bT ⟨0,[]⟩ (fun _=>none) ys ⟨0,[]⟩ oF (by simpa using hl) (fun i x u hx hu=>hr i x u hx (by simpa using hu)) (oC _ _ _ _ hm) hy oG
 have bj: ∀c,¬Ow aB c:=fun c hc=>by
  rcases m.oh c hc with ⟨i,b,h⟩|⟨h1,h2⟩
  ·simp at h
  ·rw [jP ae] at h2;exact h2 h1
 let A0:ah:=if bT=true then Ow aB else A
 have i_: ∀c,A0 c→A c:=by
  intro c hc;simp only [A0] at hc;split at hc
  ·exact absurd hc (bj c)
  ·exact hc
 have oH:bT=true→ ∀c,A0 c→fq (aD φ H) A c:=by
  intro ax c hc;simp only [A0,ax,if_true] at hc;exact absurd hc (bj c)
 have cM:St w ⟨0,[]⟩ aB A0:=m.bm.sh.shrink i_ (fun c hc=>absurd hc (bj c));have eS:ys.length=us.size:=by simpa using cg.1
 refine ⟨(hX _ _ _ _ kK).1,((hX _ _ _ _ kK).2 w A0 aB us cM eS (fun i x u hx hu=>cg.2 A0 i_ oH i x u hx (by simpa using hu))).mono fun e w' he=> ?_⟩
 cases e with
 |panicked c=>exact he.elim
 |outgrown=>exact he.elim
 |returned v' =>
 obtain ⟨x0,L,ak,A',ho,oI,rs,gD,L2,rfl,kL,rfl⟩:=he;obtain ⟨cx,rfl,kM,gW⟩:=q0 oI
 let AH:ah:=if bT=true then fun c=>A c∨(A' c∧w.heap.size≤c) else A'
 have ja: ∀c,Ow ak c→w.heap.size≤c:=fun c hc=>(ho.post.own c hc).resolve_left (bj c)
 have ha:oo w A aB w' ak AH:=by
  refine ⟨fun c hc hn=> ?_,fun c hc=> ?_,fun c hc=> ?_,fun c arr T fr hc hn=> ?_⟩
  ·simp only [AH];split
   ·exact .inl hc
   ·rename_i ax;refine ho.bK c ?_ hn;simp only [A0,ax];exact hc
  ·simp only [AH];split
   ·exact .inr ⟨ho.st.own c hc,ja c hc⟩
   ·exact ho.st.own c hc
  ·simp only [AH] at hc;split at hc
   ·rcases hc with h|⟨h,_⟩
    ·exact Nat.lt_of_lt_of_le (ae.cb c h) ho.post.size
    ·exact ho.st.cb c h
   ·exact ho.st.cb c hc
  ·obtain ⟨h1,h2⟩:=ho.bW.fz c arr T fr hc (fun h=>hn (i_ c h));refine ⟨h1,?_⟩;simp only [AH];split
   ·rintro (h|⟨_,h⟩)
    ·exact hn h
    ·have:c<w.heap.size:=by
      rcases Nat.lt_or_ge c w.heap.size with h' |h'
      ·exact h'
      ·rw [Array.getElem?_eq_none h'] at hc;simp at hc
     omega
   ·exact h2
 obtain ⟨D,E⟩:=qQ (ls:=[]) (Lm:=L) ae m (by rw [hl,eS]) dM ho ha (by simp [ff])
 rw [oD _ _ _ _ hm,jP ae] at D E;have oJ:dL A' AH gD:=by
  cases ax:bT with
  |false=>exact .inl fun c h=>by simpa [AH,ax] using h
  |true=>
   rcases gY with h|h
   ·rw [ax] at h;simp at h
   ·rw [qZ] at h;exact .inr h
 have jb: ∀(i:Nat) (x:AV) (u:Value),rs[i]? =some x→cx[i]? =some u→R w' L (aD ak L) A' x u:=fun i x u hx hu=>by
  rw [jP ho.st];exact gW i x u hx hu
 have fj: ∀{cN:ag},(∀c,Ow cN c→Ow φ c∨Ow ak c)→fg w φ w' cN:=fun hq=>
  ⟨ho.post.os,ho.post.tape,ho.post.output,ho.post.size,fun c hc _=>ho.post.kept c hc (bj c),ho.post.a_,fun c hc=>by
   rcases hq c hc with h|h
   ·exact .inl h
   ·exact .inr (ja c h)⟩
 have jc: ∀c,A c→ ¬Ow φ c→AH c:=fun c hc _=>ha.own c hc (bj c);have c5: ∀c,Ow φ c→a_ w' c=a_ w c:=fun c hc=>ho.post.a_ c (Ow.lt ae hc)
 cases fP:(th||bT) with
 |true=>
  rw [fP] at hp;simp only [if_true,qX] at hp;obtain ⟨cN,m3,l3,r3⟩:=qT _ rs cx L _ H φ gD L2 D kM jb kL oJ
  refine ⟨_,_,cN,AH,⟨m3.bm.sh,fj fun c hc=> ?_,E.trans m3.eh c5,jc⟩,oB l3 r3,hp⟩;rcases m3.oh c hc with h|⟨h,_⟩
  ·exact .inl h
  ·exact .inr (bF h)
 |false=>
  rw [fP] at hp;simp only [Bool.false_eq_true,if_false,qY] at hp;simp only [Bool.or_eq_false_iff] at fP;have oK:AH=A' :=by simp [AH,fP.2]
  rw [oK] at D E jc
  let A2:ah:=gone (aD ak L) A' L2
  obtain ⟨l3,r3⟩:=oA (A' :=A2) _ rs cx L (aD ak L) gD L2 D.sl kM jb kL (fun c h=>h)
  have oL: ∀c,Ow φ c→A2 c:=fun c hc=>⟨D.sh.own c hc,fun h=>absurd hc (D.b7 c h)⟩;have oM:bM w H φ A w' H φ A2:=⟨fun c arr T fr hc hn=>⟨(E.fz c arr T fr hc hn).1,fun h2=>(E.fz c arr T fr hc hn).2 h2.1⟩,E.st,E.ids,E.sz⟩
  refine ⟨_,_,φ,A2,⟨D.sh.shrink (fun c h=>h.1) oL,fj fun c hc=> .inl hc,oM,fun c hc hn=>⟨jc c hc hn,fun h=> ?_⟩⟩,.fr _ _ (qW l3 r3),hp⟩;have:=ja c (bF h)
  have:=ae.cb c hc;omega
end Go.VS
namespace Go.VS
section ops
variable {P:Program} {C:aH} {X:bD} {w:World} {H:J} {φ :ag} {A:ah}
theorem x_ {f:FuncId} (h:jO P f) (args:Array Value) (w:World):(callFunc f args).run P w= .ok (.enter f args) w:=by
 obtain ⟨fn,h1,h2,h3⟩:=h;have kJ:fn.name≠ "runtime.NumGoroutine" :=by simpa using h2
 have ya:fn.body≠none:=by intro e;rw [e] at h3;simp at h3
 simp [callFunc,h1,kJ,ya]
theorem q8 {o:Oper} {ρ :Operand→Value} {x:Operand} {args:Array Operand} {tys:Array TypeId} (ho:o.op= .call {callee:= .value x,args,argTypes:=tys}) {g:FuncId} {bR:Array Value} (hx: ρ x= .func (.func g) #[] bR) (hc:jO P g):
 (execOp ρ o).run P w= .ok (.enter g (args.map ρ ++ bR)) w:=by
 simp [execOp,ho,resolve,hx,Deferred.ofValue,invoke,x_ hc]
theorem q9 {o:Oper} {ρ :Operand→Value} {b:Builtin} {args:Array Operand} {tys:Array TypeId} (ho:o.op= .call {callee:= .builtin b,args,argTypes:=tys}):
 ∃consts,(execOp ρ o).run P w=(builtin b tys o.type consts (args.map ρ)).run P w:=
 ⟨_,by simp only [execOp,ho,resolve,invoke,Sem.run_bind,Sem.run_pure,Result.andThen_ok];rfl⟩
theorem cf.upon {H' :J} {r:Result Next} {x:AV} (h:cf w H φ A H' r x) {o:Oper} {a:Act} {next:Act→World→Prop} {Q:Exit→Act→World→Prop}
 (hn: ∀v w' ak A',Out w H φ A w' H' ak A' →R w' H' ak A' x v→next (a.put o.dst v) w'):o.upon P a next Q r:=by
 obtain ⟨n,v,w',ak,A',rfl,hv,hr,ho⟩:=h;rcases hv with rfl|⟨rfl,rfl⟩
 ·exact hn v w' ak A' ho hr
 ·exact hn _ w' ak A' ho hr
theorem l9 (hE: ∀t ti,C.E t=some ti→aV P t ti) (hX: ∀f ys H K,X f ys H K→cW P f ys H K) (ae:St w H φ A) {o:Oper} {s:aj} {a:Act} (hs: ∀x∈o.op.operands,R w H φ A (ev s x) (a.eval x)) {th:Bool} {K:AV→J→Prop} (h:wpOp X C false th o s H K)
 {next:Act→World→Prop} {Q:Exit→Act→World→Prop} (hn: ∀x v w' H' ak A',Out w H φ A w' H' ak A' →R w' H' ak A' x v→K x H' →next (a.put o.dst v) w'):o.wp P a w next Q:=by
 have kN: ∀(hh:(match aK C.E o.op s H with|some (v,H')=>K v H' |none=>False)),o.wp P a w next Q:=by
  intro hh;split at hh
  ·rename_i v H' he
   exact (xN hE ae hs he).upon (fun u w' ak A' h1 h2=>hn v u w' H' ak A' h1 h2 hh)
  ·exact hh.elim
 unfold wpOp at h;split at h
 ·rename_i b args tys bn;obtain ⟨_,h⟩:=h;split at h
  ·rename_i v H' he
   obtain ⟨consts,cI⟩:=q9 (P:=P) (w:=w) (ρ :=a.eval) bn;have:=xO hE ae (ty:=o.type) (consts:=consts) (vs:=args.map a.eval) (by simp) (fun i x u hx hu=>by
    simp only [List.getElem?_map,Option.map_eq_some_iff] at hx;obtain ⟨y,hy,rfl⟩:=hx;simp only [Array.getElem?_map,Option.map_eq_some_iff] at hu;obtain ⟨y',ef,rfl⟩:=hu;have:y' =y:=by simp at hy;rw [hy] at ef;simpa using ef.symm
    subst this;exact hs y' (by rw [bn];simp only [Op.operands,Call.operands];simp [Array.mem_of_getElem? ef])) he
   rw [←cI] at this;exact this.upon (fun u w' ak A' h1 h2=>hn v u w' H' ak A' h1 h2 h)
  ·exact h.elim
 ·rename_i x args tys bn;split at h
  ·rename_i g bR hg;simp only [Bool.false_eq_true,if_false] at h;have hx:=hs x (by rw [bn];simp [Op.operands,Call.operands])
   rw [hg] at hx;obtain ⟨vs,hv,hl,hp⟩:=hx.ke;have q_: ∀(i:Nat) (y:AV) (u:Value),(args.toList.map (ev s) ++ bR)[i]? =some y→(args.map a.eval ++ vs)[i]? =some u→R w H φ A y u:=fun i y u hy hu=>by
    rcases Nat.lt_or_ge i args.size with hi|hi
    ·rw [List.getElem?_append_left (by simpa using hi)] at hy
     rw [Array.getElem?_append_left (by simpa using hi)] at hu
     simp only [List.getElem?_map,Option.map_eq_some_iff] at hy;obtain ⟨z,hz,rfl⟩:=hy;simp only [Array.getElem?_map,Option.map_eq_some_iff] at hu;obtain ⟨z',dF,rfl⟩:=hu;have:z' =z:=by simp at hz;rw [hz] at dF;simpa using dF.symm
     subst this;exact hs z' (by rw [bn];simp only [Op.operands,Call.operands];simp [Array.mem_of_getElem? dF])
    ·rw [List.getElem?_append_right (by simpa using hi)] at hy
     rw [Array.getElem?_append_right (by simpa using hi)] at hu
     exact hp _ y u (by simpa using hy) (by simpa using hu)
   have hc:jO P g∧Calls P g (args.map a.eval ++ vs) w (iy w H φ A K):=by
    rcases h with h|h
    ·exact ⟨(hX _ _ _ _ h).1,(hX _ _ _ _ h).2 w A φ (args.map a.eval ++ vs) ae (by simp [hl]) q_⟩
    ·exact x9 hX ae (us:=args.map a.eval ++ vs) (by simp [hl]) q_ h
   unfold Oper.wp;rw [q8 bn hv hc.1,Oper.upon_enter];refine hc.2.mono fun e w' he=> ?_
   cases e with
   |returned v' =>
    obtain ⟨x',H',ak,A',h1,h2,h3⟩:=he;exact hn x' v' w' H' ak A' h1 h2 h3
   |panicked c=>exact he.elim
   |outgrown=>exact he.elim
  ·exact h.elim
 ·exact kN h.2
end ops
end Go.VS
namespace Go.VS
structure jQ (π :List Nat) (ops:Array Oper):Prop where
 len: π.length=ops.size
 nodup: π.Nodup
 lt: ∀i∈ π,i<ops.size
 mem: ∀i,i<ops.size→i∈ π
 ra: ∀(i:Nat) (o:Oper),ops[i]? =some o→ ∀e∈o.after.toList,Region.binds .any e=true→e.on<ops.size
 hG: ∀(i:Nat) (o:Oper) (j:Nat) (b:Bool),ops[i]? =some o→o.guard=some (j,b)→j<ops.size
theorem yb {π :List Nat} {ops:Array Oper} (h:m_ π ops=true):jQ π ops:=by
 simp only [m_,Bool.and_eq_true,beq_iff_eq,List.all_eq_true,decide_eq_true_eq,List.mem_range,List.contains_iff_mem] at h;obtain ⟨⟨⟨⟨h1,h0⟩,h2⟩,h3⟩,h4⟩:=h;refine ⟨h1,h0,h2,h3,fun i o ho e he hb=> ?_,fun i o j b ho hg=> ?_⟩
 ·have:=(h4 o (by rw [←Array.getElem?_toList] at ho;exact List.mem_of_getElem? ho)).1
  rw [Array.all_eq_true_iff_forall_mem] at this;have:=this e (by simpa using he)
  rw [hb] at this;simpa using this
 ·have:=(h4 o (by rw [←Array.getElem?_toList] at ho;exact List.mem_of_getElem? ho)).2
  rw [hg] at this;simpa using this
section
variable {π :List Nat} {ops:Array Oper} (hp:jQ π ops)
include hp
theorem jQ.at_ {k:Nat} (hk:k< π.length): ∃o,ops[π[k]]? =some o∧(eu π ops)[k]? =some (eZ π o):=by
 have:=hp.lt _ (List.getElem_mem hk);refine ⟨ops[π[k]],by simp [this],?_⟩
 unfold eu lu;rw [List.getElem?_toArray,List.getElem?_map,List.getElem?_eq_getElem hk];simp [List.getD,this]
theorem jQ.size:(eu π ops).size=ops.size:=by
 simp [eu,lu,hp.len]
theorem jQ.jR {i:Nat} (hi:i<ops.size):cY π i< π.length∧ π[cY π i]? =some i:=by
 have:=hp.mem i hi;unfold cY;have h:=List.idxOf_lt_length_of_mem this;exact ⟨h,by rw [List.getElem?_eq_getElem h,List.getElem_idxOf]⟩
theorem jQ.get {i:Nat} {o:Oper} (ho:ops[i]? =some o):(eu π ops)[cY π i]? =some (eZ π o):=by
 have hi:i<ops.size:=(Array.getElem?_eq_some_iff.1 ho).1;obtain ⟨h1,h2⟩:=hp.jR hi;obtain ⟨o',h3,h4⟩:=hp.at_ h1;have: π[cY π i]=i:=by rw [List.getElem?_eq_getElem h1] at h2;simpa using h2
 rw [this,ho] at h3;simp only [Option.some.injEq] at h3;subst h3;exact h4
def PL (π :List Nat) (n:Nat) (l l' :Array Bool):Prop:=l.size=n∧l'.size=n∧ ∀i,i<n→l'[cY π i]? =l[i]?
theorem PL.set {l l' :Array Bool} (h:PL π ops.size l l') {i:Nat} (hi:i<ops.size):PL π ops.size (l.setIfInBounds i true) (l'.setIfInBounds (cY π i) true):=by
 obtain ⟨h1,h2,h3⟩:=h;refine ⟨by simp [h1],by simp [h2],fun j hj=> ?_⟩
 obtain ⟨yc,oN⟩:=hp.jR hi;obtain ⟨AJ,yd⟩:=hp.jR hj;rw [Array.getElem?_setIfInBounds,Array.getElem?_setIfInBounds];by_cases e:i=j
 ·subst e;rw [if_pos rfl,if_pos rfl,if_pos (by rw [h2,←hp.len];exact yc),if_pos (by rw [h1];exact hi)]
 ·have: ¬cY π i=cY π j:=by
   intro e2;rw [e2,yd] at oN;simp at oN;exact e oN.symm
  rw [if_neg this,if_neg e];exact h3 j hj
omit hp in
theorem PL.getD {l l' :Array Bool} (h:PL π ops.size l l') {i:Nat} (hi:i<ops.size) (b:Bool):l'.getD (cY π i) b=l.getD i b:=by
 have:=h.2.2 i hi;rw [Array.getD_eq_getD_getElem?,Array.getD_eq_getD_getElem?,this]
theorem rb {l l' :Array Bool} (h:PL π ops.size l l') {i:Nat} (hi:i∈Region.ready .any ops l):i<ops.size∧cY π i∈Region.ready .any (eu π ops) l' :=by
 unfold Region.ready at hi⊢;simp only [List.mem_filter,List.mem_range,Bool.and_eq_true] at hi⊢;obtain ⟨h1,h2,h3⟩:=hi;have ho:ops[i]? =some ops[i]:=by simp [h1]
 obtain ⟨r1,r2⟩:=hp.jR h1;refine ⟨h1,by rw [hp.size,←hp.len];exact r1,by rw [h.getD h1];exact h2,?_⟩
 rw [hp.get ho];rw [ho] at h3;simp only [Option.map_some,Option.getD_some,Array.all_eq_true_iff_forall_mem] at h3⊢;intro e he;simp only [eZ,List.mem_toArray,List.mem_filterMap] at he;obtain ⟨e0,rf,l_⟩:=he;split at l_
 ·rename_i hb;simp only [Option.some.injEq] at l_;subst l_;have:=h3 e0 (by simpa using rf)
  rw [hb] at this;simp only [Bool.not_true,Bool.false_or] at this;rw [h.getD (hp.ra i _ ho e0 rf hb)];simp [this]
 ·simp at l_
theorem ye {i:Nat} {o:Oper} (ho:ops[i]? =some o) (t:Array Value):Region.wanted (eZ π o) (yielded (eu π ops) t)=Region.wanted o (yielded ops t):=by
 unfold Region.wanted eZ;simp only;cases hg:o.guard with
 |none=>rfl
 |some p=>
  obtain ⟨j,b⟩:=p;have hj:=hp.hG i o j b ho hg;simp only [Option.map_some];congr 1;unfold yielded;have rh:ops[j]? =some ops[j]:=by simp [hj]
  rw [hp.get rh,rh];rfl
omit hp in
theorem ri (ρ :Operand→Value) (o:Oper):execOp ρ (eZ π o)=execOp ρ o:=by
 cases o;rfl
theorem yf {P:Program} {Q:Exit→Act→World→Prop} {i:Nat} {o:Oper} (ho:ops[i]? =some o) {K K' :Act→World→Prop} (hK: ∀a w,K' a w→K a w) {a:Act} {w:World} (h:Go.wpOp P (eu π ops) Q (cY π i) K' a w):Go.wpOp P ops Q i K a w:=by
 unfold Go.wpOp at h⊢;rw [hp.get ho] at h;rw [ho];simp only at h⊢;rw [ye hp ho] at h;split at h
 ·rename_i hw;rw [if_pos hw];rcases h with h|⟨h1,h2⟩
  ·refine .inl (Oper.wp_mono hK ?_);unfold Oper.wp at h⊢;rw [ri] at h;exact h
  ·refine .inr ⟨?_,h2⟩;unfold Oper.asks at h1⊢;rw [ri] at h1;exact h1
 ·rename_i hw;rw [if_neg hw];exact hK _ _ h
theorem yg {l l' :Array Bool} (h:PL π ops.size l l') {k:Nat} (hk:k∈Region.ready .any (eu π ops) l'): ∃i,i∈Region.ready .any ops l:=by
 unfold Region.ready at hk⊢;simp only [List.mem_filter,List.mem_range,Bool.and_eq_true] at hk;obtain ⟨h1,h2,h3⟩:=hk;rw [hp.size,←hp.len] at h1;obtain ⟨o,ho,af⟩:=hp.at_ h1;have hi:=hp.lt _ (List.getElem_mem h1);have hr:cY π π[k]=k:=by
  obtain ⟨r1,r2⟩:=hp.jR hi;rw [List.getElem?_eq_getElem r1] at r2;simp only [Option.some.injEq] at r2;exact (List.getElem_inj hp.nodup).1 r2
 refine ⟨π[k],?_⟩;simp only [List.mem_filter,List.mem_range,Bool.and_eq_true];refine ⟨hi,by rw [←h.getD hi,hr];exact h2,?_⟩
 rw [af] at h3;rw [ho];simp only [Option.map_some,Option.getD_some,Array.all_eq_true_iff_forall_mem] at h3⊢;intro e he;by_cases hb:Region.binds .any e=true
 ·have hl:=hp.ra _ o ho e (by simpa using he) hb
  have:=h3 {e with on:=cY π e.on} (by
   simp only [eZ,List.mem_toArray,List.mem_filterMap];exact ⟨e,by simpa using he,by rw [if_pos hb]⟩)
  have ay:Region.binds .any {e with on:=cY π e.on}=true:=hb
  rw [ay] at this;simp only [Bool.not_true,Bool.false_or] at this;rw [h.getD hl] at this;simp [this]
 ·simp [hb]
theorem rj {P:Program} {Q:Exit→Act→World→Prop}: ∀(n:Nat) (l l' :Array Bool) (a:Act) (w:World),PL π ops.size l l' →wpAny P .any (eu π ops) Q n l' a w→wpAny P .any ops Q n l a w
 |0,l,l',a,w,hl,h=>by
  simp only [wpAny] at h⊢;refine ⟨?_,h.2⟩;rw [List.eq_nil_iff_forall_not_mem];intro i hi;have:=(rb hp hl hi).2;rw [h.1] at this;simp at this
 |n+1,l,l',a,w,hl,h=>by
  simp only [wpAny] at h⊢;refine ⟨fun he=>h.1 ?_,fun i hi=> ?_⟩
  ·rw [List.eq_nil_iff_forall_not_mem];intro k hk;obtain ⟨i,hi⟩:=yg hp hl hk;rw [he] at hi;simp at hi
  ·obtain ⟨h1,h2⟩:=rb hp hl hi;have ho:ops[i]? =some ops[i]:=by simp [h1]
   exact yf hp ho (fun a w hh=>rj n _ _ a w (hl.set hp h1) hh) (h.2 _ h2)
theorem yh {P:Program} {Q:Exit→Act→World→Prop} {a:Act} {w:World} (h:wpAny P .any (eu π ops) Q (eu π ops).size (Array.replicate (eu π ops).size false) a w):wpAny P .any ops Q ops.size (Array.replicate ops.size false) a w:=by
 rw [hp.size] at h;refine rj hp _ _ _ a w ⟨by simp,by simp,fun i hi=> ?_⟩ h
 obtain ⟨r1,_⟩:=hp.jR hi;rw [hp.len] at r1;simp [hi,r1]
end
theorem SF.kill {w:World} {H:J} {φ :ag} {A:ah} {s:aj} {a:Act} (h:SF w H φ A s a) (l:List Nat):SF w H φ A (ey l s) a:=by
 have key: ∀(s:aj) (i:Nat),(ey.go l i s).length=s.length∧ ∀(t:Nat) (x:AV),(ey.go l i s)[t]? =some x→x= .undef∨s[t]? =some x:=by
  intro s;induction s with
  |nil=>intro i;simp [ey.go]
  |cons y s ih=>
   intro i;obtain ⟨h1,h2⟩:=ih (i+1);refine ⟨by simp [ey.go,h1],fun t x hx=> ?_⟩
   cases t with
   |zero=>
    simp only [ey.go,List.getElem?_cons_zero,Option.some.injEq] at hx;split at hx
    ·exact .inr (by simp [hx])
    ·exact .inl hx.symm
   |succ t=>simp only [ey.go,List.getElem?_cons_succ] at hx⊢;exact h2 t x hx
 obtain ⟨h1,h2⟩:=key s 0;refine ⟨h1.trans h.len,fun t x v hx hv=> ?_,h.eD⟩;rcases h2 t x hx with rfl|hx
 ·exact .fr _ _ (.undef _)
 ·exact h.val t x v hx hv
theorem yi {w:World} {H:J} {φ :ag} {A:ah} (ae:St w H φ A) (n:Nat):Out w H φ A w (H.trim n) (aD φ (H.trim n)) A:=by
 have hg: ∀id b,(H.trim n).get id=some b→H.get id=some b:=by
  intro id b h;unfold J.trim J.get at h;unfold J.get;simp only [List.getElem?_take] at h;split at h
  ·exact h
  ·simp at h
 have aY:bM w H φ A w (H.trim n) (aD φ (H.trim n)) A:=
  ⟨fun c arr T fr hc hn=>⟨⟨fr,hc⟩,hn⟩,Nat.le_refl _,fun id b hb _=>⟨b,hg id b hb,rfl,rfl,rfl,rfl,fun loc hl=>by simp [aD,hb,hl]⟩,fun _ _=>rfl⟩
 refine ⟨⟨fun i i' c b b' h h' =>ae.inj _ _ _ _ _ (de h).1 (de h').1,fun c hc=>ae.own c (bF hc),ae.cb,fun id loc h=> ?_⟩,⟨rfl,rfl,rfl,Nat.le_refl _,fun _ _ _=>rfl,fun _ _=>rfl,fun c hc=> .inl (bF hc)⟩,aY,fun c hc _=>hc⟩
 obtain ⟨h1,b,hb⟩:=de h;obtain ⟨b',ay,af⟩:=ae.ap id loc h1;rw [hg id b hb] at ay;simp only [Option.some.injEq] at ay;subst ay;refine ⟨b,hb,af.ad,af.sized,af.aS,fun c b0 he=> ?_⟩;obtain ⟨arr,T,fr,k1,k2,k3,k4⟩:=af.here c b0 he;exact ⟨arr,T,fr,k1,k2,k3,fun i x j y v hx hy hv=>⟨(k4 i x j y v hx hy hv).1.mono aY,(k4 i x j y v hx hy hv).2⟩⟩
def rk:Ex→Exit
 | .normal=> .normal
 | .exit id=> .exit id
 | .ret=> .ret
theorem ma {x y:AV} (h:fc x y=true):x=y:=by
 unfold fc at h;split at h
 ·simp only [Bool.and_eq_true,beq_iff_eq] at h;obtain ⟨⟨⟨rfl,rfl⟩,rfl⟩,rfl⟩:=h;rfl
 ·rfl
 ·rfl
 ·simp at h
theorem yj {w:World} {H:J} {φ :ag} {A:ah} {s:aj} {a:Act} (ae:St w H φ A) (hs:SF w H φ A s a) {t:Nat} {ts:List Nat} {sh:List Sh} {y:AV} {H1:J} (h:aR sh (s.getD t .undef) H=some (y,H1)):
 Out w H φ A w H1 (aD φ H1) (gone φ A H1)∧SF w H1 (aD φ H1) (gone φ A H1) (gk (s.getD t .undef) (bp y) ts (s.set t (bp y))) a:=by
 have hl:=fp _ _ _ _ _ h;have aY:bM w H φ A w H1 (aD φ H1) (gone φ A H1):=by
  have e:=cU (w:=w) (φ := φ) (A:=A) hl;exact ⟨fun c arr T fr hc hn=>⟨(e.fz c arr T fr hc hn).1,fun h2=>hn h2.1⟩,e.st,e.ids,e.sz⟩
 refine ⟨⟨(dY ae hl).shrink (fun c hc=>hc.1) (fun c hc=>⟨ae.own c (bF hc),fun _=>hc⟩),⟨rfl,rfl,rfl,Nat.le_refl _,fun _ _ _=>rfl,fun _ _=>rfl,fun c hc=> .inl (bF hc)⟩,aY,fun c hc hn=>⟨hc,fun ho=>absurd ho hn⟩⟩,?_⟩;have cC:=hs.mono aY;have one: ∀(k:Nat) (v:Value),s.getD k .undef=s.getD t .undef→a.tmps[k]? =some v→R w H1 (aD φ H1) (gone φ A H1) (bp y) v:=by
  intro k v hk hv;have hr:=hs.ev (.tmp k);simp only [ev,Act.eval] at hr;rw [Array.getD_eq_getD_getElem?,hv,hk] at hr;exact .fr _ _ (qV ae hr h (fun c hc=>hc))
 have base:SF w H1 (aD φ H1) (gone φ A H1) (s.set t (bp y)) a∧ ∀k,(s.set t (bp y)).getD k .undef=bp y∨(s.set t (bp y)).getD k .undef=s.getD k .undef:=by
  refine ⟨⟨by simpa using cC.len,fun k x v hx hv=> ?_,cC.eD⟩,fun k=> ?_⟩
  ·rw [List.getElem?_set] at hx;split at hx
   ·rename_i hk;subst hk;split at hx
    ·simp only [Option.some.injEq] at hx;subst hx;exact one t v rfl hv
    ·simp at hx
   ·exact cC.val k x v hx hv
  ·simp only [List.getD_eq_getElem?_getD,List.getElem?_set];split
   ·rename_i hk;subst hk;split
    ·exact .inl rfl
    ·rename_i ax;right;rw [List.getElem?_eq_none (by omega)]
   ·exact .inr rfl
 have gen: ∀(ts:List Nat) (s' :aj),SF w H1 (aD φ H1) (gone φ A H1) s' a→(∀k,fc (s'.getD k .undef) (s.getD t .undef)=true→s.getD k .undef=s.getD t .undef∨bp y=s.getD t .undef)→SF w H1 (aD φ H1) (gone φ A H1) (gk (s.getD t .undef) (bp y) ts s') a:=by
  intro ts;induction ts with
  |nil=>intro s' h _;exact h
  |cons k ks ih=>
   intro s' h1 h2
   simp only [gk];split
   ·rename_i rl;have hval: ∀v,a.tmps[k]? =some v→R w H1 (aD φ H1) (gone φ A H1) (bp y) v:=by
     intro v hv;rcases h2 k rl with e|e
     ·exact one k v e hv
     ·have:=h1.ev (.tmp k);simp only [ev,Act.eval] at this;rw [Array.getD_eq_getD_getElem?,hv,ma rl,←e] at this;exact this
    refine ih _ ⟨by simpa using h1.len,fun m x v hx hv=> ?_,h1.eD⟩ (fun m hm=> ?_)
    ·rw [List.getElem?_set] at hx;split at hx
     ·rename_i hk;subst hk;split at hx
      ·simp only [Option.some.injEq] at hx;subst hx;exact hval v hv
      ·simp at hx
     ·exact h1.val m x v hx hv
    ·simp only [List.getD_eq_getElem?_getD,List.getElem?_set] at hm;split at hm
     ·split at hm
      ·exact .inr (ma hm)
      ·rename_i hk ax;refine h2 m ?_;subst hk;rw [List.getD_eq_getElem?_getD,List.getElem?_eq_none (by omega)]
       exact hm
     ·exact h2 m (by rw [List.getD_eq_getElem?_getD];exact hm)
   ·exact ih s' h1 h2
 refine gen ts _ base.1 fun k hk=> ?_;rcases base.2 k with e|e
 ·rw [e] at hk;exact .inr (ma hk)
 ·rw [e] at hk;exact .inl (ma hk)
theorem oO {w:World} {H:J} {φ :ag} {A:ah} {x:AV} {v:Value} (h:R w H φ A x v):R w H φ A (j_ x) v:=by
 cases x with
 |nil=>have:=h.cZ;subst this;exact .fr _ _ (.cB none 0)
 |e0=>obtain ⟨a,rfl⟩:=h.eB;exact .fr _ _ (.cB a 0)
 |_=>exact h
theorem yl {w:World} {H:J} {φ :ag} {A:ah} {x:AV} {v:Value} (h:R w H φ A x v):R w H φ A (dA x) v:=by
 cases x with
 |agg cs=>
  obtain ⟨vs,rfl,h1,h2,h3⟩:=h.fI;refine .agg _ _ (by simpa using h1) h2 fun i x v hx hv=> ?_
  simp only [List.getElem?_map,Option.map_eq_some_iff] at hx;obtain ⟨y,hy,rfl⟩:=hx;exact oO (h3 i y v hy hv)
 |_=>exact oO h
theorem ym {w:World} {H:J} {φ :ag} {A:ah} {s:aj} {a:Act} (t:Nat) (ae:St w H φ A) (hs:SF w H φ A s a): ∃ak A',Out w H φ A w (jA t s H).2 ak A' ∧SF w (jA t s H).2 ak A' (jA t s H).1 a:=by
 have plain: ∀v,s.getD t .undef=v→SF w H φ A (s.set t (dA v)) a:=by
  intro v hv;refine ⟨by simpa using hs.len,fun k x u hx hu=> ?_,hs.eD⟩
  rw [List.getElem?_set] at hx;split at hx
  ·rename_i hk;subst hk;split at hx
   ·simp only [Option.some.injEq] at hx;subst hx;have hr:=hs.ev (.tmp t);simp only [ev,Act.eval] at hr;rw [Array.getD_eq_getD_getElem?,hu,hv] at hr;exact yl hr
   ·simp at hx
  ·exact hs.val k x u hx hu
 have key: ∀v,s.getD t .undef=v→ ∃ak A',Out w H φ A w (match v with
  | .ref id ad _ _=>match H.ap id ad with
   |some b=>(s,H.br id {b with el:=b.el.map dA})
   |none=>(s,H)
  |v=>(s.set t (dA v),H)).2 ak A' ∧SF w (match v with
  | .ref id ad _ _=>match H.ap id ad with
   |some b=>(s,H.br id {b with el:=b.el.map dA})
   |none=>(s,H)
  |v=>(s.set t (dA v),H)).2 ak A' (match v with
  | .ref id ad _ _=>match H.ap id ad with
   |some b=>(s,H.br id {b with el:=b.el.map dA})
   |none=>(s,H)
  |v=>(s.set t (dA v),H)).1 a:=by
  intro v hv;cases v with
  |ref id ad off len=>
   simp only;cases hb:H.ap id ad with
   |none=>exact ⟨φ,A,.refl ae,hs⟩
   |some b=>
    simp only;have hg:=(J.bw hb).1;have ax:=J.ig hg;have bB: ∀k,(H.br id {b with el:=b.el.map dA}).get k=if k=id then some {b with el:=b.el.map dA} else H.get k:=by
     intro k;simp only [J.get,J.br,List.getElem?_set];by_cases h:id=k
     ·subst h;simp [ax]
     ·have h' : ¬k=id:=fun e=>h e.symm
      simp [h,h']
    have aY:bM w H φ A w (H.br id {b with el:=b.el.map dA}) φ A:=by
     refine ⟨fun c arr T fr hc hn=>⟨⟨fr,hc⟩,hn⟩,Nat.le_refl _,fun k b' hk _=> ?_,fun _ _=>rfl⟩
     rw [bB] at hk;split at hk
     ·rename_i e;subst e;simp only [Option.some.injEq] at hk;subst hk;exact ⟨b,hg,rfl,rfl,rfl,by simp,fun _ h=>h⟩
     ·exact ⟨b',hk,rfl,rfl,rfl,rfl,fun _ h=>h⟩
    have yn:St w (H.br id {b with el:=b.el.map dA}) φ A:=by
     refine ⟨ae.inj,ae.own,ae.cb,fun k loc hk=> ?_⟩;obtain ⟨b0,mb,af⟩:=ae.ap k loc hk;by_cases h:k=id
     ·subst h;rw [hg] at mb;simp only [Option.some.injEq] at mb;subst mb;refine ⟨{b with el:=b.el.map dA},by rw [bB,if_pos rfl],af.ad,fun i x hx=> ?_,fun h=>by simp [af.aS h],fun c b0 he=> ?_⟩
      ·simp only [List.getElem?_map,Option.map_eq_some_iff] at hx;obtain ⟨y,hy,rfl⟩:=hx;rw [ku,List.length_map];exact af.sized i y hy
      ·obtain ⟨arr,T,fr,k1,k2,k3,k4⟩:=af.here c b0 he;refine ⟨arr,T,fr,k1,k2,by simpa using k3,fun i x j y v hx hy hv=> ?_⟩
       simp only [List.getElem?_map,Option.map_eq_some_iff] at hx;obtain ⟨x',bA,rfl⟩:=hx;rw [ku] at hy;simp only [List.getElem?_map,Option.map_eq_some_iff] at hy;obtain ⟨y',ef,rfl⟩:=hy;have:=k4 i x' j y' v bA ef hv
       exact ⟨oO (this.1.mono aY),this.2⟩
     ·refine ⟨b0,by rw [bB,if_neg h];exact mb,af.ad,af.sized,af.aS,fun c b1 he=> ?_⟩
      obtain ⟨arr,T,fr,k1,k2,k3,k4⟩:=af.here c b1 he;exact ⟨arr,T,fr,k1,k2,k3,fun i x j y v hx hy hv=>⟨(k4 i x j y v hx hy hv).1.mono aY,(k4 i x j y v hx hy hv).2⟩⟩
    exact ⟨φ,A,⟨yn,.refl _ _,aY,fun c hc _=>hc⟩,hs.mono aY⟩
  |_=>exact ⟨φ,A,.refl ae,plain _ hv⟩
 unfold jA;exact key _ rfl
theorem mc {w:World} {a:Act}: ∀(l:List (List Nat×List Sh)) {H:J} {φ :ag} {A:ah} {s s' :aj} {H' :J},St w H φ A→SF w H φ A s a→dt l s H=some (s',H')→
 ∃ak A',Out w H φ A w H' ak A' ∧SF w H' ak A' s' a
 |[],H,φ,A,s,s',H',ae,hs,h=>by
  simp only [dt,Option.some.injEq,Prod.mk.injEq] at h;obtain ⟨rfl,rfl⟩:=h;exact ⟨φ,A,.refl ae,hs⟩
 |([],sh)::l,H,φ,A,s,s',H',ae,hs,h=>by simp [dt] at h
 |(t::ts,[])::l,H,φ,A,s,s',H',ae,hs,h=>by
  simp only [dt] at h;obtain ⟨φ1,A1,h1,h2⟩:=ym t ae hs;obtain ⟨ak,A',h3,h4⟩:=mc l h1.st h2 h;exact ⟨ak,A',h1.trans ae h3,h4⟩
 |(t::ts,e::sh)::l,H,φ,A,s,s',H',ae,hs,h=>by
  simp only [dt] at h;split at h
  ·rename_i y H1 hy;obtain ⟨h1,h2⟩:=yj (ts:=ts) ae hs hy;obtain ⟨ak,A',h3,h4⟩:=mc l h1.st h2 h;exact ⟨ak,A',h1.trans ae h3,h4⟩
  ·simp at h
section code
variable {P:Program} {C:aH} {X:bD}
def Ends (Q:Exit→Act→World→Prop) (K:Ex→aj→J→Prop) (w:World) (H:J) (φ :ag) (A:ah):Prop:=
 ∀e s' H' ak A' a' w',Out w H φ A w' H' ak A' →SF w' H' ak A' s' a' →K e s' H' →Q (rk e) a' w'
theorem oP {w:World} {H:J} {φ :ag} {A:ah} {s:aj} {a:Act} {ops:Array Oper} {o:Oper} {b:Bool} (hs: ∀j ea t,o.guard=some (j,ea)→(ops[j]?).bind (·.dst)=some t→R w H φ A (ev s (.tmp t)) (a.eval (.tmp t))) (h:dm ops o s=some b):Region.wanted o (yielded ops a.tmps)=b:=by
 unfold dm at h;unfold Region.wanted;cases hg:o.guard with
 |none=>rw [hg] at h;simp at h;subst h;simp
 |some p=>
  obtain ⟨j,ea⟩:=p;rw [hg] at h;simp only at h⊢;split at h
  ·rename_i t ht;have hv:=hs j ea t hg ht;simp only [ev,Act.eval] at hv;split at h
   ·rename_i c hc;rw [hc] at hv;simp only [Option.some.injEq] at h;subst h;have:=hv.eL;have hy:yielded ops a.tmps j=some c:=by
     unfold yielded;rw [ht];simp only [Option.bind_some];rw [Array.getD_eq_getD_getElem?] at this;cases hq:a.tmps[t]? with
     |none=>rw [hq] at this;simp [undef] at this
     |some v=>rw [hq] at this;simp at this;subst this;rfl
    rw [hy];cases c<;>cases ea<;>rfl
   ·rename_i cs hc;rw [hc] at hv;simp only [Option.some.injEq] at h;subst h;obtain ⟨vs,bh,_⟩:=hv.lx;have hy:yielded ops a.tmps j=none:=by
     unfold yielded;rw [ht];simp only [Option.bind_some];rw [Array.getD_eq_getD_getElem?] at bh;cases hq:a.tmps[t]? with
     |none=>rfl
     |some v=>rw [hq] at bh;simp at bh;subst bh;rfl
    rw [hy];cases ea<;>rfl
   ·simp at h
  ·simp at h
theorem rm (hE: ∀t ti,C.E t=some ti→aV P t ti) (hX: ∀f ys H K,X f ys H K→cW P f ys H K) {ops:Array Oper} {th:List Nat} {fz:List (Nat×List (List Nat×List Sh))} {K:aj→J→Prop} {Q:Exit→Act→World→Prop}:
 ∀(l:List Oper) (i:Nat) (s:aj) (H:J) (w:World) (φ :ag) (A:ah) (a:Act),cH X C ops th fz K l i s H→St w H φ A→SF w H φ A s a→
  (∀s' H' ak A' a' w',Out w H φ A w' H' ak A' →SF w' H' ak A' s' a' →K s' H' →Q .normal a' w')→wpList P ops Q l a w
 |[],i,s,H,w,φ,A,a,h,ae,hs,hq=>hq s H φ A a w (.refl ae) hs h
 |o::rest,i,s0,H0,w,aB,A0,a,h,cM,eb,yp=>by
  simp only [cH] at h;obtain ⟨s,H,hf,h⟩:=h;obtain ⟨φ,A,ho,hs⟩:=mc _ cM eb hf;have ae:=ho.st;have hq: ∀s' H' ak A' a' w',Out w H φ A w' H' ak A' →SF w' H' ak A' s' a' →K s' H' →Q .normal a' w' :=fun s' H' ak A' a' w' k1 k2 k3=>yp s' H' ak A' a' w' (ho.trans cM k1) k2 k3
  have next: ∀{x:AV} {v:Value} {w' :World} {H' :J} {ak:ag} {A' :ah},Out w H φ A w' H' ak A' →R w' H' ak A' x v→cH X C ops th fz K rest (i+1) (bd s o.dst x) H' →wpList P ops Q rest (a.put o.dst v) w' :=by
   intro x v w' H' ak A' h1 h2 h3
   exact rm hE hX rest (i+1) _ H' w' ak A' _ h3 h1.st ((hs.mono h1.bW).set o.dst h2) fun s2 H2 a7 A2 a2 w2 k1 k2 k3=>hq s2 H2 a7 A2 a2 w2 (h1.trans ae k1) k2 k3
  simp only [wpList];cases hg:o.guard with
  |none=>
   rw [hg] at h;simp only at h;have hw:Region.wanted o (yielded ops a.tmps)=true:=by simp [Region.wanted,hg]
   rw [if_pos hw];exact .inl (l9 hE hX ae (fun x _=>hs.ev x) h fun x v w' H' ak A' h1 h2 h3=>next h1 h2 h3)
  |some p=>
   rw [hg] at h;simp only at h;obtain ⟨v,H',h1,h2⟩:=h;split at h1
   ·rename_i b hb;have hw:=oP (fun _ _ t _ _=>hs.ev (.tmp t)) hb;cases b with
    |true=>
     rw [if_pos hw];simp only [if_true] at h1;exact .inl (l9 hE hX ae (fun x _=>hs.ev x) h1 fun x u w' fu ak A' k1 k2 k3=>by obtain ⟨rfl,rfl⟩:=k3;exact next k1 k2 h2)
    |false=>
     rw [if_neg (by rw [hw];simp)]
     simp only [Bool.false_eq_true,if_false] at h1;obtain ⟨rfl,rfl⟩:=h1;exact next (.refl ae) (.fr _ _ (.aE [] #[] rfl (by simp))) h2
   ·exact h1.elim
def me (P:Program) (C:aH) (X:bD):Prop:=
 ∀(ops:Array Oper) (aA:List Nat) (th:List Nat) (s:aj) (H:J) (K:aj→J→Prop) (Q:Exit→Act→World→Prop) (w:World) (φ :ag) (A:ah) (a:Act),ie ops aA=true→
  cS X C ops (fun i=> !aA.contains i) (fG ops aA) th K ops.toList 0 s H→St w H φ A→SF w H φ A s a→(∀s' H' ak A' a' w',Out w H φ A w' H' ak A' →SF w' H' ak A' s' a' →K s' H' →Q .normal a' w')→wpAny P .any ops Q ops.size (Array.replicate ops.size false) a {w with drawn:=w.drawn+1}
theorem Ends.trans {Q:Exit→Act→World→Prop} {K:Ex→aj→J→Prop} {w w1:World} {H H1:J} {φ φ1:ag} {A A1:ah} (ae:St w H φ A) (h:Out w H φ A w1 H1 φ1 A1) (k:Ends Q K w H φ A):Ends Q K w1 H1 φ1 A1:=
 fun e s' H' ak A' a' w' h1 h2 h3=>k e s' H' ak A' a' w' (h.trans ae h1) h2 h3
theorem rn (hm:P.follows .mixedOrders=true) (hE: ∀t ti,C.E t=some ti→aV P t ti) (hX: ∀f ys H K,X f ys H K→cW P f ys H K) (hD:me P C X) (p:ka):
 ∀(c:Code) (cv:Nat) (s:aj) (H:J) (K:Ex→aj→J→Prop) (Q:Exit→Act→World→Prop) (w:World) (φ :ag) (A:ah) (a:Act),cQ p c=true→aN X C (cR p cv c) s H K→St w H φ A→SF w H φ A s a→Ends Q K w H φ A→c.wp P Q a w:=by
 intro c;induction c with
 |skip=>intro cv s H K Q w φ A a ho h ae hs hq;exact wp_skip (hq .normal s H φ A a w (.refl ae) hs h)
 |ret=>intro cv s H K Q w φ A a ho h ae hs hq;exact wp_ret (hq .ret s H φ A a w (.refl ae) hs h)
 |exit id=>intro cv s H K Q w φ A a ho h ae hs hq;exact wp_exit (hq (.exit id) s H φ A a w (.refl ae) hs h)
 |seq x y yq oQ=>
  intro cv s H K Q w φ A a ho h ae hs hq;simp only [cR,aN] at h;simp only [cQ,Bool.and_eq_true] at ho;refine wp_seq (yq cv s H _ _ w φ A a ho.1 h ae hs fun e s' H' ak A' a' w' h1 h2 h3=> ?_)
  cases e with
  |normal=>exact oQ cv s' H' K Q w' ak A' a' ho.2 h3 h1.st h2 (Ends.trans ae h1 hq)
  |exit id=>exact hq (.exit id) s' H' ak A' a' w' h1 h2 h3
  |ret=>exact hq .ret s' H' ak A' a' w' h1 h2 h3
 |cond x y z oQ yr=>
  intro cv s H K Q w φ A a ho h ae hs hq;simp only [cQ,Bool.and_eq_true] at ho;have key: ∀(K:Ex→aj→J→Prop),aN X C (.cond x (cR p cv y) (cR p cv z)) s H K→Ends Q K w H φ A→(Code.cond x y z).wp P Q a w:=by
   intro K h hq;simp only [aN] at h;split at h
   ·rename_i t ht;have hv:=hs.ev x;rw [ht] at hv;refine wp_cond hv.eL ?_;cases t with
    |true=>exact oQ cv s H K Q w φ A a ho.1 h ae hs hq
    |false=>exact yr cv s H K Q w φ A a ho.2 h ae hs hq
   ·exact h.elim
  simp only [cR] at h;unfold lr at h;split at h
  ·rename_i kp _;simp only [aN,dt] at h;refine key _ h fun e s' H' ak A' a' w' h1 h2 h3=> ?_
   cases e with
   |normal=>exact hq .normal _ H' ak A' a' w' h1 (h2.kill kp) h3
   |exit id=>exact hq (.exit id) s' H' ak A' a' w' h1 h2 h3
   |ret=>exact hq .ret s' H' ak A' a' w' h1 h2 h3
  ·exact key K h hq
 |block id x ih=>
  intro cv s H K Q w φ A a ho h ae hs hq;simp only [cR,aN] at h;have mf: ∀{w:World} {H:J} {φ :ag} {A:ah} {s:aj} {a:Act} (kp:Option (List Nat)),SF w H φ A s a→SF w H φ A (ez kp s) a:=by
   intro w H φ A s a kp h;cases kp with
   |none=>exact h
   |some l=>exact h.kill l
  simp only [cQ] at ho;refine wp_block (ih id s H _ _ w φ A a ho h ae hs fun e s' H' ak A' a' w' h1 h2 h3=> ?_)
  cases e with
  |normal=>exact hq .normal _ H' ak A' a' w' h1 (mf _ h2) h3
  |exit j=>
   simp only at h3;simp only [rk,Exit.inBlock];split at h3
   ·rename_i hj;rw [if_pos hj];exact hq .normal _ H' ak A' a' w' h1 (mf _ h2) h3
   ·rename_i hj;rw [if_neg hj];exact hq (.exit j) s' H' ak A' a' w' h1 h2 h3
  |ret=>exact hq .ret s' H' ak A' a' w' h1 h2 h3
 |loop c ih=>
  intro cv s H K Q w φ A a ho h ae hs hq;simp only [cR,aN] at h;have rq: ∀{w:World} {H:J} {φ :ag} {A:ah} {s:aj} {a:Act} (sp:lq) (n:Nat),St w H φ A→SF w H φ A s a→ ∃ φ1,Out w H φ A w (gN sp n s H).2 φ1 A∧SF w (gN sp n s H).2 φ1 A (gN sp n s H).1 a:=by
   intro w H φ A s a sp n h1 h2;unfold gN;by_cases ht:sp.trim=true
   ·have ho:=yi h1 n;simp only [ht,if_true];exact ⟨_,ho,(h2.mono ho.bW).kill _⟩
   ·simp only [ht];exact ⟨φ,.refl h1,h2.kill _⟩
  intro b k cs;have main:=h (fun s H=> ∀(w:World) (φ :ag) (A:ah) (a:Act),St w H φ A→SF w H φ A s a→Ends Q K w H φ A→
   ∀(b:Frame) (k:List Item) (cs:List Frame),∃e a' w',Q e a' w' ∧Arrives P (lone (b.at a (.code c:: .inLoop c::k)) cs w) b k cs e a' w') (fun s H hB w φ A a ae hs hq b k cs=>by
    obtain ⟨e,a1,w1,hI,dE⟩:=ih cv s H _ (Exit.then (fun a1 w1=> ∀(b:Frame) (k:List Item) (cs:List Frame),∃e a' w',Q e a' w' ∧Arrives P (lone (b.at a1 (.code c:: .inLoop c::k)) cs w1) b k cs e a' w') Q) w φ A a (by simpa only [cQ] using ho) hB ae hs (fun e s' H' ak A' a' w' h1 h2 h3=>by
     cases e with
     |normal=>
      obtain ⟨φ1,k1,k2⟩:=rq ((p.loops.lookup cv).getD {}) _ h1.st h2;exact h3 w' φ1 A' a' k1.st k2 (Ends.trans ae (h1.trans ae k1) hq)
     |exit id=>exact hq (.exit id) s' H' ak A' a' w' h1 h2 h3
     |ret=>exact hq .ret s' H' ak A' a' w' h1 h2 h3) b (.inLoop c::k) cs
    cases e with
    |normal=>
     obtain ⟨yt,a₂,yu,yv,yw⟩:=hI b k cs;exact ⟨yt,a₂,yu,yv,.of_steps (Steps.trans dE (.one step_inLoop)) yw⟩
    |exit id=>exact ⟨_,a1,w1,hI,.pass (x:= .inLoop c) rfl (fun _ _=> .inl (by simp)) dE⟩
    |goto l=>exact ⟨_,a1,w1,hI,.pass (x:= .inLoop c) rfl (fun _ _=> .inl (by simp)) dE⟩
    |ret=>exact ⟨_,a1,w1,hI,.pass (x:= .inLoop c) rfl (fun _ _=> .inl (by simp)) dE⟩
    |panic ch=>exact ⟨_,a1,w1,hI,.pass (x:= .inLoop c) rfl (fun _ _=> .inl (by simp)) dE⟩
    |outgrown=>exact ⟨_,a1,w1,hI,.pass (x:= .inLoop c) rfl (fun _ _=> .inl (by simp)) dE⟩)
  obtain ⟨φ1,k1,k2⟩:=rq ((p.loops.lookup cv).getD {}) H.bs.length ae hs;obtain ⟨e,a',w',jd,dE⟩:=main w φ1 A a k1.st k2 (Ends.trans ae k1 hq) b k cs;exact ⟨e,a',w',jd,.of_steps (.one step_loop) dE⟩
 |region id ops draw=>
  intro cv s H K Q w φ A a ho h ae hs hq;have key: ∀(K:Ex→aj→J→Prop),aN X C (ib (p.m9.lookup id) ((p.fz.lookup id).getD []) id (fE (p.gg.lookup id) ops) draw) s H K→Ends Q K w H φ A→(Code.region id ops draw).wp P Q a w:=by
   intro K h hq;cases draw with
   |false=>
    have eT:fE (p.gg.lookup id) ops=ops:=by
     simp only [cQ] at ho;cases hl:p.gg.lookup id with
     |none=>rfl
     |some π =>rw [hl] at ho;simp at ho
    rw [eT] at h;have h' :cH X C ops (match p.m9.lookup id with|some (_,th)=>th|none=>[]) ((p.fz.lookup id).getD []) (fun s H=>K .normal s H) ops.toList 0 s H:=by
     unfold ib at h;split at h
     ·rename_i n th he;rw [he];exact h
     ·rename_i he;rw [he];exact h
    exact wp_region_list (rm hE hX ops.toList 0 s H w φ A a h' ae hs fun s' H' ak A' a' w' h1 h2 h3=>hq .normal s' H' ak A' a' w' h1 h2 h3)
   |true=>
    have h' : ∃q th,ie (fE (p.gg.lookup id) ops) q=true∧cS X C (fE (p.gg.lookup id) ops) (fun i=> !q.contains i) (fG (fE (p.gg.lookup id) ops) q) th (fun s H=>K .normal s H) (fE (p.gg.lookup id) ops).toList 0 s H:=by
     unfold ib at h;split at h
     ·exact ⟨_,_,h.1,h.2⟩
     ·exact ⟨_,_,h.1,h.2⟩
    obtain ⟨q,th,hd,h'⟩:=h';have hw:=hD _ q th s H _ Q w φ A a hd h' ae hs fun s' H' ak A' a' w' h1 h2 h3=>hq .normal s' H' ak A' a' w' h1 h2 h3
    refine wp_region_any hm ?_;simp only [cQ] at ho;cases hl:p.gg.lookup id with
    |none=>rw [hl] at hw;exact hw
    |some π =>
     rw [hl] at hw ho;simp only [Bool.true_and] at ho;exact yh (yb ho) hw
  simp only [cR] at h;unfold jy at h;split at h
  ·rename_i l kp _;have mf: ∀{w:World} {H:J} {φ :ag} {A:ah} {s:aj} {a:Act} (kp:Option (List Nat)),SF w H φ A s a→SF w H φ A (ez kp s) a:=by
    intro w H φ A s a kp h;cases kp with
    |none=>exact h
    |some l=>exact h.kill l
   simp only [aN] at h;refine key _ h fun e s' H' ak A' a' w' h1 h2 h3=> ?_
   cases e with
   |normal=>
    simp only at h3;split at h3
    ·rename_i s2 H2 hf;obtain ⟨a7,A2,k1,k2⟩:=mc l h1.st h2 hf;exact hq .normal _ H2 a7 A2 a' w' (h1.trans ae k1) (mf kp k2) h3
    ·exact h3.elim
   |exit id=>exact hq (.exit id) s' H' ak A' a' w' h1 h2 h3
   |ret=>exact hq .ret s' H' ak A' a' w' h1 h2 h3
  ·exact key K h hq
 |_=>intro cv s H K Q w φ A a ho h ae hs hq;simp only [cR,aN] at h
end code
end Go.VS
namespace Go.VS
section body
variable {P:Program} {C:aH} {X:bD}
theorem oR (hE: ∀t ti,C.E t=some ti→aV P t ti) {w:World} {H:J} {φ :ag} {A:ah} {s:aj} {a:Act} (ae:St w H φ A) (hs:SF w H φ A s a) {f:ResultVar→Sem Value} (kO: ∀t,f (.tmp t)=pure (a.tmps.getD t undef)) (kP: ∀x t,f (.cell x t)=(do loadVar t (←asAddr (a.tmps.getD x undef)))):
 ∀(l:List ResultVar) (rs:List AV),du C.E s H l=some rs→
 ∃cx:List Value,(l.mapM f).run P w= .ok cx w∧rs.length=cx.length∧ ∀(i:Nat) (x:AV) (u:Value),rs[i]? =some x→cx[i]? =some u→R w H φ A x u
 |[],rs,h=>by
  simp only [du,Option.some.injEq] at h;subst h;exact ⟨[],by simp,rfl,by simp⟩
 | .tmp t::l,rs,h=>by
  simp only [du,Option.map_eq_some_iff] at h;obtain ⟨oS,h1,rfl⟩:=h;obtain ⟨cx,k1,k2,k3⟩:=oR hE ae hs kO kP l oS h1
  refine ⟨a.tmps.getD t undef::cx,by simp [List.mapM_cons,k1,kO],by simp [k2],fun i x u hx hu=> ?_⟩
  cases i with
  |zero=>simp at hx hu;subst hx;subst hu;have:=hs.ev (.tmp t);simpa [ev,Act.eval] using this
  |succ i=>exact k3 i x u hx hu
 | .cell b t::l,rs,h=>by
  simp only [du] at h;split at h
  ·rename_i v H' he
   simp only [Option.map_eq_some_iff] at h;obtain ⟨oS,h1,rfl⟩:=h;obtain ⟨cx,k1,k2,k3⟩:=oR hE ae hs kO kP l oS h1
   have hb:=hs.ev (.tmp b);simp only [aK] at he;obtain ⟨u,hu,hr⟩:=p7 (P:=P) hE ae (a4.refl H) hb he;have aQ:(do loadVar t (←asAddr (a.tmps.getD b undef)):Sem Value).run P w= .ok u w:=by
    revert hu;simp only [Act.eval];unfold Instr.loadAt;generalize a.tmps.getD b undef=q;intro hu;cases q with
    |pointer o=>cases o with
     |none=>simp [Instr.sureAddr] at hu
     |some o=>simpa [Instr.sureAddr,asAddr] using hu
    |_=>simp [Instr.sureAddr] at hu
   refine ⟨u::cx,by rw [List.mapM_cons,kP,Sem.run_bind,aQ];simp [k1],by simp [k2],fun i x u' hx aQ=> ?_⟩
   cases i with
   |zero=>simp at hx aQ;subst hx;subst aQ;exact hr
   |succ i=>exact k3 i x u' hx aQ
  ·simp at h
theorem rr (hE: ∀t ti,C.E t=some ti→aV P t ti) {w:World} {H:J} {φ :ag} {A:ah} {s:aj} {a:Act} (ae:St w H φ A) (hs:SF w H φ A s a) {fn:Func} {rs:List AV} (h:du C.E s H fn.results.toList=some rs):
 ∃cx:List Value,(results fn a.tmps).run P w= .ok (g_ cx) w∧rs.length=cx.length∧ ∀(i:Nat) (x:AV) (u:Value),rs[i]? =some x→cx[i]? =some u→R w H φ A x u:=by
 obtain ⟨f,kO,kP,yx⟩: ∃f:ResultVar→Sem Value,(∀t,f (.tmp t)=pure (a.tmps.getD t undef))∧(∀x t,f (.cell x t)=(do loadVar t (←asAddr (a.tmps.getD x undef))))∧
  results fn a.tmps=(do let vs←fn.results.mapM f;pure (if h:vs.size=1 then vs[0] else .tuple vs)):=⟨_,fun _=>rfl,fun _ _=>rfl,rfl⟩
 obtain ⟨cx,h1,h2,h3⟩:=oR hE ae hs kO kP fn.results.toList rs h;refine ⟨cx,?_,h2,h3⟩;rw [yx,Sem.run_bind,Array.mapM_eq_mapM_toList,Sem.run_map,h1]
 match cx with
 |[]=>simp [g_]
 |[u]=>simp [g_]
 |u::u' ::us=>simp [g_]
theorem yy (hm:P.follows .mixedOrders=true) (hE: ∀t ti,C.E t=some ti→aV P t ti) (hC: ∀f fn,C.code f=some fn→P.funcs[f]? =some fn∧(fn.name== "runtime.NumGoroutine")=false∧na (C.gi f) fn=true) (hX: ∀f ys H K,X f ys H K→cW P f ys H K) (hD:me P C X)
 {f:FuncId} {ys:List AV} {H:J} {K:AV→J→Prop} (h:Body X C f ys H K):cW P f ys H K:=by
 unfold Body at h;split at h
 ·exact h.elim
 rename_i fn kh;split at h
 ·exact h.elim
 rename_i c hc;obtain ⟨hf,oT,kQ⟩:=hC f fn kh;have kQ:cQ (C.gi f) c=true:=by unfold na at kQ;rw [hc] at kQ;exact kQ
 refine ⟨⟨fn,hf,oT,by simp [hc]⟩,fun w A φ us ae hl hr=> ?_⟩
 refine calls_of_wp hf hc (rn hm hE hX hD (C.gi f) c 0 _ H _ _ w φ A _ kQ h ae ⟨by simp [hl],fun t x v hx hv=> ?_,rfl⟩ ?_)
 ·rcases Nat.lt_or_ge t us.size with ht|ht
  ·rw [List.getElem?_append_left (by rw [hl];exact ht)] at hx
   rw [Array.getElem?_append_left ht] at hv;exact hr t x v hx hv
  ·rw [List.getElem?_append_right (by rw [hl];exact ht)] at hx
   have:x= .undef:=by
    rw [List.getElem?_replicate] at hx;split at hx<;>simp at hx;exact hx.symm
   subst this;exact .fr _ _ (.undef _)
 ·intro e s' H' ak A' a' w' h1 h2 h3
  have fin:(∃rs,du C.E s' H' fn.results.toList=some rs∧K (cm rs) H')→a'.defers=[]∧ ∃v,(results fn a'.tmps).run P w' = .ok v w' ∧iy w H φ A K (.returned v) w' :=by
   rintro ⟨rs,jb,hk⟩;refine ⟨h2.eD,?_⟩;obtain ⟨cx,k1,k2,k3⟩:=rr (P:=P) hE h1.st h2 jb;exact ⟨_,k1,_,H',ak,A',h1,oB k2 k3,hk⟩
  cases e with
  |normal=>exact fin h3
  |ret=>exact fin h3
  |exit id=>exact h3.elim
end body
end Go.VS
namespace Go.VS
def fv (H H1:J):Prop:=a4 H H1∧H.bs.length≤H1.bs.length
theorem a4.trans {H H1 H2:J} (h:a4 H H1) (k:a4 H1 H2):a4 H H2:=⟨fun id b hb=>k.1 id b (h.1 id b hb),Nat.le_trans h.2 k.2⟩
theorem fv.refl (H:J):fv H H:=⟨a4.refl _,Nat.le_refl _⟩
theorem fv.trans {H H1 H2:J} (h:fv H H1) (k:fv H1 H2):fv H H2:=⟨h.1.trans k.1,Nat.le_trans h.2 k.2⟩
theorem fv.new (H:J) (sz:Nat) (fx:Bool) (el:List AV):fv H (H.new sz fx el):=⟨J.nz H sz fx el,by simp [J.new]⟩
mutual
theorem oU: ∀(y:AV) (H:J),fv H (az y H).2
 | .own sz xs,H=>by simp only [az];exact (iz xs H).trans (.new _ _ _ _)
 | .dh sz x,H=>by simp only [az];exact (oU x H).trans (.new _ _ _ _)
 | .agg xs,H=>by simp only [az];exact iz xs H
 | .aE xs,H=>by simp only [az];exact iz xs H
 | .undef,H=> .refl _
 | .int _ _,H=> .refl _
 | .bool _,H=> .refl _
 | .str _,H=> .refl _
 | .nil,H=> .refl _
 | .e0,H=> .refl _
 | .fz _,H=> .refl _
 | .ref _ _ _ _,H=> .refl _
 | .ptr _ _ _ _,H=> .refl _
 | .fe _ _,H=> .refl _
 | .fn _ _,H=> .refl _
 | .ci _,H=> .refl _
 | .dr,H=> .refl _
theorem iz: ∀(ys:List AV) (H:J),fv H (aC ys H).2
 |[],H=> .refl _
 |y::ys,H=>by simp only [aC];exact (oU y H).trans (iz ys _)
end
structure GH (G:J) (φ :ag) (H H1:J):Prop where
 ext:a4 H1 G
 none: ∀id,H.bs.length≤id→id<H1.bs.length→ φ id=none
theorem jS (H:J) (sz:Nat) (fx:Bool) (el:List AV):(H.new sz fx el).bs.length=H.bs.length+1:=by simp [J.new]
theorem GH.fst {G:J} {φ :ag} {H H1 H2:J} (h:GH G φ H H2) (k:fv H1 H2):GH G φ H H1:=⟨k.1.trans h.ext,fun id h1 h2=>h.none id h1 (Nat.lt_of_lt_of_le h2 k.2)⟩
section bm
variable {w:World}
structure MG (w:World) (L:J) (φL:ag) (AL:ah) (G:J) (φ :ag) (AH:ah) (L1:J) (φ1:ag) (lo hi:Nat):Prop where
 less:bq L L1
 bm:bX w L1 (aD φL L1) AL G φ1 AH
 oh: ∀c,Ow φ1 c→Ow φ c∨(Ow φL c∧ ¬Ow (aD φL L1) c)
 gU: ∀c,Ow φ c→Ow φ1 c
 bY: ∀id loc,φ id=some loc→ φ1 id=some loc
 new: ∀id loc,φ1 id=some loc→ φ id=some loc∨(lo≤id∧id<hi)
 le:lo≤hi
theorem MG.eh {L:J} {φL:ag} {AL:ah} {G:J} {φ :ag} {AH:ah} {L1:J} {φ1:ag} {lo hi:Nat} (m:MG w L φL AL G φ AH L1 φ1 lo hi):bM w G φ AH w G φ1 AH:=
 ⟨fun _c _arr _T fr hc hn=>⟨⟨fr,hc⟩,hn⟩,Nat.le_refl _,fun id b hb _=>⟨b,hb,rfl,rfl,rfl,rfl,fun loc h=>m.bY id loc h⟩,fun _ _=>rfl⟩
theorem MG.refl {L:J} {φL:ag} {AL:ah} {G:J} {φ :ag} {AH:ah} (h:bX w L φL AL G φ AH) (lo:Nat):MG w L φL AL G φ AH L φ lo lo:=
 ⟨.refl _,⟨dY h.sl (.refl _),h.sh,fun c hc=>h.b7 c (bF hc),fun c hc=>h.eg c (bF hc)⟩,fun _c hc=> .inl hc,fun _c hc=>hc,fun _ _ h=>h,fun _ _ h=> .inl h,Nat.le_refl _⟩
theorem MG.trans {L L1 L2:J} {φL:ag} {AL:ah} {G:J} {φ φ1 a7:ag} {AH:ah} {lo mi hi:Nat} (h:MG w L φL AL G φ AH L1 φ1 lo mi) (k:MG w L1 (aD φL L1) AL G φ1 AH L2 a7 mi hi):MG w L φL AL G φ AH L2 a7 lo hi:=by
 have hr:=fQ (φ := φL) k.less;refine ⟨h.less.trans k.less,by rw [←hr];exact k.bm,fun c hc=> ?_,fun c hc=>k.gU c (h.gU c hc),fun id loc hl=>k.bY id loc (h.bY id loc hl),fun id loc hl=> ?_,Nat.le_trans h.le k.le⟩
 ·rcases k.oh c hc with h1|⟨h1,h2⟩
  ·rcases h.oh c h1 with h3|⟨h3,h4⟩
   ·exact .inl h3
   ·refine .inr ⟨h3,fun h5=>h4 ?_⟩;rw [←hr] at h5;exact bF h5
  ·rw [hr] at h2;exact .inr ⟨bF h1,h2⟩
 ·have h1:=h.le;have h2:=k.le;rcases k.new id loc hl with h3|⟨h3,h4⟩
  ·rcases h.new id loc h3 with h5|⟨h5,h6⟩
   ·exact .inl h5
   ·exact .inr ⟨h5,by omega⟩
  ·exact .inr ⟨by omega,h4⟩
theorem GH.snd {L L1:J} {φL:ag} {AL:ah} {G:J} {φ φ1:ag} {AH:ah} {H H1 H2:J} (h:GH G φ H H2) (m:MG w L φL AL G φ AH L1 φ1 H.bs.length H1.bs.length):GH G φ1 H1 H2:=by
 refine ⟨h.ext,fun id h1 h2=> ?_⟩;cases hp: φ1 id with
 |none=>rfl
 |some loc=>
  have hle:=m.le;rcases m.new id loc hp with h3|⟨_,h3⟩
  ·rw [h.none id (by omega) h2] at h3;simp at h3
  ·omega
theorem ru {L L1:J} {φL:ag} {AL:ah} {G:J} {φ φ1:ag} {AH:ah} {lo hi:Nat} (m:MG w L φL AL G φ AH L1 φ1 lo hi) {ad sz:Nat} {fx:Bool} {el:List AV} {loc:Loc} (hg:G.get hi=some ⟨ad,sz,fx,el⟩) (bN:ad<G.st) (gX: φ hi=none)
 (dW: ∀(i:Nat) (x:AV),el[i]? =some x→x.cells.length=sz) (hv:loc= .aS→el=[])
 (ei: ∀c b0,loc= .at_ c b0→Ow φL c∧ ¬Ow (aD φL L1) c∧ ¬Ow φ1 c∧AH c∧ ∃arr T fr,w.heap[c]? =some (.cells arr T fr)∧(∀j,j<arr.size→ ¬(fr.1≤j∧j<fr.2))∧b0+el.length*sz≤arr.size∧
  ∀(i:Nat) (x:AV) (j:Nat) (y:AV) (v:Value),el[i]? =some x→x.cells[j]? =some y→arr[b0+i*sz+j]? =some v→R w G φ1 AH y v∧v.oneCell' =true):
 MG w L φL AL G φ AH L1 (fun i=>if i=hi then some loc else φ1 i) lo (hi+1):=by
 have fl:=m.bm.sh;have hle:=m.le;have bz: φ1 hi=none:=by
  cases hp: φ1 hi with
  |none=>rfl
  |some l=>
   rcases m.new hi l hp with h|⟨_,h⟩
   ·rw [gX] at h;simp at h
   ·omega
 have aY:bM w G φ1 AH w G (fun i=>if i=hi then some loc else φ1 i) AH:=by
  refine ⟨fun c a t fr hc hn=>⟨⟨fr,hc⟩,hn⟩,Nat.le_refl _,fun id b hb ax=>⟨b,hb,rfl,rfl,rfl,rfl,fun l hl=> ?_⟩,fun _ _=>rfl⟩;rw [if_neg (by rintro rfl;rw [bz] at hl;simp at hl)];exact hl
 have dD: ∀c,Ow (fun i=>if i=hi then some loc else φ1 i) c→Ow φ1 c∨ ∃b0,loc= .at_ c b0:=by
  rintro c ⟨i,b,h⟩;try simp only at h
  split at h
  ·simp only [Option.some.injEq] at h;exact .inr ⟨b,h⟩
  ·exact .inl ⟨i,b,h⟩
 refine ⟨m.less,⟨m.bm.sl,⟨fun i i' c b b' h1 h2=> ?_,fun c hc=> ?_,fl.cb,fun i l hl=> ?_⟩,fun c hc ho=> ?_,m.bm.eg⟩,fun c hc=> ?_,fun c hc=> ?_,fun id l hl=> ?_,fun id l hl=> ?_,by omega⟩
 ·try simp only at h1 h2
  split at h1
  ·rename_i hi;split at h2
   ·rename_i gR;omega
   ·simp only [Option.some.injEq] at h1;exact absurd ⟨i',b',h2⟩ (ei c b h1).2.2.1
  ·split at h2
   ·simp only [Option.some.injEq] at h2;exact absurd ⟨i,b,h1⟩ (ei c b' h2).2.2.1
   ·exact fl.inj _ _ _ _ _ h1 h2
 ·rcases dD c hc with h|⟨b0,h⟩
  ·exact fl.own c h
  ·exact (ei c b0 h).2.2.2.1
 ·try simp only at hl
  split at hl
  ·rename_i hi;subst hi;simp only [Option.some.injEq] at hl;subst hl;refine ⟨_,hg,bN,dW,hv,fun c b0 he=> ?_⟩;obtain ⟨_,_,_,_,arr,T,fr,k1,k2,k3,k4⟩:=ei c b0 he;exact ⟨arr,T,fr,k1,k2,k3,fun j x q y v bA hy cr=>⟨(k4 j x q y v bA hy cr).1.mono aY,(k4 j x q y v bA hy cr).2⟩⟩
  ·obtain ⟨bb,hb,af⟩:=fl.ap i l hl;refine ⟨bb,hb,af.ad,af.sized,af.aS,fun c b0 he=> ?_⟩;obtain ⟨arr,T,fr,k1,k2,k3,k4⟩:=af.here c b0 he;exact ⟨arr,T,fr,k1,k2,k3,fun j x q y v bA hy cr=>⟨(k4 j x q y v bA hy cr).1.mono aY,(k4 j x q y v bA hy cr).2⟩⟩
 ·rcases dD c ho with h|⟨b0,h⟩
  ·exact m.bm.b7 c hc h
  ·exact (ei c b0 h).2.1 hc
 ·rcases dD c hc with h|⟨b0,h⟩
  ·exact m.oh c h
  ·exact .inr ⟨(ei c b0 h).1,(ei c b0 h).2.1⟩
 ·obtain ⟨i,b,h⟩:=m.gU c hc
  exact ⟨i,b,by show (if i=hi then some loc else φ1 i)=_;rw [if_neg (by rintro rfl;rw [bz] at h;simp at h)];exact h⟩
 ·have:=m.bY id l hl;rw [if_neg (by rintro rfl;rw [bz] at this;simp at this)];exact this
 ·try simp only at hl
  split at hl
  ·rename_i hi;subst hi;exact .inr ⟨hle,Nat.lt_succ_self _⟩
  ·rcases m.new id l hl with h|⟨h1,h2⟩
   ·exact .inl h
   ·exact .inr ⟨h1,by omega⟩
set_option maxRecDepth 4000
theorem rv {es:List Sh} (hE: ∀(x:AV) (vs:List Value) (L:J) (φL:ag) (AL:ah) (H G:J) (φ :ag) (AH:ah) (y:AV) (L1:J) (a:AV) (H1:J),bX w L φL AL G φ AH→GH G φ H H1→x.cells.length=vs.length→
 (∀(j:Nat) (c:AV) (u:Value),x.cells[j]? =some c→vs[j]? =some u→R w L φL AL c u)→aR es x L=some (y,L1)→az y H=(a,H1)→fR AL AH y→
 ∃ φ1,MG w L φL AL G φ AH L1 φ1 H.bs.length H1.bs.length∧a.cells.length=x.cells.length∧ ∀(j:Nat) (c:AV) (u:Value),a.cells[j]? =some c→vs[j]? =some u→R w G φ1 AH c u):
 ∀(xs:List AV) (g:Nat→Nat→Value) (L:J) (φL:ag) (AL:ah) (H G:J) (φ :ag) (AH:ah) (ys:List AV) (L1:J) (as:List AV) (H1:J),bX w L φL AL G φ AH→GH G φ H H1→
  (∀(i:Nat) (x:AV) (j:Nat) (c:AV),xs[i]? =some x→x.cells[j]? =some c→R w L φL AL c (g i j))→cP (aR es) xs L=some (ys,L1)→aC ys H=(as,H1)→dL AL AH ys→
  ∃ φ1,MG w L φL AL G φ AH L1 φ1 H.bs.length H1.bs.length∧as.length=xs.length∧(∀(i:Nat) (x a:AV),xs[i]? =some x→as[i]? =some a→a.cells.length=x.cells.length)∧
   ∀(i:Nat) (a:AV) (j:Nat) (c:AV),as[i]? =some a→a.cells[j]? =some c→R w G φ1 AH c (g i j)
 |[],g,L,φL,AL,H,G,φ,AH,ys,L1,as,H1,hd,hh,_,ht,hw,_=>by
  simp only [cP,Option.some.injEq,Prod.mk.injEq] at ht;obtain ⟨rfl,rfl⟩:=ht;simp only [aC,Prod.mk.injEq] at hw;obtain ⟨rfl,rfl⟩:=hw;exact ⟨φ,.refl hd _,rfl,by simp,by simp⟩
 |x::xs,g,L,φL,AL,H,G,φ,AH,ys,L1,as,H1,hd,hh,hr,ht,hw,hk=>by
  simp only [cP] at ht;split at ht
  ·rename_i y L' h1
   split at ht
   ·rename_i aU c6 h2
    simp only [Option.some.injEq,Prod.mk.injEq] at ht;obtain ⟨rfl,rfl⟩:=ht;obtain ⟨k1,k2⟩:=hk.cons;simp only [aC,Prod.mk.injEq] at hw;obtain ⟨rfl,rfl⟩:=hw
    let vs:List Value:=(List.range x.cells.length).map (g 0)
    obtain ⟨φ1,m1,l1,r1⟩:=hE x vs L φL AL H G φ AH y L' _ _ hd (hh.fst (iz _ _)) (by simp [vs]) (fun j c u hj hu=>by
     have dK:j<x.cells.length:=(List.getElem?_eq_some_iff.1 hj).1;have:vs[j]? =some (g 0 j):=by simp [vs,dK]
     rw [this] at hu;simp only [Option.some.injEq] at hu;subst hu;exact hr 0 x j c rfl hj) h1 rfl k1
    obtain ⟨a7,m2,l2,s2,r2⟩:=rv hE xs (fun i j=>g (i+1) j) L' (aD φL L') AL _ G φ1 AH aU c6 _ _ m1.bm (hh.snd m1) (fun i x' j c hi hj=>(hr (i+1) x' j c hi hj).mono (cU m1.less)) h2 rfl k2
    refine ⟨a7,m1.trans m2,by simp [l2],fun i x' a hx ha=> ?_,fun i a j c ha hc=> ?_⟩
    ·cases i with
     |zero=>simp at hx ha;subst hx;subst ha;exact l1
     |succ i=>exact s2 i x' a hx ha
    ·cases i with
     |zero=>
      simp only [List.getElem?_cons_zero,Option.some.injEq] at ha;subst ha;have hj:j<x.cells.length:=by rw [←l1];exact (List.getElem?_eq_some_iff.1 hc).1
      exact (r1 j c (g 0 j) hc (by simp [vs,hj])).mono m2.eh
     |succ i=>exact r2 i a j c ha hc
   ·simp at ht
  ·simp at ht
theorem ry {L:J} {φL:ag} {AL:ah} {G:J} {φ :ag} {AH:ah} (hd:bX w L φL AL G φ AH) {id ad:Nat} {b:bJ} (hb:L.ap id ad=some b) {off n:Nat} (hle:off+n≤b.el.length) {sz:Nat} (hs:b.sz=sz) {loc:Loc} (a3: φL id=some loc)
 {L1:J} {as:List AV} {lo hi:Nat} {g:Nat→Nat→Value} {φ1:ag} (hg: ∀c b0 arr T fr,loc= .at_ c b0→w.heap[c]? =some (.cells arr T fr)→ ∀(i j:Nat) (v:Value),i<n→j<sz→arr[b0+(off+i)*sz+j]? =some v→g i j=v)
 (m:MG w (L.del id) (aD φL (L.del id)) AL G φ AH L1 φ1 lo hi) (hl:as.length=n) (dW: ∀(i:Nat) (a:AV),as[i]? =some a→a.cells.length=sz)
 (hr: ∀(i:Nat) (a:AV) (j:Nat) (c:AV),as[i]? =some a→a.cells[j]? =some c→R w G φ1 AH c (g i j)) {g6:Nat} (fx:Bool) (hJ:G.get hi=some ⟨g6,sz,fx,as⟩) (bN:g6<G.st) (gX: φ hi=none) (loc' :Loc) (gV:loc' = .aS∧n=0∨ ∃c b0,loc= .at_ c b0∧loc' = .at_ c (b0+off*sz)):
 MG w L φL AL G φ AH L1 (fun i=>if i=hi then some loc' else φ1 i) lo (hi+1):=by
 have n4:=(J.bw hb).1;have n5:=(bq.del L id).trans m.less;have gW:aD (aD φL (L.del id)) L1=aD φL L1:=fQ m.less;have m' :MG w L φL AL G φ AH L1 φ1 lo hi:=by
  refine ⟨n5,by have:=m.bm;rwa [gW] at this,fun c hc=> ?_,m.gU,m.bY,m.new,m.le⟩
  rcases m.oh c hc with h|⟨h1,h2⟩
  ·exact .inl h
  ·rw [gW] at h2;exact .inr ⟨bF h1,h2⟩
 refine ru m' hJ bN gX dW (fun hv=> ?_) (fun c b1 he=> ?_)
 ·rcases gV with ⟨_,h0⟩|⟨c,b0,_,h2⟩
  ·exact List.eq_nil_of_length_eq_zero (by omega)
  ·rw [h2] at hv;simp at hv
 ·rcases gV with ⟨h1,_⟩|⟨c',b0,h1,h2⟩
  ·rw [h1] at he;simp at he
  ·rw [h2] at he;simp only [Loc.at_.injEq] at he;obtain ⟨rfl,rfl⟩:=he;subst h1;have iU:Ow φL c' :=⟨id,b0,a3⟩
   have n6: ¬Ow (aD φL L1) c' :=by
    rintro ⟨i,bb,hi⟩;obtain ⟨fo,bk,aX⟩:=de hi;have:=hd.sl.inj _ _ _ _ _ fo a3;subst this;have:=m.less.get _ _ aX;rw [J.iv,if_pos rfl] at this;simp at this
   refine ⟨iU,n6,fun ho=> ?_,hd.eg _ iU,?_⟩
   ·rcases m.oh c' ho with h|⟨⟨i,bb,hi⟩,_⟩
    ·exact hd.b7 c' iU h
    ·obtain ⟨fo,bk,aX⟩:=de hi;have:=hd.sl.inj _ _ _ _ _ fo a3;subst this;rw [J.iv,if_pos rfl] at aX;simp at aX
   ·obtain ⟨bk,aX,af⟩:=hd.sl.ap id _ a3;rw [n4] at aX;simp only [Option.some.injEq] at aX;subst aX;obtain ⟨arr,T,fr,k1,k2,k3,k4⟩:=af.here c' b0 rfl
    have hmul:off*sz+n*sz≤b.el.length*sz:=by rw [←Nat.add_mul];exact Nat.mul_le_mul_right _ hle
    refine ⟨arr,T,fr,k1,k2,by rw [hl];rw [hs] at k3;omega,fun i a j c v ha hc hv=> ?_⟩
    have hi:i<n:=by rw [←hl];exact (List.getElem?_eq_some_iff.1 ha).1
    have hj:j<sz:=by rw [←dW i a ha];exact (List.getElem?_eq_some_iff.1 hc).1
    have e:b0+off*sz+i*sz+j=b0+(off+i)*sz+j:=by rw [Nat.add_mul];omega
    rw [e] at hv;have n7:=hg c' b0 arr T fr rfl k1 i j v hi hj hv
    refine ⟨by rw [←n7];exact hr i a j c ha hc,?_⟩
    have cF:off+i<b.el.length:=by omega
    have hx:=List.getElem?_eq_getElem cF;have cq:=af.sized _ _ hx;exact (k4 (off+i) _ j _ v hx (List.getElem?_eq_getElem (by omega)) (by rw [hs];exact hv)).2
mutual
theorem mg (sh:Sh) (x:AV) (v:Value) (L:J) (φL:ag) (AL:ah) (H G:J) (φ :ag) (AH:ah) (y:AV) (L1:J) (a:AV) (H1:J) (hd:bX w L φL AL G φ AH) (hh:GH G φ H H1) (hx:R w L φL AL x v)
 (ht:aP sh x L=some (y,L1)) (hw:az y H=(a,H1)) (hk:fR AL AH y): ∃ φ1,MG w L φL AL G φ AH L1 φ1 H.bs.length H1.bs.length∧R w G φ1 AH a v∧(x≠ .undef→a.cells=[a])∧(x= .undef→a= .undef):=by
 cases sh with
 |sc=>
  simp only [aP] at ht;split at ht
  ·rename_i hp;simp only [Option.some.injEq,Prod.mk.injEq] at ht;obtain ⟨rfl,rfl⟩:=ht;rw [qA hp] at hw;simp only [Prod.mk.injEq] at hw;obtain ⟨rfl,rfl⟩:=hw;exact ⟨φ,.refl hd _,qz hp hx,fun hu=>iV hu (by rintro cs rfl;simp [dj] at hp),fun h=>h⟩
  ·simp at ht
 |sl es=>
  have fS: ∀{v0:Option Addr},v= .slice v0 0 0→az (.own es.length []) H=(a,H1)→L1=L→ ∃ φ1,MG w L φL AL G φ AH L1 φ1 H.bs.length H1.bs.length∧R w G φ1 AH a v∧a.cells=[a]:=by
   intro v0 hv hw hL;subst hL;simp only [az,aC,Prod.mk.injEq] at hw;obtain ⟨rfl,rfl⟩:=hw;have hJ:=hh.ext.1 _ _ (J.dV H es.length false []);have bN:H.st<G.st:=Nat.lt_of_lt_of_le (Nat.lt_succ_self _) hh.ext.2;have m:=ru (MG.refl hd H.bs.length) hJ bN (hh.none _ (Nat.le_refl _) (by rw [jS];exact Nat.lt_succ_self _)) (loc:= .aS) (by simp) (fun _=>rfl) (by simp)
   rw [←jS H es.length false []] at m;refine ⟨_,m,?_,rfl⟩;refine .ref _ _ _ _ _ bN ⟨_,_,hv⟩ fun b hb=> ?_;have:=jN hJ hb;subst this;exact ⟨.aS,v0,0,by simp,hv,by simp,Nat.le_refl _,by simp,rfl,fun _=>rfl⟩
  cases x with
  |nil=>
   simp only [aP,Option.some.injEq,Prod.mk.injEq] at ht;obtain ⟨rfl,rfl⟩:=ht;obtain ⟨φ1,h1,h2,h3⟩:=fS hx.cZ hw rfl;exact ⟨φ1,h1,h2,fun _=>h3,fun h=>by simp at h⟩
  |e0=>
   simp only [aP,Option.some.injEq,Prod.mk.injEq] at ht;obtain ⟨rfl,rfl⟩:=ht;obtain ⟨a0,iW⟩:=hx.eB;obtain ⟨φ1,h1,h2,h3⟩:=fS iW hw rfl;exact ⟨φ1,h1,h2,fun _=>h3,fun h=>by simp at h⟩
  |fz xs=>
   simp only [aP,Option.some.injEq,Prod.mk.injEq] at ht;obtain ⟨rfl,rfl⟩:=ht;simp only [az,Prod.mk.injEq] at hw;obtain ⟨rfl,rfl⟩:=hw;rcases hk with hk|hk
   ·exact ⟨φ,.refl hd _,.fr _ _ (hx.dw.shrink hk),fun _=>rfl,fun h=>by simp at h⟩
   ·simp [cc] at hk
  |ref id ad off len=>
   simp only [aP] at ht;split at ht
   ·rename_i b hb;split at ht
    ·rename_i hc;obtain ⟨c1,c2,c3⟩:=hc;split at ht
     ·rename_i ys L' hm
      simp only [Option.some.injEq,Prod.mk.injEq] at ht;obtain ⟨rfl,rfl⟩:=ht;simp only [az,Prod.mk.injEq] at hw;obtain ⟨rfl,rfl⟩:=hw;have hg:=(J.bw hb).1;obtain ⟨bN,_,hr⟩:=hx.dU;obtain ⟨loc,a0,cap,q1,rfl,q3,q4,q5,q6⟩:=(hr b hb).out;obtain ⟨bk,aX,af⟩:=hd.sl.ap id _ q1;rw [hg] at aX;simp only [Option.some.injEq] at aX;subst aX;have bC:dL AL AH ys:=by
       rcases hk with h|h
       ·exact .inl h
       ·exact .inr (by simpa [cc] using h)
      have cK:=bq.del L id;have bZ:bX w (L.del id) (aD φL (L.del id)) AL G φ AH:=⟨dY hd.sl cK,hd.sh,fun c hc=>hd.b7 c (bF hc),fun c hc=>hd.eg c (bF hc)⟩
      have bj:(aG b.el off len).length=len:=by simp [aG];omega
      have fT: ∀(i:Nat) (x:AV),(aG b.el off len)[i]? =some x→b.el[off+i]? =some x:=by
       intro i x hi;simp only [aG,List.getElem?_take,List.getElem?_drop] at hi;split at hi
       ·exact hi
       ·simp at hi
      let g:Nat→Nat→Value:=match loc with
       | .aS=>fun _ _=>undef
       | .at_ c b0=>fun i j=>match w.heap[c]? with
        |some (.cells arr _ _)=>arr.getD (b0+(off+i)*es.length+j) undef
        |_=>undef
      have fO: ∀(i:Nat) (x:AV) (j:Nat) (c:AV),(aG b.el off len)[i]? =some x→x.cells[j]? =some c→R w (L.del id) (aD φL (L.del id)) AL c (g i j):=by
       intro i x j c hi hj;have bA:=fT i x hi
       have cd:i<len:=by rw [←bj];exact (List.getElem?_eq_some_iff.1 hi).1
       cases loc with
       |aS=>have:=af.aS rfl;rw [this] at bA;simp at bA
       |at_ c0 b0=>
        obtain ⟨arr,T,fr,k1,k2,k3,k4⟩:=af.here c0 b0 rfl;have dK:j<b.sz:=by rw [←af.sized _ _ bA];exact (List.getElem?_eq_some_iff.1 hj).1
        have hle:=cE (n:=b.sz) (show off+i<b.el.length by omega)
        have ax:b0+(off+i)*b.sz+j<arr.size:=by omega
        have:g i j=arr[b0+(off+i)*b.sz+j]:=by
         simp only [g,k1,←c1,Array.getD_eq_getD_getElem?,Array.getElem?_eq_getElem ax,Option.getD_some]
        rw [this];exact ((k4 _ _ _ _ _ bA hj (Array.getElem?_eq_getElem ax)).1).mono (cU cK)
      obtain ⟨φ1,m,l1,s1,r1⟩:=rv (w:=w) (es:=es) (fun x vs L φL AL H G φ AH y L1 a H1=>rz es x vs L φL AL H G φ AH y L1 a H1) _ g _ _ _ _ _ _ _ _ _ _ _ bZ (hh.fst (.new _ _ _ _)) fO hm rfl bC
      rw [bj] at l1;have kG: ∀(i:Nat) (a:AV),(aC ys H).1[i]? =some a→a.cells.length=b.sz:=by
       intro i a ha;have cd:i<(aG b.el off len).length:=by rw [bj,←l1];exact (List.getElem?_eq_some_iff.1 ha).1
       have iw:=List.getElem?_eq_getElem cd;rw [s1 i _ a iw ha];exact af.sized _ _ (fT i _ iw)
      have n8: ∀c b0 arr T fr,loc= .at_ c b0→w.heap[c]? =some (.cells arr T fr)→ ∀(i j:Nat) (v:Value),i<len→j<b.sz→arr[b0+(off+i)*b.sz+j]? =some v→g i j=v:=by
       intro c b0 arr T fr hl hh i j v _ _ hv;subst hl;simp only [g,hh,←c1,Array.getD_eq_getD_getElem?,hv,Option.getD_some]
      let loc' :Loc:=match loc with
       | .aS=> .aS
       | .at_ c b0=>if cap=0 then .aS else .at_ c (b0+off*b.sz)
      have gV:loc' = .aS∧len=0∨ ∃c b0,loc= .at_ c b0∧loc' = .at_ c (b0+off*b.sz):=by
       cases loc with
       |aS=>left;refine ⟨rfl,?_⟩;have:=af.aS rfl;rw [this] at q3;simp at q3;omega
       |at_ c b0=>
        by_cases ej:cap=0
        ·left;exact ⟨by simp [loc',ej],by omega⟩
        ·right;exact ⟨c,b0,rfl,by simp [loc',ej]⟩
      have hJ:=hh.ext.1 _ _ (J.dV (aC ys H).2 es.length false (aC ys H).1);have bN:(aC ys H).2.st<G.st:=Nat.lt_of_lt_of_le (Nat.lt_succ_self _) hh.ext.2;have M:=ry hd hb c2 rfl q1 n8 m l1 kG r1 false (by rw [c1];exact hJ) bN (hh.none _ (iz ys H).2 (by rw [jS];exact Nat.lt_succ_self _)) loc' gV
      rw [←jS (aC ys H).2 es.length false (aC ys H).1] at M;refine ⟨_,M,?_,fun _=>rfl,fun h=>by simp at h⟩
      refine .ref _ _ _ _ _ bN ⟨a0,cap,by rw [l1]⟩ fun b' ay=> ?_
      have:=jN hJ ay;subst this;refine ⟨loc',a0,cap,by simp,by rw [l1],by simp,by omega,by simp only;omega,?_⟩
      cases loc with
      |aS=>
       simp only at q6;have dG:len=0:=by have:=af.aS rfl;rw [this] at q3;simp at q3;omega
       refine ⟨List.eq_nil_of_length_eq_zero (by rw [l1,dG]),fun _=> ?_⟩
       rcases c3 with c3|c3
       ·exact q6.2 c3
       ·omega
      |at_ c b0=>
       simp only at q6;by_cases ej:cap=0
       ·simp only [loc',ej,if_true];exact ⟨List.eq_nil_of_length_eq_zero (by omega),fun _=>by first|trivial|omega|rfl⟩
       ·simp only [loc',ej,if_false];rcases q6 with q6|⟨h1,h2⟩
        ·exact absurd q6 ej
        ·refine Or.inr ⟨by rw [h1];simp,?_⟩
         rw [c1] at h2⊢;have:(off+cap)*es.length=off*es.length+cap*es.length:=Nat.add_mul _ _ _;simp only [Nat.zero_add];omega
     ·simp at ht
    ·simp at ht
   ·simp at ht
  |_=>simp [aP] at ht
 |pt es=>
  cases x with
  |fe z o=>
   simp only [aP,Option.some.injEq,Prod.mk.injEq] at ht;obtain ⟨rfl,rfl⟩:=ht;simp only [az,Prod.mk.injEq] at hw;obtain ⟨rfl,rfl⟩:=hw;rcases hk with hk|hk
   ·exact ⟨φ,.refl hd _,.fr _ _ (hx.eA.shrink hk),fun _=>rfl,fun h=>by simp at h⟩
   ·simp [cc] at hk
  |ptr id ad idx off=>
   rcases idx with _|idx
   rotate_left
   ·simp [aP] at ht
   rcases off with _|off
   rotate_left
   ·simp [aP] at ht
   simp only [aP] at ht;split at ht
   ·rename_i n9 sz n_ z hb;split at ht
    ·rename_i y' L' hm
     simp only [Option.some.injEq,Prod.mk.injEq] at ht;obtain ⟨rfl,rfl⟩:=ht;simp only [az,Prod.mk.injEq] at hw;obtain ⟨rfl,rfl⟩:=hw;have hg:=(J.bw hb).1;obtain ⟨bN,_,hr⟩:=hx.fi;obtain ⟨c,b0,q1,rfl⟩:=hr _ hb;obtain ⟨bk,aX,af⟩:=hd.sl.ap id _ q1;rw [hg] at aX;simp only [Option.some.injEq] at aX;subst aX;obtain ⟨arr,T,fr,k1,k2,k3,k4⟩:=af.here c b0 rfl;have bC:fR AL AH y' :=by
      rcases hk with h|h
      ·exact .inl h
      ·exact .inr (by simpa [cc] using h)
     have cK:=bq.del L id;have bZ:bX w (L.del id) (aD φL (L.del id)) AL G φ AH:=⟨dY hd.sl cK,hd.sh,fun c hc=>hd.b7 c (bF hc),fun c hc=>hd.eg c (bF hc)⟩
     have db:z.cells.length=sz:=af.sized 0 z rfl;simp only [List.length_singleton,Nat.one_mul] at k3
     let vs:List Value:=(arr.extract b0 (b0+sz)).toList
     have dy:vs.length=sz:=by simp [vs];omega
     have fU: ∀j u,vs[j]? =some u→arr[b0+j]? =some u:=by
      intro j u hu;simp only [vs,Array.getElem?_toList,Array.getElem?_extract] at hu;split at hu
      ·exact hu
      ·simp at hu
     obtain ⟨φ1,m,l1,r1⟩:=rz es z vs _ _ _ _ _ _ _ _ _ _ _ bZ (hh.fst (.new _ _ _ _)) (by rw [dy,db]) (fun j c' u hj hu=>((k4 0 z j c' u rfl hj (by simpa using fU j u hu)).1).mono (cU cK)) hm rfl bC
     have hJ:=hh.ext.1 _ _ (J.dV (az y' H).2 sz false [(az y' H).1])
     have bN:(az y' H).2.st<G.st:=Nat.lt_of_lt_of_le (Nat.lt_succ_self _) hh.ext.2
     have M:=ry (as:=[(az y' H).1]) (n:=1) (off:=0) (sz:=sz) (loc' := .at_ c b0) (g:=fun i j=>vs.getD j undef) hd hb (by simp) rfl q1 (fun c' oa arr' T' eK hl hh i j v hi hj hv=>by
      simp only [Loc.at_.injEq] at hl;obtain ⟨rfl,rfl⟩:=hl;rw [k1] at hh;simp only [Option.some.injEq,Obj.cells.injEq] at hh;obtain ⟨rfl,_,_⟩:=hh;have iX:i=0:=by omega
      subst iX;simp only [Nat.zero_mul,Nat.add_zero] at hv;have:vs[j]? =some v:=by
       simp only [vs,Array.getElem?_toList,Array.getElem?_extract];rw [if_pos (by omega)];exact hv
      simp [List.getD,this]) m rfl (fun i a ha=>by
      cases i with
      |zero=>simp at ha;subst ha;rw [l1,db]
      |succ i=>simp at ha) (fun i a j c' ha hc=>by
      cases i with
      |zero=>
       simp at ha;subst ha;have hj:j<vs.length:=by rw [dy,←db,←l1];exact (List.getElem?_eq_some_iff.1 hc).1
       have:=r1 j c' vs[j] hc (List.getElem?_eq_getElem hj)
       simpa [List.getD,hj] using this
      |succ i=>simp at ha) false hJ bN (hh.none _ (oU y' H).2 (by rw [jS];exact Nat.lt_succ_self _)) (.inr ⟨c,b0,rfl,by simp⟩)
     rw [←jS (az y' H).2 sz false [(az y' H).1]] at M
     refine ⟨_,M,?_,fun _=>rfl,fun h=>by simp at h⟩
     refine .ptr _ _ _ _ _ bN ⟨_,rfl⟩ fun b' ay=>⟨c,b0,by simp,?_⟩
     simp
    ·simp at ht
   ·simp at ht
  |_=>simp [aP] at ht
 termination_by (SizeOf.sizeOf sh,0)
theorem rz (es:List Sh) (x:AV) (vs:List Value) (L:J) (φL:ag) (AL:ah) (H G:J) (φ :ag) (AH:ah) (y:AV) (L1:J) (a:AV) (H1:J) (hd:bX w L φL AL G φ AH) (hh:GH G φ H H1) (hl:x.cells.length=vs.length)
 (hx: ∀(j:Nat) (c:AV) (u:Value),x.cells[j]? =some c→vs[j]? =some u→R w L φL AL c u) (ht:aR es x L=some (y,L1)) (hw:az y H=(a,H1)) (hk:fR AL AH y):
 ∃ φ1,MG w L φL AL G φ AH L1 φ1 H.bs.length H1.bs.length∧a.cells.length=x.cells.length∧ ∀(j:Nat) (c:AV) (u:Value),a.cells[j]? =some c→vs[j]? =some u→R w G φ1 AH c u:=by
 by_cases bU: ∃cs,x= .agg cs
 ·obtain ⟨cs,rfl⟩:=bU;have cV: ∃aW,ck es cs L=some (aW,L1)∧y= .agg aW:=by
   match es,ht with
   |[],ht=>
    simp only [aR] at ht;split at ht
    ·rename_i aW L' hc
     simp only [Option.some.injEq,Prod.mk.injEq] at ht;obtain ⟨rfl,rfl⟩:=ht;exact ⟨aW,hc,rfl⟩
    ·simp at ht
   |[e],ht=>
    simp only [aR] at ht;split at ht
    ·rename_i aW L' hc
     simp only [Option.some.injEq,Prod.mk.injEq] at ht;obtain ⟨rfl,rfl⟩:=ht;exact ⟨aW,hc,rfl⟩
    ·simp at ht
   |e::e' ::es,ht=>
    simp only [aR] at ht;split at ht
    ·rename_i aW L' hc
     simp only [Option.some.injEq,Prod.mk.injEq] at ht;obtain ⟨rfl,rfl⟩:=ht;exact ⟨aW,hc,rfl⟩
    ·simp at ht
  obtain ⟨aW,hc,rfl⟩:=cV;simp only [az,Prod.mk.injEq] at hw;obtain ⟨rfl,rfl⟩:=hw;have bC:dL AL AH aW:=by
   rcases hk with h|h
   ·exact .inl h
   ·exact .inr (by simpa [cc] using h)
  exact oV es cs vs L φL AL H G φ AH aW L1 _ _ hd hh hl hx hc rfl bC
 ·have dp: ∀cs,x≠ .agg cs:=fun cs h=>bU ⟨cs,h⟩
  match es,ht with
  |[e],ht=>
   have cV:aP e x L=some (y,L1):=by
    cases x<;>first|(simpa only [aR] using ht)|exact absurd rfl (dp _)
   by_cases hu:x= .undef
   ·subst hu;have fH:vs=[]:=List.eq_nil_of_length_eq_zero (by simpa [AV.cells] using hl.symm)
    subst fH;obtain ⟨φ1,m,_,_,h4⟩:=mg e .undef undef L φL AL H G φ AH y L1 a H1 hd hh (.fr _ _ (.undef _)) cV hw hk
    exact ⟨φ1,m,by rw [h4 rfl],by simp⟩
   ·have df:=iV hu dp;rw [df] at hl;obtain ⟨v,rfl⟩: ∃v,vs=[v]:=by
     match vs,hl with
     |[v],_=>exact ⟨v,rfl⟩
    obtain ⟨φ1,m,h2,h3,_⟩:=mg e x v L φL AL H G φ AH y L1 a H1 hd hh (hx 0 x v (by rw [df];rfl) rfl) cV hw hk
    refine ⟨φ1,m,by rw [h3 hu,df];rfl,fun j c u hj aQ=> ?_⟩
    rw [h3 hu] at hj;cases j with
    |zero=>simp at hj aQ;subst hj;subst aQ;exact h2
    |succ j=>simp at hj
  |[],ht=>cases x<;>first|(simp [aR] at ht;done)|exact absurd rfl (dp _)
  |_::_::_,ht=>cases x<;>first|(simp [aR] at ht;done)|exact absurd rfl (dp _)
 termination_by (SizeOf.sizeOf es,1)
theorem oV (es:List Sh) (cs:List AV) (vs:List Value) (L:J) (φL:ag) (AL:ah) (H G:J) (φ :ag) (AH:ah) (ys:List AV) (L1:J) (as:List AV) (H1:J) (hd:bX w L φL AL G φ AH) (hh:GH G φ H H1) (hl:cs.length=vs.length)
 (hx: ∀(j:Nat) (c:AV) (u:Value),cs[j]? =some c→vs[j]? =some u→R w L φL AL c u) (ht:ck es cs L=some (ys,L1)) (hw:aC ys H=(as,H1)) (hk:dL AL AH ys):
 ∃ φ1,MG w L φL AL G φ AH L1 φ1 H.bs.length H1.bs.length∧as.length=cs.length∧ ∀(j:Nat) (c:AV) (u:Value),as[j]? =some c→vs[j]? =some u→R w G φ1 AH c u:=by
 match es,cs,ht with
 |[],[],ht=>
  simp only [ck,Option.some.injEq,Prod.mk.injEq] at ht;obtain ⟨rfl,rfl⟩:=ht;simp only [aC,Prod.mk.injEq] at hw;obtain ⟨rfl,rfl⟩:=hw;exact ⟨φ,.refl hd _,rfl,by simp⟩
 |e::es,x::cs,ht=>
  simp only [ck] at ht;split at ht
  ·rename_i y L' h1
   split at ht
   ·rename_i aU c6 h2
    simp only [Option.some.injEq,Prod.mk.injEq] at ht;obtain ⟨rfl,rfl⟩:=ht;simp only [aC,Prod.mk.injEq] at hw;obtain ⟨rfl,rfl⟩:=hw;obtain ⟨k1,k2⟩:=hk.cons
    match vs,hl with
    |v::vs,hl=>
     obtain ⟨φ1,m1,r1,_,_⟩:=mg e x v L φL AL H G φ AH y L' _ _ hd (hh.fst (iz _ _)) (hx 0 x v rfl rfl) h1 rfl k1
     obtain ⟨a7,m2,l2,r2⟩:=oV es cs vs L' (aD φL L') AL _ G φ1 AH aU c6 _ _ m1.bm (hh.snd m1) (by simpa using hl) (fun j c u hj hu=>(hx (j+1) c u hj hu).mono (cU m1.less)) h2 rfl k2
     refine ⟨a7,m1.trans m2,by simp [l2],fun j c u hj hu=> ?_⟩
     cases j with
     |zero=>simp at hj hu;subst hj;subst hu;exact r1.mono m2.eh
     |succ j=>exact r2 j c u hj hu
   ·simp at ht
  ·simp at ht
 |[],_::_,ht=>simp [ck] at ht
 |_::_,[],ht=>simp [ck] at ht
 termination_by (SizeOf.sizeOf es,0)
end
end bm
end Go.VS
namespace Go.VS
section bm
variable {w:World} {AL AH:ah}
theorem yz {es:List Sh} {x:AV} {v:Value} {L:J} {φL:ag} {H G:J} {φ :ag} {y:AV} {L1:J} {a:AV} {H1:J} (hd:bX w L φL AL G φ AH) (hh:GH G φ H H1) (hx:R w L φL AL x v)
 (ht:aR es x L=some (y,L1)) (hw:az y H=(a,H1)) (hk:fR AL AH y): ∃ φ1,MG w L φL AL G φ AH L1 φ1 H.bs.length H1.bs.length∧R w G φ1 AH a v:=by
 by_cases bU: ∃cs,x= .agg cs
 ·obtain ⟨cs,rfl⟩:=bU;obtain ⟨aW,hc,rfl⟩:=kH ht;simp only [az,Prod.mk.injEq] at hw;obtain ⟨rfl,rfl⟩:=hw;have bC:dL AL AH aW:=by
   rcases hk with h|h
   ·exact .inl h
   ·exact .inr (by simpa [cc] using h)
  obtain ⟨vs,rfl,hl,ho,hp⟩:=hx.fI;obtain ⟨φ1,m,l1,r1⟩:=oV es cs vs.toList L φL AL H G φ AH aW L1 _ _ hd hh (by simpa using hl) (fun j c u hj hu=>hp j c u hj (by simpa using hu)) hc rfl bC
  exact ⟨φ1,m,.agg _ _ (by rw [l1,hl]) ho fun i x v hx hv=>r1 i x v hx (by simpa using hv)⟩
 ·obtain ⟨e,rfl,cV⟩:=iY (fun cs h=>bU ⟨cs,h⟩) ht;obtain ⟨φ1,m,r,_⟩:=mg e x v L φL AL H G φ AH y L1 a H1 hd hh hx cV hw hk
  exact ⟨φ1,m,r⟩
theorem rA: ∀(sh:List (List Sh)) (rs:List AV) (us:List Value) (L:J) (φL:ag) (H G:J) (φ :ag) (ys:List AV) (L1:J),bX w L φL AL G φ AH→GH G φ H (aC ys H).2→rs.length=us.length→
 (∀(i:Nat) (x:AV) (u:Value),rs[i]? =some x→us[i]? =some u→R w L φL AL x u)→c9 sh rs L=some (ys,L1)→dL AL AH ys→
 ∃ φ1,MG w L φL AL G φ AH L1 φ1 H.bs.length (aC ys H).2.bs.length∧(aC ys H).1.length=us.length∧ ∀(i:Nat) (x:AV) (u:Value),(aC ys H).1[i]? =some x→us[i]? =some u→R w G φ1 AH x u
 |sh,[],us,L,φL,H,G,φ,ys,L1,hd,hh,hl,hr,ht,hk=>by
  simp only [c9,Option.some.injEq,Prod.mk.injEq] at ht;obtain ⟨rfl,rfl⟩:=ht;exact ⟨φ,.refl hd _,hl,by simp [aC]⟩
 |sh,x::rs,u::us,L,φL,H,G,φ,ys,L1,hd,hh,hl,hr,ht,hk=>by
  simp only [c9] at ht;split at ht
  rotate_left
  ·simp at ht
  rename_i y L' h1
  split at ht
  rotate_left
  ·simp at ht
  rename_i aU c6 h2
  simp only [Option.some.injEq,Prod.mk.injEq] at ht;obtain ⟨rfl,rfl⟩:=ht;obtain ⟨k1,k2⟩:=hk.cons;obtain ⟨φ1,m1,r1⟩:=yz (y:=y) (H:=H) hd (hh.fst (H1:=(az y H).2) (iz aU (az y H).2)) (hr 0 x u rfl rfl) h1 rfl k1
  obtain ⟨a7,m2,l2,r2⟩:=rA sh.tail rs us L' (aD φL L') (az y H).2 G φ1 aU c6 m1.bm (hh.snd m1) (by simpa using hl) (fun i x u hx hu=>(hr (i+1) x u hx hu).mono (cU m1.less)) h2 k2
  refine ⟨a7,m1.trans m2,by simp [aC,l2],fun i x' u' hx hu=> ?_⟩
  cases i with
  |zero=>simp [aC] at hx hu;subst hx;subst hu;exact r1.mono m2.eh
  |succ i=>simp only [aC,List.getElem?_cons_succ] at hx hu;exact r2 i x' u' hx hu
 |sh,x::rs,[],L,φL,H,G,φ,ys,L1,hd,hh,hl,hr,ht,hk=>by simp at hl
end bm
theorem mh {H G:J} (h:a4 H G): ∀(n:Nat) (x y:AV),aL n H x=some y→aL n G x=some y
 |0,x,y,hs=>by simp [aL] at hs
 |n+1,x,y,hs=>by
  have hm: ∀(xs ys:List AV),xs.mapM (aL n H)=some ys→xs.mapM (aL n G)=some ys:=by
   intro xs;induction xs with
   |nil=>intro ys h;simpa using h
   |cons z xs ih=>
    intro ys hy;simp only [List.mapM_cons,Option.bind_eq_bind,Option.bind_eq_some_iff,Option.pure_def,Option.some.injEq] at hy⊢;obtain ⟨a,h1,b,h2,h3⟩:=hy;exact ⟨a,mh h n z a h1,b,ih b h2,h3⟩
  cases x with
  |agg cs=>
   simp only [aL,Option.map_eq_some_iff] at hs⊢;obtain ⟨ys,h1,h2⟩:=hs;exact ⟨ys,hm _ _ h1,h2⟩
  |fn f cs=>
   simp only [aL,Option.map_eq_some_iff] at hs⊢;obtain ⟨ys,h1,h2⟩:=hs;exact ⟨ys,hm _ _ h1,h2⟩
  |ref id ad off len=>
   simp only [aL] at hs⊢;split at hs
   ·rename_i b hb;rw [h.ap hb];simp only;split at hs
    ·rename_i hle;rw [if_pos hle];simp only [Option.map_eq_some_iff] at hs⊢;obtain ⟨ys,h1,h2⟩:=hs;exact ⟨ys,hm _ _ h1,h2⟩
    ·simp at hs
   ·simp at hs
  |ptr id ad idx off=>
   simp only [aL] at hs⊢;split at hs
   ·rename_i b hb;rw [h.ap hb];simp only;split at hs
    ·rename_i z hz;simp only [Option.map_eq_some_iff] at hs⊢;obtain ⟨y',h1,h2⟩:=hs;exact ⟨y',mh h n z y' h1,h2⟩
    ·simp at hs
   ·simp at hs
  |_=>first|(simpa only [aL] using hs)|(simp [aL] at hs;done)
theorem jT {H G:J} (h:a4 H G): ∀(ms:List Mode) (as ys:List AV) (b:Bool),b_ ms as H=some (ys,b)→b_ ms as G=some (ys,b)
 |ms,[],ys,b,hp=>by cases ms<;>simpa only [b_] using hp
 |[],a::as,ys,b,hp=>by
  simp only [b_] at hp⊢;split at hp
  ·rename_i y hy;split at hp
   ·rename_i aU b' cu
    rw [mh h 8 a y hy,jT h [] as aU b' cu]
    exact hp
   ·simp at hp
  ·simp at hp
 |m::ms,a::as,ys,b,hp=>by
  have other:(match b_ ms as H with|some (ys,b)=>some (a::ys,b)|none=>none)=some (ys,b)→(match b_ ms as G with|some (ys,b)=>some (a::ys,b)|none=>none)=some (ys,b):=by
   intro hp;split at hp
   ·rename_i aU b' cu
    rw [jT h ms as aU b' cu]
    exact hp
   ·simp at hp
  cases m with
  |val=>
   simp only [b_] at hp⊢;split at hp
   ·rename_i y hy;split at hp
    ·rename_i aU b' cu
     rw [mh h 8 a y hy,jT h ms as aU b' cu]
     exact hp
    ·simp at hp
   ·simp at hp
  |eH=>
   simp only [b_] at hp⊢;split at hp
   ·rename_i aU b' cu
    rw [jT h ms as aU b' cu]
    exact hp
   ·simp at hp
  |io=>
   simp only [b_] at hp⊢;split at hp
   ·rename_i aU b' cu
    rw [jT h ms as aU b' cu]
    exact hp
   ·simp at hp
def yA (w:World) (G:J) (φ :ag) (A:ah) (H H' :J) (x:AV) (e:Ending) (w' :World):Prop:=
 match e with
 | .returned v' => ∃ak A',Out w G φ A w' G ak A' ∧R w' G ak A' x v' ∧ ∀id loc,ak id=some loc→ φ id=some loc∨(H.bs.length≤id∧id<H'.bs.length)
 |_=>False
theorem yB {P:Program} {C:aH} {X:bD} (hX: ∀f ys H K,X f ys H K→cW P f ys H K) {w:World} {G:J} {φ :ag} {A:ah} (ae:St w G φ A) {H H' :J} (hg:a4 H G) (hh:GH G φ H H') {f:FuncId} {as:List AV} {us:Array Value} (hl:as.length=us.size)
 (hr: ∀(i:Nat) (x:AV) (u:Value),as[i]? =some x→us[i]? =some u→R w G φ A x u) {th:Bool} {x:AV} (h:dl X C f as th H (fun v1 H1=>v1=x∧H1=H')):jO P f∧Calls P f us w (yA w G φ A H H' x):=by
 unfold dl at h;split at h
 ·exact h.elim
 rename_i ys bT hy;obtain ⟨y,kK,gY,hp⟩:=h;have hm:l8 []:=fun m hm=>by simp at hm
 have oF:bX w G φ A ⟨0,[]⟩ (fun _=>none) A:=by
  refine ⟨ae,⟨fun i i' c b b' h=>by simp at h,fun c hc=> ?_,ae.cb,fun id loc h=>by simp at h⟩,fun c _ hc=> ?_,ae.own⟩
  ·obtain ⟨i,b,h⟩:=hc;simp at h
  ·obtain ⟨i,b,h⟩:=hc;simp at h
 have oG:ca [] ys ⟨0,[]⟩=(ys,⟨0,[]⟩):=oE _ _ _ hy _;obtain ⟨aB,m,cg,dM⟩:=lZ as [] [] us.toList G φ as G ys bT ⟨0,[]⟩ (fun _=>none) ys ⟨0,[]⟩ oF (by simpa using hl) (fun i x u hx hu=>hr i x u hx (by simpa using hu)) (oC _ _ _ _ hm) (jT hg _ _ _ _ hy) oG
 have bj: ∀c,¬Ow aB c:=fun c hc=>by
  rcases m.oh c hc with ⟨i,b,h⟩|⟨h1,h2⟩
  ·simp at h
  ·rw [jP ae] at h2;exact h2 h1
 let A0:ah:=if bT=true then Ow aB else A
 have i_: ∀c,A0 c→A c:=by
  intro c hc;simp only [A0] at hc;split at hc
  ·exact absurd hc (bj c)
  ·exact hc
 have oH:bT=true→ ∀c,A0 c→fq (aD φ G) A c:=by
  intro ax c hc;simp only [A0,ax,if_true] at hc;exact absurd hc (bj c)
 have cM:St w ⟨0,[]⟩ aB A0:=m.bm.sh.shrink i_ (fun c hc=>absurd hc (bj c));have eS:ys.length=us.size:=by simpa using cg.1
 refine ⟨(hX _ _ _ _ kK).1,((hX _ _ _ _ kK).2 w A0 aB us cM eS (fun i x u hx hu=>cg.2 A0 i_ oH i x u hx (by simpa using hu))).mono fun e w' he=> ?_⟩
 cases e with
 |panicked c=>exact he.elim
 |outgrown=>exact he.elim
 |returned v' =>
 obtain ⟨x0,L,ak,A',ho,oI,rs,gD,L2,rfl,kL,rfl⟩:=he;obtain ⟨cx,rfl,kM,gW⟩:=q0 oI
 let AH:ah:=if bT=true then fun c=>A c∨(A' c∧w.heap.size≤c) else A'
 have ja: ∀c,Ow ak c→w.heap.size≤c:=fun c hc=>(ho.post.own c hc).resolve_left (bj c)
 have ha:oo w A aB w' ak AH:=by
  refine ⟨fun c hc hn=> ?_,fun c hc=> ?_,fun c hc=> ?_,fun c arr T fr hc hn=> ?_⟩
  ·simp only [AH];split
   ·exact .inl hc
   ·rename_i ax;refine ho.bK c ?_ hn;simp only [A0,ax];exact hc
  ·simp only [AH];split
   ·exact .inr ⟨ho.st.own c hc,ja c hc⟩
   ·exact ho.st.own c hc
  ·simp only [AH] at hc;split at hc
   ·rcases hc with h|⟨h,_⟩
    ·exact Nat.lt_of_lt_of_le (ae.cb c h) ho.post.size
    ·exact ho.st.cb c h
   ·exact ho.st.cb c hc
  ·obtain ⟨h1,h2⟩:=ho.bW.fz c arr T fr hc (fun h=>hn (i_ c h));refine ⟨h1,?_⟩;simp only [AH];split
   ·rintro (h|⟨_,h⟩)
    ·exact hn h
    ·have:c<w.heap.size:=by
      rcases Nat.lt_or_ge c w.heap.size with h' |h'
      ·exact h'
      ·rw [Array.getElem?_eq_none h'] at hc;simp at hc
     omega
   ·exact h2
 obtain ⟨D,E⟩:=qQ (ls:=[]) (Lm:=L) ae m (by rw [hl,eS]) dM ho ha (by simp [ff])
 rw [oD _ _ _ _ hm,jP ae] at D E;have oJ:dL A' AH gD:=by
  cases ax:bT with
  |false=>exact .inl fun c h=>by simpa [AH,ax] using h
  |true=>
   rcases gY with h|h
   ·rw [ax] at h;simp at h
   ·rw [qZ] at h;exact .inr h
 have jb: ∀(i:Nat) (x:AV) (u:Value),rs[i]? =some x→cx[i]? =some u→R w' L (aD ak L) A' x u:=fun i x u hx hu=>by
  rw [jP ho.st];exact gW i x u hx hu
 have fj: ∀{cN:ag},(∀c,Ow cN c→Ow φ c∨Ow ak c)→fg w φ w' cN:=fun hq=>
  ⟨ho.post.os,ho.post.tape,ho.post.output,ho.post.size,fun c hc _=>ho.post.kept c hc (bj c),ho.post.a_,fun c hc=>by
   rcases hq c hc with h|h
   ·exact .inl h
   ·exact .inr (ja c h)⟩
 have jc: ∀c,A c→ ¬Ow φ c→AH c:=fun c hc _=>ha.own c hc (bj c);have c5: ∀c,Ow φ c→a_ w' c=a_ w c:=fun c hc=>ho.post.a_ c (Ow.lt ae hc)
 cases fP:(th||bT) with
 |true=>
  rw [fP] at hp;simp only [if_true,qX] at hp;obtain ⟨rfl,rfl⟩:=hp;obtain ⟨cN,m3,l3,r3⟩:=rA _ rs cx L _ H G φ gD L2 D hh kM jb kL oJ
  refine ⟨cN,AH,⟨m3.bm.sh,fj fun c hc=> ?_,E.trans m3.eh c5,jc⟩,oB l3 r3,m3.new⟩;rcases m3.oh c hc with h|⟨h,_⟩
  ·exact .inl h
  ·exact .inr (bF h)
 |false=>
  rw [fP] at hp;simp only [Bool.false_eq_true,if_false,qY] at hp;obtain ⟨rfl,rfl⟩:=hp;simp only [Bool.or_eq_false_iff] at fP;have oK:AH=A' :=by simp [AH,fP.2]
  rw [oK] at D E jc
  let A2:ah:=gone (aD ak L) A' L2
  obtain ⟨l3,r3⟩:=oA (A' :=A2) _ rs cx L (aD ak L) gD L2 D.sl kM jb kL (fun c h=>h)
  have oL: ∀c,Ow φ c→A2 c:=fun c hc=>⟨D.sh.own c hc,fun h=>absurd hc (D.b7 c h)⟩;have oM:bM w G φ A w' G φ A2:=⟨fun c arr T fr hc hn=>⟨(E.fz c arr T fr hc hn).1,fun h2=>(E.fz c arr T fr hc hn).2 h2.1⟩,E.st,E.ids,E.sz⟩
  refine ⟨φ,A2,⟨D.sh.shrink (fun c h=>h.1) oL,fj fun c hc=> .inl hc,oM,fun c hc hn=>⟨jc c hc hn,fun h=> ?_⟩⟩,.fr _ _ (qW l3 r3),fun id loc h=> .inl h⟩;have:=ja c (bF h)
  have:=ae.cb c hc;omega
end Go.VS
namespace Go.VS
def yC (H H1:J):Prop:= ∀id b,H1.get id=some b→b.ad<H.st→H.get id=some b
def QG (H H1:J):Prop:=fv H H1∧yC H H1
theorem QG.refl (H:J):QG H H:=⟨.refl _,fun _ _ h _=>h⟩
theorem QG.trans {H H1 H2:J} (h:QG H H1) (k:QG H1 H2):QG H H2:=
 ⟨h.1.trans k.1,fun id b hb hv=>h.2 id b (k.2 id b hb (Nat.lt_of_lt_of_le hv h.1.1.2)) hv⟩
theorem QG.of {H H' :J} (h:H' =H∨ ∃sz fx el,H' =H.new sz fx el):QG H H' :=by
 obtain ⟨h1,h2,h3⟩:=J.iS h;exact ⟨⟨h1,h3⟩,h2⟩
theorem QG.new (H:J) (sz:Nat) (fx:Bool) (el:List AV):QG H (H.new sz fx el):= .of (.inr ⟨_,_,_,rfl⟩)
mutual
theorem oW: ∀(y:AV) (H:J),QG H (az y H).2
 | .own sz xs,H=>by simp only [az];exact (mj xs H).trans (.new _ _ _ _)
 | .dh sz x,H=>by simp only [az];exact (oW x H).trans (.new _ _ _ _)
 | .agg xs,H=>by simp only [az];exact mj xs H
 | .aE xs,H=>by simp only [az];exact mj xs H
 | .undef,H=> .refl _
 | .int _ _,H=> .refl _
 | .bool _,H=> .refl _
 | .str _,H=> .refl _
 | .nil,H=> .refl _
 | .e0,H=> .refl _
 | .fz _,H=> .refl _
 | .ref _ _ _ _,H=> .refl _
 | .ptr _ _ _ _,H=> .refl _
 | .fe _ _,H=> .refl _
 | .fn _ _,H=> .refl _
 | .ci _,H=> .refl _
 | .dr,H=> .refl _
theorem mj: ∀(ys:List AV) (H:J),QG H (aC ys H).2
 |[],H=> .refl _
 |y::ys,H=>by simp only [aC];exact (oW y H).trans (mj ys _)
end
section ops
variable {P:Program} {E:aM} (hE: ∀t ti,E t=some ti→aV P t ti)
variable {w:World} {G:J} {φ :ag} {A:ah}
theorem yD {b:Builtin} {tys:Array TypeId} {args:List AV} {H H' :J} {z:AV} (hq:ew b args=true) (h:cA E b tys args H=some (z,H')):QG H H' :=by
 have yE: ∀{te:TI} {s x:AV},s= .nil∨s= .e0→d_ te s x H=some (z,H')→QG H H' :=by
  intro te s x hs h;refine .of ?_;rcases hs with rfl|rfl;all_goals
   simp only [d_] at h;repeat' split at h
   all_goals first
    |(simp at h;done)
    |(simp only [Option.some.injEq,Prod.mk.injEq] at h;first|exact .inl h.2.symm|exact .inr ⟨_,_,_,h.2.symm⟩)
 unfold cA at h;split at h
 ·repeat' split at h
  all_goals first
   |(simp at h;done)
   |(simp only [Option.some.injEq,Prod.mk.injEq] at h;rw [←h.2];exact .refl _)
 ·rename_i s x;have hs:s= .nil∨s= .e0:=by
   cases s<;>first|exact .inl rfl|exact .inr rfl|(simp [ew] at hq)
  split at h
  ·split at h
   ·split at h
    ·split at h
     ·unfold jv at h;refine .of ?_;repeat' split at h
      all_goals first
       |(simp at h;done)
       |(simp only [Option.some.injEq,Prod.mk.injEq] at h;first|exact .inl h.2.symm|exact .inr ⟨_,_,_,h.2.symm⟩)
     ·simp at h
    ·exact yE hs h
   ·simp at h
  ·simp at h
 ·simp [ew] at hq
 ·simp [ew] at hq
 ·split at h
  ·simp only [Option.some.injEq,Prod.mk.injEq] at h;rw [←h.2];exact .refl _
  ·simp at h
 ·split at h
  ·simp only [Option.some.injEq,Prod.mk.injEq] at h;rw [←h.2];exact .refl _
  ·simp at h
 ·split at h
  ·split at h
   ·simp only [Option.some.injEq,Prod.mk.injEq] at h;rw [←h.2];exact .refl _
   ·simp at h
  ·simp at h
 ·simp at h
include hE in
theorem yF (ae:St w G φ A) {H H' :J} (hX:a4 H G) (rB:a4 H' G) (bz:H.bs.length<H'.bs.length→ φ H.bs.length=none) {b:Builtin} {tys:Array TypeId} {ty:TypeId} {consts:Array Bool} {args:List AV} {vs:Array Value} {z:AV} (hq:ew b args=true) (hl:args.length=vs.size)
 (aT: ∀(i:Nat) (a:AV) (u:Value),args[i]? =some a→vs[i]? =some u→R w G φ A a u) (h:cA E b tys args H=some (z,H')):
 a9 w G φ A H H' ((builtin b tys ty consts vs).run P w) z:=by
 unfold cA at h;split at h
 ·rename_i x;obtain ⟨a,rfl⟩: ∃a,vs= #[a]:=by
   have h1:vs.size=1:=hl.symm;exact ⟨vs[0],by apply Array.ext;simp [h1];intro i h1 h2;simp at h2;subst h2;rfl⟩
  have hx:=aT 0 x a rfl rfl;split at h
  ·rename_i ti n ht hn;obtain ⟨t,h0,ht⟩:=Option.bind_eq_some_iff.1 ht;have key: ∀{q:AV×J},some q=some (z,H')→q=(AV.int .i64 n,H)→((∃e,ti.au= .sl e∧ ∀s,x≠ .str s)∨(ti.au= .str∧ ∃s,x= .str s))→a9 w G φ A H H' ((builtin .len tys ty consts #[a]).run P w) z:=by
    intro q hq n1 hu;subst n1;simp only [Option.some.injEq,Prod.mk.injEq] at hq;obtain ⟨rfl,rfl⟩:=hq;have:=qx (tys:=tys) (ty:=ty) hE h0 hx hX hn ht hu;exact a9.val ae (by simp [builtin,this]) (.fr _ _ (.int _ _))
   split at h
   ·rename_i s hu;exact key h rfl (.inr ⟨hu,s,rfl⟩)
   ·simp at h
   ·rename_i e hu aO;exact key h rfl (.inl ⟨e,hu,fun s hs=>aO s hs⟩)
   ·simp at h
  ·simp at h
 ·rename_i s x;obtain ⟨a,b,rfl⟩: ∃a b,vs= #[a,b]:=by
   have h1:vs.size=2:=hl.symm;exact ⟨vs[0],vs[1],by apply Array.ext;simp [h1];intro i h1 h2;simp at h2;rcases i with _|_|i;rfl;rfl;omega⟩
  have hs:=aT 0 s a rfl rfl;have hx:=aT 1 x b rfl rfl;have eb:s= .nil∨s= .e0:=by
   cases s<;>first|exact .inl rfl|exact .inr rfl|(simp [ew] at hq)
  split at h
  ·rename_i t h0;split at h
   ·rename_i te tx bf cz;obtain ⟨t2,h1,cz⟩:=Option.bind_eq_some_iff.1 cz;split at h
    ·rename_i k hit;split at h
     ·exact ql hE ae rB bz h0 h1 bf cz hit hs hx h
     ·simp at h
    ·rename_i aO;exact nQ hE ae hX rB bz h0 h1 bf cz (fun k hk=>aO k hk) hs hx eb h
   ·simp at h
  ·simp at h
 ·simp [ew] at hq
 ·simp [ew] at hq
 ·split at h
  ·rename_i v hv;simp only [Option.some.injEq,Prod.mk.injEq] at h;obtain ⟨rfl,rfl⟩:=h;cases args with
   |nil=>simp [jw] at hv
   |cons x rest=>
    obtain ⟨a,us,dq⟩: ∃a us,vs.toList=a::us:=by
     cases eS:vs.toList with
     |nil=>have:=congrArg List.length eS;simp at this;simp [this] at hl
     |cons a us=>exact ⟨a,us,rfl⟩
    have hlen:rest.length=us.length:=by have:=congrArg List.length dq;simp at this;simp at hl;omega
    have bB: ∀(i:Nat) (u:Value),(a::us)[i]? =some u→vs[i]? =some u:=fun i u hu=>by rw [←dq] at hu;simpa using hu
    obtain ⟨u,hu,hz⟩:=kF (P:=P) (op:=Builtin.min2) (f:=fun a b=>match a,b with| .int k x,.int _ y=>some (.int k (if y<x then y else x))|_,_=>none) (fun a b x y z ha hb hf=>by
     split at hf
     ·have e1:=ha.cy;have e2:=hb.cy;subst e1;subst e2;simp only [Option.some.injEq] at hf;subst hf;exact ⟨_,by simp [Builtin.min2],.fr _ _ (.int _ _)⟩
     ·simp at hf) rest us x a v hlen (fun i p q hp hq=>aT (i+1) p q hp (bB (i+1) q hq)) (aT 0 x a rfl (bB 0 a rfl)) hv
    exact a9.val ae (by simp [builtin,Builtin.min_,dq,hu]) hz
  ·simp at h
 ·split at h
  ·rename_i v hv;simp only [Option.some.injEq,Prod.mk.injEq] at h;obtain ⟨rfl,rfl⟩:=h;cases args with
   |nil=>simp [jx] at hv
   |cons x rest=>
    obtain ⟨a,us,dq⟩: ∃a us,vs.toList=a::us:=by
     cases eS:vs.toList with
     |nil=>have:=congrArg List.length eS;simp at this;simp [this] at hl
     |cons a us=>exact ⟨a,us,rfl⟩
    have hlen:rest.length=us.length:=by have:=congrArg List.length dq;simp at this;simp at hl;omega
    have bB: ∀(i:Nat) (u:Value),(a::us)[i]? =some u→vs[i]? =some u:=fun i u hu=>by rw [←dq] at hu;simpa using hu
    obtain ⟨u,hu,hz⟩:=kF (P:=P) (op:=Builtin.max2) (f:=fun a b=>match a,b with| .int k x,.int _ y=>some (.int k (if y>x then y else x))|_,_=>none) (fun a b x y z ha hb hf=>by
     split at hf
     ·have e1:=ha.cy;have e2:=hb.cy;subst e1;subst e2;simp only [Option.some.injEq] at hf;subst hf;exact ⟨_,by simp [Builtin.max2],.fr _ _ (.int _ _)⟩
     ·simp at hf) rest us x a v hlen (fun i p q hp hq=>aT (i+1) p q hp (bB (i+1) q hq)) (aT 0 x a rfl (bB 0 a rfl)) hv
    exact a9.val ae (by simp [builtin,Builtin.max_,dq,hu]) hz
  ·simp at h
 ·obtain ⟨a,rfl⟩: ∃a,vs= #[a]:=by
   have h1:vs.size=1:=hl.symm;exact ⟨vs[0],by apply Array.ext;simp [h1];intro i h1 h2;simp at h2;subst h2;rfl⟩
  have hx:=(aT 0 .nil a rfl rfl).cZ;subst hx;split at h
  ·rename_i ti ht;obtain ⟨t,h0,ht⟩:=Option.bind_eq_some_iff.1 ht;split at h
   ·rename_i e hu;simp only [Option.some.injEq,Prod.mk.injEq] at h;obtain ⟨rfl,rfl⟩:=h;have hc:(Builtin.cap_ tys ty #[.slice none 0 0]).run P w= .ok (.int .i64 0) w:=by
     unfold Builtin.cap_;simp only [h0,List.getElem?_toArray,List.getElem?_cons_zero,Sem.run_bind,(hE _ _ ht).sl w hu,Result.andThen_ok];rfl
    exact a9.val ae (by simp [builtin,hc]) (.fr _ _ (.int _ _))
   ·simp at h
  ·simp at h
 ·simp at h
end ops
section step
variable {P:Program} {C:aH} {X:bD} {w:World} {G:J} {φ :ag} {A:ah}
theorem a9.upon {H H' :J} {r:Result Next} {x:AV} (h:a9 w G φ A H H' r x) {o:Oper} {a:Act} {next:Act→World→Prop} {Q:Exit→Act→World→Prop}
 (hn: ∀v w' ak A',Out w G φ A w' G ak A' →R w' G ak A' x v→(∀id loc,ak id=some loc→ φ id=some loc∨(H.bs.length≤id∧id<H'.bs.length))→next (a.put o.dst v) w'):o.upon P a next Q r:=by
 obtain ⟨n,v,w',ak,A',rfl,hv,hr,ho,hi⟩:=h;rcases hv with rfl|⟨rfl,rfl⟩
 ·exact hn v w' ak A' ho hr hi
 ·exact hn _ w' ak A' ho hr hi
theorem kR (hE: ∀t ti,C.E t=some ti→aV P t ti) (hX: ∀f ys H K,X f ys H K→cW P f ys H K) (ae:St w G φ A) {o:Oper} {s:aj} {a:Act} (hs: ∀x∈o.op.operands,R w G φ A (ev s x) (a.eval x)) {th:Bool} {H H' :J} {x:AV} (hg:a4 H G) (hh:GH G φ H H')
 (h:wpOp X C true th o s H (fun v1 H1=>v1=x∧H1=H')) {next:Act→World→Prop} {Q:Exit→Act→World→Prop}
 (hn: ∀v w' ak A',Out w G φ A w' G ak A' →R w' G ak A' x v→(∀id loc,ak id=some loc→ φ id=some loc∨(H.bs.length≤id∧id<H'.bs.length))→next (a.put o.dst v) w'):o.wp P a w next Q:=by
 have bz:H.bs.length<H'.bs.length→ φ H.bs.length=none:=fun ax=>hh.none _ (Nat.le_refl _) ax;have kN:dC o.op=true→(match aK C.E o.op s H with|some (v,H1)=>v=x∧H1=H' |none=>False)→o.wp P a w next Q:=by
  intro hq je;split at je
  ·rename_i v H1 he;obtain ⟨rfl,rfl⟩:=je;exact (nS hE ae hg hh.ext bz hq hs he).upon hn
  ·exact je.elim
 unfold wpOp at h;split at h
 ·rename_i b args tys bn;obtain ⟨hq,h⟩:=h;have hq:=hq rfl;split at h
  ·rename_i v H1 he;obtain ⟨rfl,rfl⟩:=h;obtain ⟨consts,cI⟩:=q9 (P:=P) (w:=w) (ρ :=a.eval) bn;have:=yF hE ae hg hh.ext bz (ty:=o.type) (consts:=consts) (vs:=args.map a.eval) hq (by simp) (fun i x u hx hu=>by
    simp only [List.getElem?_map,Option.map_eq_some_iff] at hx;obtain ⟨y,hy,rfl⟩:=hx;simp only [Array.getElem?_map,Option.map_eq_some_iff] at hu;obtain ⟨y',ef,rfl⟩:=hu;have:y' =y:=by simp at hy;rw [hy] at ef;simpa using ef.symm
    subst this;exact hs y' (by rw [bn];simp only [Op.operands,Call.operands];simp [Array.mem_of_getElem? ef])) he
   rw [←cI] at this;exact this.upon hn
  ·exact h.elim
 ·rename_i y args tys bn;split at h
  ·rename_i g bR cT;simp only [if_true] at h;have hx:=hs y (by rw [bn];simp [Op.operands,Call.operands])
   rw [cT] at hx;obtain ⟨vs,hv,hl,hp⟩:=hx.ke;have hc:=yB hX ae hg hh (us:=args.map a.eval ++ vs) (by simp [hl]) (fun i y u hy hu=>by
    rcases Nat.lt_or_ge i args.size with hi|hi
    ·rw [List.getElem?_append_left (by simpa using hi)] at hy
     rw [Array.getElem?_append_left (by simpa using hi)] at hu
     simp only [List.getElem?_map,Option.map_eq_some_iff] at hy;obtain ⟨z,hz,rfl⟩:=hy;simp only [Array.getElem?_map,Option.map_eq_some_iff] at hu;obtain ⟨z',dF,rfl⟩:=hu;have:z' =z:=by simp at hz;rw [hz] at dF;simpa using dF.symm
     subst this;exact hs z' (by rw [bn];simp only [Op.operands,Call.operands];simp [Array.mem_of_getElem? dF])
    ·rw [List.getElem?_append_right (by simpa using hi)] at hy
     rw [Array.getElem?_append_right (by simpa using hi)] at hu
     exact hp _ y u (by simpa using hy) (by simpa using hu)) h
   unfold Oper.wp;rw [q8 bn hv hc.1,Oper.upon_enter];refine hc.2.mono fun e w' he=> ?_
   cases e with
   |returned v' =>
    obtain ⟨ak,A',h1,h2,h3⟩:=he;exact hn v' w' ak A' h1 h2 h3
   |panicked c=>exact he.elim
   |outgrown=>exact he.elim
  ·exact h.elim
 ·exact kN (h.1 rfl) h.2
theorem yG {o:Oper} {s:aj} {th:Bool} {H H' :J} {x:AV} (h:wpOp X C true th o s H (fun v1 H1=>v1=x∧H1=H')):QG H H' :=by
 have kN:dC o.op=true→(match aK C.E o.op s H with|some (v,H1)=>v=x∧H1=H' |none=>False)→QG H H' :=by
  intro hq je;split at je
  ·rename_i v H1 he;obtain ⟨rfl,rfl⟩:=je;exact .of (qy hq he)
  ·exact je.elim
 unfold wpOp at h;split at h
 ·obtain ⟨hq,h⟩:=h;split at h
  ·rename_i v H1 he;obtain ⟨rfl,rfl⟩:=h;exact yD (hq rfl) he
  ·exact h.elim
 ·split at h
  ·rename_i g bR cT;simp only [if_true] at h;unfold dl at h;split at h
   ·exact h.elim
   obtain ⟨y,_,_,hp⟩:=h;split at hp
   ·obtain ⟨_,rfl⟩:=hp;exact oW _ _
   ·obtain ⟨_,rfl⟩:=hp;exact .refl _
  ·exact h.elim
 ·exact kN (h.1 rfl) h.2
end step
end Go.VS
namespace Go.VS
section tr
variable {C:aH} {X:bD}
theorem kS (dg:Exact X) {q th:Bool} {o:Oper} {s:aj} {H:J} {K:AV→J→Prop} (h:wpOp X C q th o s H K): ∃v H',wpOp X C q th o s H (fun v1 H1=>v1=v∧H1=H')∧K v H' :=by
 unfold wpOp at h⊢;split at h
 ·rename_i b args tys bn;obtain ⟨hq,h⟩:=h;split at h
  ·rename_i v H' he
   refine ⟨v,H',?_,h⟩;first
    |exact ⟨hq,rfl,rfl⟩
    |(simp only [bn];exact ⟨hq,trivial,trivial⟩)
    |(simp only [bn,he];exact ⟨hq,trivial,trivial⟩)
  ·exact h.elim
 ·rename_i x args tys bn;split at h
  ·rename_i g bR hg;have hQ:dl X C g (args.toList.map (ev s) ++ bR) th H K→ ∃v H',dl X C g (args.toList.map (ev s) ++ bR) th H (fun v1 H1=>v1=v∧H1=H')∧K v H' :=by
    intro h;unfold dl at h⊢;split at h
    ·exact h.elim
    rename_i ys bT hy;obtain ⟨y,h1,h2,h3⟩:=h;split at h3
    ·rename_i ht;refine ⟨_,_,⟨y,h1,h2,?_⟩,h3⟩;simp only [ht,if_true];exact ⟨trivial,trivial⟩
    ·rename_i ht;refine ⟨_,_,⟨y,h1,h2,?_⟩,h3⟩;simp only [ht];exact ⟨trivial,trivial⟩
   have key: ∃v H',(if q then dl X C g (args.toList.map (ev s) ++ bR) th H (fun v1 H1=>v1=v∧H1=H') else X g (args.toList.map (ev s) ++ bR) H (fun v1 H1=>v1=v∧H1=H')∨dl X C g (args.toList.map (ev s) ++ bR) th H (fun v1 H1=>v1=v∧H1=H'))∧K v H' :=by
    cases q with
    |false=>
     simp only [Bool.false_eq_true,if_false] at h⊢;rcases h with h|h
     ·obtain ⟨v,H',h1,h2⟩:=dg _ _ _ _ h;exact ⟨v,H',.inl h1,h2⟩
     ·obtain ⟨v,H',h1,h2⟩:=hQ h;exact ⟨v,H',.inr h1,h2⟩
    |true=>
     simp only [if_true] at h⊢;exact hQ h
   obtain ⟨v,H',k1,k2⟩:=key;refine ⟨v,H',?_,k2⟩;first
    |exact k1
    |(simp only [bn,hg];exact k1)
  ·exact h.elim
 ·rename_i op lH AK;obtain ⟨hq,h⟩:=h;split at h
  ·rename_i v H' he
   refine ⟨v,H',?_,h⟩;exact ⟨hq,rfl,rfl⟩
  ·exact h.elim
theorem ml (C:aH) (ops:Array Oper) (s:aj) (H:J) (K:Prop): ∀(l:List Nat),e9 C ops s H K l→(∀j∈l,jz C ops s H j)∧K
 |[],h=>⟨by simp,h⟩
 |j::js,h=>by
  obtain ⟨h1,h2⟩:=h;obtain ⟨k1,k2⟩:=ml C ops s H K js h2;refine ⟨fun i hi=> ?_,k2⟩;rcases List.mem_cons.1 hi with rfl|hi
  ·exact h1
  ·exact k1 i hi
structure Tr (X:bD) (C:aH) (ops:Array Oper) (q:Nat→Bool) (late:Nat→List Nat) (th:List Nat) (K:aj→J→Prop) (l:List Oper) (k:Nat) (s:Nat→aj) (H:Nat→J) (v:Nat→AV) (act:Nat→Bool):Prop where
 step: ∀i o,l[i]? =some o→s (i+1)=bd (s i) o.dst (v i)∧dm ops o (s i)=some (act i)∧(act i=true→wpOp X C (q (k+i)) (th.contains (k+i)) o (s i) (H i) (fun v1 H1=>v1=v i∧H1=H (i+1)))∧
  (act i=false→v i= .aE []∧H (i+1)=H i)∧ ∀j∈late (k+i),jz C ops (s (i+1)) (H (i+1)) j
 fin:K (s l.length) (H l.length)
theorem rC (dg:Exact X) {ops:Array Oper} {q:Nat→Bool} {late:Nat→List Nat} {th:List Nat} {K:aj→J→Prop}: ∀(l:List Oper) (k:Nat) (s0:aj) (H0:J),cS X C ops q late th K l k s0 H0→
 ∃s H v act,s 0=s0∧H 0=H0∧Tr X C ops q late th K l k s H v act
 |[],k,s0,H0,h=>⟨fun _=>s0,fun _=>H0,fun _=> .undef,fun _=>true,rfl,rfl,⟨by simp,h⟩⟩
 |o::l,k,s0,H0,h=>by
  have key: ∃v0 H1 a0,dm ops o s0=some a0∧(a0=true→wpOp X C (q k) (th.contains k) o s0 H0 (fun v1 H' =>v1=v0∧H' =H1))∧(a0=false→v0= .aE []∧H1=H0)∧(∀j∈late k,jz C ops (bd s0 o.dst v0) H1 j)∧
   cS X C ops q late th K l (k+1) (bd s0 o.dst v0) H1:=by
   simp only [cS] at h;cases hg:o.guard with
   |none=>
    rw [hg] at h;obtain ⟨v,H',h1,h2⟩:=kS dg h;obtain ⟨k1,k2⟩:=ml _ _ _ _ _ _ h2;exact ⟨v,H',true,by simp [dm,hg],fun _=>h1,fun h=>by simp at h,k1,k2⟩
   |some p=>
    rw [hg] at h;obtain ⟨v,H',h1,h2⟩:=h;obtain ⟨k1,k2⟩:=ml _ _ _ _ _ _ h2;split at h1
    ·rename_i b hb;cases b with
     |true=>exact ⟨v,H',true,hb,fun _=>by simpa using h1,fun h=>by simp at h,k1,k2⟩
     |false=>exact ⟨v,H',false,hb,fun h=>by simp at h,fun _=>by simpa using h1,k1,k2⟩
    ·exact h1.elim
  obtain ⟨v0,H1,a0,g1,g2,g3,g4,g5⟩:=key;obtain ⟨s,H,v,act,e1,e2,t⟩:=rC dg l (k+1) _ _ g5;refine ⟨fun i=>match i with|0=>s0|i+1=>s i,fun i=>match i with|0=>H0|i+1=>H i,fun i=>match i with|0=>v0|i+1=>v i,fun i=>match i with|0=>a0|i+1=>act i,rfl,rfl,⟨fun i o' hi=> ?_,t.fin⟩⟩
  cases i with
  |zero=>
   simp only [List.getElem?_cons_zero,Option.some.injEq] at hi;subst hi;simp only [Nat.add_zero,e1,e2];exact ⟨trivial,g1,g2,g3,g4⟩
  |succ i=>
   have:=t.step i o' (by simpa using hi)
   rw [show k+1+i=k+(i+1) by omega] at this
   exact this
end tr
theorem rD (bs:Edge→Bool) (acc:List Nat) (j:Nat): ∀(l:List Edge) (m0:Nat),(l.foldl (fun m e=>if bs e then m|||2^e.on|||acc.getD e.on 0 else m) m0).testBit j=true→m0.testBit j=true∨ ∃e∈l,bs e=true∧(e.on=j∨(acc.getD e.on 0).testBit j=true)
 |[],m0,h=> .inl h
 |e::l,m0,h=>by
  simp only [List.foldl_cons] at h;rcases rD bs acc j l _ h with h|⟨e',h1,h2⟩
  ·split at h
   ·rename_i hb;simp only [Nat.testBit_or,Nat.testBit_two_pow,Bool.or_eq_true,decide_eq_true_eq] at h;rcases h with (h|h)|h
    ·exact .inl h
    ·exact .inr ⟨e,by simp,hb,.inl h⟩
    ·exact .inr ⟨e,by simp,hb,.inr h⟩
   ·exact .inl h
  ·exact .inr ⟨e',by simp [h1],h2⟩
theorem rE: ∀(os:List Oper) (acc:List Nat),(gj os acc).length=acc.length+os.length∧(∀i,i<acc.length→(gj os acc).getD i 0=acc.getD i 0)∧
 ∀i o,os[i]? =some o→ ∀j,((gj os acc).getD (acc.length+i) 0).testBit j=true→ ∃e∈o.after.toList,Region.binds .any e=true∧(e.on=j∨(e.on<acc.length+i∧((gj os acc).getD e.on 0).testBit j=true))
 |[],acc=>⟨by simp [gj],by simp [gj],by simp⟩
 |o::os,acc=>by
  obtain ⟨h1,h2,h3⟩:=rE os (acc ++ [o.after.toList.foldl (fun m e=>if Region.binds .any e then m|||2^e.on|||acc.getD e.on 0 else m) 0]);simp only [gj];have hold: ∀i,i<acc.length→(gj os (acc ++ [o.after.toList.foldl (fun m e=>if Region.binds .any e then m|||2^e.on|||acc.getD e.on 0 else m) 0])).getD i 0=acc.getD i 0:=by
   intro i hi;rw [h2 i (by simp;omega)]
   simp [List.getD,List.getElem?_append_left hi]
  refine ⟨by rw [h1];simp;omega,hold,fun i o' ho j hj=> ?_⟩
  cases i with
  |zero=>
   simp only [List.getElem?_cons_zero,Option.some.injEq] at ho;subst ho;rw [Nat.add_zero,h2 _ (by simp)] at hj
   simp only [List.getD,List.getElem?_append_right (Nat.le_refl _),Nat.sub_self,List.getElem?_cons_zero,Option.getD_some] at hj;rcases rD (Region.binds .any) acc j _ _ hj with h|⟨e,q1,q2,q3⟩
   ·simp at h
   ·refine ⟨e,q1,q2,?_⟩;rcases q3 with q3|q3
    ·exact .inl q3
    ·have ax:e.on<acc.length:=by
      rcases Nat.lt_or_ge e.on acc.length with h|h
      ·exact h
      ·rw [List.getD,List.getElem?_eq_none h] at q3;simp at q3
     exact .inr ⟨by omega,by rw [hold _ ax];exact q3⟩
  |succ i=>
   simp only [List.length_append,List.length_singleton] at h3;have:=h3 i o' (by simpa using ho) j (by rw [show acc.length+1+i=acc.length+(i+1) by omega];exact hj)
   obtain ⟨e,q1,q2,q3⟩:=this;refine ⟨e,q1,q2,?_⟩;rcases q3 with q3|⟨q3,q4⟩
   ·exact .inl q3
   ·exact .inr ⟨by omega,q4⟩
def rF (ops:Array Oper) (L:Nat→Prop):Prop:= ∀i o,ops[i]? =some o→L i→ ∀e∈o.after,Region.binds .any e=true→L e.on
theorem mm {ops:Array Oper} {L:Nat→Prop} (hs:rF ops L) (ax: ∀i o,ops[i]? =some o→ ∀e∈o.after,Region.binds .any e=true→e.on<i):
 ∀(i:Nat) (o:Oper),ops[i]? =some o→(∀e∈o.after,Region.binds .any e=true→L e.on)→ ∀j,((fb ops.toList).getD i 0).testBit j=true→L j:=by
 intro i;induction i using Nat.strongRecOn with
 |_ i ih=>
  intro o ho ha j hj;have:=(rE ops.toList []).2.2 i o (by simpa using ho) j (by simpa [fb] using hj)
  obtain ⟨e,q1,q2,q3⟩:=this;have rG:=ha e (by simpa using q1) q2
  rcases q3 with rfl|⟨_,q4⟩
  ·exact rG
  ·have yH:=ax i o ho e (by simpa using q1) q2
   have hi:i<ops.size:=(Array.getElem?_eq_some_iff.1 ho).1;have rH:=Array.getElem?_eq_getElem (xs:=ops) (show e.on<ops.size by omega)
   exact ih e.on yH _ rH (hs e.on _ rH rG) j q4
end Go.VS
