import Derived.Test.YtmmomohapflagaaVaB
import Derived.Tactics
import Derived.Laws.Sem
namespace Go.VS
section bq
variable {w:World} {A:ah}
theorem rj {m:Mode} {sh:List Sh} {v:AV} {H:J} {y:AV} {H1:J} (h:eW m sh v H=some (y,H1)):bA H H1:=by
 cases m with
 |val=>simp only [eW,Option.some.injEq,Prod.mk.injEq] at h;obtain ⟨_,rfl⟩:=h;exact .refl _
 |eI=>exact fm sh v H y H1 h
 |io=>
  cases v<;>simp only [eW] at h
  case nil=>simp only [Option.some.injEq,Prod.mk.injEq] at h;obtain ⟨_,rfl⟩:=h;exact .refl _
  case e0=>simp only [Option.some.injEq,Prod.mk.injEq] at h;obtain ⟨_,rfl⟩:=h;exact .refl _
  case ref=>
   split at h
   ·split at h
    ·simp only [Option.some.injEq,Prod.mk.injEq] at h;obtain ⟨_,rfl⟩:=h;exact .refl _
    ·split at h
     ·exact fm _ _ H y H1 h
     ·simp at h
   ·simp at h
  case ptr=>exact fm _ _ H y H1 h
  all_goals simp at h
theorem rk: ∀(ms:List Mode) (sh:List (List Sh)) (as:List AV) (H:J) (zs:List AV) (H1:J),fC ms sh as H=some (zs,H1)→bA H H1
 |[],sh,as,H,zs,H1,h=>by
  simp only [fC,Option.some.injEq,Prod.mk.injEq] at h;obtain ⟨_,rfl⟩:=h;exact .refl _
 |m::ms,sh,[],H,zs,H1,h=>by
  simp only [fC,Option.some.injEq,Prod.mk.injEq] at h;obtain ⟨_,rfl⟩:=h;exact .refl _
 |m::ms,sh,a::as,H,zs,H1,h=>by
  simp only [fC] at h;split at h
  ·rename_i y H' h1
   split at h
   ·rename_i ys iK h2
    simp only [Option.some.injEq,Prod.mk.injEq] at h;obtain ⟨_,rfl⟩:=h;exact (rj h1).trans (rk ms _ as H' ys _ h2)
   ·simp at h
  ·simp at h
def gp (w:World) (A:ah) (B:ah) (L0:J) (aA:ag) (bT:Bool) (vs:List AV) (us:List Value):Prop:=
 vs.length=us.length∧ ∀A0:ah,(∀c,A0 c→A c)→(bT=true→ ∀c,A0 c→B c)→ ∀(i:Nat) (x:AV) (u:Value),vs[i]? =some x→us[i]? =some u→R w L0 aA A0 x u
theorem gp.cons {B:ah} {L L0:J} {φL aA:ag} {l1 l2:Bool} {x:AV} {u:Value} {vs:List AV} {us:List Value} (hx: ∀A0:ah,(∀c,A0 c→A c)→(l1=true→ ∀c,A0 c→B c)→R w L φL A0 x u)
 (he: ∀A0,bF w L φL A0 w L0 aA A0) (h:gp w A B L0 aA l2 vs us):gp w A B L0 aA (l1||l2) (x::vs) (u::us):=by
 refine ⟨by simp [h.1],fun A0 h1 h2 i x' u' bD aL=> ?_⟩
 cases i with
 |zero=>simp at bD aL;subst bD;subst aL;exact (hx A0 h1 (fun hl=>h2 (by simp [hl]))).mono (he A0)
 |succ i=>exact h.2 A0 h1 (fun hl=>h2 (by simp [hl])) i x' u' bD aL
theorem bF.any {L L0:J} {φL aA:ag} {A1:ah} (h:bF w L φL A1 w L0 aA A1) (A0:ah):bF w L φL A0 w L0 aA A0:=
 ⟨fun _c _a _t fr hc hn=>⟨⟨fr,hc⟩,hn⟩,h.st,h.ids,h.sz⟩
theorem rl {H:J} {φ :ag} {H1:J} {L:J} {φL:ag} (ae:St w H φ A) (hl:bA H H1) {a:AV} {u:Value} (ha:R w H φ A a u) {y:AV} (hs:aX 8 H1 a=some y):
 ∀A0:ah,(∀c,A0 c→A c)→(eJ a=true→ ∀c,A0 c→fo (aC φ H1) A c)→R w L φL A0 y u:=by
 intro A0 h1 h2;obtain ⟨s1,s2,_⟩:=(ra (dZ ae hl) 8).1 a u y (ha.mono (cZ hl)) hs;cases hle:eJ a with
 |false=>exact .fr _ _ ((s2 hle).shrink h1)
 |true=>exact .fr _ _ (s1.shrink (h2 hle))
theorem mf: ∀(as:List AV) (ms:List Mode) (fy:List (List Sh)) (us:List Value) (H:J) (φ :ag) (zs:List AV) (H1:J) (ys:List AV) (bT:Bool) (L:J) (φL:ag) (vs:List AV) (L0:J),
 bX w H φ A L φL A→as.length=us.length→(∀(i:Nat) (x:AV) (u:Value),as[i]? =some x→us[i]? =some u→R w H φ A x u)→fC ms fy as H=some (zs,H1)→b_ ms zs H1=some (ys,bT)→ca ms ys L=(vs,L0)→
 ∃aA,b9 w H φ A L φL A H1 L0 aA∧gp w A (fo (aC φ H1) A) L0 aA bT vs us∧b7 H φ L0 aA ms as vs
 |[],ms,fy,us,H,φ,zs,H1,ys,bT,L,φL,vs,L0,hd,hl,hr,h1,h2,h3=>by
  have gR:zs=[]∧H1=H:=by
   cases ms<;>simp only [fC,Option.some.injEq,Prod.mk.injEq] at h1<;>exact ⟨h1.1.symm,h1.2.symm⟩
  obtain ⟨rfl,rfl⟩:=gR;have cu:ys=[]∧bT=false:=by
   cases ms<;>simp only [b_,Option.some.injEq,Prod.mk.injEq] at h2<;>exact ⟨h2.1.symm,h2.2.symm⟩
  obtain ⟨rfl,rfl⟩:=cu;have dA:vs=[]∧L0=L:=by
   cases ms<;>simp only [ca,Prod.mk.injEq] at h3<;>exact ⟨h3.1.symm,h3.2.symm⟩
  obtain ⟨rfl,rfl⟩:=dA;refine ⟨φL,.refl hd,⟨by simpa using hl,by simp⟩,?_⟩
  cases ms with
  |nil=>simp [b7]
  |cons m ms=>cases m<;>simp [b7]
 |a::as,[],fy,us,H,φ,zs,H1,ys,bT,L,φL,vs,L0,hd,hl,hr,h1,h2,h3=>by
  match us,hl with
  |u::us,hl=>
  simp only [fC,Option.some.injEq,Prod.mk.injEq] at h1;obtain ⟨rfl,rfl⟩:=h1;simp only [b_] at h2;split at h2
  ·rename_i y hy;split at h2
   ·rename_i aT b cu
    simp only [Option.some.injEq,Prod.mk.injEq] at h2;obtain ⟨rfl,rfl⟩:=h2;simp only [ca,mc _ _ _ _ hy,List.tail_nil,Prod.mk.injEq] at h3;obtain ⟨rfl,rfl⟩:=h3;obtain ⟨aA,m,cw,_⟩:=mf as [] fy us H φ as H aT b L φL _ _ hd (by simpa using hl) (fun i x u hx hu=>hr (i+1) x u hx hu) rfl cu rfl
    exact ⟨aA,m,gp.cons (rl (L:=L) (φL:= φL) hd.sl (.refl _) (hr 0 a u rfl rfl) hy) (fun A0=>m.eh.any A0) cw,by simp [b7]⟩
   ·simp at h2
  ·simp at h2
 |a::as,md::ms,fy,us,H,φ,zs,H1,ys,bT,L,φL,vs,L0,hd,hl,hr,h1,h2,h3=>by
  match us,hl with
  |u::us,hl=>
  simp only [fC] at h1;split at h1
  rotate_left
  ·simp at h1
  rename_i z H' hz
  split at h1
  rotate_left
  ·simp at h1
  rename_i gq iK gR
  simp only [Option.some.injEq,Prod.mk.injEq] at h1;obtain ⟨rfl,rfl⟩:=h1;have dB:=rj hz;have de:=rk _ _ _ _ _ _ gR;have ha:=hr 0 a u rfl rfl;have rest: ∀{aT:List AV} {b:Bool} {L' :J} {ak:ag} (m1:b9 w H φ A L φL A H' L' ak) (cu:b_ ms gq iK=some (aT,b)),
   ∃aA,b9 w H' (aC φ H') A L' ak A iK (ca ms aT L').2 aA∧gp w A (fo (aC φ iK) A) (ca ms aT L').2 aA b (ca ms aT L').1 us∧b7 H' (aC φ H') (ca ms aT L').2 aA ms as (ca ms aT L').1:=by
   intro aT b L' ak m1 cu
   obtain ⟨aA,m,cw,dP⟩:=mf as ms fy.tail us H' (aC φ H') gq iK aT b L' ak _ _ m1.bq (by simpa using hl) (fun i x u hx hu=>(hr (i+1) x u hx hu).mono (cZ dB)) gR cu rfl
   refine ⟨aA,m,?_,dP⟩;rw [fN de] at cw;exact cw
  cases md with
  |val=>
   simp only [eW,Option.some.injEq,Prod.mk.injEq] at hz;obtain ⟨rfl,rfl⟩:=hz;simp only [b_] at h2;split at h2
   rotate_left
   ·simp at h2
   rename_i y hy;split at h2
   rotate_left
   ·simp at h2
   rename_i aT b cu
   simp only [Option.some.injEq,Prod.mk.injEq] at h2;obtain ⟨rfl,rfl⟩:=h2;have jk:ca (.val::ms) (y::aT) L=(y::(ca ms aT L).1,(ca ms aT L).2):=by
    simp only [ca,mc _ _ _ _ hy,List.tail_cons]
   rw [jk] at h3;simp only [Prod.mk.injEq] at h3;obtain ⟨rfl,rfl⟩:=h3;obtain ⟨aA,m,cw,dP⟩:=rest (b9.refl hd) cu;refine ⟨aA,(b9.refl hd).trans m,gp.cons (L:=L) (φL:= φL) (fun A0 q1 q2=> ?_) (fun A0=>m.eh.any A0) cw,?_⟩
   ·exact rl (L:=L) (φL:= φL) hd.sl de ha hy A0 q1 q2
   ·simp only [b7];exact b7.mono (.refl _) (fun _ _ h=>h) (fun _ _ h=>h) dP
  |eI=>
   have dJ:aY (fy.headD []) a H=some (z,H'):=hz
   simp only [b_] at h2;split at h2
   rotate_left
   ·simp at h2
   rename_i aT b cu
   simp only [Option.some.injEq,Prod.mk.injEq] at h2;obtain ⟨rfl,rfl⟩:=h2;have jk:ca (.eI::ms) (z::aT) L=((aF z L).1::(ca ms aT (aF z L).2).1,(ca ms aT (aF z L).2).2):=by
    simp only [ca,List.tail_cons]
   rw [jk] at h3;simp only [Prod.mk.injEq] at h3;obtain ⟨rfl,rfl⟩:=h3;obtain ⟨φ1,m1,r1⟩:=qY hd ha dJ rfl (.inl fun _ h=>h)
   obtain ⟨aA,m,cw,dP⟩:=rest m1 cu;have:=gp.cons (l1:=false) (L:=(aF z L).2) (φL:= φ1) (x:=(aF z L).1) (u:=u) (fun A0 q1 _=>r1.l_ q1) (fun A0=>m.eh.any A0) cw;refine ⟨aA,m1.trans m,by simpa using this,?_⟩
   simp only [b7];exact b7.mono dB (fun _ _ h=>h) (fun _ _ h=>h) dP
  |io=>
   simp only [b_] at h2;split at h2
   rotate_left
   ·simp at h2
   rename_i aT b cu
   simp only [Option.some.injEq,Prod.mk.injEq] at h2;obtain ⟨rfl,rfl⟩:=h2;rcases yq hd ha hz with ⟨sz,xs,φ1,rfl,m1,r1,ro⟩|⟨sz,x,φ1,rfl,m1,r1,ro⟩
   ·have jk:ca (.io::ms) (.own sz xs::aT) L=(.ref (aG xs L).2.bs.length (aG xs L).2.st 0 (aG xs L).1.length::(ca ms aT ((aG xs L).2.new sz true (aG xs L).1)).1,(ca ms aT ((aG xs L).2.new sz true (aG xs L).1)).2):=by
     simp only [ca]
    rw [jk] at h3;simp only [Prod.mk.injEq] at h3;obtain ⟨rfl,rfl⟩:=h3;obtain ⟨aA,m,cw,dP⟩:=rest m1 cu;have:=gp.cons (l1:=false) (φL:= φ1) (u:=u) (fun A0 q1 _=>r1.l_ q1) (fun A0=>m.eh.any A0) cw;refine ⟨aA,m1.trans m,by simpa using this,?_⟩
    simp only [b7];refine ⟨?_,b7.mono dB (fun _ _ h=>h) (fun _ _ h=>h) dP⟩;obtain ⟨k,kv,bk,e1,e2,⟨loc,gZ⟩,e3,e4⟩:=ro;exact ⟨k,kv,bk,e1,oU m.br e2,⟨loc,m.bY _ _ gZ⟩,e3,fun id ad hr=>by obtain ⟨b,c,b0,q1,q2,q3,q4,q5⟩:=e4 id ad hr;exact ⟨b,c,b0,q1,q2,q3,q4,m.bY _ _ q5⟩⟩
   ·have jk:ca (.io::ms) (.di sz x::aT) L=((aF (.di sz x) L).1::(ca ms aT (aF (.di sz x) L).2).1,(ca ms aT (aF (.di sz x) L).2).2):=by
     simp only [ca,List.tail_cons]
    rw [jk] at h3;simp only [Prod.mk.injEq] at h3;obtain ⟨rfl,rfl⟩:=h3;obtain ⟨aA,m,cw,dP⟩:=rest m1 cu;have:=gp.cons (l1:=false) (φL:= φ1) (u:=u) (fun A0 q1 _=>r1.l_ q1) (fun A0=>m.eh.any A0) cw;refine ⟨aA,m1.trans m,by simpa using this,?_⟩
    simp only [b7];refine ⟨?_,b7.mono dB (fun _ _ h=>h) (fun _ _ h=>h) dP⟩;obtain ⟨k,kv,bk,e1,e2,⟨loc,gZ⟩,e3,e4⟩:=ro;exact ⟨k,kv,bk,e1,oU m.br e2,⟨loc,m.bY _ _ gZ⟩,e3,fun id ad hr=>by obtain ⟨b,c,b0,q1,q2,q3,q4,q5⟩:=e4 id ad hr;exact ⟨b,c,b0,q1,q2,q3,q4,m.bY _ _ q5⟩⟩
end bq
end Go.VS
namespace Go.VS
def cR (L Lm:J):List Mode→List AV→List (List AV)→Prop
 | .io::ms,x::xs,l::ls=>(∃k kv b,kl x=some (k,kv)∧L.ap k kv=some b∧b.el=l∧Lm.get k=none)∧cR L Lm ms xs ls
 | .io::_,_::_,[]=>False
 | .val::ms,_::xs,ls=>cR L Lm ms xs ls
 | .eI::ms,_::xs,ls=>cR L Lm ms xs ls
 |_,_,_=>True
theorem cR.mono {L0 L Lm:J} (h:bA L0 L): ∀{ms:List Mode} {xs:List AV} {ls:List (List AV)},cR L Lm ms xs ls→cR L0 Lm ms xs ls
 |[],xs,ls,_=>by simp [cR]
 |m::ms,[],ls,_=>by cases m<;>simp [cR]
 | .val::ms,x::xs,ls,hr=>by simp only [cR] at hr⊢;exact hr.mono h
 | .eI::ms,x::xs,ls,hr=>by simp only [cR] at hr⊢;exact hr.mono h
 | .io::ms,x::xs,[],hr=>by simp only [cR] at hr
 | .io::ms,x::xs,l::ls,hr=>by
  simp only [cR] at hr⊢;obtain ⟨⟨k,kv,b,h1,h2,h3,h4⟩,h5⟩:=hr;exact ⟨⟨k,kv,b,h1,J.ri h h2,h3,h4⟩,h5.mono h⟩
theorem mg: ∀(ms:List Mode) (vs:List AV) (L:J) (ls:List (List AV)) (Lm:J),e8 ms vs L=some (ls,Lm)→bA L Lm∧cR L Lm ms vs ls
 |[],vs,L,ls,Lm,h=>by
  simp only [e8,Option.some.injEq,Prod.mk.injEq] at h;obtain ⟨rfl,rfl⟩:=h;exact ⟨.refl _,by simp [cR]⟩
 |m::ms,[],L,ls,Lm,h=>by
  cases m<;>(simp only [e8,Option.some.injEq,Prod.mk.injEq] at h;obtain ⟨rfl,rfl⟩:=h;exact ⟨.refl _,by simp [cR]⟩)
 | .val::ms,x::xs,L,ls,Lm,h=>by simp only [e8] at h;simpa only [cR] using mg ms xs L ls Lm h
 | .eI::ms,x::xs,L,ls,Lm,h=>by simp only [e8] at h;simpa only [cR] using mg ms xs L ls Lm h
 | .io::ms,x::xs,L,ls,Lm,h=>by
  simp only [e8] at h;split at h
  ·rename_i id ad hk;split at h
   ·rename_i b hb;split at h
    ·rename_i r H' hr
     simp only [Option.some.injEq,Prod.mk.injEq] at h;obtain ⟨rfl,rfl⟩:=h;obtain ⟨h1,h2⟩:=mg ms xs _ _ _ hr;refine ⟨(bA.del L id).trans h1,?_⟩;simp only [cR];refine ⟨⟨id,ad,b,hk,hb,rfl,?_⟩,h2.mono (bA.del L id)⟩;cases hq:H'.get id with
     |none=>rfl
     |some b=>have:=h1.get _ _ hq;rw [J.iI,if_pos rfl] at this;simp at this
    ·simp at h
   ·simp at h
  ·simp at h
def junk (b:bB):bB:={b with el:=b.el.map fun _=> .agg (List.replicate b.sz .undef)}
theorem yt {H:J} {id k:Nat} {b b' :bB} (h:(H.bg id b).get k=some b'):(k=id∧b' =b)∨H.get k=some b' :=by
 unfold J.bg J.get at h;simp only [List.getElem?_set] at h;by_cases hk:id=k
 ·subst hk;simp only [if_true] at h;split at h
  ·simp at h;exact .inl ⟨rfl,h.symm⟩
  ·simp at h
 ·rw [if_neg hk] at h;exact .inr h
theorem yu {H:J} {id:Nat} {b:bB} (h:id<H.bs.length) (k:Nat):(H.bg id b).get k=if k=id then some b else H.get k:=by
 unfold J.bg J.get;simp only [List.getElem?_set];by_cases hk:id=k
 ·subst hk;simp [h]
 ·rw [if_neg hk,if_neg (fun e=>hk e.symm)]
def gu (H0:J) (v:AV) (H:J):J:=
 match dF v with
 |some (id,ad)=>match H0.ap id ad with
  |some b=>H.bg id (junk b)
  |none=>H
 |none=>H
theorem yv (H0:J) (v:AV) (H:J):(gu H0 v H).bs.length=H.bs.length∧(gu H0 v H).st=H.st:=by
 unfold gu;split
 ·split
  ·simp [J.bg]
  ·exact ⟨rfl,rfl⟩
 ·exact ⟨rfl,rfl⟩
theorem rm (H0:J) (ms:List Mode) (v:AV) (vs:List AV) (H:J):cz H0 (.io::ms) (v::vs) H=cz H0 ms vs (gu H0 v H):=rfl
theorem yw {H0:J} {v:AV} {H:J} {k:Nat} {b' :bB} (h:(gu H0 v H).get k=some b'):H.get k=some b' ∨ ∃ad b,dF v=some (k,ad)∧H0.ap k ad=some b∧b' =junk b:=by
 unfold gu at h;split at h
 ·rename_i id ad hr;split at h
  ·rename_i b hb;rcases yt h with ⟨rfl,rfl⟩|h
   ·exact .inr ⟨ad,b,hr,hb,rfl⟩
   ·exact .inl h
  ·exact .inl h
 ·exact .inl h
theorem mh (H0:J): ∀(ms:List Mode) (as:List AV) (H:J),(cz H0 ms as H).bs.length=H.bs.length∧(cz H0 ms as H).st=H.st
 |[],as,H=>by simp [cz]
 |m::ms,[],H=>by cases m<;>simp [cz]
 | .val::ms,a::as,H=>by simp only [cz];exact mh H0 ms as H
 | .eI::ms,a::as,H=>by simp only [cz];exact mh H0 ms as H
 | .io::ms,a::as,H=>by
  rw [rm];have:=mh H0 ms as (gu H0 a H);have h2:=yv H0 a H;exact ⟨this.1.trans h2.1,this.2.trans h2.2⟩
theorem mj (H0:J) {Lx Lm:J} {φ :ag} {L0:J} {aA:ag}: ∀(ms:List Mode) (as vs:List AV) (ls:List (List AV)) (H:J) (k:Nat) (b' :bB),as.length=vs.length→b7 H0 φ L0 aA ms as vs→cR Lx Lm ms vs ls→
 (cz H0 ms as H).get k=some b' →H.get k=some b' ∨ ∃a x ad b kk kv bk,dF a=some (k,ad)∧H0.ap k ad=some b∧b' =junk b∧gX H0 φ L0 aA a x∧kl x=some (kk,kv)∧Lx.ap kk kv=some bk∧Lm.get kk=none
 |[],as,vs,ls,H,k,b',_,_,_,h=>by simp only [cz] at h;exact .inl h
 |m::ms,[],vs,ls,H,k,b',_,_,_,h=>by cases m<;>(simp only [cz] at h;exact .inl h)
 |m::ms,a::as,[],ls,H,k,b',hl,_,_,h=>by simp at hl
 | .val::ms,a::as,x::vs,ls,H,k,b',hl,h1,h2,h=>by
  simp only [cz] at h;exact mj H0 ms as vs ls H k b' (by simpa using hl) (by simpa only [b7] using h1) (by simpa only [cR] using h2) h
 | .eI::ms,a::as,x::vs,ls,H,k,b',hl,h1,h2,h=>by
  simp only [cz] at h;exact mj H0 ms as vs ls H k b' (by simpa using hl) (by simpa only [b7] using h1) (by simpa only [cR] using h2) h
 | .io::ms,a::as,x::vs,[],H,k,b',hl,h1,h2,h=>by simp only [cR] at h2
 | .io::ms,a::as,x::vs,l::ls,H,k,b',hl,h1,h2,h=>by
  rw [rm] at h;simp only [b7] at h1;simp only [cR] at h2;rcases mj H0 ms as vs ls _ k b' (by simpa using hl) h1.2 h2.2 h with h3|h3
  ·rcases yw h3 with h4|⟨ad,b,q1,q2,q3⟩
   ·exact .inl h4
   ·obtain ⟨kk,kv,bk,p1,p2,_,p4⟩:=h2.1;exact .inr ⟨a,x,ad,b,kk,kv,bk,q1,q2,q3,h1.1,p1,p2,p4⟩
  ·exact .inr h3
def Has (Hx:J) (id ad:Nat) (b:bB):Prop:= ∃b',Hx.ap id ad=some b' ∧b'.sz=b.sz∧b'.el.length=b.el.length
theorem Has.gu {H0 Hx:J} {id ad:Nat} {b:bB} (h0:H0.ap id ad=some b) (h:Has Hx id ad b) (v:AV):Has (gu H0 v Hx) id ad b:=by
 obtain ⟨b',h1,h2,h3⟩:=h;unfold VS.gu;split
 ·rename_i ml Br hr;split
  ·rename_i b2 iE;have ax:id<Hx.bs.length:=J.gL (J.bn h1).1;by_cases bO:ml=id
   ·subst bO;have g1:=J.bn h0;have g2:=J.bn iE;have:b2=b:=by have:=g1.1.symm.trans g2.1;simp only [Option.some.injEq] at this;exact this.symm
    subst this;refine ⟨junk b2,?_,rfl,by simp [junk]⟩
    have:=J.gg (H:=Hx.bg ml (junk b2)) (id:=ml) (b:=junk b2) (by rw [yu ax,if_pos rfl])
    rw [←g1.2];exact this
   ·refine ⟨b',?_,h2,h3⟩;have g:=J.bn h1;have:(Hx.bg ml (junk b2)).get id=some b' :=by
     unfold J.bg J.get;simp only [List.getElem?_set];rw [if_neg bO];exact g.1
    rw [←g.2];exact J.gg this
  ·exact ⟨b',h1,h2,h3⟩
 ·exact ⟨b',h1,h2,h3⟩
structure oW (w:World) (A:ah) (aA:ag) (w' :World) (ak:ag) (AH:ah):Prop where
 own: ∀c,A c→ ¬Ow aA c→AH c
 eo: ∀c,Ow ak c→AH c
 bW: ∀c,AH c→c<w'.heap.size
 fz: ∀c arr T fr,w.heap[c]? =some (.cells arr T fr)→ ¬A c→(∃eL,w'.heap[c]? =some (.cells arr T eL))∧ ¬AH c
def yx (w:World) (L:J) (φL:ag) (AL:ah) (H:J) (φ :ag) (a:AV) (l:List AV):Prop:=
 (dF a=none→l=[])∧ ∀id ad,dF a=some (id,ad)→ ∃c b0 b arr T fr,H.ap id ad=some b∧ φ id=some (.at_ c b0)∧w.heap[c]? =some (.cells arr T fr)∧l.length=b.el.length∧
  (∀(i:Nat) (x:AV),l[i]? =some x→x.cells.length=b.sz)∧ ∀(i:Nat) (x:AV) (j:Nat) (y:AV) (v:Value),l[i]? =some x→x.cells[j]? =some y→arr[b0+i*b.sz+j]? =some v→R w L φL AL y v
def et (w:World) (L:J) (φL:ag) (AL:ah) (H:J) (φ :ag):List Mode→List AV→List (List AV)→Prop
 | .io::ms,a::as,l::ls=>yx w L φL AL H φ a l∧et w L φL AL H φ ms as ls
 | .val::ms,_::as,ls=>et w L φL AL H φ ms as ls
 | .eI::ms,_::as,ls=>et w L φL AL H φ ms as ls
 |_,_,_=>True
section back
variable {w w' :World} {A:ah} {H:J} {φ :ag} {H1 L0:J} {aA:ag} {A0:ah} {L:J} {ak:ag} {A' AH:ah} {ms:List Mode} {as vs:List AV} {ls:List (List AV)} {Lm:J}
theorem oX (m:b9 w H φ A ⟨0,[]⟩ (fun _=>none) A H1 L0 aA) (ho:Out w L0 aA A0 w' L ak A') {a x:AV} (hr:gX H φ L0 aA a x) {kk kv:Nat} {bk:bB} (hk:kl x=some (kk,kv)) (hb:L.ap kk kv=some bk):
 (dF a=none→bk.el=[])∧ ∀id ad,dF a=some (id,ad)→ ∃b c b0,H.ap id ad=some b∧bk.sz=b.sz∧bk.el.length=b.el.length∧ φ id=some (.at_ c b0)∧ak kk=some (.at_ c b0)∧qf w' L ak A' bk (.at_ c b0):=by
 obtain ⟨k,Bs,b1,e1,e2,⟨loc,gZ⟩,e3,e4⟩:=hr;rw [hk] at e1;simp only [Option.some.injEq,Prod.mk.injEq] at e1;obtain ⟨rfl,rfl⟩:=e1;obtain ⟨g1,g2⟩:=J.bn hb;obtain ⟨f1,f2⟩:=J.bn e2;have ax:kv<L0.st:=by
  obtain ⟨bb,p1,p2⟩:=m.bq.sh.ap kk loc gZ;rw [f1] at p1;simp only [Option.some.injEq] at p1;subst p1;rw [←f2];exact p2.ad
 ·obtain ⟨b2,i1,i2,i3,i4,i5,i6⟩:=ho.bU.ids kk bk g1 (by omega)
  rw [f1] at i1;simp only [Option.some.injEq] at i1;subst i1;refine ⟨fun h=>List.eq_nil_of_length_eq_zero (by rw [i5,e3 h];rfl),fun id ad h=> ?_⟩
  obtain ⟨b,c,b0,q1,q2,q3,q4,q5⟩:=e4 id ad h;have hp:=i6 _ q5;obtain ⟨bb,p1,p2⟩:=ho.st.ap kk _ hp;rw [g1] at p1;simp only [Option.some.injEq] at p1;subst p1;exact ⟨b,c,b0,q1,i3.trans q2,i5.trans q3,q4,hp,p2⟩
theorem rn (ae:St w H φ A) (m:b9 w H φ A ⟨0,[]⟩ (fun _=>none) A H1 L0 aA) (hlen:as.length=vs.length) (dP:b7 H φ L0 aA ms as vs) (ho:Out w L0 aA A0 w' L ak A') (ha:oW w A aA w' ak AH) (ht:e8 ms vs L=some (ls,Lm)):
 bX w' Lm (aC ak Lm) A' (cz H ms as H1) (aC φ (cz H ms as H1)) AH∧bF w H φ A w' (cz H ms as H1) (aC φ (cz H ms as H1)) AH:=by
 obtain ⟨dB,oY⟩:=mg _ _ _ _ _ ht;have bp: ∀c,Ow aA c→Ow φ c:=fun c hc=>by
  rcases m.oh c hc with ⟨i,b,h⟩|h
  ·simp at h
  ·exact h.1
 have br:=fun k b' =>mj H ms as vs ls H1 k b' hlen dP oY
 have oZ:=(mh H ms as H1).2;have aP:bF w H φ A w' (cz H ms as H1) (aC φ (cz H ms as H1)) AH:=by
  refine ⟨ha.fz,by rw [oZ,m.less.st];exact Nat.le_refl _,fun id b' aw _=> ?_,fun c hc=>ho.post.aZ c (Ow.lt ae hc)⟩
  have bY: ∀loc,φ id=some loc→aC φ (cz H ms as H1) id=some loc:=fun loc h=>by simp [aC,aw,h]
  rcases br id b' aw with h|⟨a,x,ad,b,kk,kv,bk,q1,q2,rfl,q4,q5,q6,q7⟩
  ·exact ⟨b',m.less.get _ _ h,rfl,rfl,rfl,rfl,bY⟩
  ·exact ⟨b,(J.bn q2).1,rfl,rfl,rfl,by simp [junk],bY⟩
 refine ⟨⟨dZ ho.st dB,⟨fun i i' c b b' h1 h2=>ae.inj _ _ _ _ _ (df h1).1 (df h2).1,fun c hc=> ?_,ha.bW,fun id loc hl=> ?_⟩,fun c hc hj=> ?_,fun c hc=>ha.eo c (bH hc)⟩,aP⟩
 ·obtain ⟨id,b0,h⟩:=hc;obtain ⟨h1,b',aw⟩:=df h;rcases br id b' aw with h2|⟨a,x,ad,b,kk,kv,bk,q1,q2,rfl,q4,q5,q6,q7⟩
  ·refine ha.own c (ae.own c ⟨id,b0,h1⟩) (m.bq.b8 c ⟨id,b0,?_⟩);simp [aC,h2,h1]
  ·obtain ⟨_,re⟩:=oX m ho q4 q5 q6;obtain ⟨b2,c2,o0,_,_,_,r4,r5,_⟩:=re id _ q1;rw [h1] at r4;simp only [Option.some.injEq,Loc.at_.injEq] at r4;obtain ⟨rfl,rfl⟩:=r4;exact ha.eo c ⟨kk,b0,r5⟩
 ·obtain ⟨h1,b',aw⟩:=df hl;refine ⟨b',aw,?_⟩;rcases br id b' aw with h2|⟨a,x,ad,b,kk,kv,bk,q1,q2,rfl,q4,q5,q6,q7⟩
  ·obtain ⟨b2,iE,af⟩:=ae.ap id loc h1;rw [m.less.get _ _ h2] at iE;simp only [Option.some.injEq] at iE;subst iE;refine ⟨by rw [oZ,m.less.st];exact af.ad,af.sized,af.aO,fun c b0 he=> ?_⟩
   subst he;obtain ⟨arr,T,fr,k1,k2,k3,k4⟩:=af.here c b0 rfl;have hn: ¬Ow aA c:=m.bq.b8 c ⟨id,b0,by simp [aC,h2,h1]⟩
   refine ⟨arr,T,fr,?_,k2,k3,fun i x j y v hx hy hv=>⟨(k4 i x j y v hx hy hv).1.mono aP,(k4 i x j y v hx hy hv).2⟩⟩;rw [ho.post.kept c (Ow.lt ae ⟨id,b0,h1⟩) hn];exact k1
  ·obtain ⟨_,re⟩:=oX m ho q4 q5 q6;obtain ⟨b2,c2,o0,r1,r2,r3,r4,r5,af⟩:=re id _ q1;rw [h1] at r4;simp only [Option.some.injEq] at r4;subst r4;rw [q2] at r1;simp only [Option.some.injEq] at r1;subst r1;obtain ⟨b3,kH,yy⟩:=ae.ap id _ h1;rw [(J.bn q2).1] at kH;simp only [Option.some.injEq] at kH;subst kH;have hcs: ∀(i:Nat) (x:AV),(junk b).el[i]? =some x→i<b.el.length∧x= .agg (List.replicate b.sz .undef):=by
    intro i x hx;simp only [junk,List.getElem?_map,Option.map_eq_some_iff] at hx;obtain ⟨z,hz,rfl⟩:=hx;exact ⟨(List.getElem?_eq_some_iff.1 hz).1,rfl⟩
   refine ⟨by rw [oZ,m.less.st];exact yy.ad,fun i x hx=>by rw [(hcs i x hx).2];simp [AV.cells,junk],fun h=>by simp at h,fun c b0 he=> ?_⟩
   simp only [Loc.at_.injEq] at he;obtain ⟨rfl,rfl⟩:=he;obtain ⟨arr,T,fr,k1,k2,k3,k4⟩:=af.here c2 o0 rfl;refine ⟨arr,T,fr,k1,k2,by simp only [junk,List.length_map];rw [←r3,←r2];exact k3,fun i x j y v hx hy hv=> ?_⟩
   obtain ⟨hi,rfl⟩:=hcs i x hx;have hj:j<b.sz:=by have:=(List.getElem?_eq_some_iff.1 hy).1;simpa [AV.cells] using this
   have yz:y= .undef:=by simp only [AV.cells] at hy;rw [List.getElem?_replicate,if_pos hj] at hy;simpa using hy.symm
   subst yz;refine ⟨.fr _ _ (.undef _),?_⟩;have rq:=List.getElem?_eq_getElem (show i<bk.el.length by omega)
   exact (k4 i _ j _ v rq (List.getElem?_eq_getElem (show j<_ by rw [af.sized _ _ rq,r2];exact hj)) (by rw [r2];exact hv)).2
 ·obtain ⟨id,b0,h⟩:=hj;obtain ⟨h1,b',aw⟩:=df h;rcases br id b' aw with h2|⟨a,x,ad,b,kk,kv,bk,q1,q2,rfl,q4,q5,q6,q7⟩
  ·rcases ho.post.own c (bH hc) with h3|h3
   ·exact m.bq.b8 c ⟨id,b0,by simp [aC,h2,h1]⟩ h3
   ·have:=Ow.lt ae ⟨id,b0,h1⟩;omega
  ·obtain ⟨_,re⟩:=oX m ho q4 q5 q6;obtain ⟨b2,c2,o0,_,_,_,r4,r5,_⟩:=re id _ q1;rw [h1] at r4;simp only [Option.some.injEq,Loc.at_.injEq] at r4;obtain ⟨rfl,rfl⟩:=r4;obtain ⟨i,bb,hi⟩:=hc;obtain ⟨fl,bx,rr⟩:=df hi;have:=ho.st.inj _ _ _ _ _ fl r5;subst this;rw [q7] at rr;simp at rr
end back
end Go.VS
namespace Go.VS
section back
variable {w:World} {AL AH:ah}
structure Mv (w:World) (L:J) (φL:ag) (AL:ah) (H:J) (φ :ag) (AH:ah) (L1 H1:J) (φ1:ag):Prop where
 less:bA L L1
 bq:bX w L1 (aC φL L1) AL H1 φ1 AH
 eh:bF w H φ AH w H1 φ1 AH
 oh: ∀c,Ow φ1 c→Ow φ c∨(Ow φL c∧ ¬Ow (aC φL L1) c)
 has: ∀id ad b,H.ap id ad=some b→ ∃b',H1.ap id ad=some b' ∧b'.sz=b.sz∧b'.el.length=b.el.length
 bY: ∀id loc,φ id=some loc→ φ1 id=some loc
theorem Mv.trans {L L1 L2:J} {φL:ag} {H H1 H2:J} {φ φ1 a8:ag} (h:Mv w L φL AL H φ AH L1 H1 φ1) (k:Mv w L1 (aC φL L1) AL H1 φ1 AH L2 H2 a8):Mv w L φL AL H φ AH L2 H2 a8:=by
 have hr:=fN (φ := φL) k.less;refine ⟨h.less.trans k.less,by rw [←hr];exact k.bq,h.eh.trans k.eh (fun _ _=>rfl),fun c hc=> ?_,fun id ad b hb=> ?_,fun id loc hl=>k.bY id loc (h.bY id loc hl)⟩
 ·rcases k.oh c hc with h1|⟨h1,h2⟩
  ·rcases h.oh c h1 with h3|⟨h3,h4⟩
   ·exact .inl h3
   ·refine .inr ⟨h3,fun h5=>h4 ?_⟩;rw [←hr] at h5;exact bH h5
  ·rw [hr] at h2;exact .inr ⟨bH h1,h2⟩
 ·obtain ⟨b1,e1,e2,e3⟩:=h.has id ad b hb;obtain ⟨b2,f1,f2,f3⟩:=k.has id ad b1 e1;exact ⟨b2,f1,f2.trans e2,f3.trans e3⟩
theorem iF.refl {w:World} {c:Nat} {o:Obj} (h:w.heap[c]? =some o):iF w c o w:=⟨h,fun _ _=>rfl,rfl,rfl,rfl,rfl⟩
theorem et.mono {L L1:J} {φL:ag} {H H1:J} {φ φ1:ag} (hl:bA L L1) (has: ∀id ad b,H.ap id ad=some b→ ∃b',H1.ap id ad=some b' ∧b'.sz=b.sz∧b'.el.length=b.el.length) (bY: ∀id loc,φ id=some loc→ φ1 id=some loc):
 ∀{ms:List Mode} {as:List AV} {ls:List (List AV)},et w L φL AL H φ ms as ls→et w L1 (aC φL L1) AL H1 φ1 ms as ls
 |[],as,ls,_=>by simp [et]
 |m::ms,[],ls,_=>by cases m<;>simp [et]
 | .val::ms,a::as,ls,h=>by simp only [et] at h⊢;exact et.mono hl has bY h
 | .eI::ms,a::as,ls,h=>by simp only [et] at h⊢;exact et.mono hl has bY h
 | .io::ms,a::as,[],h=>by simp [et]
 | .io::ms,a::as,l::ls,h=>by
  simp only [et] at h⊢;refine ⟨⟨h.1.1,fun id ad hr=> ?_⟩,et.mono hl has bY h.2⟩;obtain ⟨c,b0,b,arr,T,fr,k1,k2,k3,k4,k5,k6⟩:=h.1.2 id ad hr;obtain ⟨b',e1,e2,e3⟩:=has id ad b k1;exact ⟨c,b0,b',arr,T,fr,e1,bY _ _ k2,k3,by rw [k4,e3],fun i x hx=>by rw [e2];exact k5 i x hx,fun i x j y v hx hy hv=>(k6 i x j y v hx hy (by rw [←e2];exact hv)).mono (cZ hl)⟩
theorem ru: ∀(sh:List (List Sh)) (rs:List AV) (us:List Value) (L:J) (φL:ag) (H:J) (φ :ag) (ys:List AV) (L1:J),bX w L φL AL H φ AH→rs.length=us.length→
 (∀(i:Nat) (x:AV) (u:Value),rs[i]? =some x→us[i]? =some u→R w L φL AL x u)→dc sh rs L=some (ys,L1)→dN AL AH ys→
 ∃ φ1,b9 w L φL AL H φ AH L1 (aG ys H).2 φ1∧(aG ys H).1.length=us.length∧ ∀(i:Nat) (x:AV) (u:Value),(aG ys H).1[i]? =some x→us[i]? =some u→R w (aG ys H).2 φ1 AH x u
 |sh,[],us,L,φL,H,φ,ys,L1,hd,hl,hr,ht,hk=>by
  simp only [dc,Option.some.injEq,Prod.mk.injEq] at ht;obtain ⟨rfl,rfl⟩:=ht;exact ⟨φ,.refl hd,hl,by simp [aG]⟩
 |sh,x::rs,u::us,L,φL,H,φ,ys,L1,hd,hl,hr,ht,hk=>by
  simp only [dc] at ht;split at ht
  rotate_left
  ·simp at ht
  rename_i y L' h1
  split at ht
  rotate_left
  ·simp at ht
  rename_i aT c8 h2
  simp only [Option.some.injEq,Prod.mk.injEq] at ht;obtain ⟨rfl,rfl⟩:=ht;obtain ⟨k1,k2⟩:=hk.cons;obtain ⟨φ1,m1,r1⟩:=qY hd (hr 0 x u rfl rfl) h1 rfl k1;obtain ⟨a8,m2,l2,r2⟩:=ru sh.tail rs us L' (aC φL L') (aF y H).2 φ1 aT c8 m1.bq (by simpa using hl) (fun i x u hx hu=>(hr (i+1) x u hx hu).mono (cZ m1.less)) h2 k2
  refine ⟨a8,m1.trans m2,by simp [aG,l2],fun i x' u' hx hu=> ?_⟩
  cases i with
  |zero=>simp [aG] at hx hu;subst hx;subst hu;exact r1.mono m2.eh
  |succ i=>simp only [aG,List.getElem?_cons_succ] at hx hu;exact r2 i x' u' hx hu
 |sh,x::rs,[],L,φL,H,φ,ys,L1,hd,hl,hr,ht,hk=>by simp at hl
theorem rv: ∀(sh:List (List Sh)) (rs:List AV) (L:J) (ys:List AV) (L1:J),dc sh rs L=some (ys,L1)→bA L L1
 |sh,[],L,ys,L1,ht=>by simp only [dc,Option.some.injEq,Prod.mk.injEq] at ht;obtain ⟨rfl,rfl⟩:=ht;exact .refl _
 |sh,x::rs,L,ys,L1,ht=>by
  simp only [dc] at ht;split at ht
  ·rename_i y L' h1
   split at ht
   ·rename_i aT c8 h2
    simp only [Option.some.injEq,Prod.mk.injEq] at ht;obtain ⟨rfl,rfl⟩:=ht;exact (fm _ _ _ _ _ h1).trans (rv _ rs _ _ _ h2)
   ·simp at ht
  ·simp at ht
theorem ry {es:List Sh} {x:AV} {v:Value} {L:J} {φL:ag} {A' :ah} {y:AV} {L1:J} (ae:St w L φL AL) (hx:R w L φL AL x v) (ht:aY es x L=some (y,L1)) (hk: ∀c,A' c→gone φL AL L1 c):FR w A' (bu y) v:=by
 by_cases bV: ∃cs,x= .agg cs
 ·obtain ⟨cs,rfl⟩:=bV;obtain ⟨aV,hc,rfl⟩:=kR ht;obtain ⟨vs,rfl,hl,ho,hp⟩:=hx.fG;obtain ⟨l1,r1⟩:=oS es cs vs.toList L φL AL A' aV L1 ae (by simpa using hl) (fun j c u hj hu=>hp j c u hj (by simpa using hu)) hc hk
  exact .agg _ _ (by rw [l1,hl]) ho fun i x v hx hv=>r1 i x v hx (by simpa using hv)
 ·obtain ⟨e,rfl,cv⟩:=jj (fun cs h=>bV ⟨cs,h⟩) ht;exact (mb e x v L φL AL A' y L1 ae hx cv hk).1
theorem o7 {A' :ah}: ∀(sh:List (List Sh)) (rs:List AV) (us:List Value) (L:J) (φL:ag) (ys:List AV) (L1:J),St w L φL AL→rs.length=us.length→
 (∀(i:Nat) (x:AV) (u:Value),rs[i]? =some x→us[i]? =some u→R w L φL AL x u)→dc sh rs L=some (ys,L1)→(∀c,A' c→gone φL AL L1 c)→
 (bS ys).length=us.length∧ ∀(i:Nat) (x:AV) (u:Value),(bS ys)[i]? =some x→us[i]? =some u→FR w A' x u
 |sh,[],us,L,φL,ys,L1,hd,hl,hr,ht,hk=>by
  simp only [dc,Option.some.injEq,Prod.mk.injEq] at ht;obtain ⟨rfl,rfl⟩:=ht;exact ⟨hl,by simp [bS]⟩
 |sh,x::rs,u::us,L,φL,ys,L1,hd,hl,hr,ht,hk=>by
  simp only [dc] at ht;split at ht
  rotate_left
  ·simp at ht
  rename_i y L' h1
  split at ht
  rotate_left
  ·simp at ht
  rename_i aT c8 h2
  simp only [Option.some.injEq,Prod.mk.injEq] at ht;obtain ⟨rfl,rfl⟩:=ht;have dB:=fm _ _ _ _ _ h1;have de:=rv _ _ _ _ _ h2;have r1:=ry (A' :=A') hd (hr 0 x u rfl rfl) h1 (fun c hc=>oO de (hk c hc))
  obtain ⟨l2,r2⟩:=o7 sh.tail rs us L' (aC φL L') aT c8 (dZ hd dB) (by simpa using hl) (fun i x u hx hu=>(hr (i+1) x u hx hu).mono (cZ dB)) h2 (fun c hc=>by
   obtain ⟨k1,k2⟩:=hk c hc;exact ⟨k1,fun ho=>by rw [fN de];exact k2 (bH ho)⟩)
  refine ⟨by simp [bS,l2],fun i x' u' hx hu=> ?_⟩
  cases i with
  |zero=>simp [bS] at hx hu;subst hx;subst hu;exact r1
  |succ i=>simp only [bS,List.getElem?_cons_succ] at hx hu;exact r2 i x' u' hx hu
 |sh,x::rs,[],L,φL,ys,L1,hd,hl,hr,ht,hk=>by simp at hl
end back
end Go.VS
namespace Go.VS
def g_:List Value→Value
 |[v]=>v
 |vs=> .tuple vs.toArray
def hG (P:Program) (f:FuncId):Prop:= ∃fn,P.funcs[f]? =some fn∧(fn.name== "runtime.NumGoroutine")=false∧fn.body.isNone=false
def hI (w:World) (H:J) (φ :ag) (A:ah) (K:AV→J→Prop) (e:Ending) (w' :World):Prop:=
 match e with
 | .returned v' => ∃x H' ak A',Out w H φ A w' H' ak A' ∧R w' H' ak A' x v' ∧K x H'
 |_=>False
theorem hI.mono {w:World} {H:J} {φ :ag} {A:ah} {K K' :AV→J→Prop} (h: ∀v H,K v H→K' v H) {e:Ending} {w' :World} (k:hI w H φ A K e w'):hI w H φ A K' e w' :=by
 cases e with
 |returned v' =>obtain ⟨x,H',ak,A',h1,h2,h3⟩:=k;exact ⟨x,H',ak,A',h1,h2,h _ _ h3⟩
 |panicked c=>exact k
 |outgrown=>exact k
def cq (P:Program):bw:=fun f ys H K=>hG P f∧
 ∀(w:World) (A:ah) (φ :ag) (us:Array Value),St w H φ A→ys.length=us.size→
  (∀(i:Nat) (x:AV) (u:Value),ys[i]? =some x→us[i]? =some u→R w H φ A x u)→Calls P f us w (hI w H φ A K)
theorem cq.mono {P:Program} {f:FuncId} {ys:List AV} {H:J} {K K' :AV→J→Prop} (h: ∀v H,K v H→K' v H) (k:cq P f ys H K):cq P f ys H K' :=
 ⟨k.1,fun w A φ us h1 h2 h3=>(k.2 w A φ us h1 h2 h3).mono fun _ _ he=>he.mono h⟩
def Exact (X:bw):Prop:= ∀f ys H K,X f ys H K→ ∃v H',X f ys H (fun v1 H1=>v1=v∧H1=H')∧K v H'
theorem St.shrink {w:World} {H:J} {φ :ag} {A A' :ah} (h:St w H φ A) (h1: ∀c,A' c→A c) (h2: ∀c,Ow φ c→A' c):St w H φ A' :=by
 refine ⟨h.inj,h2,fun c hc=>h.bW c (h1 c hc),fun id loc hl=> ?_⟩;obtain ⟨b,hb,af⟩:=h.ap id loc hl;refine ⟨b,hb,af.ad,af.sized,af.aO,fun c b0 he=> ?_⟩;obtain ⟨arr,T,fr,k1,k2,k3,k4⟩:=af.here c b0 he;exact ⟨arr,T,fr,k1,k2,k3,fun i x j y v hx hy hv=>⟨(k4 i x j y v hx hy hv).1.l_ h1,(k4 i x j y v hx hy hv).2⟩⟩
section
variable {w:World} {H:J} {φ :ag} {A:ah}
theorem o8 {xs:List AV} {us:List Value} (hl:xs.length=us.length) (h: ∀(i:Nat) (x:AV) (u:Value),xs[i]? =some x→us[i]? =some u→R w H φ A x u):R w H φ A (ci xs) (g_ us):=by
 have key: ∀{xs:List AV} {us:List Value},xs.length=us.length→(∀(i:Nat) (x:AV) (u:Value),xs[i]? =some x→us[i]? =some u→R w H φ A x u)→R w H φ A (.ay xs) (.tuple us.toArray):=
  fun hl h=> .ay _ _ (by simpa using hl) fun i x v hx hv=>h i x v hx (by simpa using hv)
 match xs,us,hl with
 |[],[],hl=>exact key hl h
 |[x],[u],_=>exact h 0 x u rfl rfl
 |x::x' ::xs,u::u' ::us,hl=>exact key hl h
theorem rz {xs:List AV} {us:List Value} (hl:xs.length=us.length) (h: ∀(i:Nat) (x:AV) (u:Value),xs[i]? =some x→us[i]? =some u→FR w A x u):FR w A (ci xs) (g_ us):=by
 have key: ∀{xs:List AV} {us:List Value},xs.length=us.length→(∀(i:Nat) (x:AV) (u:Value),xs[i]? =some x→us[i]? =some u→FR w A x u)→FR w A (.ay xs) (.tuple us.toArray):=
  fun hl h=> .ay _ _ (by simpa using hl) fun i x v hx hv=>h i x v hx (by simpa using hv)
 match xs,us,hl with
 |[],[],hl=>exact key hl h
 |[x],[u],_=>exact h 0 x u rfl rfl
 |x::x' ::xs,u::u' ::us,hl=>exact key hl h
end
theorem rA (zs:List AV) (H:J):aF (ci zs) H=(ci (aG zs H).1,(aG zs H).2):=by
 match zs with
 |[]=>rfl
 |[z]=>rfl
 |z::z' ::zs=>rfl
theorem rB (zs:List AV):bu (ci zs)=ci (bS zs):=by
 match zs with
 |[]=>rfl
 |[z]=>rfl
 |z::z' ::zs=>rfl
theorem rC (zs:List AV):cr (ci zs)=ei zs:=by
 match zs with
 |[]=>rfl
 |[z]=>simp [ci,ei]
 |z::z' ::zs=>rfl
theorem rD {xs:List AV} {v:Value} {w:World} {H:J} {φ :ag} {A:ah} (h:R w H φ A (ci xs) v): ∃us:List Value,v=g_ us∧xs.length=us.length∧ ∀(i:Nat) (x:AV) (u:Value),xs[i]? =some x→us[i]? =some u→R w H φ A x u:=by
 have key: ∀{xs:List AV},xs.length≠1→R w H φ A (.ay xs) v→ ∃us:List Value,v=g_ us∧xs.length=us.length∧ ∀(i:Nat) (x:AV) (u:Value),xs[i]? =some x→us[i]? =some u→R w H φ A x u:=by
  intro xs hl h;obtain ⟨vs,rfl,h1,h2⟩:=h.lF;refine ⟨vs.toList,?_,by simpa using h1,fun i x u hx hu=>h2 i x u hx (by simpa using hu)⟩
  have cX:vs.toList.length≠1:=by simp only [Array.length_toList];omega
  generalize hv:vs.toList=l at cX;have:Value.tuple vs= .tuple l.toArray:=by rw [←hv]
  rw [this]
  match l with
  |[]=>rfl
  |[u]=>exact absurd rfl cX
  |u::u' ::l=>rfl
 match xs with
 |[]=>exact key (by simp) h
 |[x]=>exact ⟨[v],rfl,rfl,fun i x' u hx hu=>by
  cases i with
  |zero=>simp at hx hu;subst hx;subst hu;exact h
  |succ i=>simp at hx⟩
 |x::x' ::xs=>exact key (by simp) h
def mm (ms:List Mode):Prop:= ∀m∈ms,m= .val
theorem o9: ∀(ms:List Mode) (sh:List (List Sh)) (as:List AV) (H:J),mm ms→fC ms sh as H=some (as,H)
 |[],sh,as,H,_=>rfl
 |m::ms,sh,[],H,_=>rfl
 |m::ms,sh,a::as,H,h=>by
  have hm:=h m (by simp)
  subst hm;simp only [fC,eW,o9 ms sh.tail as H (fun m hm=>h m (by simp [hm]))]
theorem o_ (H0:J): ∀(ms:List Mode) (as:List AV) (H:J),mm ms→cz H0 ms as H=H
 |[],as,H,_=>by simp [cz]
 |m::ms,[],H,_=>by cases m<;>simp [cz]
 |m::ms,a::as,H,h=>by
  have hm:=h m (by simp)
  subst hm;simp only [cz];exact o_ H0 ms as H (fun m hm=>h m (by simp [hm]))
theorem jV {w:World} {H:J} {φ :ag} {A:ah} (ae:St w H φ A):aC φ H= φ :=by
 funext id
 unfold aC;cases hp: φ id with
 |none=>simp
 |some loc=>obtain ⟨b,hb,_⟩:=ae.ap id loc hp;simp [hb]
theorem pa {H:J}: ∀(as ys:List AV) (b:Bool),b_ [] as H=some (ys,b)→ ∀L,ca [] ys L=(ys,L)
 |[],ys,b,h,L=>by simp only [b_,Option.some.injEq,Prod.mk.injEq] at h;obtain ⟨rfl,_⟩:=h;rfl
 |a::as,ys,b,h,L=>by
  simp only [b_] at h;split at h
  ·rename_i y hy;split at h
   ·rename_i aT b' cu
    simp only [Option.some.injEq,Prod.mk.injEq] at h;obtain ⟨rfl,_⟩:=h;simp only [ca,mc H 8 a y hy,List.tail_nil,pa as aT b' cu]
   ·simp at h
  ·simp at h
theorem yA {P:Program} {C:aI} {X:bw} (hX: ∀f ys H K,X f ys H K→cq P f ys H K) {w:World} {H:J} {φ :ag} {A:ah} (ae:St w H φ A) {f:FuncId} {as:List AV} {us:Array Value} (hl:as.length=us.size)
 (hr: ∀(i:Nat) (x:AV) (u:Value),as[i]? =some x→us[i]? =some u→R w H φ A x u) {th:Bool} {K:AV→J→Prop} (h:dl X C f as th H K):hG P f∧Calls P f us w (hI w H φ A K):=by
 unfold dl at h;split at h
 ·exact h.elim
 rename_i ys bT hy;obtain ⟨y,kU,gW,hp⟩:=h;have hm:mm []:=fun m hm=>by simp at hm
 have pb:bX w H φ A ⟨0,[]⟩ (fun _=>none) A:=by
  refine ⟨ae,⟨fun i i' c b b' h=>by simp at h,fun c hc=> ?_,ae.bW,fun id loc h=>by simp at h⟩,fun c _ hc=> ?_,ae.own⟩
  ·obtain ⟨i,b,h⟩:=hc;simp at h
  ·obtain ⟨i,b,h⟩:=hc;simp at h
 have pc:ca [] ys ⟨0,[]⟩=(ys,⟨0,[]⟩):=pa _ _ _ hy _;obtain ⟨aA,m,cw,dP⟩:=mf as [] [] us.toList H φ as H ys bT ⟨0,[]⟩ (fun _=>none) ys ⟨0,[]⟩ pb (by simpa using hl) (fun i x u hx hu=>hr i x u hx (by simpa using hu)) (o9 _ _ _ _ hm) hy pc
 have bp: ∀c,¬Ow aA c:=fun c hc=>by
  rcases m.oh c hc with ⟨i,b,h⟩|⟨h1,h2⟩
  ·simp at h
  ·rw [jV ae] at h2;exact h2 h1
 let A0:ah:=if bT=true then Ow aA else A
 have jl: ∀c,A0 c→A c:=by
  intro c hc;simp only [A0] at hc;split at hc
  ·exact absurd hc (bp c)
  ·exact hc
 have pd:bT=true→ ∀c,A0 c→fo (aC φ H) A c:=by
  intro ax c hc;simp only [A0,ax,if_true] at hc;exact absurd hc (bp c)
 have cS:St w ⟨0,[]⟩ aA A0:=m.bq.sh.shrink jl (fun c hc=>absurd hc (bp c));have eR:ys.length=us.size:=by simpa using cw.1
 refine ⟨(hX _ _ _ _ kU).1,((hX _ _ _ _ kU).2 w A0 aA us cS eR (fun i x u hx hu=>cw.2 A0 jl pd i x u hx (by simpa using hu))).mono fun e w' he=> ?_⟩
 cases e with
 |panicked c=>exact he.elim
 |outgrown=>exact he.elim
 |returned v' =>
 obtain ⟨x0,L,ak,A',ho,pe,rs,gq,L2,rfl,kV,rfl⟩:=he;obtain ⟨cB,rfl,hJ,gU⟩:=rD pe
 let AH:ah:=if bT=true then fun c=>A c∨(A' c∧w.heap.size≤c) else A'
 have jm: ∀c,Ow ak c→w.heap.size≤c:=fun c hc=>(ho.post.own c hc).resolve_left (bp c)
 have ha:oW w A aA w' ak AH:=by
  refine ⟨fun c hc hn=> ?_,fun c hc=> ?_,fun c hc=> ?_,fun c arr T fr hc hn=> ?_⟩
  ·simp only [AH];split
   ·exact .inl hc
   ·rename_i ax;refine ho.bK c ?_ hn;simp only [A0,ax];exact hc
  ·simp only [AH];split
   ·exact .inr ⟨ho.st.own c hc,jm c hc⟩
   ·exact ho.st.own c hc
  ·simp only [AH] at hc;split at hc
   ·rcases hc with h|⟨h,_⟩
    ·exact Nat.lt_of_lt_of_le (ae.bW c h) ho.post.size
    ·exact ho.st.bW c h
   ·exact ho.st.bW c hc
  ·obtain ⟨h1,h2⟩:=ho.bU.fz c arr T fr hc (fun h=>hn (jl c h));refine ⟨h1,?_⟩;simp only [AH];split
   ·rintro (h|⟨_,h⟩)
    ·exact hn h
    ·have:c<w.heap.size:=by
      rcases Nat.lt_or_ge c w.heap.size with h' |h'
      ·exact h'
      ·rw [Array.getElem?_eq_none h'] at hc;simp at hc
     omega
   ·exact h2
 obtain ⟨D,E⟩:=rn (ls:=[]) (Lm:=L) ae m (by rw [hl,eR]) dP ho ha (by simp [e8])
 rw [o_ _ _ _ _ hm,jV ae] at D E;have pf:dN A' AH gq:=by
  cases ax:bT with
  |false=>exact .inl fun c h=>by simpa [AH,ax] using h
  |true=>
   rcases gW with h|h
   ·rw [ax] at h;simp at h
   ·rw [rC] at h;exact .inr h
 have jn: ∀(i:Nat) (x:AV) (u:Value),rs[i]? =some x→cB[i]? =some u→R w' L (aC ak L) A' x u:=fun i x u hx hu=>by
  rw [jV ho.st];exact gU i x u hx hu
 have ff: ∀{cT:ag},(∀c,Ow cT c→Ow φ c∨Ow ak c)→e9 w φ w' cT:=fun hq=>
  ⟨ho.post.os,ho.post.tape,ho.post.output,ho.post.size,fun c hc _=>ho.post.kept c hc (bp c),ho.post.aZ,fun c hc=>by
   rcases hq c hc with h|h
   ·exact .inl h
   ·exact .inr (jm c h)⟩
 have jo: ∀c,A c→ ¬Ow φ c→AH c:=fun c hc _=>ha.own c hc (bp c);have cH: ∀c,Ow φ c→aZ w' c=aZ w c:=fun c hc=>ho.post.aZ c (Ow.lt ae hc)
 cases fM:(th||bT) with
 |true=>
  rw [fM] at hp;simp only [if_true,rA] at hp;obtain ⟨cT,m3,l3,r3⟩:=ru _ rs cB L _ H φ gq L2 D hJ jn kV pf
  refine ⟨_,_,cT,AH,⟨m3.bq.sh,ff fun c hc=> ?_,E.trans m3.eh cH,jo⟩,o8 l3 r3,hp⟩;rcases m3.oh c hc with h|⟨h,_⟩
  ·exact .inl h
  ·exact .inr (bH h)
 |false=>
  rw [fM] at hp;simp only [Bool.false_eq_true,if_false,rB] at hp;simp only [Bool.or_eq_false_iff] at fM;have pg:AH=A' :=by simp [AH,fM.2]
  rw [pg] at D E jo
  let A2:ah:=gone (aC ak L) A' L2
  obtain ⟨l3,r3⟩:=o7 (A' :=A2) _ rs cB L (aC ak L) gq L2 D.sl hJ jn kV (fun c h=>h)
  have ph: ∀c,Ow φ c→A2 c:=fun c hc=>⟨D.sh.own c hc,fun h=>absurd hc (D.b8 c h)⟩;have pj:bF w H φ A w' H φ A2:=⟨fun c arr T fr hc hn=>⟨(E.fz c arr T fr hc hn).1,fun h2=>(E.fz c arr T fr hc hn).2 h2.1⟩,E.st,E.ids,E.sz⟩
  refine ⟨_,_,φ,A2,⟨D.sh.shrink (fun c h=>h.1) ph,ff fun c hc=> .inl hc,pj,fun c hc hn=>⟨jo c hc hn,fun h=> ?_⟩⟩,.fr _ _ (rz l3 r3),hp⟩;have:=jm c (bH h)
  have:=ae.bW c hc;omega
end Go.VS
namespace Go.VS
section ops
variable {P:Program} {C:aI} {X:bw} {w:World} {H:J} {φ :ag} {A:ah}
theorem yB {f:FuncId} (h:hG P f) (args:Array Value) (w:World):(callFunc f args).run P w= .ok (.enter f args) w:=by
 obtain ⟨fn,h1,h2,h3⟩:=h;have kT:fn.name≠ "runtime.NumGoroutine" :=by simpa using h2
 have yC:fn.body≠none:=by intro e;rw [e] at h3;simp at h3
 simp [callFunc,h1,kT,yC]
theorem rE {o:Oper} {ρ :Operand→Value} {x:Operand} {args:Array Operand} {tys:Array TypeId} (ho:o.op= .call {callee:= .value x,args,argTypes:=tys}) {g:FuncId} {bR:Array Value} (hx: ρ x= .func (.func g) #[] bR) (hc:hG P g):
 (execOp ρ o).run P w= .ok (.enter g (args.map ρ ++ bR)) w:=by
 simp [execOp,ho,resolve,hx,Deferred.ofValue,invoke,yB hc]
theorem rF {o:Oper} {ρ :Operand→Value} {b:Builtin} {args:Array Operand} {tys:Array TypeId} (ho:o.op= .call {callee:= .builtin b,args,argTypes:=tys}):
 ∃consts,(execOp ρ o).run P w=(builtin b tys o.type consts (args.map ρ)).run P w:=
 ⟨_,by simp only [execOp,ho,resolve,invoke,Sem.run_bind,Sem.run_pure,Result.andThen_ok];rfl⟩
theorem cf.upon {H' :J} {r:Result Next} {x:AV} (h:cf w H φ A H' r x) {o:Oper} {a:Act} {next:Act→World→Prop} {Q:Exit→Act→World→Prop}
 (hn: ∀v w' ak A',Out w H φ A w' H' ak A' →R w' H' ak A' x v→next (a.put o.dst v) w'):o.upon P a next Q r:=by
 obtain ⟨n,v,w',ak,A',rfl,hv,hr,ho⟩:=h;rcases hv with rfl|⟨rfl,rfl⟩
 ·exact hn v w' ak A' ho hr
 ·exact hn _ w' ak A' ho hr
theorem mn (hE: ∀t ti,C.E t=some ti→aR P t ti) (hX: ∀f ys H K,X f ys H K→cq P f ys H K) (ae:St w H φ A) {o:Oper} {s:aj} {a:Act} (hs: ∀x∈o.op.operands,R w H φ A (ev s x) (a.eval x)) {th:Bool} {K:AV→J→Prop} (h:wpOp X C false th o s H K)
 {next:Act→World→Prop} {Q:Exit→Act→World→Prop} (hn: ∀x v w' H' ak A',Out w H φ A w' H' ak A' →R w' H' ak A' x v→K x H' →next (a.put o.dst v) w'):o.wp P a w next Q:=by
 have kW: ∀(hh:(match aN C.E o.op s H with|some (v,H')=>K v H' |none=>False)),o.wp P a w next Q:=by
  intro hh;split at hh
  ·rename_i v H' he
   exact (ye hE ae hs he).upon (fun u w' ak A' h1 h2=>hn v u w' H' ak A' h1 h2 hh)
  ·exact hh.elim
 unfold wpOp at h;split at h
 ·rename_i b args tys bC;obtain ⟨_,h⟩:=h;split at h
  ·rename_i v H' he
   obtain ⟨consts,cN⟩:=rF (P:=P) (w:=w) (ρ :=a.eval) bC;have:=yf hE ae (ty:=o.type) (consts:=consts) (vs:=args.map a.eval) (by simp) (fun i x u hx hu=>by
    simp only [List.getElem?_map,Option.map_eq_some_iff] at hx;obtain ⟨y,hy,rfl⟩:=hx;simp only [Array.getElem?_map,Option.map_eq_some_iff] at hu;obtain ⟨y',en,rfl⟩:=hu;have:y' =y:=by simp at hy;rw [hy] at en;simpa using en.symm
    subst this;exact hs y' (by rw [bC];simp only [Op.operands,Call.operands];simp [Array.mem_of_getElem? en])) he
   rw [←cN] at this;exact this.upon (fun u w' ak A' h1 h2=>hn v u w' H' ak A' h1 h2 h)
  ·exact h.elim
 ·rename_i x args tys bC;split at h
  ·rename_i g bR hg;simp only [Bool.false_eq_true,if_false] at h;have hx:=hs x (by rw [bC];simp [Op.operands,Call.operands])
   rw [hg] at hx;obtain ⟨vs,hv,hl,hp⟩:=hx.kq;have rG: ∀(i:Nat) (y:AV) (u:Value),(args.toList.map (ev s) ++ bR)[i]? =some y→(args.map a.eval ++ vs)[i]? =some u→R w H φ A y u:=fun i y u hy hu=>by
    rcases Nat.lt_or_ge i args.size with hi|hi
    ·rw [List.getElem?_append_left (by simpa using hi)] at hy
     rw [Array.getElem?_append_left (by simpa using hi)] at hu
     simp only [List.getElem?_map,Option.map_eq_some_iff] at hy;obtain ⟨z,hz,rfl⟩:=hy;simp only [Array.getElem?_map,Option.map_eq_some_iff] at hu;obtain ⟨z',dJ,rfl⟩:=hu;have:z' =z:=by simp at hz;rw [hz] at dJ;simpa using dJ.symm
     subst this;exact hs z' (by rw [bC];simp only [Op.operands,Call.operands];simp [Array.mem_of_getElem? dJ])
    ·rw [List.getElem?_append_right (by simpa using hi)] at hy
     rw [Array.getElem?_append_right (by simpa using hi)] at hu
     exact hp _ y u (by simpa using hy) (by simpa using hu)
   have hc:hG P g∧Calls P g (args.map a.eval ++ vs) w (hI w H φ A K):=by
    rcases h with h|h
    ·exact ⟨(hX _ _ _ _ h).1,(hX _ _ _ _ h).2 w A φ (args.map a.eval ++ vs) ae (by simp [hl]) rG⟩
    ·exact yA hX ae (us:=args.map a.eval ++ vs) (by simp [hl]) rG h
   unfold Oper.wp;rw [rE bC hv hc.1,Oper.upon_enter];refine hc.2.mono fun e w' he=> ?_
   cases e with
   |returned v' =>
    obtain ⟨x',H',ak,A',h1,h2,h3⟩:=he;exact hn x' v' w' H' ak A' h1 h2 h3
   |panicked c=>exact he.elim
   |outgrown=>exact he.elim
  ·exact h.elim
 ·exact kW h.2
end ops
end Go.VS
namespace Go.VS
structure jW (π :List Nat) (ops:Array Oper):Prop where
 len: π.length=ops.size
 nodup: π.Nodup
 lt: ∀i∈ π,i<ops.size
 mem: ∀i,i<ops.size→i∈ π
 rH: ∀(i:Nat) (o:Oper),ops[i]? =some o→ ∀e∈o.after.toList,Region.binds .any e=true→e.on<ops.size
 hM: ∀(i:Nat) (o:Oper) (j:Nat) (b:Bool),ops[i]? =some o→o.guard=some (j,b)→j<ops.size
theorem yD {π :List Nat} {ops:Array Oper} (h:nD π ops=true):jW π ops:=by
 simp only [nD,Bool.and_eq_true,beq_iff_eq,List.all_eq_true,decide_eq_true_eq,List.mem_range,List.contains_iff_mem] at h;obtain ⟨⟨⟨⟨h1,h0⟩,h2⟩,h3⟩,h4⟩:=h;refine ⟨h1,h0,h2,h3,fun i o ho e he hb=> ?_,fun i o j b ho hg=> ?_⟩
 ·have:=(h4 o (by rw [←Array.getElem?_toList] at ho;exact List.mem_of_getElem? ho)).1
  rw [Array.all_eq_true_iff_forall_mem] at this;have:=this e (by simpa using he)
  rw [hb] at this;simpa using this
 ·have:=(h4 o (by rw [←Array.getElem?_toList] at ho;exact List.mem_of_getElem? ho)).2
  rw [hg] at this;simpa using this
section
variable {π :List Nat} {ops:Array Oper} (hp:jW π ops)
include hp
theorem jW.at_ {k:Nat} (hk:k< π.length): ∃o,ops[π[k]]? =some o∧(ez π ops)[k]? =some (iy π o):=by
 have:=hp.lt _ (List.getElem_mem hk);refine ⟨ops[π[k]],by simp [this],?_⟩
 unfold ez nC;rw [List.getElem?_toArray,List.getElem?_map,List.getElem?_eq_getElem hk];simp [List.getD,this]
theorem jW.size:(ez π ops).size=ops.size:=by
 simp [ez,nC,hp.len]
theorem jW.jX {i:Nat} (hi:i<ops.size):dE π i< π.length∧ π[dE π i]? =some i:=by
 have:=hp.mem i hi;unfold dE;have h:=List.idxOf_lt_length_of_mem this;exact ⟨h,by rw [List.getElem?_eq_getElem h,List.getElem_idxOf]⟩
theorem jW.get {i:Nat} {o:Oper} (ho:ops[i]? =some o):(ez π ops)[dE π i]? =some (iy π o):=by
 have hi:i<ops.size:=(Array.getElem?_eq_some_iff.1 ho).1;obtain ⟨h1,h2⟩:=hp.jX hi;obtain ⟨o',h3,h4⟩:=hp.at_ h1;have: π[dE π i]=i:=by rw [List.getElem?_eq_getElem h1] at h2;simpa using h2
 rw [this,ho] at h3;simp only [Option.some.injEq] at h3;subst h3;exact h4
def PL (π :List Nat) (n:Nat) (l l' :Array Bool):Prop:=l.size=n∧l'.size=n∧ ∀i,i<n→l'[dE π i]? =l[i]?
theorem PL.set {l l' :Array Bool} (h:PL π ops.size l l') {i:Nat} (hi:i<ops.size):PL π ops.size (l.setIfInBounds i true) (l'.setIfInBounds (dE π i) true):=by
 obtain ⟨h1,h2,h3⟩:=h;refine ⟨by simp [h1],by simp [h2],fun j hj=> ?_⟩
 obtain ⟨yE,pk⟩:=hp.jX hi;obtain ⟨Bt,yF⟩:=hp.jX hj;rw [Array.getElem?_setIfInBounds,Array.getElem?_setIfInBounds];by_cases e:i=j
 ·subst e;rw [if_pos rfl,if_pos rfl,if_pos (by rw [h2,←hp.len];exact yE),if_pos (by rw [h1];exact hi)]
 ·have: ¬dE π i=dE π j:=by
   intro e2;rw [e2,yF] at pk;simp at pk;exact e pk.symm
  rw [if_neg this,if_neg e];exact h3 j hj
omit hp in
theorem PL.getD {l l' :Array Bool} (h:PL π ops.size l l') {i:Nat} (hi:i<ops.size) (b:Bool):l'.getD (dE π i) b=l.getD i b:=by
 have:=h.2.2 i hi;rw [Array.getD_eq_getD_getElem?,Array.getD_eq_getD_getElem?,this]
theorem rI {l l' :Array Bool} (h:PL π ops.size l l') {i:Nat} (hi:i∈Region.ready .any ops l):i<ops.size∧dE π i∈Region.ready .any (ez π ops) l' :=by
 unfold Region.ready at hi⊢;simp only [List.mem_filter,List.mem_range,Bool.and_eq_true] at hi⊢;obtain ⟨h1,h2,h3⟩:=hi;have ho:ops[i]? =some ops[i]:=by simp [h1]
 obtain ⟨r1,r2⟩:=hp.jX h1;refine ⟨h1,by rw [hp.size,←hp.len];exact r1,by rw [h.getD h1];exact h2,?_⟩
 rw [hp.get ho];rw [ho] at h3;simp only [Option.map_some,Option.getD_some,Array.all_eq_true_iff_forall_mem] at h3⊢;intro e he;simp only [iy,List.mem_toArray,List.mem_filterMap] at he;obtain ⟨e0,rJ,mo⟩:=he;split at mo
 ·rename_i hb;simp only [Option.some.injEq] at mo;subst mo;have:=h3 e0 (by simpa using rJ)
  rw [hb] at this;simp only [Bool.not_true,Bool.false_or] at this;rw [h.getD (hp.rH i _ ho e0 rJ hb)];simp [this]
 ·simp at mo
theorem yG {i:Nat} {o:Oper} (ho:ops[i]? =some o) (t:Array Value):Region.wanted (iy π o) (yielded (ez π ops) t)=Region.wanted o (yielded ops t):=by
 unfold Region.wanted iy;simp only;cases hg:o.guard with
 |none=>rfl
 |some p=>
  obtain ⟨j,b⟩:=p;have hj:=hp.hM i o j b ho hg;simp only [Option.map_some];congr 1;unfold yielded;have rK:ops[j]? =some ops[j]:=by simp [hj]
  rw [hp.get rK,rK];rfl
omit hp in
theorem rL (ρ :Operand→Value) (o:Oper):execOp ρ (iy π o)=execOp ρ o:=by
 cases o;rfl
theorem yH {P:Program} {Q:Exit→Act→World→Prop} {i:Nat} {o:Oper} (ho:ops[i]? =some o) {K K' :Act→World→Prop} (hK: ∀a w,K' a w→K a w) {a:Act} {w:World} (h:Go.wpOp P (ez π ops) Q (dE π i) K' a w):Go.wpOp P ops Q i K a w:=by
 unfold Go.wpOp at h⊢;rw [hp.get ho] at h;rw [ho];simp only at h⊢;rw [yG hp ho] at h;split at h
 ·rename_i hw;rw [if_pos hw];rcases h with h|⟨h1,h2⟩
  ·refine .inl (Oper.wp_mono hK ?_);unfold Oper.wp at h⊢;rw [rL] at h;exact h
  ·refine .inr ⟨?_,h2⟩;unfold Oper.asks at h1⊢;rw [rL] at h1;exact h1
 ·rename_i hw;rw [if_neg hw];exact hK _ _ h
theorem yI {l l' :Array Bool} (h:PL π ops.size l l') {k:Nat} (hk:k∈Region.ready .any (ez π ops) l'): ∃i,i∈Region.ready .any ops l:=by
 unfold Region.ready at hk⊢;simp only [List.mem_filter,List.mem_range,Bool.and_eq_true] at hk;obtain ⟨h1,h2,h3⟩:=hk;rw [hp.size,←hp.len] at h1;obtain ⟨o,ho,af⟩:=hp.at_ h1;have hi:=hp.lt _ (List.getElem_mem h1);have hr:dE π π[k]=k:=by
  obtain ⟨r1,r2⟩:=hp.jX hi;rw [List.getElem?_eq_getElem r1] at r2;simp only [Option.some.injEq] at r2;exact (List.getElem_inj hp.nodup).1 r2
 refine ⟨π[k],?_⟩;simp only [List.mem_filter,List.mem_range,Bool.and_eq_true];refine ⟨hi,by rw [←h.getD hi,hr];exact h2,?_⟩
 rw [af] at h3;rw [ho];simp only [Option.map_some,Option.getD_some,Array.all_eq_true_iff_forall_mem] at h3⊢;intro e he;by_cases hb:Region.binds .any e=true
 ·have hl:=hp.rH _ o ho e (by simpa using he) hb
  have:=h3 {e with on:=dE π e.on} (by
   simp only [iy,List.mem_toArray,List.mem_filterMap];exact ⟨e,by simpa using he,by rw [if_pos hb]⟩)
  have aw:Region.binds .any {e with on:=dE π e.on}=true:=hb
  rw [aw] at this;simp only [Bool.not_true,Bool.false_or] at this;rw [h.getD hl] at this;simp [this]
 ·simp [hb]
theorem rM {P:Program} {Q:Exit→Act→World→Prop}: ∀(n:Nat) (l l' :Array Bool) (a:Act) (w:World),PL π ops.size l l' →wpAny P .any (ez π ops) Q n l' a w→wpAny P .any ops Q n l a w
 |0,l,l',a,w,hl,h=>by
  simp only [wpAny] at h⊢;refine ⟨?_,h.2⟩;rw [List.eq_nil_iff_forall_not_mem];intro i hi;have:=(rI hp hl hi).2;rw [h.1] at this;simp at this
 |n+1,l,l',a,w,hl,h=>by
  simp only [wpAny] at h⊢;refine ⟨fun he=>h.1 ?_,fun i hi=> ?_⟩
  ·rw [List.eq_nil_iff_forall_not_mem];intro k hk;obtain ⟨i,hi⟩:=yI hp hl hk;rw [he] at hi;simp at hi
  ·obtain ⟨h1,h2⟩:=rI hp hl hi;have ho:ops[i]? =some ops[i]:=by simp [h1]
   exact yH hp ho (fun a w hh=>rM n _ _ a w (hl.set hp h1) hh) (h.2 _ h2)
theorem yJ {P:Program} {Q:Exit→Act→World→Prop} {a:Act} {w:World} (h:wpAny P .any (ez π ops) Q (ez π ops).size (Array.replicate (ez π ops).size false) a w):wpAny P .any ops Q ops.size (Array.replicate ops.size false) a w:=by
 rw [hp.size] at h;refine rM hp _ _ _ a w ⟨by simp,by simp,fun i hi=> ?_⟩ h
 obtain ⟨r1,_⟩:=hp.jX hi;rw [hp.len] at r1;simp [hi,r1]
end
theorem SF.kill {w:World} {H:J} {φ :ag} {A:ah} {s:aj} {a:Act} (h:SF w H φ A s a) (l:List Nat):SF w H φ A (eA l s) a:=by
 have key: ∀(s:aj) (i:Nat),(eA.go l i s).length=s.length∧ ∀(t:Nat) (x:AV),(eA.go l i s)[t]? =some x→x= .undef∨s[t]? =some x:=by
  intro s;induction s with
  |nil=>intro i;simp [eA.go]
  |cons y s ih=>
   intro i;obtain ⟨h1,h2⟩:=ih (i+1);refine ⟨by simp [eA.go,h1],fun t x hx=> ?_⟩
   cases t with
   |zero=>
    simp only [eA.go,List.getElem?_cons_zero,Option.some.injEq] at hx;split at hx
    ·exact .inr (by simp [hx])
    ·exact .inl hx.symm
   |succ t=>simp only [eA.go,List.getElem?_cons_succ] at hx⊢;exact h2 t x hx
 obtain ⟨h1,h2⟩:=key s 0;refine ⟨h1.trans h.len,fun t x v hx hv=> ?_,h.eG⟩;rcases h2 t x hx with rfl|hx
 ·exact .fr _ _ (.undef _)
 ·exact h.val t x v hx hv
theorem yK {w:World} {H:J} {φ :ag} {A:ah} (ae:St w H φ A) (n:Nat):Out w H φ A w (H.trim n) (aC φ (H.trim n)) A:=by
 have hg: ∀id b,(H.trim n).get id=some b→H.get id=some b:=by
  intro id b h;unfold J.trim J.get at h;unfold J.get;simp only [List.getElem?_take] at h;split at h
  ·exact h
  ·simp at h
 have aP:bF w H φ A w (H.trim n) (aC φ (H.trim n)) A:=
  ⟨fun c arr T fr hc hn=>⟨⟨fr,hc⟩,hn⟩,Nat.le_refl _,fun id b hb _=>⟨b,hg id b hb,rfl,rfl,rfl,rfl,fun loc hl=>by simp [aC,hb,hl]⟩,fun _ _=>rfl⟩
 refine ⟨⟨fun i i' c b b' h h' =>ae.inj _ _ _ _ _ (df h).1 (df h').1,fun c hc=>ae.own c (bH hc),ae.bW,fun id loc h=> ?_⟩,⟨rfl,rfl,rfl,Nat.le_refl _,fun _ _ _=>rfl,fun _ _=>rfl,fun c hc=> .inl (bH hc)⟩,aP,fun c hc _=>hc⟩
 obtain ⟨h1,b,hb⟩:=df h;obtain ⟨b',aw,af⟩:=ae.ap id loc h1;rw [hg id b hb] at aw;simp only [Option.some.injEq] at aw;subst aw;refine ⟨b,hb,af.ad,af.sized,af.aO,fun c b0 he=> ?_⟩;obtain ⟨arr,T,fr,k1,k2,k3,k4⟩:=af.here c b0 he;exact ⟨arr,T,fr,k1,k2,k3,fun i x j y v hx hy hv=>⟨(k4 i x j y v hx hy hv).1.mono aP,(k4 i x j y v hx hy hv).2⟩⟩
def rN:Ex→Exit
 | .normal=> .normal
 | .exit id=> .exit id
 | .ret=> .ret
theorem mq {x y:AV} (h:eZ x y=true):x=y:=by
 unfold eZ at h;split at h
 ·simp only [Bool.and_eq_true,beq_iff_eq] at h;obtain ⟨⟨⟨rfl,rfl⟩,rfl⟩,rfl⟩:=h;rfl
 ·rfl
 ·rfl
 ·simp at h
theorem yL {w:World} {H:J} {φ :ag} {A:ah} {s:aj} {a:Act} (ae:St w H φ A) (hs:SF w H φ A s a) {t:Nat} {ts:List Nat} {sh:List Sh} {y:AV} {H1:J} (h:aY sh (s.getD t .undef) H=some (y,H1)):
 Out w H φ A w H1 (aC φ H1) (gone φ A H1)∧SF w H1 (aC φ H1) (gone φ A H1) (fE (s.getD t .undef) (bu y) ts (s.set t (bu y))) a:=by
 have hl:=fm _ _ _ _ _ h;have aP:bF w H φ A w H1 (aC φ H1) (gone φ A H1):=by
  have e:=cZ (w:=w) (φ := φ) (A:=A) hl;exact ⟨fun c arr T fr hc hn=>⟨(e.fz c arr T fr hc hn).1,fun h2=>hn h2.1⟩,e.st,e.ids,e.sz⟩
 refine ⟨⟨(dZ ae hl).shrink (fun c hc=>hc.1) (fun c hc=>⟨ae.own c (bH hc),fun _=>hc⟩),⟨rfl,rfl,rfl,Nat.le_refl _,fun _ _ _=>rfl,fun _ _=>rfl,fun c hc=> .inl (bH hc)⟩,aP,fun c hc hn=>⟨hc,fun ho=>absurd ho hn⟩⟩,?_⟩;have cE:=hs.mono aP;have one: ∀(k:Nat) (v:Value),s.getD k .undef=s.getD t .undef→a.tmps[k]? =some v→R w H1 (aC φ H1) (gone φ A H1) (bu y) v:=by
  intro k v hk hv;have hr:=hs.ev (.tmp k);simp only [ev,Act.eval] at hr;rw [Array.getD_eq_getD_getElem?,hv,hk] at hr;exact .fr _ _ (ry ae hr h (fun c hc=>hc))
 have base:SF w H1 (aC φ H1) (gone φ A H1) (s.set t (bu y)) a∧ ∀k,(s.set t (bu y)).getD k .undef=bu y∨(s.set t (bu y)).getD k .undef=s.getD k .undef:=by
  refine ⟨⟨by simpa using cE.len,fun k x v hx hv=> ?_,cE.eG⟩,fun k=> ?_⟩
  ·rw [List.getElem?_set] at hx;split at hx
   ·rename_i hk;subst hk;split at hx
    ·simp only [Option.some.injEq] at hx;subst hx;exact one t v rfl hv
    ·simp at hx
   ·exact cE.val k x v hx hv
  ·simp only [List.getD_eq_getElem?_getD,List.getElem?_set];split
   ·rename_i hk;subst hk;split
    ·exact .inl rfl
    ·rename_i ax;right;rw [List.getElem?_eq_none (by omega)]
   ·exact .inr rfl
 have gen: ∀(ts:List Nat) (s' :aj),SF w H1 (aC φ H1) (gone φ A H1) s' a→(∀k,eZ (s'.getD k .undef) (s.getD t .undef)=true→s.getD k .undef=s.getD t .undef∨bu y=s.getD t .undef)→SF w H1 (aC φ H1) (gone φ A H1) (fE (s.getD t .undef) (bu y) ts s') a:=by
  intro ts;induction ts with
  |nil=>intro s' h _;exact h
  |cons k ks ih=>
   intro s' h1 h2
   simp only [fE];split
   ·rename_i rO;have hval: ∀v,a.tmps[k]? =some v→R w H1 (aC φ H1) (gone φ A H1) (bu y) v:=by
     intro v hv;rcases h2 k rO with e|e
     ·exact one k v e hv
     ·have:=h1.ev (.tmp k);simp only [ev,Act.eval] at this;rw [Array.getD_eq_getD_getElem?,hv,mq rO,←e] at this;exact this
    refine ih _ ⟨by simpa using h1.len,fun m x v hx hv=> ?_,h1.eG⟩ (fun m hm=> ?_)
    ·rw [List.getElem?_set] at hx;split at hx
     ·rename_i hk;subst hk;split at hx
      ·simp only [Option.some.injEq] at hx;subst hx;exact hval v hv
      ·simp at hx
     ·exact h1.val m x v hx hv
    ·simp only [List.getD_eq_getElem?_getD,List.getElem?_set] at hm;split at hm
     ·split at hm
      ·exact .inr (mq hm)
      ·rename_i hk ax;refine h2 m ?_;subst hk;rw [List.getD_eq_getElem?_getD,List.getElem?_eq_none (by omega)]
       exact hm
     ·exact h2 m (by rw [List.getD_eq_getElem?_getD];exact hm)
   ·exact ih s' h1 h2
 refine gen ts _ base.1 fun k hk=> ?_;rcases base.2 k with e|e
 ·rw [e] at hk;exact .inr (mq hk)
 ·rw [e] at hk;exact .inl (mq hk)
theorem po {w:World} {H:J} {φ :ag} {A:ah} {x:AV} {v:Value} (h:R w H φ A x v):R w H φ A (kh x) v:=by
 cases x with
 |nil=>have:=h.c7;subst this;exact .fr _ _ (.cD none 0)
 |e0=>obtain ⟨a,rfl⟩:=h.eE;exact .fr _ _ (.cD a 0)
 |_=>exact h
theorem yM {w:World} {H:J} {φ :ag} {A:ah} {x:AV} {v:Value} (h:R w H φ A x v):R w H φ A (dD x) v:=by
 cases x with
 |agg cs=>
  obtain ⟨vs,rfl,h1,h2,h3⟩:=h.fG;refine .agg _ _ (by simpa using h1) h2 fun i x v hx hv=> ?_
  simp only [List.getElem?_map,Option.map_eq_some_iff] at hx;obtain ⟨y,hy,rfl⟩:=hx;exact po (h3 i y v hy hv)
 |_=>exact po h
theorem yN {w:World} {H:J} {φ :ag} {A:ah} {s:aj} {a:Act} (t:Nat) (ae:St w H φ A) (hs:SF w H φ A s a): ∃ak A',Out w H φ A w (jJ t s H).2 ak A' ∧SF w (jJ t s H).2 ak A' (jJ t s H).1 a:=by
 have plain: ∀v,s.getD t .undef=v→SF w H φ A (s.set t (dD v)) a:=by
  intro v hv;refine ⟨by simpa using hs.len,fun k x u hx hu=> ?_,hs.eG⟩
  rw [List.getElem?_set] at hx;split at hx
  ·rename_i hk;subst hk;split at hx
   ·simp only [Option.some.injEq] at hx;subst hx;have hr:=hs.ev (.tmp t);simp only [ev,Act.eval] at hr;rw [Array.getD_eq_getD_getElem?,hu,hv] at hr;exact yM hr
   ·simp at hx
  ·exact hs.val k x u hx hu
 have key: ∀v,s.getD t .undef=v→ ∃ak A',Out w H φ A w (match v with
  | .ref id ad _ _=>match H.ap id ad with
   |some b=>(s,H.bg id {b with el:=b.el.map dD})
   |none=>(s,H)
  |v=>(s.set t (dD v),H)).2 ak A' ∧SF w (match v with
  | .ref id ad _ _=>match H.ap id ad with
   |some b=>(s,H.bg id {b with el:=b.el.map dD})
   |none=>(s,H)
  |v=>(s.set t (dD v),H)).2 ak A' (match v with
  | .ref id ad _ _=>match H.ap id ad with
   |some b=>(s,H.bg id {b with el:=b.el.map dD})
   |none=>(s,H)
  |v=>(s.set t (dD v),H)).1 a:=by
  intro v hv;cases v with
  |ref id ad off len=>
   simp only;cases hb:H.ap id ad with
   |none=>exact ⟨φ,A,.refl ae,hs⟩
   |some b=>
    simp only;have hg:=(J.bn hb).1;have ax:=J.gL hg;have br: ∀k,(H.bg id {b with el:=b.el.map dD}).get k=if k=id then some {b with el:=b.el.map dD} else H.get k:=by
     intro k;simp only [J.get,J.bg,List.getElem?_set];by_cases h:id=k
     ·subst h;simp [ax]
     ·have h' : ¬k=id:=fun e=>h e.symm
      simp [h,h']
    have aP:bF w H φ A w (H.bg id {b with el:=b.el.map dD}) φ A:=by
     refine ⟨fun c arr T fr hc hn=>⟨⟨fr,hc⟩,hn⟩,Nat.le_refl _,fun k b' hk _=> ?_,fun _ _=>rfl⟩
     rw [br] at hk;split at hk
     ·rename_i e;subst e;simp only [Option.some.injEq] at hk;subst hk;exact ⟨b,hg,rfl,rfl,rfl,by simp,fun _ h=>h⟩
     ·exact ⟨b',hk,rfl,rfl,rfl,rfl,fun _ h=>h⟩
    have yO:St w (H.bg id {b with el:=b.el.map dD}) φ A:=by
     refine ⟨ae.inj,ae.own,ae.bW,fun k loc hk=> ?_⟩;obtain ⟨b0,mr,af⟩:=ae.ap k loc hk;by_cases h:k=id
     ·subst h;rw [hg] at mr;simp only [Option.some.injEq] at mr;subst mr;refine ⟨{b with el:=b.el.map dD},by rw [br,if_pos rfl],af.ad,fun i x hx=> ?_,fun h=>by simp [af.aO h],fun c b0 he=> ?_⟩
      ·simp only [List.getElem?_map,Option.map_eq_some_iff] at hx;obtain ⟨y,hy,rfl⟩:=hx;rw [kF,List.length_map];exact af.sized i y hy
      ·obtain ⟨arr,T,fr,k1,k2,k3,k4⟩:=af.here c b0 he;refine ⟨arr,T,fr,k1,k2,by simpa using k3,fun i x j y v hx hy hv=> ?_⟩
       simp only [List.getElem?_map,Option.map_eq_some_iff] at hx;obtain ⟨x',bD,rfl⟩:=hx;rw [kF] at hy;simp only [List.getElem?_map,Option.map_eq_some_iff] at hy;obtain ⟨y',en,rfl⟩:=hy;have:=k4 i x' j y' v bD en hv
       exact ⟨po (this.1.mono aP),this.2⟩
     ·refine ⟨b0,by rw [br,if_neg h];exact mr,af.ad,af.sized,af.aO,fun c b1 he=> ?_⟩
      obtain ⟨arr,T,fr,k1,k2,k3,k4⟩:=af.here c b1 he;exact ⟨arr,T,fr,k1,k2,k3,fun i x j y v hx hy hv=>⟨(k4 i x j y v hx hy hv).1.mono aP,(k4 i x j y v hx hy hv).2⟩⟩
    exact ⟨φ,A,⟨yO,.refl _ _,aP,fun c hc _=>hc⟩,hs.mono aP⟩
  |_=>exact ⟨φ,A,.refl ae,plain _ hv⟩
 unfold jJ;exact key _ rfl
theorem mu {w:World} {a:Act}: ∀(l:List (List Nat×List Sh)) {H:J} {φ :ag} {A:ah} {s s' :aj} {H' :J},St w H φ A→SF w H φ A s a→dn l s H=some (s',H')→
 ∃ak A',Out w H φ A w H' ak A' ∧SF w H' ak A' s' a
 |[],H,φ,A,s,s',H',ae,hs,h=>by
  simp only [dn,Option.some.injEq,Prod.mk.injEq] at h;obtain ⟨rfl,rfl⟩:=h;exact ⟨φ,A,.refl ae,hs⟩
 |([],sh)::l,H,φ,A,s,s',H',ae,hs,h=>by simp [dn] at h
 |(t::ts,[])::l,H,φ,A,s,s',H',ae,hs,h=>by
  simp only [dn] at h;obtain ⟨φ1,A1,h1,h2⟩:=yN t ae hs;obtain ⟨ak,A',h3,h4⟩:=mu l h1.st h2 h;exact ⟨ak,A',h1.trans ae h3,h4⟩
 |(t::ts,e::sh)::l,H,φ,A,s,s',H',ae,hs,h=>by
  simp only [dn] at h;split at h
  ·rename_i y H1 hy;obtain ⟨h1,h2⟩:=yL (ts:=ts) ae hs hy;obtain ⟨ak,A',h3,h4⟩:=mu l h1.st h2 h;exact ⟨ak,A',h1.trans ae h3,h4⟩
  ·simp at h
section code
variable {P:Program} {C:aI} {X:bw}
def Ends (Q:Exit→Act→World→Prop) (K:Ex→aj→J→Prop) (w:World) (H:J) (φ :ag) (A:ah):Prop:=
 ∀e s' H' ak A' a' w',Out w H φ A w' H' ak A' →SF w' H' ak A' s' a' →K e s' H' →Q (rN e) a' w'
theorem pq {w:World} {H:J} {φ :ag} {A:ah} {s:aj} {a:Act} {ops:Array Oper} {o:Oper} {b:Bool} (hs: ∀j want t,o.guard=some (j,want)→(ops[j]?).bind (·.dst)=some t→R w H φ A (ev s (.tmp t)) (a.eval (.tmp t))) (h:dm ops o s=some b):Region.wanted o (yielded ops a.tmps)=b:=by
 unfold dm at h;unfold Region.wanted;cases hg:o.guard with
 |none=>rw [hg] at h;simp at h;subst h;simp
 |some p=>
  obtain ⟨j,want⟩:=p;rw [hg] at h;simp only at h⊢;split at h
  ·rename_i t ht;have hv:=hs j want t hg ht;simp only [ev,Act.eval] at hv;split at h
   ·rename_i c hc;rw [hc] at hv;simp only [Option.some.injEq] at h;subst h;have:=hv.eM;have hy:yielded ops a.tmps j=some c:=by
     unfold yielded;rw [ht];simp only [Option.bind_some];rw [Array.getD_eq_getD_getElem?] at this;cases hq:a.tmps[t]? with
     |none=>rw [hq] at this;simp [undef] at this
     |some v=>rw [hq] at this;simp at this;subst this;rfl
    rw [hy];cases c<;>cases want<;>rfl
   ·rename_i cs hc;rw [hc] at hv;simp only [Option.some.injEq] at h;subst h;obtain ⟨vs,bz,_⟩:=hv.lF;have hy:yielded ops a.tmps j=none:=by
     unfold yielded;rw [ht];simp only [Option.bind_some];rw [Array.getD_eq_getD_getElem?] at bz;cases hq:a.tmps[t]? with
     |none=>rfl
     |some v=>rw [hq] at bz;simp at bz;subst bz;rfl
    rw [hy];cases want<;>rfl
   ·simp at h
  ·simp at h
theorem rP (hE: ∀t ti,C.E t=some ti→aR P t ti) (hX: ∀f ys H K,X f ys H K→cq P f ys H K) {ops:Array Oper} {th:List Nat} {fz:List (Nat×List (List Nat×List Sh))} {K:aj→J→Prop} {Q:Exit→Act→World→Prop}:
 ∀(l:List Oper) (i:Nat) (s:aj) (H:J) (w:World) (φ :ag) (A:ah) (a:Act),cM X C ops th fz K l i s H→St w H φ A→SF w H φ A s a→
  (∀s' H' ak A' a' w',Out w H φ A w' H' ak A' →SF w' H' ak A' s' a' →K s' H' →Q .normal a' w')→wpList P ops Q l a w
 |[],i,s,H,w,φ,A,a,h,ae,hs,hq=>hq s H φ A a w (.refl ae) hs h
 |o::rest,i,s0,H0,w,aA,A0,a,h,cS,ej,yP=>by
  simp only [cM] at h;obtain ⟨s,H,hf,h⟩:=h;obtain ⟨φ,A,ho,hs⟩:=mu _ cS ej hf;have ae:=ho.st;have hq: ∀s' H' ak A' a' w',Out w H φ A w' H' ak A' →SF w' H' ak A' s' a' →K s' H' →Q .normal a' w' :=fun s' H' ak A' a' w' k1 k2 k3=>yP s' H' ak A' a' w' (ho.trans cS k1) k2 k3
  have next: ∀{x:AV} {v:Value} {w' :World} {H' :J} {ak:ag} {A' :ah},Out w H φ A w' H' ak A' →R w' H' ak A' x v→cM X C ops th fz K rest (i+1) (bj s o.dst x) H' →wpList P ops Q rest (a.put o.dst v) w' :=by
   intro x v w' H' ak A' h1 h2 h3
   exact rP hE hX rest (i+1) _ H' w' ak A' _ h3 h1.st ((hs.mono h1.bU).set o.dst h2) fun s2 H2 a8 A2 a2 w2 k1 k2 k3=>hq s2 H2 a8 A2 a2 w2 (h1.trans ae k1) k2 k3
  simp only [wpList];cases hg:o.guard with
  |none=>
   rw [hg] at h;simp only at h;have hw:Region.wanted o (yielded ops a.tmps)=true:=by simp [Region.wanted,hg]
   rw [if_pos hw];exact .inl (mn hE hX ae (fun x _=>hs.ev x) h fun x v w' H' ak A' h1 h2 h3=>next h1 h2 h3)
  |some p=>
   rw [hg] at h;simp only at h;obtain ⟨v,H',h1,h2⟩:=h;split at h1
   ·rename_i b hb;have hw:=pq (fun _ _ t _ _=>hs.ev (.tmp t)) hb;cases b with
    |true=>
     rw [if_pos hw];simp only [if_true] at h1;exact .inl (mn hE hX ae (fun x _=>hs.ev x) h1 fun x u w' iK ak A' k1 k2 k3=>by obtain ⟨rfl,rfl⟩:=k3;exact next k1 k2 h2)
    |false=>
     rw [if_neg (by rw [hw];simp)]
     simp only [Bool.false_eq_true,if_false] at h1;obtain ⟨rfl,rfl⟩:=h1;exact next (.refl ae) (.fr _ _ (.ay [] #[] rfl (by simp))) h2
   ·exact h1.elim
def mv (P:Program) (C:aI) (X:bw):Prop:=
 ∀(ops:Array Oper) (az:List Nat) (th:List Nat) (s:aj) (H:J) (K:aj→J→Prop) (Q:Exit→Act→World→Prop) (w:World) (φ :ag) (A:ah) (a:Act),iA ops az=true→
  cW X C ops (fun i=> !az.contains i) (fD ops az) th K ops.toList 0 s H→St w H φ A→SF w H φ A s a→(∀s' H' ak A' a' w',Out w H φ A w' H' ak A' →SF w' H' ak A' s' a' →K s' H' →Q .normal a' w')→wpAny P .any ops Q ops.size (Array.replicate ops.size false) a {w with drawn:=w.drawn+1}
theorem Ends.trans {Q:Exit→Act→World→Prop} {K:Ex→aj→J→Prop} {w w1:World} {H H1:J} {φ φ1:ag} {A A1:ah} (ae:St w H φ A) (h:Out w H φ A w1 H1 φ1 A1) (k:Ends Q K w H φ A):Ends Q K w1 H1 φ1 A1:=
 fun e s' H' ak A' a' w' h1 h2 h3=>k e s' H' ak A' a' w' (h.trans ae h1) h2 h3
theorem rQ (hm:P.follows .mixedOrders=true) (hE: ∀t ti,C.E t=some ti→aR P t ti) (hX: ∀f ys H K,X f ys H K→cq P f ys H K) (hD:mv P C X) (p:kj):
 ∀(c:Code) (cy:Nat) (s:aj) (H:J) (K:Ex→aj→J→Prop) (Q:Exit→Act→World→Prop) (w:World) (φ :ag) (A:ah) (a:Act),cU p c=true→aJ X C (cV p cy c) s H K→St w H φ A→SF w H φ A s a→Ends Q K w H φ A→c.wp P Q a w:=by
 intro c;induction c with
 |skip=>intro cy s H K Q w φ A a ho h ae hs hq;exact wp_skip (hq .normal s H φ A a w (.refl ae) hs h)
 |ret=>intro cy s H K Q w φ A a ho h ae hs hq;exact wp_ret (hq .ret s H φ A a w (.refl ae) hs h)
 |exit id=>intro cy s H K Q w φ A a ho h ae hs hq;exact wp_exit (hq (.exit id) s H φ A a w (.refl ae) hs h)
 |seq x y yQ pr=>
  intro cy s H K Q w φ A a ho h ae hs hq;simp only [cV,aJ] at h;simp only [cU,Bool.and_eq_true] at ho;refine wp_seq (yQ cy s H _ _ w φ A a ho.1 h ae hs fun e s' H' ak A' a' w' h1 h2 h3=> ?_)
  cases e with
  |normal=>exact pr cy s' H' K Q w' ak A' a' ho.2 h3 h1.st h2 (Ends.trans ae h1 hq)
  |exit id=>exact hq (.exit id) s' H' ak A' a' w' h1 h2 h3
  |ret=>exact hq .ret s' H' ak A' a' w' h1 h2 h3
 |cond x y z pr yR=>
  intro cy s H K Q w φ A a ho h ae hs hq;simp only [cU,Bool.and_eq_true] at ho;have key: ∀(K:Ex→aj→J→Prop),aJ X C (.cond x (cV p cy y) (cV p cy z)) s H K→Ends Q K w H φ A→(Code.cond x y z).wp P Q a w:=by
   intro K h hq;simp only [aJ] at h;split at h
   ·rename_i t ht;have hv:=hs.ev x;rw [ht] at hv;refine wp_cond hv.eM ?_;cases t with
    |true=>exact pr cy s H K Q w φ A a ho.1 h ae hs hq
    |false=>exact yR cy s H K Q w φ A a ho.2 h ae hs hq
   ·exact h.elim
  simp only [cV] at h;unfold lD at h;split at h
  ·rename_i kp _;simp only [aJ,dn] at h;refine key _ h fun e s' H' ak A' a' w' h1 h2 h3=> ?_
   cases e with
   |normal=>exact hq .normal _ H' ak A' a' w' h1 (h2.kill kp) h3
   |exit id=>exact hq (.exit id) s' H' ak A' a' w' h1 h2 h3
   |ret=>exact hq .ret s' H' ak A' a' w' h1 h2 h3
  ·exact key K h hq
 |block id x ih=>
  intro cy s H K Q w φ A a ho h ae hs hq;simp only [cV,aJ] at h;have mw: ∀{w:World} {H:J} {φ :ag} {A:ah} {s:aj} {a:Act} (kp:Option (List Nat)),SF w H φ A s a→SF w H φ A (dU kp s) a:=by
   intro w H φ A s a kp h;cases kp with
   |none=>exact h
   |some l=>exact h.kill l
  simp only [cU] at ho;refine wp_block (ih id s H _ _ w φ A a ho h ae hs fun e s' H' ak A' a' w' h1 h2 h3=> ?_)
  cases e with
  |normal=>exact hq .normal _ H' ak A' a' w' h1 (mw _ h2) h3
  |exit j=>
   simp only at h3;simp only [rN,Exit.inBlock];split at h3
   ·rename_i hj;rw [if_pos hj];exact hq .normal _ H' ak A' a' w' h1 (mw _ h2) h3
   ·rename_i hj;rw [if_neg hj];exact hq (.exit j) s' H' ak A' a' w' h1 h2 h3
  |ret=>exact hq .ret s' H' ak A' a' w' h1 h2 h3
 |loop c ih=>
  intro cy s H K Q w φ A a ho h ae hs hq;simp only [cV,aJ] at h;have rR: ∀{w:World} {H:J} {φ :ag} {A:ah} {s:aj} {a:Act} (sp:lC) (n:Nat),St w H φ A→SF w H φ A s a→ ∃ φ1,Out w H φ A w (gK sp n s H).2 φ1 A∧SF w (gK sp n s H).2 φ1 A (gK sp n s H).1 a:=by
   intro w H φ A s a sp n h1 h2;unfold gK;by_cases ht:sp.trim=true
   ·have ho:=yK h1 n;simp only [ht,if_true];exact ⟨_,ho,(h2.mono ho.bU).kill _⟩
   ·simp only [ht];exact ⟨φ,.refl h1,h2.kill _⟩
  intro b k cs;have main:=h (fun s H=> ∀(w:World) (φ :ag) (A:ah) (a:Act),St w H φ A→SF w H φ A s a→Ends Q K w H φ A→
   ∀(b:Frame) (k:List Item) (cs:List Frame),∃e a' w',Q e a' w' ∧Arrives P (lone (b.at a (.code c:: .inLoop c::k)) cs w) b k cs e a' w') (fun s H hB w φ A a ae hs hq b k cs=>by
    obtain ⟨e,a1,w1,hN,dI⟩:=ih cy s H _ (Exit.then (fun a1 w1=> ∀(b:Frame) (k:List Item) (cs:List Frame),∃e a' w',Q e a' w' ∧Arrives P (lone (b.at a1 (.code c:: .inLoop c::k)) cs w1) b k cs e a' w') Q) w φ A a (by simpa only [cU] using ho) hB ae hs (fun e s' H' ak A' a' w' h1 h2 h3=>by
     cases e with
     |normal=>
      obtain ⟨φ1,k1,k2⟩:=rR ((p.loops.lookup cy).getD {}) _ h1.st h2;exact h3 w' φ1 A' a' k1.st k2 (Ends.trans ae (h1.trans ae k1) hq)
     |exit id=>exact hq (.exit id) s' H' ak A' a' w' h1 h2 h3
     |ret=>exact hq .ret s' H' ak A' a' w' h1 h2 h3) b (.inLoop c::k) cs
    cases e with
    |normal=>
     obtain ⟨yS,a₂,yT,yU,yV⟩:=hN b k cs;exact ⟨yS,a₂,yT,yU,.of_steps (Steps.trans dI (.one step_inLoop)) yV⟩
    |exit id=>exact ⟨_,a1,w1,hN,.pass (x:= .inLoop c) rfl (fun _ _=> .inl (by simp)) dI⟩
    |goto l=>exact ⟨_,a1,w1,hN,.pass (x:= .inLoop c) rfl (fun _ _=> .inl (by simp)) dI⟩
    |ret=>exact ⟨_,a1,w1,hN,.pass (x:= .inLoop c) rfl (fun _ _=> .inl (by simp)) dI⟩
    |panic ch=>exact ⟨_,a1,w1,hN,.pass (x:= .inLoop c) rfl (fun _ _=> .inl (by simp)) dI⟩
    |outgrown=>exact ⟨_,a1,w1,hN,.pass (x:= .inLoop c) rfl (fun _ _=> .inl (by simp)) dI⟩)
  obtain ⟨φ1,k1,k2⟩:=rR ((p.loops.lookup cy).getD {}) H.bs.length ae hs;obtain ⟨e,a',w',yW,dI⟩:=main w φ1 A a k1.st k2 (Ends.trans ae k1 hq) b k cs;exact ⟨e,a',w',yW,.of_steps (.one step_loop) dI⟩
 |region id ops draw=>
  intro cy s H K Q w φ A a ho h ae hs hq;have key: ∀(K:Ex→aj→J→Prop),aJ X C (iw (p.nB.lookup id) ((p.fz.lookup id).getD []) id (fB (p.f_.lookup id) ops) draw) s H K→Ends Q K w H φ A→(Code.region id ops draw).wp P Q a w:=by
   intro K h hq;cases draw with
   |false=>
    have eS:fB (p.f_.lookup id) ops=ops:=by
     simp only [cU] at ho;cases hl:p.f_.lookup id with
     |none=>rfl
     |some π =>rw [hl] at ho;simp at ho
    rw [eS] at h;have h' :cM X C ops (match p.nB.lookup id with|some (_,th)=>th|none=>[]) ((p.fz.lookup id).getD []) (fun s H=>K .normal s H) ops.toList 0 s H:=by
     unfold iw at h;split at h
     ·rename_i n th he;rw [he];exact h
     ·rename_i he;rw [he];exact h
    exact wp_region_list (rP hE hX ops.toList 0 s H w φ A a h' ae hs fun s' H' ak A' a' w' h1 h2 h3=>hq .normal s' H' ak A' a' w' h1 h2 h3)
   |true=>
    have h' : ∃q th,iA (fB (p.f_.lookup id) ops) q=true∧cW X C (fB (p.f_.lookup id) ops) (fun i=> !q.contains i) (fD (fB (p.f_.lookup id) ops) q) th (fun s H=>K .normal s H) (fB (p.f_.lookup id) ops).toList 0 s H:=by
     unfold iw at h;split at h
     ·exact ⟨_,_,h.1,h.2⟩
     ·exact ⟨_,_,h.1,h.2⟩
    obtain ⟨q,th,hd,h'⟩:=h';have hw:=hD _ q th s H _ Q w φ A a hd h' ae hs fun s' H' ak A' a' w' h1 h2 h3=>hq .normal s' H' ak A' a' w' h1 h2 h3
    refine wp_region_any hm ?_;simp only [cU] at ho;cases hl:p.f_.lookup id with
    |none=>rw [hl] at hw;exact hw
    |some π =>
     rw [hl] at hw ho;simp only [Bool.true_and] at ho;exact yJ (yD ho) hw
  simp only [cV] at h;unfold jH at h;split at h
  ·rename_i l kp _;have mw: ∀{w:World} {H:J} {φ :ag} {A:ah} {s:aj} {a:Act} (kp:Option (List Nat)),SF w H φ A s a→SF w H φ A (dU kp s) a:=by
    intro w H φ A s a kp h;cases kp with
    |none=>exact h
    |some l=>exact h.kill l
   simp only [aJ] at h;refine key _ h fun e s' H' ak A' a' w' h1 h2 h3=> ?_
   cases e with
   |normal=>
    simp only at h3;split at h3
    ·rename_i s2 H2 hf;obtain ⟨a8,A2,k1,k2⟩:=mu l h1.st h2 hf;exact hq .normal _ H2 a8 A2 a' w' (h1.trans ae k1) (mw kp k2) h3
    ·exact h3.elim
   |exit id=>exact hq (.exit id) s' H' ak A' a' w' h1 h2 h3
   |ret=>exact hq .ret s' H' ak A' a' w' h1 h2 h3
  ·exact key K h hq
 |_=>intro cy s H K Q w φ A a ho h ae hs hq;simp only [cV,aJ] at h
end code
end Go.VS
namespace Go.VS
section body
variable {P:Program} {C:aI} {X:bw}
theorem pu (hE: ∀t ti,C.E t=some ti→aR P t ti) {w:World} {H:J} {φ :ag} {A:ah} {s:aj} {a:Act} (ae:St w H φ A) (hs:SF w H φ A s a) {f:ResultVar→Sem Value} (kX: ∀t,f (.tmp t)=pure (a.tmps.getD t undef)) (kY: ∀x t,f (.cell x t)=(do loadVar t (←asAddr (a.tmps.getD x undef)))):
 ∀(l:List ResultVar) (rs:List AV),dw C.E s H l=some rs→
 ∃cB:List Value,(l.mapM f).run P w= .ok cB w∧rs.length=cB.length∧ ∀(i:Nat) (x:AV) (u:Value),rs[i]? =some x→cB[i]? =some u→R w H φ A x u
 |[],rs,h=>by
  simp only [dw,Option.some.injEq] at h;subst h;exact ⟨[],by simp,rfl,by simp⟩
 | .tmp t::l,rs,h=>by
  simp only [dw,Option.map_eq_some_iff] at h;obtain ⟨pv,h1,rfl⟩:=h;obtain ⟨cB,k1,k2,k3⟩:=pu hE ae hs kX kY l pv h1
  refine ⟨a.tmps.getD t undef::cB,by simp [List.mapM_cons,k1,kX],by simp [k2],fun i x u hx hu=> ?_⟩
  cases i with
  |zero=>simp at hx hu;subst hx;subst hu;have:=hs.ev (.tmp t);simpa [ev,Act.eval] using this
  |succ i=>exact k3 i x u hx hu
 | .cell b t::l,rs,h=>by
  simp only [dw] at h;split at h
  ·rename_i v H' he
   simp only [Option.map_eq_some_iff] at h;obtain ⟨pv,h1,rfl⟩:=h;obtain ⟨cB,k1,k2,k3⟩:=pu hE ae hs kX kY l pv h1
   have hb:=hs.ev (.tmp b);simp only [aN] at he;obtain ⟨u,hu,hr⟩:=qx (P:=P) hE ae (a7.refl H) hb he;have aL:(do loadVar t (←asAddr (a.tmps.getD b undef)):Sem Value).run P w= .ok u w:=by
    revert hu;simp only [Act.eval];unfold Instr.loadAt;generalize a.tmps.getD b undef=q;intro hu;cases q with
    |pointer o=>cases o with
     |none=>simp [Instr.sureAddr] at hu
     |some o=>simpa [Instr.sureAddr,asAddr] using hu
    |_=>simp [Instr.sureAddr] at hu
   refine ⟨u::cB,by rw [List.mapM_cons,kY,Sem.run_bind,aL];simp [k1],by simp [k2],fun i x u' hx aL=> ?_⟩
   cases i with
   |zero=>simp at hx aL;subst hx;subst aL;exact hr
   |succ i=>exact k3 i x u' hx aL
  ·simp at h
theorem rS (hE: ∀t ti,C.E t=some ti→aR P t ti) {w:World} {H:J} {φ :ag} {A:ah} {s:aj} {a:Act} (ae:St w H φ A) (hs:SF w H φ A s a) {fn:Func} {rs:List AV} (h:dw C.E s H fn.results.toList=some rs):
 ∃cB:List Value,(results fn a.tmps).run P w= .ok (g_ cB) w∧rs.length=cB.length∧ ∀(i:Nat) (x:AV) (u:Value),rs[i]? =some x→cB[i]? =some u→R w H φ A x u:=by
 obtain ⟨f,kX,kY,yX⟩: ∃f:ResultVar→Sem Value,(∀t,f (.tmp t)=pure (a.tmps.getD t undef))∧(∀x t,f (.cell x t)=(do loadVar t (←asAddr (a.tmps.getD x undef))))∧
  results fn a.tmps=(do let vs←fn.results.mapM f;pure (if h:vs.size=1 then vs[0] else .tuple vs)):=⟨_,fun _=>rfl,fun _ _=>rfl,rfl⟩
 obtain ⟨cB,h1,h2,h3⟩:=pu hE ae hs kX kY fn.results.toList rs h;refine ⟨cB,?_,h2,h3⟩;rw [yX,Sem.run_bind,Array.mapM_eq_mapM_toList,Sem.run_map,h1]
 match cB with
 |[]=>simp [g_]
 |[u]=>simp [g_]
 |u::u' ::us=>simp [g_]
theorem yY (hm:P.follows .mixedOrders=true) (hE: ∀t ti,C.E t=some ti→aR P t ti) (hC: ∀f fn,C.code f=some fn→P.funcs[f]? =some fn∧(fn.name== "runtime.NumGoroutine")=false∧nE (C.gb f) fn=true) (hX: ∀f ys H K,X f ys H K→cq P f ys H K) (hD:mv P C X)
 {f:FuncId} {ys:List AV} {H:J} {K:AV→J→Prop} (h:Body X C f ys H K):cq P f ys H K:=by
 unfold Body at h;split at h
 ·exact h.elim
 rename_i fn ku;split at h
 ·exact h.elim
 rename_i c hc;obtain ⟨hf,pw,kZ⟩:=hC f fn ku;have kZ:cU (C.gb f) c=true:=by unfold nE at kZ;rw [hc] at kZ;exact kZ
 refine ⟨⟨fn,hf,pw,by simp [hc]⟩,fun w A φ us ae hl hr=> ?_⟩
 refine calls_of_wp hf hc (rQ hm hE hX hD (C.gb f) c 0 _ H _ _ w φ A _ kZ h ae ⟨by simp [hl],fun t x v hx hv=> ?_,rfl⟩ ?_)
 ·rcases Nat.lt_or_ge t us.size with ht|ht
  ·rw [List.getElem?_append_left (by rw [hl];exact ht)] at hx
   rw [Array.getElem?_append_left ht] at hv;exact hr t x v hx hv
  ·rw [List.getElem?_append_right (by rw [hl];exact ht)] at hx
   have:x= .undef:=by
    rw [List.getElem?_replicate] at hx;split at hx<;>simp at hx;exact hx.symm
   subst this;exact .fr _ _ (.undef _)
 ·intro e s' H' ak A' a' w' h1 h2 h3
  have fin:(∃rs,dw C.E s' H' fn.results.toList=some rs∧K (ci rs) H')→a'.defers=[]∧ ∃v,(results fn a'.tmps).run P w' = .ok v w' ∧hI w H φ A K (.returned v) w' :=by
   rintro ⟨rs,jn,hk⟩;refine ⟨h2.eG,?_⟩;obtain ⟨cB,k1,k2,k3⟩:=rS (P:=P) hE h1.st h2 jn;exact ⟨_,k1,_,H',ak,A',h1,o8 k2 k3,hk⟩
  cases e with
  |normal=>exact fin h3
  |ret=>exact fin h3
  |exit id=>exact h3.elim
end body
end Go.VS
namespace Go.VS
def fp (H H1:J):Prop:=a7 H H1∧H.bs.length≤H1.bs.length
theorem a7.trans {H H1 H2:J} (h:a7 H H1) (k:a7 H1 H2):a7 H H2:=⟨fun id b hb=>k.1 id b (h.1 id b hb),Nat.le_trans h.2 k.2⟩
theorem fp.refl (H:J):fp H H:=⟨a7.refl _,Nat.le_refl _⟩
theorem fp.trans {H H1 H2:J} (h:fp H H1) (k:fp H1 H2):fp H H2:=⟨h.1.trans k.1,Nat.le_trans h.2 k.2⟩
theorem fp.new (H:J) (sz:Nat) (fx:Bool) (el:List AV):fp H (H.new sz fx el):=⟨J.nY H sz fx el,by simp [J.new]⟩
mutual
theorem px: ∀(y:AV) (H:J),fp H (aF y H).2
 | .own sz xs,H=>by simp only [aF];exact (iL xs H).trans (.new _ _ _ _)
 | .di sz x,H=>by simp only [aF];exact (px x H).trans (.new _ _ _ _)
 | .agg xs,H=>by simp only [aF];exact iL xs H
 | .ay xs,H=>by simp only [aF];exact iL xs H
 | .undef,H=> .refl _
 | .int _ _,H=> .refl _
 | .bool _,H=> .refl _
 | .str _,H=> .refl _
 | .nil,H=> .refl _
 | .e0,H=> .refl _
 | .fz _,H=> .refl _
 | .ref _ _ _ _,H=> .refl _
 | .ptr _ _ _ _,H=> .refl _
 | .fe _ _,H=> .refl _
 | .fn _ _,H=> .refl _
 | .cg _,H=> .refl _
 | .dt,H=> .refl _
theorem iL: ∀(ys:List AV) (H:J),fp H (aG ys H).2
 |[],H=> .refl _
 |y::ys,H=>by simp only [aG];exact (px y H).trans (iL ys _)
end
structure GH (G:J) (φ :ag) (H H1:J):Prop where
 ext:a7 H1 G
 none: ∀id,H.bs.length≤id→id<H1.bs.length→ φ id=none
theorem jY (H:J) (sz:Nat) (fx:Bool) (el:List AV):(H.new sz fx el).bs.length=H.bs.length+1:=by simp [J.new]
theorem GH.fst {G:J} {φ :ag} {H H1 H2:J} (h:GH G φ H H2) (k:fp H1 H2):GH G φ H H1:=⟨k.1.trans h.ext,fun id h1 h2=>h.none id h1 (Nat.lt_of_lt_of_le h2 k.2)⟩
section bq
variable {w:World}
structure MG (w:World) (L:J) (φL:ag) (AL:ah) (G:J) (φ :ag) (AH:ah) (L1:J) (φ1:ag) (lo hi:Nat):Prop where
 less:bA L L1
 bq:bX w L1 (aC φL L1) AL G φ1 AH
 oh: ∀c,Ow φ1 c→Ow φ c∨(Ow φL c∧ ¬Ow (aC φL L1) c)
 gS: ∀c,Ow φ c→Ow φ1 c
 bY: ∀id loc,φ id=some loc→ φ1 id=some loc
 new: ∀id loc,φ1 id=some loc→ φ id=some loc∨(lo≤id∧id<hi)
 le:lo≤hi
theorem MG.eh {L:J} {φL:ag} {AL:ah} {G:J} {φ :ag} {AH:ah} {L1:J} {φ1:ag} {lo hi:Nat} (m:MG w L φL AL G φ AH L1 φ1 lo hi):bF w G φ AH w G φ1 AH:=
 ⟨fun _c _arr _T fr hc hn=>⟨⟨fr,hc⟩,hn⟩,Nat.le_refl _,fun id b hb _=>⟨b,hb,rfl,rfl,rfl,rfl,fun loc h=>m.bY id loc h⟩,fun _ _=>rfl⟩
theorem MG.refl {L:J} {φL:ag} {AL:ah} {G:J} {φ :ag} {AH:ah} (h:bX w L φL AL G φ AH) (lo:Nat):MG w L φL AL G φ AH L φ lo lo:=
 ⟨.refl _,⟨dZ h.sl (.refl _),h.sh,fun c hc=>h.b8 c (bH hc),fun c hc=>h.eo c (bH hc)⟩,fun _c hc=> .inl hc,fun _c hc=>hc,fun _ _ h=>h,fun _ _ h=> .inl h,Nat.le_refl _⟩
theorem MG.trans {L L1 L2:J} {φL:ag} {AL:ah} {G:J} {φ φ1 a8:ag} {AH:ah} {lo mi hi:Nat} (h:MG w L φL AL G φ AH L1 φ1 lo mi) (k:MG w L1 (aC φL L1) AL G φ1 AH L2 a8 mi hi):MG w L φL AL G φ AH L2 a8 lo hi:=by
 have hr:=fN (φ := φL) k.less;refine ⟨h.less.trans k.less,by rw [←hr];exact k.bq,fun c hc=> ?_,fun c hc=>k.gS c (h.gS c hc),fun id loc hl=>k.bY id loc (h.bY id loc hl),fun id loc hl=> ?_,Nat.le_trans h.le k.le⟩
 ·rcases k.oh c hc with h1|⟨h1,h2⟩
  ·rcases h.oh c h1 with h3|⟨h3,h4⟩
   ·exact .inl h3
   ·refine .inr ⟨h3,fun h5=>h4 ?_⟩;rw [←hr] at h5;exact bH h5
  ·rw [hr] at h2;exact .inr ⟨bH h1,h2⟩
 ·have h1:=h.le;have h2:=k.le;rcases k.new id loc hl with h3|⟨h3,h4⟩
  ·rcases h.new id loc h3 with h5|⟨h5,h6⟩
   ·exact .inl h5
   ·exact .inr ⟨h5,by omega⟩
  ·exact .inr ⟨by omega,h4⟩
theorem GH.snd {L L1:J} {φL:ag} {AL:ah} {G:J} {φ φ1:ag} {AH:ah} {H H1 H2:J} (h:GH G φ H H2) (m:MG w L φL AL G φ AH L1 φ1 H.bs.length H1.bs.length):GH G φ1 H1 H2:=by
 refine ⟨h.ext,fun id h1 h2=> ?_⟩;cases hp: φ1 id with
 |none=>rfl
 |some loc=>
  have hle:=m.le;rcases m.new id loc hp with h3|⟨_,h3⟩
  ·rw [h.none id (by omega) h2] at h3;simp at h3
  ·omega
theorem rT {L L1:J} {φL:ag} {AL:ah} {G:J} {φ φ1:ag} {AH:ah} {lo hi:Nat} (m:MG w L φL AL G φ AH L1 φ1 lo hi) {ad sz:Nat} {fx:Bool} {el:List AV} {loc:Loc} (hg:G.get hi=some ⟨ad,sz,fx,el⟩) (bN:ad<G.st) (gV: φ hi=none)
 (dX: ∀(i:Nat) (x:AV),el[i]? =some x→x.cells.length=sz) (hv:loc= .aO→el=[])
 (ep: ∀c b0,loc= .at_ c b0→Ow φL c∧ ¬Ow (aC φL L1) c∧ ¬Ow φ1 c∧AH c∧ ∃arr T fr,w.heap[c]? =some (.cells arr T fr)∧(∀j,j<arr.size→ ¬(fr.1≤j∧j<fr.2))∧b0+el.length*sz≤arr.size∧
  ∀(i:Nat) (x:AV) (j:Nat) (y:AV) (v:Value),el[i]? =some x→x.cells[j]? =some y→arr[b0+i*sz+j]? =some v→R w G φ1 AH y v∧v.oneCell' =true):
 MG w L φL AL G φ AH L1 (fun i=>if i=hi then some loc else φ1 i) lo (hi+1):=by
 have fj:=m.bq.sh;have hle:=m.le;have bm: φ1 hi=none:=by
  cases hp: φ1 hi with
  |none=>rfl
  |some l=>
   rcases m.new hi l hp with h|⟨_,h⟩
   ·rw [gV] at h;simp at h
   ·omega
 have aP:bF w G φ1 AH w G (fun i=>if i=hi then some loc else φ1 i) AH:=by
  refine ⟨fun c a t fr hc hn=>⟨⟨fr,hc⟩,hn⟩,Nat.le_refl _,fun id b hb ax=>⟨b,hb,rfl,rfl,rfl,rfl,fun l hl=> ?_⟩,fun _ _=>rfl⟩;rw [if_neg (by rintro rfl;rw [bm] at hl;simp at hl)];exact hl
 have dH: ∀c,Ow (fun i=>if i=hi then some loc else φ1 i) c→Ow φ1 c∨ ∃b0,loc= .at_ c b0:=by
  rintro c ⟨i,b,h⟩;try simp only at h
  split at h
  ·simp only [Option.some.injEq] at h;exact .inr ⟨b,h⟩
  ·exact .inl ⟨i,b,h⟩
 refine ⟨m.less,⟨m.bq.sl,⟨fun i i' c b b' h1 h2=> ?_,fun c hc=> ?_,fj.bW,fun i l hl=> ?_⟩,fun c hc ho=> ?_,m.bq.eo⟩,fun c hc=> ?_,fun c hc=> ?_,fun id l hl=> ?_,fun id l hl=> ?_,by omega⟩
 ·try simp only at h1 h2
  split at h1
  ·rename_i hi;split at h2
   ·rename_i gP;omega
   ·simp only [Option.some.injEq] at h1;exact absurd ⟨i',b',h2⟩ (ep c b h1).2.2.1
  ·split at h2
   ·simp only [Option.some.injEq] at h2;exact absurd ⟨i,b,h1⟩ (ep c b' h2).2.2.1
   ·exact fj.inj _ _ _ _ _ h1 h2
 ·rcases dH c hc with h|⟨b0,h⟩
  ·exact fj.own c h
  ·exact (ep c b0 h).2.2.2.1
 ·try simp only at hl
  split at hl
  ·rename_i hi;subst hi;simp only [Option.some.injEq] at hl;subst hl;refine ⟨_,hg,bN,dX,hv,fun c b0 he=> ?_⟩;obtain ⟨_,_,_,_,arr,T,fr,k1,k2,k3,k4⟩:=ep c b0 he;exact ⟨arr,T,fr,k1,k2,k3,fun j x q y v bD hy cp=>⟨(k4 j x q y v bD hy cp).1.mono aP,(k4 j x q y v bD hy cp).2⟩⟩
  ·obtain ⟨bb,hb,af⟩:=fj.ap i l hl;refine ⟨bb,hb,af.ad,af.sized,af.aO,fun c b0 he=> ?_⟩;obtain ⟨arr,T,fr,k1,k2,k3,k4⟩:=af.here c b0 he;exact ⟨arr,T,fr,k1,k2,k3,fun j x q y v bD hy cp=>⟨(k4 j x q y v bD hy cp).1.mono aP,(k4 j x q y v bD hy cp).2⟩⟩
 ·rcases dH c ho with h|⟨b0,h⟩
  ·exact m.bq.b8 c hc h
  ·exact (ep c b0 h).2.1 hc
 ·rcases dH c hc with h|⟨b0,h⟩
  ·exact m.oh c h
  ·exact .inr ⟨(ep c b0 h).1,(ep c b0 h).2.1⟩
 ·obtain ⟨i,b,h⟩:=m.gS c hc
  exact ⟨i,b,by show (if i=hi then some loc else φ1 i)=_;rw [if_neg (by rintro rfl;rw [bm] at h;simp at h)];exact h⟩
 ·have:=m.bY id l hl;rw [if_neg (by rintro rfl;rw [bm] at this;simp at this)];exact this
 ·try simp only at hl
  split at hl
  ·rename_i hi;subst hi;exact .inr ⟨hle,Nat.lt_succ_self _⟩
  ·rcases m.new id l hl with h|⟨h1,h2⟩
   ·exact .inl h
   ·exact .inr ⟨h1,by omega⟩
set_option maxRecDepth 4000
theorem rU {es:List Sh} (hE: ∀(x:AV) (vs:List Value) (L:J) (φL:ag) (AL:ah) (H G:J) (φ :ag) (AH:ah) (y:AV) (L1:J) (a:AV) (H1:J),bX w L φL AL G φ AH→GH G φ H H1→x.cells.length=vs.length→
 (∀(j:Nat) (c:AV) (u:Value),x.cells[j]? =some c→vs[j]? =some u→R w L φL AL c u)→aY es x L=some (y,L1)→aF y H=(a,H1)→fO AL AH y→
 ∃ φ1,MG w L φL AL G φ AH L1 φ1 H.bs.length H1.bs.length∧a.cells.length=x.cells.length∧ ∀(j:Nat) (c:AV) (u:Value),a.cells[j]? =some c→vs[j]? =some u→R w G φ1 AH c u):
 ∀(xs:List AV) (g:Nat→Nat→Value) (L:J) (φL:ag) (AL:ah) (H G:J) (φ :ag) (AH:ah) (ys:List AV) (L1:J) (as:List AV) (H1:J),bX w L φL AL G φ AH→GH G φ H H1→
  (∀(i:Nat) (x:AV) (j:Nat) (c:AV),xs[i]? =some x→x.cells[j]? =some c→R w L φL AL c (g i j))→dj (aY es) xs L=some (ys,L1)→aG ys H=(as,H1)→dN AL AH ys→
  ∃ φ1,MG w L φL AL G φ AH L1 φ1 H.bs.length H1.bs.length∧as.length=xs.length∧(∀(i:Nat) (x a:AV),xs[i]? =some x→as[i]? =some a→a.cells.length=x.cells.length)∧
   ∀(i:Nat) (a:AV) (j:Nat) (c:AV),as[i]? =some a→a.cells[j]? =some c→R w G φ1 AH c (g i j)
 |[],g,L,φL,AL,H,G,φ,AH,ys,L1,as,H1,hd,hh,_,ht,hw,_=>by
  simp only [dj,Option.some.injEq,Prod.mk.injEq] at ht;obtain ⟨rfl,rfl⟩:=ht;simp only [aG,Prod.mk.injEq] at hw;obtain ⟨rfl,rfl⟩:=hw;exact ⟨φ,.refl hd _,rfl,by simp,by simp⟩
 |x::xs,g,L,φL,AL,H,G,φ,AH,ys,L1,as,H1,hd,hh,hr,ht,hw,hk=>by
  simp only [dj] at ht;split at ht
  ·rename_i y L' h1
   split at ht
   ·rename_i aT c8 h2
    simp only [Option.some.injEq,Prod.mk.injEq] at ht;obtain ⟨rfl,rfl⟩:=ht;obtain ⟨k1,k2⟩:=hk.cons;simp only [aG,Prod.mk.injEq] at hw;obtain ⟨rfl,rfl⟩:=hw
    let vs:List Value:=(List.range x.cells.length).map (g 0)
    obtain ⟨φ1,m1,l1,r1⟩:=hE x vs L φL AL H G φ AH y L' _ _ hd (hh.fst (iL _ _)) (by simp [vs]) (fun j c u hj hu=>by
     have dM:j<x.cells.length:=(List.getElem?_eq_some_iff.1 hj).1;have:vs[j]? =some (g 0 j):=by simp [vs,dM]
     rw [this] at hu;simp only [Option.some.injEq] at hu;subst hu;exact hr 0 x j c rfl hj) h1 rfl k1
    obtain ⟨a8,m2,l2,s2,r2⟩:=rU hE xs (fun i j=>g (i+1) j) L' (aC φL L') AL _ G φ1 AH aT c8 _ _ m1.bq (hh.snd m1) (fun i x' j c hi hj=>(hr (i+1) x' j c hi hj).mono (cZ m1.less)) h2 rfl k2
    refine ⟨a8,m1.trans m2,by simp [l2],fun i x' a hx ha=> ?_,fun i a j c ha hc=> ?_⟩
    ·cases i with
     |zero=>simp at hx ha;subst hx;subst ha;exact l1
     |succ i=>exact s2 i x' a hx ha
    ·cases i with
     |zero=>
      simp only [List.getElem?_cons_zero,Option.some.injEq] at ha;subst ha;have hj:j<x.cells.length:=by rw [←l1];exact (List.getElem?_eq_some_iff.1 hc).1
      exact (r1 j c (g 0 j) hc (by simp [vs,hj])).mono m2.eh
     |succ i=>exact r2 i a j c ha hc
   ·simp at ht
  ·simp at ht
theorem rV {L:J} {φL:ag} {AL:ah} {G:J} {φ :ag} {AH:ah} (hd:bX w L φL AL G φ AH) {id ad:Nat} {b:bB} (hb:L.ap id ad=some b) {off n:Nat} (hle:off+n≤b.el.length) {sz:Nat} (hs:b.sz=sz) {loc:Loc} (aU: φL id=some loc)
 {L1:J} {as:List AV} {lo hi:Nat} {g:Nat→Nat→Value} {φ1:ag} (hg: ∀c b0 arr T fr,loc= .at_ c b0→w.heap[c]? =some (.cells arr T fr)→ ∀(i j:Nat) (v:Value),i<n→j<sz→arr[b0+(off+i)*sz+j]? =some v→g i j=v)
 (m:MG w (L.del id) (aC φL (L.del id)) AL G φ AH L1 φ1 lo hi) (hl:as.length=n) (dX: ∀(i:Nat) (a:AV),as[i]? =some a→a.cells.length=sz)
 (hr: ∀(i:Nat) (a:AV) (j:Nat) (c:AV),as[i]? =some a→a.cells[j]? =some c→R w G φ1 AH c (g i j)) {gY:Nat} (fx:Bool) (hZ:G.get hi=some ⟨gY,sz,fx,as⟩) (bN:gY<G.st) (gV: φ hi=none) (loc' :Loc) (gT:loc' = .aO∧n=0∨ ∃c b0,loc= .at_ c b0∧loc' = .at_ c (b0+off*sz)):
 MG w L φL AL G φ AH L1 (fun i=>if i=hi then some loc' else φ1 i) lo (hi+1):=by
 have oF:=(J.bn hb).1;have oG:=(bA.del L id).trans m.less;have gU:aC (aC φL (L.del id)) L1=aC φL L1:=fN m.less;have m' :MG w L φL AL G φ AH L1 φ1 lo hi:=by
  refine ⟨oG,by have:=m.bq;rwa [gU] at this,fun c hc=> ?_,m.gS,m.bY,m.new,m.le⟩
  rcases m.oh c hc with h|⟨h1,h2⟩
  ·exact .inl h
  ·rw [gU] at h2;exact .inr ⟨bH h1,h2⟩
 refine rT m' hZ bN gV dX (fun hv=> ?_) (fun c b1 he=> ?_)
 ·rcases gT with ⟨_,h0⟩|⟨c,b0,_,h2⟩
  ·exact List.eq_nil_of_length_eq_zero (by omega)
  ·rw [h2] at hv;simp at hv
 ·rcases gT with ⟨h1,_⟩|⟨c',b0,h1,h2⟩
  ·rw [h1] at he;simp at he
  ·rw [h2] at he;simp only [Loc.at_.injEq] at he;obtain ⟨rfl,rfl⟩:=he;subst h1;have jh:Ow φL c' :=⟨id,b0,aU⟩
   have oH: ¬Ow (aC φL L1) c' :=by
    rintro ⟨i,bb,hi⟩;obtain ⟨fl,bk,aW⟩:=df hi;have:=hd.sl.inj _ _ _ _ _ fl aU;subst this;have:=m.less.get _ _ aW;rw [J.iI,if_pos rfl] at this;simp at this
   refine ⟨jh,oH,fun ho=> ?_,hd.eo _ jh,?_⟩
   ·rcases m.oh c' ho with h|⟨⟨i,bb,hi⟩,_⟩
    ·exact hd.b8 c' jh h
    ·obtain ⟨fl,bk,aW⟩:=df hi;have:=hd.sl.inj _ _ _ _ _ fl aU;subst this;rw [J.iI,if_pos rfl] at aW;simp at aW
   ·obtain ⟨bk,aW,af⟩:=hd.sl.ap id _ aU;rw [oF] at aW;simp only [Option.some.injEq] at aW;subst aW;obtain ⟨arr,T,fr,k1,k2,k3,k4⟩:=af.here c' b0 rfl
    have hmul:off*sz+n*sz≤b.el.length*sz:=by rw [←Nat.add_mul];exact Nat.mul_le_mul_right _ hle
    refine ⟨arr,T,fr,k1,k2,by rw [hl];rw [hs] at k3;omega,fun i a j c v ha hc hv=> ?_⟩
    have hi:i<n:=by rw [←hl];exact (List.getElem?_eq_some_iff.1 ha).1
    have hj:j<sz:=by rw [←dX i a ha];exact (List.getElem?_eq_some_iff.1 hc).1
    have e:b0+off*sz+i*sz+j=b0+(off+i)*sz+j:=by rw [Nat.add_mul];omega
    rw [e] at hv;have oI:=hg c' b0 arr T fr rfl k1 i j v hi hj hv
    refine ⟨by rw [←oI];exact hr i a j c ha hc,?_⟩
    have cb:off+i<b.el.length:=by omega
    have hx:=List.getElem?_eq_getElem cb;have cm:=af.sized _ _ hx;exact (k4 (off+i) _ j _ v hx (List.getElem?_eq_getElem (by omega)) (by rw [hs];exact hv)).2
mutual
theorem my (sh:Sh) (x:AV) (v:Value) (L:J) (φL:ag) (AL:ah) (H G:J) (φ :ag) (AH:ah) (y:AV) (L1:J) (a:AV) (H1:J) (hd:bX w L φL AL G φ AH) (hh:GH G φ H H1) (hx:R w L φL AL x v)
 (ht:aQ sh x L=some (y,L1)) (hw:aF y H=(a,H1)) (hk:fO AL AH y): ∃ φ1,MG w L φL AL G φ AH L1 φ1 H.bs.length H1.bs.length∧R w G φ1 AH a v∧(x≠ .undef→a.cells=[a])∧(x= .undef→a= .undef):=by
 cases sh with
 |sc=>
  simp only [aQ] at ht;split at ht
  ·rename_i hp;simp only [Option.some.injEq,Prod.mk.injEq] at ht;obtain ⟨rfl,rfl⟩:=ht;rw [qX hp] at hw;simp only [Prod.mk.injEq] at hw;obtain ⟨rfl,rfl⟩:=hw;exact ⟨φ,.refl hd _,qW hp hx,fun hu=>cells_one hu (by rintro cs rfl;simp [du] at hp),fun h=>h⟩
  ·simp at ht
 |sl es=>
  have kO: ∀{v0:Option Addr},v= .slice v0 0 0→aF (.own es.length []) H=(a,H1)→L1=L→ ∃ φ1,MG w L φL AL G φ AH L1 φ1 H.bs.length H1.bs.length∧R w G φ1 AH a v∧a.cells=[a]:=by
   intro v0 hv hw hL;subst hL;simp only [aF,aG,Prod.mk.injEq] at hw;obtain ⟨rfl,rfl⟩:=hw;have hZ:=hh.ext.1 _ _ (J.dW H es.length false []);have bN:H.st<G.st:=Nat.lt_of_lt_of_le (Nat.lt_succ_self _) hh.ext.2;have m:=rT (MG.refl hd H.bs.length) hZ bN (hh.none _ (Nat.le_refl _) (by rw [jY];exact Nat.lt_succ_self _)) (loc:= .aO) (by simp) (fun _=>rfl) (by simp)
   rw [←jY H es.length false []] at m;refine ⟨_,m,?_,rfl⟩;refine .ref _ _ _ _ _ bN ⟨_,_,hv⟩ fun b hb=> ?_;have:=jU hZ hb;subst this;exact ⟨.aO,v0,0,by simp,hv,by simp,Nat.le_refl _,by simp,rfl,fun _=>rfl⟩
  cases x with
  |nil=>
   simp only [aQ,Option.some.injEq,Prod.mk.injEq] at ht;obtain ⟨rfl,rfl⟩:=ht;obtain ⟨φ1,h1,h2,h3⟩:=kO hx.c7 hw rfl;exact ⟨φ1,h1,h2,fun _=>h3,fun h=>by simp at h⟩
  |e0=>
   simp only [aQ,Option.some.injEq,Prod.mk.injEq] at ht;obtain ⟨rfl,rfl⟩:=ht;obtain ⟨a0,kP⟩:=hx.eE;obtain ⟨φ1,h1,h2,h3⟩:=kO kP hw rfl;exact ⟨φ1,h1,h2,fun _=>h3,fun h=>by simp at h⟩
  |fz xs=>
   simp only [aQ,Option.some.injEq,Prod.mk.injEq] at ht;obtain ⟨rfl,rfl⟩:=ht;simp only [aF,Prod.mk.injEq] at hw;obtain ⟨rfl,rfl⟩:=hw;rcases hk with hk|hk
   ·exact ⟨φ,.refl hd _,.fr _ _ (hx.dx.shrink hk),fun _=>rfl,fun h=>by simp at h⟩
   ·simp [cr] at hk
  |ref id ad off len=>
   simp only [aQ] at ht;split at ht
   ·rename_i b hb;split at ht
    ·rename_i hc;obtain ⟨c1,c2,c3⟩:=hc;split at ht
     ·rename_i ys L' hm
      simp only [Option.some.injEq,Prod.mk.injEq] at ht;obtain ⟨rfl,rfl⟩:=ht;simp only [aF,Prod.mk.injEq] at hw;obtain ⟨rfl,rfl⟩:=hw;have hg:=(J.bn hb).1;obtain ⟨bN,_,hr⟩:=hx.dy;obtain ⟨loc,a0,cap,q1,rfl,q3,q4,q5,q6⟩:=(hr b hb).out;obtain ⟨bk,aW,af⟩:=hd.sl.ap id _ q1;rw [hg] at aW;simp only [Option.some.injEq] at aW;subst aW;have bE:dN AL AH ys:=by
       rcases hk with h|h
       ·exact .inl h
       ·exact .inr (by simpa [cr] using h)
      have cQ:=bA.del L id;have bZ:bX w (L.del id) (aC φL (L.del id)) AL G φ AH:=⟨dZ hd.sl cQ,hd.sh,fun c hc=>hd.b8 c (bH hc),fun c hc=>hd.eo c (bH hc)⟩
      have bp:(aE b.el off len).length=len:=by simp [aE];omega
      have fP: ∀(i:Nat) (x:AV),(aE b.el off len)[i]? =some x→b.el[off+i]? =some x:=by
       intro i x hi;simp only [aE,List.getElem?_take,List.getElem?_drop] at hi;split at hi
       ·exact hi
       ·simp at hi
      let g:Nat→Nat→Value:=match loc with
       | .aO=>fun _ _=>undef
       | .at_ c b0=>fun i j=>match w.heap[c]? with
        |some (.cells arr _ _)=>arr.getD (b0+(off+i)*es.length+j) undef
        |_=>undef
      have cP: ∀(i:Nat) (x:AV) (j:Nat) (c:AV),(aE b.el off len)[i]? =some x→x.cells[j]? =some c→R w (L.del id) (aC φL (L.del id)) AL c (g i j):=by
       intro i x j c hi hj;have bD:=fP i x hi
       have cd:i<len:=by rw [←bp];exact (List.getElem?_eq_some_iff.1 hi).1
       cases loc with
       |aO=>have:=af.aO rfl;rw [this] at bD;simp at bD
       |at_ c0 b0=>
        obtain ⟨arr,T,fr,k1,k2,k3,k4⟩:=af.here c0 b0 rfl;have dM:j<b.sz:=by rw [←af.sized _ _ bD];exact (List.getElem?_eq_some_iff.1 hj).1
        have hle:=cG (n:=b.sz) (show off+i<b.el.length by omega)
        have ax:b0+(off+i)*b.sz+j<arr.size:=by omega
        have:g i j=arr[b0+(off+i)*b.sz+j]:=by
         simp only [g,k1,←c1,Array.getD_eq_getD_getElem?,Array.getElem?_eq_getElem ax,Option.getD_some]
        rw [this];exact ((k4 _ _ _ _ _ bD hj (Array.getElem?_eq_getElem ax)).1).mono (cZ cQ)
      obtain ⟨φ1,m,l1,s1,r1⟩:=rU (w:=w) (es:=es) (fun x vs L φL AL H G φ AH y L1 a H1=>rW es x vs L φL AL H G φ AH y L1 a H1) _ g _ _ _ _ _ _ _ _ _ _ _ bZ (hh.fst (.new _ _ _ _)) cP hm rfl bE
      rw [bp] at l1;have kQ: ∀(i:Nat) (a:AV),(aG ys H).1[i]? =some a→a.cells.length=b.sz:=by
       intro i a ha;have cd:i<(aE b.el off len).length:=by rw [bp,←l1];exact (List.getElem?_eq_some_iff.1 ha).1
       have iJ:=List.getElem?_eq_getElem cd;rw [s1 i _ a iJ ha];exact af.sized _ _ (fP i _ iJ)
      have oJ: ∀c b0 arr T fr,loc= .at_ c b0→w.heap[c]? =some (.cells arr T fr)→ ∀(i j:Nat) (v:Value),i<len→j<b.sz→arr[b0+(off+i)*b.sz+j]? =some v→g i j=v:=by
       intro c b0 arr T fr hl hh i j v _ _ hv;subst hl;simp only [g,hh,←c1,Array.getD_eq_getD_getElem?,hv,Option.getD_some]
      let loc' :Loc:=match loc with
       | .aO=> .aO
       | .at_ c b0=>if cap=0 then .aO else .at_ c (b0+off*b.sz)
      have gT:loc' = .aO∧len=0∨ ∃c b0,loc= .at_ c b0∧loc' = .at_ c (b0+off*b.sz):=by
       cases loc with
       |aO=>left;refine ⟨rfl,?_⟩;have:=af.aO rfl;rw [this] at q3;simp at q3;omega
       |at_ c b0=>
        by_cases er:cap=0
        ·left;exact ⟨by simp [loc',er],by omega⟩
        ·right;exact ⟨c,b0,rfl,by simp [loc',er]⟩
      have hZ:=hh.ext.1 _ _ (J.dW (aG ys H).2 es.length false (aG ys H).1);have bN:(aG ys H).2.st<G.st:=Nat.lt_of_lt_of_le (Nat.lt_succ_self _) hh.ext.2;have M:=rV hd hb c2 rfl q1 oJ m l1 kQ r1 false (by rw [c1];exact hZ) bN (hh.none _ (iL ys H).2 (by rw [jY];exact Nat.lt_succ_self _)) loc' gT
      rw [←jY (aG ys H).2 es.length false (aG ys H).1] at M;refine ⟨_,M,?_,fun _=>rfl,fun h=>by simp at h⟩
      refine .ref _ _ _ _ _ bN ⟨a0,cap,by rw [l1]⟩ fun b' aw=> ?_
      have:=jU hZ aw;subst this;refine ⟨loc',a0,cap,by simp,by rw [l1],by simp,by omega,by simp only;omega,?_⟩
      cases loc with
      |aO=>
       simp only at q6;have cY:len=0:=by have:=af.aO rfl;rw [this] at q3;simp at q3;omega
       refine ⟨List.eq_nil_of_length_eq_zero (by rw [l1,cY]),fun _=> ?_⟩
       rcases c3 with c3|c3
       ·exact q6.2 c3
       ·omega
      |at_ c b0=>
       simp only at q6;by_cases er:cap=0
       ·simp only [loc',er,if_true];exact ⟨List.eq_nil_of_length_eq_zero (by omega),fun _=>by first|trivial|omega|rfl⟩
       ·simp only [loc',er,if_false];rcases q6 with q6|⟨h1,h2⟩
        ·exact absurd q6 er
        ·refine Or.inr ⟨by rw [h1];simp,?_⟩
         rw [c1] at h2⊢;have:(off+cap)*es.length=off*es.length+cap*es.length:=Nat.add_mul _ _ _;simp only [Nat.zero_add];omega
     ·simp at ht
    ·simp at ht
   ·simp at ht
  |_=>simp [aQ] at ht
 |pt es=>
  cases x with
  |fe z o=>
   simp only [aQ,Option.some.injEq,Prod.mk.injEq] at ht;obtain ⟨rfl,rfl⟩:=ht;simp only [aF,Prod.mk.injEq] at hw;obtain ⟨rfl,rfl⟩:=hw;rcases hk with hk|hk
   ·exact ⟨φ,.refl hd _,.fr _ _ (hx.eD.shrink hk),fun _=>rfl,fun h=>by simp at h⟩
   ·simp [cr] at hk
  |ptr id ad idx off=>
   rcases idx with _|idx
   rotate_left
   ·simp [aQ] at ht
   rcases off with _|off
   rotate_left
   ·simp [aQ] at ht
   simp only [aQ] at ht;split at ht
   ·rename_i oK sz oL z hb;split at ht
    ·rename_i y' L' hm
     simp only [Option.some.injEq,Prod.mk.injEq] at ht;obtain ⟨rfl,rfl⟩:=ht;simp only [aF,Prod.mk.injEq] at hw;obtain ⟨rfl,rfl⟩:=hw;have hg:=(J.bn hb).1;obtain ⟨bN,_,hr⟩:=hx.fc;obtain ⟨c,b0,q1,rfl⟩:=hr _ hb;obtain ⟨bk,aW,af⟩:=hd.sl.ap id _ q1;rw [hg] at aW;simp only [Option.some.injEq] at aW;subst aW;obtain ⟨arr,T,fr,k1,k2,k3,k4⟩:=af.here c b0 rfl;have bE:fO AL AH y' :=by
      rcases hk with h|h
      ·exact .inl h
      ·exact .inr (by simpa [cr] using h)
     have cQ:=bA.del L id;have bZ:bX w (L.del id) (aC φL (L.del id)) AL G φ AH:=⟨dZ hd.sl cQ,hd.sh,fun c hc=>hd.b8 c (bH hc),fun c hc=>hd.eo c (bH hc)⟩
     have ct:z.cells.length=sz:=af.sized 0 z rfl;simp only [List.length_singleton,Nat.one_mul] at k3
     let vs:List Value:=(arr.extract b0 (b0+sz)).toList
     have dA:vs.length=sz:=by simp [vs];omega
     have fQ: ∀j u,vs[j]? =some u→arr[b0+j]? =some u:=by
      intro j u hu;simp only [vs,Array.getElem?_toList,Array.getElem?_extract] at hu;split at hu
      ·exact hu
      ·simp at hu
     obtain ⟨φ1,m,l1,r1⟩:=rW es z vs _ _ _ _ _ _ _ _ _ _ _ bZ (hh.fst (.new _ _ _ _)) (by rw [dA,ct]) (fun j c' u hj hu=>((k4 0 z j c' u rfl hj (by simpa using fQ j u hu)).1).mono (cZ cQ)) hm rfl bE
     have hZ:=hh.ext.1 _ _ (J.dW (aF y' H).2 sz false [(aF y' H).1])
     have bN:(aF y' H).2.st<G.st:=Nat.lt_of_lt_of_le (Nat.lt_succ_self _) hh.ext.2
     have M:=rV (as:=[(aF y' H).1]) (n:=1) (off:=0) (sz:=sz) (loc' := .at_ c b0) (g:=fun i j=>vs.getD j undef) hd hb (by simp) rfl q1 (fun c' oM arr' T' eL hl hh i j v hi hj hv=>by
      simp only [Loc.at_.injEq] at hl;obtain ⟨rfl,rfl⟩:=hl;rw [k1] at hh;simp only [Option.some.injEq,Obj.cells.injEq] at hh;obtain ⟨rfl,_,_⟩:=hh;have ji:i=0:=by omega
      subst ji;simp only [Nat.zero_mul,Nat.add_zero] at hv;have:vs[j]? =some v:=by
       simp only [vs,Array.getElem?_toList,Array.getElem?_extract];rw [if_pos (by omega)];exact hv
      simp [List.getD,this]) m rfl (fun i a ha=>by
      cases i with
      |zero=>simp at ha;subst ha;rw [l1,ct]
      |succ i=>simp at ha) (fun i a j c' ha hc=>by
      cases i with
      |zero=>
       simp at ha;subst ha;have hj:j<vs.length:=by rw [dA,←ct,←l1];exact (List.getElem?_eq_some_iff.1 hc).1
       have:=r1 j c' vs[j] hc (List.getElem?_eq_getElem hj)
       simpa [List.getD,hj] using this
      |succ i=>simp at ha) false hZ bN (hh.none _ (px y' H).2 (by rw [jY];exact Nat.lt_succ_self _)) (.inr ⟨c,b0,rfl,by simp⟩)
     rw [←jY (aF y' H).2 sz false [(aF y' H).1]] at M
     refine ⟨_,M,?_,fun _=>rfl,fun h=>by simp at h⟩
     refine .ptr _ _ _ _ _ bN ⟨_,rfl⟩ fun b' aw=>⟨c,b0,by simp,?_⟩
     simp
    ·simp at ht
   ·simp at ht
  |_=>simp [aQ] at ht
 termination_by (SizeOf.sizeOf sh,0)
theorem rW (es:List Sh) (x:AV) (vs:List Value) (L:J) (φL:ag) (AL:ah) (H G:J) (φ :ag) (AH:ah) (y:AV) (L1:J) (a:AV) (H1:J) (hd:bX w L φL AL G φ AH) (hh:GH G φ H H1) (hl:x.cells.length=vs.length)
 (hx: ∀(j:Nat) (c:AV) (u:Value),x.cells[j]? =some c→vs[j]? =some u→R w L φL AL c u) (ht:aY es x L=some (y,L1)) (hw:aF y H=(a,H1)) (hk:fO AL AH y):
 ∃ φ1,MG w L φL AL G φ AH L1 φ1 H.bs.length H1.bs.length∧a.cells.length=x.cells.length∧ ∀(j:Nat) (c:AV) (u:Value),a.cells[j]? =some c→vs[j]? =some u→R w G φ1 AH c u:=by
 by_cases bV: ∃cs,x= .agg cs
 ·obtain ⟨cs,rfl⟩:=bV;have cv: ∃aV,cx es cs L=some (aV,L1)∧y= .agg aV:=by
   match es,ht with
   |[],ht=>
    simp only [aY] at ht;split at ht
    ·rename_i aV L' hc
     simp only [Option.some.injEq,Prod.mk.injEq] at ht;obtain ⟨rfl,rfl⟩:=ht;exact ⟨aV,hc,rfl⟩
    ·simp at ht
   |[e],ht=>
    simp only [aY] at ht;split at ht
    ·rename_i aV L' hc
     simp only [Option.some.injEq,Prod.mk.injEq] at ht;obtain ⟨rfl,rfl⟩:=ht;exact ⟨aV,hc,rfl⟩
    ·simp at ht
   |e::e' ::es,ht=>
    simp only [aY] at ht;split at ht
    ·rename_i aV L' hc
     simp only [Option.some.injEq,Prod.mk.injEq] at ht;obtain ⟨rfl,rfl⟩:=ht;exact ⟨aV,hc,rfl⟩
    ·simp at ht
  obtain ⟨aV,hc,rfl⟩:=cv;simp only [aF,Prod.mk.injEq] at hw;obtain ⟨rfl,rfl⟩:=hw;have bE:dN AL AH aV:=by
   rcases hk with h|h
   ·exact .inl h
   ·exact .inr (by simpa [cr] using h)
  exact py es cs vs L φL AL H G φ AH aV L1 _ _ hd hh hl hx hc rfl bE
 ·have dq: ∀cs,x≠ .agg cs:=fun cs h=>bV ⟨cs,h⟩
  match es,ht with
  |[e],ht=>
   have cv:aQ e x L=some (y,L1):=by
    cases x<;>first|(simpa only [aY] using ht)|exact absurd rfl (dq _)
   by_cases hu:x= .undef
   ·subst hu;have fF:vs=[]:=List.eq_nil_of_length_eq_zero (by simpa [AV.cells] using hl.symm)
    subst fF;obtain ⟨φ1,m,_,_,h4⟩:=my e .undef undef L φL AL H G φ AH y L1 a H1 hd hh (.fr _ _ (.undef _)) cv hw hk
    exact ⟨φ1,m,by rw [h4 rfl],by simp⟩
   ·have dO:=cells_one hu dq;rw [dO] at hl;obtain ⟨v,rfl⟩: ∃v,vs=[v]:=by
     match vs,hl with
     |[v],_=>exact ⟨v,rfl⟩
    obtain ⟨φ1,m,h2,h3,_⟩:=my e x v L φL AL H G φ AH y L1 a H1 hd hh (hx 0 x v (by rw [dO];rfl) rfl) cv hw hk
    refine ⟨φ1,m,by rw [h3 hu,dO];rfl,fun j c u hj aL=> ?_⟩
    rw [h3 hu] at hj;cases j with
    |zero=>simp at hj aL;subst hj;subst aL;exact h2
    |succ j=>simp at hj
  |[],ht=>cases x<;>first|(simp [aY] at ht;done)|exact absurd rfl (dq _)
  |_::_::_,ht=>cases x<;>first|(simp [aY] at ht;done)|exact absurd rfl (dq _)
 termination_by (SizeOf.sizeOf es,1)
theorem py (es:List Sh) (cs:List AV) (vs:List Value) (L:J) (φL:ag) (AL:ah) (H G:J) (φ :ag) (AH:ah) (ys:List AV) (L1:J) (as:List AV) (H1:J) (hd:bX w L φL AL G φ AH) (hh:GH G φ H H1) (hl:cs.length=vs.length)
 (hx: ∀(j:Nat) (c:AV) (u:Value),cs[j]? =some c→vs[j]? =some u→R w L φL AL c u) (ht:cx es cs L=some (ys,L1)) (hw:aG ys H=(as,H1)) (hk:dN AL AH ys):
 ∃ φ1,MG w L φL AL G φ AH L1 φ1 H.bs.length H1.bs.length∧as.length=cs.length∧ ∀(j:Nat) (c:AV) (u:Value),as[j]? =some c→vs[j]? =some u→R w G φ1 AH c u:=by
 match es,cs,ht with
 |[],[],ht=>
  simp only [cx,Option.some.injEq,Prod.mk.injEq] at ht;obtain ⟨rfl,rfl⟩:=ht;simp only [aG,Prod.mk.injEq] at hw;obtain ⟨rfl,rfl⟩:=hw;exact ⟨φ,.refl hd _,rfl,by simp⟩
 |e::es,x::cs,ht=>
  simp only [cx] at ht;split at ht
  ·rename_i y L' h1
   split at ht
   ·rename_i aT c8 h2
    simp only [Option.some.injEq,Prod.mk.injEq] at ht;obtain ⟨rfl,rfl⟩:=ht;simp only [aG,Prod.mk.injEq] at hw;obtain ⟨rfl,rfl⟩:=hw;obtain ⟨k1,k2⟩:=hk.cons
    match vs,hl with
    |v::vs,hl=>
     obtain ⟨φ1,m1,r1,_,_⟩:=my e x v L φL AL H G φ AH y L' _ _ hd (hh.fst (iL _ _)) (hx 0 x v rfl rfl) h1 rfl k1
     obtain ⟨a8,m2,l2,r2⟩:=py es cs vs L' (aC φL L') AL _ G φ1 AH aT c8 _ _ m1.bq (hh.snd m1) (by simpa using hl) (fun j c u hj hu=>(hx (j+1) c u hj hu).mono (cZ m1.less)) h2 rfl k2
     refine ⟨a8,m1.trans m2,by simp [l2],fun j c u hj hu=> ?_⟩
     cases j with
     |zero=>simp at hj hu;subst hj;subst hu;exact r1.mono m2.eh
     |succ j=>exact r2 j c u hj hu
   ·simp at ht
  ·simp at ht
 |[],_::_,ht=>simp [cx] at ht
 |_::_,[],ht=>simp [cx] at ht
 termination_by (SizeOf.sizeOf es,0)
end
end bq
end Go.VS
namespace Go.VS
section bq
variable {w:World} {AL AH:ah}
theorem yZ {es:List Sh} {x:AV} {v:Value} {L:J} {φL:ag} {H G:J} {φ :ag} {y:AV} {L1:J} {a:AV} {H1:J} (hd:bX w L φL AL G φ AH) (hh:GH G φ H H1) (hx:R w L φL AL x v)
 (ht:aY es x L=some (y,L1)) (hw:aF y H=(a,H1)) (hk:fO AL AH y): ∃ φ1,MG w L φL AL G φ AH L1 φ1 H.bs.length H1.bs.length∧R w G φ1 AH a v:=by
 by_cases bV: ∃cs,x= .agg cs
 ·obtain ⟨cs,rfl⟩:=bV;obtain ⟨aV,hc,rfl⟩:=kR ht;simp only [aF,Prod.mk.injEq] at hw;obtain ⟨rfl,rfl⟩:=hw;have bE:dN AL AH aV:=by
   rcases hk with h|h
   ·exact .inl h
   ·exact .inr (by simpa [cr] using h)
  obtain ⟨vs,rfl,hl,ho,hp⟩:=hx.fG;obtain ⟨φ1,m,l1,r1⟩:=py es cs vs.toList L φL AL H G φ AH aV L1 _ _ hd hh (by simpa using hl) (fun j c u hj hu=>hp j c u hj (by simpa using hu)) hc rfl bE
  exact ⟨φ1,m,.agg _ _ (by rw [l1,hl]) ho fun i x v hx hv=>r1 i x v hx (by simpa using hv)⟩
 ·obtain ⟨e,rfl,cv⟩:=jj (fun cs h=>bV ⟨cs,h⟩) ht;obtain ⟨φ1,m,r,_⟩:=my e x v L φL AL H G φ AH y L1 a H1 hd hh hx cv hw hk
  exact ⟨φ1,m,r⟩
theorem rX: ∀(sh:List (List Sh)) (rs:List AV) (us:List Value) (L:J) (φL:ag) (H G:J) (φ :ag) (ys:List AV) (L1:J),bX w L φL AL G φ AH→GH G φ H (aG ys H).2→rs.length=us.length→
 (∀(i:Nat) (x:AV) (u:Value),rs[i]? =some x→us[i]? =some u→R w L φL AL x u)→dc sh rs L=some (ys,L1)→dN AL AH ys→
 ∃ φ1,MG w L φL AL G φ AH L1 φ1 H.bs.length (aG ys H).2.bs.length∧(aG ys H).1.length=us.length∧ ∀(i:Nat) (x:AV) (u:Value),(aG ys H).1[i]? =some x→us[i]? =some u→R w G φ1 AH x u
 |sh,[],us,L,φL,H,G,φ,ys,L1,hd,hh,hl,hr,ht,hk=>by
  simp only [dc,Option.some.injEq,Prod.mk.injEq] at ht;obtain ⟨rfl,rfl⟩:=ht;exact ⟨φ,.refl hd _,hl,by simp [aG]⟩
 |sh,x::rs,u::us,L,φL,H,G,φ,ys,L1,hd,hh,hl,hr,ht,hk=>by
  simp only [dc] at ht;split at ht
  rotate_left
  ·simp at ht
  rename_i y L' h1
  split at ht
  rotate_left
  ·simp at ht
  rename_i aT c8 h2
  simp only [Option.some.injEq,Prod.mk.injEq] at ht;obtain ⟨rfl,rfl⟩:=ht;obtain ⟨k1,k2⟩:=hk.cons;obtain ⟨φ1,m1,r1⟩:=yZ (y:=y) (H:=H) hd (hh.fst (H1:=(aF y H).2) (iL aT (aF y H).2)) (hr 0 x u rfl rfl) h1 rfl k1
  obtain ⟨a8,m2,l2,r2⟩:=rX sh.tail rs us L' (aC φL L') (aF y H).2 G φ1 aT c8 m1.bq (hh.snd m1) (by simpa using hl) (fun i x u hx hu=>(hr (i+1) x u hx hu).mono (cZ m1.less)) h2 k2
  refine ⟨a8,m1.trans m2,by simp [aG,l2],fun i x' u' hx hu=> ?_⟩
  cases i with
  |zero=>simp [aG] at hx hu;subst hx;subst hu;exact r1.mono m2.eh
  |succ i=>simp only [aG,List.getElem?_cons_succ] at hx hu;exact r2 i x' u' hx hu
 |sh,x::rs,[],L,φL,H,G,φ,ys,L1,hd,hh,hl,hr,ht,hk=>by simp at hl
end bq
theorem mz {H G:J} (h:a7 H G): ∀(n:Nat) (x y:AV),aX n H x=some y→aX n G x=some y
 |0,x,y,hs=>by simp [aX] at hs
 |n+1,x,y,hs=>by
  have hm: ∀(xs ys:List AV),xs.mapM (aX n H)=some ys→xs.mapM (aX n G)=some ys:=by
   intro xs;induction xs with
   |nil=>intro ys h;simpa using h
   |cons z xs ih=>
    intro ys hy;simp only [List.mapM_cons,Option.bind_eq_bind,Option.bind_eq_some_iff,Option.pure_def,Option.some.injEq] at hy⊢;obtain ⟨a,h1,b,h2,h3⟩:=hy;exact ⟨a,mz h n z a h1,b,ih b h2,h3⟩
  cases x with
  |agg cs=>
   simp only [aX,Option.map_eq_some_iff] at hs⊢;obtain ⟨ys,h1,h2⟩:=hs;exact ⟨ys,hm _ _ h1,h2⟩
  |fn f cs=>
   simp only [aX,Option.map_eq_some_iff] at hs⊢;obtain ⟨ys,h1,h2⟩:=hs;exact ⟨ys,hm _ _ h1,h2⟩
  |ref id ad off len=>
   simp only [aX] at hs⊢;split at hs
   ·rename_i b hb;rw [h.ap hb];simp only;split at hs
    ·rename_i hle;rw [if_pos hle];simp only [Option.map_eq_some_iff] at hs⊢;obtain ⟨ys,h1,h2⟩:=hs;exact ⟨ys,hm _ _ h1,h2⟩
    ·simp at hs
   ·simp at hs
  |ptr id ad idx off=>
   simp only [aX] at hs⊢;split at hs
   ·rename_i b hb;rw [h.ap hb];simp only;split at hs
    ·rename_i z hz;simp only [Option.map_eq_some_iff] at hs⊢;obtain ⟨y',h1,h2⟩:=hs;exact ⟨y',mz h n z y' h1,h2⟩
    ·simp at hs
   ·simp at hs
  |_=>first|(simpa only [aX] using hs)|(simp [aX] at hs;done)
theorem jZ {H G:J} (h:a7 H G): ∀(ms:List Mode) (as ys:List AV) (b:Bool),b_ ms as H=some (ys,b)→b_ ms as G=some (ys,b)
 |ms,[],ys,b,hp=>by cases ms<;>simpa only [b_] using hp
 |[],a::as,ys,b,hp=>by
  simp only [b_] at hp⊢;split at hp
  ·rename_i y hy;split at hp
   ·rename_i aT b' cu
    rw [mz h 8 a y hy,jZ h [] as aT b' cu]
    exact hp
   ·simp at hp
  ·simp at hp
 |m::ms,a::as,ys,b,hp=>by
  have other:(match b_ ms as H with|some (ys,b)=>some (a::ys,b)|none=>none)=some (ys,b)→(match b_ ms as G with|some (ys,b)=>some (a::ys,b)|none=>none)=some (ys,b):=by
   intro hp;split at hp
   ·rename_i aT b' cu
    rw [jZ h ms as aT b' cu]
    exact hp
   ·simp at hp
  cases m with
  |val=>
   simp only [b_] at hp⊢;split at hp
   ·rename_i y hy;split at hp
    ·rename_i aT b' cu
     rw [mz h 8 a y hy,jZ h ms as aT b' cu]
     exact hp
    ·simp at hp
   ·simp at hp
  |eI=>
   simp only [b_] at hp⊢;split at hp
   ·rename_i aT b' cu
    rw [jZ h ms as aT b' cu]
    exact hp
   ·simp at hp
  |io=>
   simp only [b_] at hp⊢;split at hp
   ·rename_i aT b' cu
    rw [jZ h ms as aT b' cu]
    exact hp
   ·simp at hp
def y0 (w:World) (G:J) (φ :ag) (A:ah) (H H' :J) (x:AV) (e:Ending) (w' :World):Prop:=
 match e with
 | .returned v' => ∃ak A',Out w G φ A w' G ak A' ∧R w' G ak A' x v' ∧ ∀id loc,ak id=some loc→ φ id=some loc∨(H.bs.length≤id∧id<H'.bs.length)
 |_=>False
theorem y1 {P:Program} {C:aI} {X:bw} (hX: ∀f ys H K,X f ys H K→cq P f ys H K) {w:World} {G:J} {φ :ag} {A:ah} (ae:St w G φ A) {H H' :J} (hg:a7 H G) (hh:GH G φ H H') {f:FuncId} {as:List AV} {us:Array Value} (hl:as.length=us.size)
 (hr: ∀(i:Nat) (x:AV) (u:Value),as[i]? =some x→us[i]? =some u→R w G φ A x u) {th:Bool} {x:AV} (h:dl X C f as th H (fun v1 H1=>v1=x∧H1=H')):hG P f∧Calls P f us w (y0 w G φ A H H' x):=by
 unfold dl at h;split at h
 ·exact h.elim
 rename_i ys bT hy;obtain ⟨y,kU,gW,hp⟩:=h;have hm:mm []:=fun m hm=>by simp at hm
 have pb:bX w G φ A ⟨0,[]⟩ (fun _=>none) A:=by
  refine ⟨ae,⟨fun i i' c b b' h=>by simp at h,fun c hc=> ?_,ae.bW,fun id loc h=>by simp at h⟩,fun c _ hc=> ?_,ae.own⟩
  ·obtain ⟨i,b,h⟩:=hc;simp at h
  ·obtain ⟨i,b,h⟩:=hc;simp at h
 have pc:ca [] ys ⟨0,[]⟩=(ys,⟨0,[]⟩):=pa _ _ _ hy _;obtain ⟨aA,m,cw,dP⟩:=mf as [] [] us.toList G φ as G ys bT ⟨0,[]⟩ (fun _=>none) ys ⟨0,[]⟩ pb (by simpa using hl) (fun i x u hx hu=>hr i x u hx (by simpa using hu)) (o9 _ _ _ _ hm) (jZ hg _ _ _ _ hy) pc
 have bp: ∀c,¬Ow aA c:=fun c hc=>by
  rcases m.oh c hc with ⟨i,b,h⟩|⟨h1,h2⟩
  ·simp at h
  ·rw [jV ae] at h2;exact h2 h1
 let A0:ah:=if bT=true then Ow aA else A
 have jl: ∀c,A0 c→A c:=by
  intro c hc;simp only [A0] at hc;split at hc
  ·exact absurd hc (bp c)
  ·exact hc
 have pd:bT=true→ ∀c,A0 c→fo (aC φ G) A c:=by
  intro ax c hc;simp only [A0,ax,if_true] at hc;exact absurd hc (bp c)
 have cS:St w ⟨0,[]⟩ aA A0:=m.bq.sh.shrink jl (fun c hc=>absurd hc (bp c));have eR:ys.length=us.size:=by simpa using cw.1
 refine ⟨(hX _ _ _ _ kU).1,((hX _ _ _ _ kU).2 w A0 aA us cS eR (fun i x u hx hu=>cw.2 A0 jl pd i x u hx (by simpa using hu))).mono fun e w' he=> ?_⟩
 cases e with
 |panicked c=>exact he.elim
 |outgrown=>exact he.elim
 |returned v' =>
 obtain ⟨x0,L,ak,A',ho,pe,rs,gq,L2,rfl,kV,rfl⟩:=he;obtain ⟨cB,rfl,hJ,gU⟩:=rD pe
 let AH:ah:=if bT=true then fun c=>A c∨(A' c∧w.heap.size≤c) else A'
 have jm: ∀c,Ow ak c→w.heap.size≤c:=fun c hc=>(ho.post.own c hc).resolve_left (bp c)
 have ha:oW w A aA w' ak AH:=by
  refine ⟨fun c hc hn=> ?_,fun c hc=> ?_,fun c hc=> ?_,fun c arr T fr hc hn=> ?_⟩
  ·simp only [AH];split
   ·exact .inl hc
   ·rename_i ax;refine ho.bK c ?_ hn;simp only [A0,ax];exact hc
  ·simp only [AH];split
   ·exact .inr ⟨ho.st.own c hc,jm c hc⟩
   ·exact ho.st.own c hc
  ·simp only [AH] at hc;split at hc
   ·rcases hc with h|⟨h,_⟩
    ·exact Nat.lt_of_lt_of_le (ae.bW c h) ho.post.size
    ·exact ho.st.bW c h
   ·exact ho.st.bW c hc
  ·obtain ⟨h1,h2⟩:=ho.bU.fz c arr T fr hc (fun h=>hn (jl c h));refine ⟨h1,?_⟩;simp only [AH];split
   ·rintro (h|⟨_,h⟩)
    ·exact hn h
    ·have:c<w.heap.size:=by
      rcases Nat.lt_or_ge c w.heap.size with h' |h'
      ·exact h'
      ·rw [Array.getElem?_eq_none h'] at hc;simp at hc
     omega
   ·exact h2
 obtain ⟨D,E⟩:=rn (ls:=[]) (Lm:=L) ae m (by rw [hl,eR]) dP ho ha (by simp [e8])
 rw [o_ _ _ _ _ hm,jV ae] at D E;have pf:dN A' AH gq:=by
  cases ax:bT with
  |false=>exact .inl fun c h=>by simpa [AH,ax] using h
  |true=>
   rcases gW with h|h
   ·rw [ax] at h;simp at h
   ·rw [rC] at h;exact .inr h
 have jn: ∀(i:Nat) (x:AV) (u:Value),rs[i]? =some x→cB[i]? =some u→R w' L (aC ak L) A' x u:=fun i x u hx hu=>by
  rw [jV ho.st];exact gU i x u hx hu
 have ff: ∀{cT:ag},(∀c,Ow cT c→Ow φ c∨Ow ak c)→e9 w φ w' cT:=fun hq=>
  ⟨ho.post.os,ho.post.tape,ho.post.output,ho.post.size,fun c hc _=>ho.post.kept c hc (bp c),ho.post.aZ,fun c hc=>by
   rcases hq c hc with h|h
   ·exact .inl h
   ·exact .inr (jm c h)⟩
 have jo: ∀c,A c→ ¬Ow φ c→AH c:=fun c hc _=>ha.own c hc (bp c);have cH: ∀c,Ow φ c→aZ w' c=aZ w c:=fun c hc=>ho.post.aZ c (Ow.lt ae hc)
 cases fM:(th||bT) with
 |true=>
  rw [fM] at hp;simp only [if_true,rA] at hp;obtain ⟨rfl,rfl⟩:=hp;obtain ⟨cT,m3,l3,r3⟩:=rX _ rs cB L _ H G φ gq L2 D hh hJ jn kV pf
  refine ⟨cT,AH,⟨m3.bq.sh,ff fun c hc=> ?_,E.trans m3.eh cH,jo⟩,o8 l3 r3,m3.new⟩;rcases m3.oh c hc with h|⟨h,_⟩
  ·exact .inl h
  ·exact .inr (bH h)
 |false=>
  rw [fM] at hp;simp only [Bool.false_eq_true,if_false,rB] at hp;obtain ⟨rfl,rfl⟩:=hp;simp only [Bool.or_eq_false_iff] at fM;have pg:AH=A' :=by simp [AH,fM.2]
  rw [pg] at D E jo
  let A2:ah:=gone (aC ak L) A' L2
  obtain ⟨l3,r3⟩:=o7 (A' :=A2) _ rs cB L (aC ak L) gq L2 D.sl hJ jn kV (fun c h=>h)
  have ph: ∀c,Ow φ c→A2 c:=fun c hc=>⟨D.sh.own c hc,fun h=>absurd hc (D.b8 c h)⟩;have pj:bF w G φ A w' G φ A2:=⟨fun c arr T fr hc hn=>⟨(E.fz c arr T fr hc hn).1,fun h2=>(E.fz c arr T fr hc hn).2 h2.1⟩,E.st,E.ids,E.sz⟩
  refine ⟨φ,A2,⟨D.sh.shrink (fun c h=>h.1) ph,ff fun c hc=> .inl hc,pj,fun c hc hn=>⟨jo c hc hn,fun h=> ?_⟩⟩,.fr _ _ (rz l3 r3),fun id loc h=> .inl h⟩;have:=jm c (bH h)
  have:=ae.bW c hc;omega
end Go.VS
namespace Go.VS
def y2 (H H1:J):Prop:= ∀id b,H1.get id=some b→b.ad<H.st→H.get id=some b
def QG (H H1:J):Prop:=fp H H1∧y2 H H1
theorem QG.refl (H:J):QG H H:=⟨.refl _,fun _ _ h _=>h⟩
theorem QG.trans {H H1 H2:J} (h:QG H H1) (k:QG H1 H2):QG H H2:=
 ⟨h.1.trans k.1,fun id b hb hv=>h.2 id b (k.2 id b hb (Nat.lt_of_lt_of_le hv h.1.1.2)) hv⟩
theorem QG.of {H H' :J} (h:H' =H∨ ∃sz fx el,H' =H.new sz fx el):QG H H' :=by
 obtain ⟨h1,h2,h3⟩:=J.jf h;exact ⟨⟨h1,h3⟩,h2⟩
theorem QG.new (H:J) (sz:Nat) (fx:Bool) (el:List AV):QG H (H.new sz fx el):= .of (.inr ⟨_,_,_,rfl⟩)
mutual
theorem pz: ∀(y:AV) (H:J),QG H (aF y H).2
 | .own sz xs,H=>by simp only [aF];exact (mA xs H).trans (.new _ _ _ _)
 | .di sz x,H=>by simp only [aF];exact (pz x H).trans (.new _ _ _ _)
 | .agg xs,H=>by simp only [aF];exact mA xs H
 | .ay xs,H=>by simp only [aF];exact mA xs H
 | .undef,H=> .refl _
 | .int _ _,H=> .refl _
 | .bool _,H=> .refl _
 | .str _,H=> .refl _
 | .nil,H=> .refl _
 | .e0,H=> .refl _
 | .fz _,H=> .refl _
 | .ref _ _ _ _,H=> .refl _
 | .ptr _ _ _ _,H=> .refl _
 | .fe _ _,H=> .refl _
 | .fn _ _,H=> .refl _
 | .cg _,H=> .refl _
 | .dt,H=> .refl _
theorem mA: ∀(ys:List AV) (H:J),QG H (aG ys H).2
 |[],H=> .refl _
 |y::ys,H=>by simp only [aG];exact (pz y H).trans (mA ys _)
end
section ops
variable {P:Program} {E:aK} (hE: ∀t ti,E t=some ti→aR P t ti)
variable {w:World} {G:J} {φ :ag} {A:ah}
theorem y3 {b:Builtin} {tys:Array TypeId} {args:List AV} {H H' :J} {z:AV} (hq:eK b args=true) (h:c6 E b tys args H=some (z,H')):QG H H' :=by
 have y4: ∀{te:TI} {s x:AV},s= .nil∨s= .e0→eg te s x H=some (z,H')→QG H H' :=by
  intro te s x hs h;refine .of ?_;rcases hs with rfl|rfl;all_goals
   simp only [eg] at h;repeat' split at h
   all_goals first
    |(simp at h;done)
    |(simp only [Option.some.injEq,Prod.mk.injEq] at h;first|exact .inl h.2.symm|exact .inr ⟨_,_,_,h.2.symm⟩)
 unfold c6 at h;split at h
 ·repeat' split at h
  all_goals first
   |(simp at h;done)
   |(simp only [Option.some.injEq,Prod.mk.injEq] at h;rw [←h.2];exact .refl _)
 ·rename_i s x;have hs:s= .nil∨s= .e0:=by
   cases s<;>first|exact .inl rfl|exact .inr rfl|(simp [eK] at hq)
  split at h
  ·split at h
   ·split at h
    ·split at h
     ·unfold jE at h;refine .of ?_;repeat' split at h
      all_goals first
       |(simp at h;done)
       |(simp only [Option.some.injEq,Prod.mk.injEq] at h;first|exact .inl h.2.symm|exact .inr ⟨_,_,_,h.2.symm⟩)
     ·simp at h
    ·exact y4 hs h
   ·simp at h
  ·simp at h
 ·simp [eK] at hq
 ·simp [eK] at hq
 ·split at h
  ·simp only [Option.some.injEq,Prod.mk.injEq] at h;rw [←h.2];exact .refl _
  ·simp at h
 ·split at h
  ·simp only [Option.some.injEq,Prod.mk.injEq] at h;rw [←h.2];exact .refl _
  ·simp at h
 ·split at h
  ·split at h
   ·simp only [Option.some.injEq,Prod.mk.injEq] at h;rw [←h.2];exact .refl _
   ·simp at h
  ·simp at h
 ·simp at h
include hE in
theorem y5 (ae:St w G φ A) {H H' :J} (hX:a7 H G) (rY:a7 H' G) (bm:H.bs.length<H'.bs.length→ φ H.bs.length=none) {b:Builtin} {tys:Array TypeId} {ty:TypeId} {consts:Array Bool} {args:List AV} {vs:Array Value} {z:AV} (hq:eK b args=true) (hl:args.length=vs.size)
 (aS: ∀(i:Nat) (a:AV) (u:Value),args[i]? =some a→vs[i]? =some u→R w G φ A a u) (h:c6 E b tys args H=some (z,H')):
 bd w G φ A H H' ((builtin b tys ty consts vs).run P w) z:=by
 unfold c6 at h;split at h
 ·rename_i x;obtain ⟨a,rfl⟩: ∃a,vs= #[a]:=by
   have h1:vs.size=1:=hl.symm;exact ⟨vs[0],by apply Array.ext;simp [h1];intro i h1 h2;simp at h2;subst h2;rfl⟩
  have hx:=aS 0 x a rfl rfl;split at h
  ·rename_i ti n ht hn;obtain ⟨t,h0,ht⟩:=Option.bind_eq_some_iff.1 ht;have key: ∀{q:AV×J},some q=some (z,H')→q=(AV.int .i64 n,H)→((∃e,ti.au= .sl e∧ ∀s,x≠ .str s)∨(ti.au= .str∧ ∃s,x= .str s))→bd w G φ A H H' ((builtin .len tys ty consts #[a]).run P w) z:=by
    intro q hq oD hu;subst oD;simp only [Option.some.injEq,Prod.mk.injEq] at hq;obtain ⟨rfl,rfl⟩:=hq;have:=qU (tys:=tys) (ty:=ty) hE h0 hx hX hn ht hu;exact bd.val ae (by simp [builtin,this]) (.fr _ _ (.int _ _))
   split at h
   ·rename_i s hu;exact key h rfl (.inr ⟨hu,s,rfl⟩)
   ·simp at h
   ·rename_i e hu aM;exact key h rfl (.inl ⟨e,hu,fun s hs=>aM s hs⟩)
   ·simp at h
  ·simp at h
 ·rename_i s x;obtain ⟨a,b,rfl⟩: ∃a b,vs= #[a,b]:=by
   have h1:vs.size=2:=hl.symm;exact ⟨vs[0],vs[1],by apply Array.ext;simp [h1];intro i h1 h2;simp at h2;rcases i with _|_|i;rfl;rfl;omega⟩
  have hs:=aS 0 s a rfl rfl;have hx:=aS 1 x b rfl rfl;have ej:s= .nil∨s= .e0:=by
   cases s<;>first|exact .inl rfl|exact .inr rfl|(simp [eK] at hq)
  split at h
  ·rename_i t h0;split at h
   ·rename_i te tx bh cC;obtain ⟨t2,h1,cC⟩:=Option.bind_eq_some_iff.1 cC;split at h
    ·rename_i k hit;split at h
     ·exact qL hE ae rY bm h0 h1 bh cC hit hs hx h
     ·simp at h
    ·rename_i aM;exact oj hE ae hX rY bm h0 h1 bh cC (fun k hk=>aM k hk) hs hx ej h
   ·simp at h
  ·simp at h
 ·simp [eK] at hq
 ·simp [eK] at hq
 ·split at h
  ·rename_i v hv;simp only [Option.some.injEq,Prod.mk.injEq] at h;obtain ⟨rfl,rfl⟩:=h;cases args with
   |nil=>simp [jF] at hv
   |cons x rest=>
    obtain ⟨a,us,dr⟩: ∃a us,vs.toList=a::us:=by
     cases eR:vs.toList with
     |nil=>have:=congrArg List.length eR;simp at this;simp [this] at hl
     |cons a us=>exact ⟨a,us,rfl⟩
    have hlen:rest.length=us.length:=by have:=congrArg List.length dr;simp at this;simp at hl;omega
    have br: ∀(i:Nat) (u:Value),(a::us)[i]? =some u→vs[i]? =some u:=fun i u hu=>by rw [←dr] at hu;simpa using hu
    obtain ⟨u,hu,hz⟩:=kN (P:=P) (op:=Builtin.min2) (f:=fun a b=>match a,b with| .int k x,.int _ y=>some (.int k (if y<x then y else x))|_,_=>none) (fun a b x y z ha hb hf=>by
     split at hf
     ·have e1:=ha.cj;have e2:=hb.cj;subst e1;subst e2;simp only [Option.some.injEq] at hf;subst hf;exact ⟨_,by simp [Builtin.min2],.fr _ _ (.int _ _)⟩
     ·simp at hf) rest us x a v hlen (fun i p q hp hq=>aS (i+1) p q hp (br (i+1) q hq)) (aS 0 x a rfl (br 0 a rfl)) hv
    exact bd.val ae (by simp [builtin,Builtin.min_,dr,hu]) hz
  ·simp at h
 ·split at h
  ·rename_i v hv;simp only [Option.some.injEq,Prod.mk.injEq] at h;obtain ⟨rfl,rfl⟩:=h;cases args with
   |nil=>simp [jG] at hv
   |cons x rest=>
    obtain ⟨a,us,dr⟩: ∃a us,vs.toList=a::us:=by
     cases eR:vs.toList with
     |nil=>have:=congrArg List.length eR;simp at this;simp [this] at hl
     |cons a us=>exact ⟨a,us,rfl⟩
    have hlen:rest.length=us.length:=by have:=congrArg List.length dr;simp at this;simp at hl;omega
    have br: ∀(i:Nat) (u:Value),(a::us)[i]? =some u→vs[i]? =some u:=fun i u hu=>by rw [←dr] at hu;simpa using hu
    obtain ⟨u,hu,hz⟩:=kN (P:=P) (op:=Builtin.max2) (f:=fun a b=>match a,b with| .int k x,.int _ y=>some (.int k (if y>x then y else x))|_,_=>none) (fun a b x y z ha hb hf=>by
     split at hf
     ·have e1:=ha.cj;have e2:=hb.cj;subst e1;subst e2;simp only [Option.some.injEq] at hf;subst hf;exact ⟨_,by simp [Builtin.max2],.fr _ _ (.int _ _)⟩
     ·simp at hf) rest us x a v hlen (fun i p q hp hq=>aS (i+1) p q hp (br (i+1) q hq)) (aS 0 x a rfl (br 0 a rfl)) hv
    exact bd.val ae (by simp [builtin,Builtin.max_,dr,hu]) hz
  ·simp at h
 ·obtain ⟨a,rfl⟩: ∃a,vs= #[a]:=by
   have h1:vs.size=1:=hl.symm;exact ⟨vs[0],by apply Array.ext;simp [h1];intro i h1 h2;simp at h2;subst h2;rfl⟩
  have hx:=(aS 0 .nil a rfl rfl).c7;subst hx;split at h
  ·rename_i ti ht;obtain ⟨t,h0,ht⟩:=Option.bind_eq_some_iff.1 ht;split at h
   ·rename_i e hu;simp only [Option.some.injEq,Prod.mk.injEq] at h;obtain ⟨rfl,rfl⟩:=h;have hc:(Builtin.cap_ tys ty #[.slice none 0 0]).run P w= .ok (.int .i64 0) w:=by
     unfold Builtin.cap_;simp only [h0,List.getElem?_toArray,List.getElem?_cons_zero,Sem.run_bind,(hE _ _ ht).sl w hu,Result.andThen_ok];rfl
    exact bd.val ae (by simp [builtin,hc]) (.fr _ _ (.int _ _))
   ·simp at h
  ·simp at h
 ·simp at h
end ops
section step
variable {P:Program} {C:aI} {X:bw} {w:World} {G:J} {φ :ag} {A:ah}
theorem bd.upon {H H' :J} {r:Result Next} {x:AV} (h:bd w G φ A H H' r x) {o:Oper} {a:Act} {next:Act→World→Prop} {Q:Exit→Act→World→Prop}
 (hn: ∀v w' ak A',Out w G φ A w' G ak A' →R w' G ak A' x v→(∀id loc,ak id=some loc→ φ id=some loc∨(H.bs.length≤id∧id<H'.bs.length))→next (a.put o.dst v) w'):o.upon P a next Q r:=by
 obtain ⟨n,v,w',ak,A',rfl,hv,hr,ho,hi⟩:=h;rcases hv with rfl|⟨rfl,rfl⟩
 ·exact hn v w' ak A' ho hr hi
 ·exact hn _ w' ak A' ho hr hi
theorem k9 (hE: ∀t ti,C.E t=some ti→aR P t ti) (hX: ∀f ys H K,X f ys H K→cq P f ys H K) (ae:St w G φ A) {o:Oper} {s:aj} {a:Act} (hs: ∀x∈o.op.operands,R w G φ A (ev s x) (a.eval x)) {th:Bool} {H H' :J} {x:AV} (hg:a7 H G) (hh:GH G φ H H')
 (h:wpOp X C true th o s H (fun v1 H1=>v1=x∧H1=H')) {next:Act→World→Prop} {Q:Exit→Act→World→Prop}
 (hn: ∀v w' ak A',Out w G φ A w' G ak A' →R w' G ak A' x v→(∀id loc,ak id=some loc→ φ id=some loc∨(H.bs.length≤id∧id<H'.bs.length))→next (a.put o.dst v) w'):o.wp P a w next Q:=by
 have bm:H.bs.length<H'.bs.length→ φ H.bs.length=none:=fun ax=>hh.none _ (Nat.le_refl _) ax;have kW:dG o.op=true→(match aN C.E o.op s H with|some (v,H1)=>v=x∧H1=H' |none=>False)→o.wp P a w next Q:=by
  intro hq jp;split at jp
  ·rename_i v H1 he;obtain ⟨rfl,rfl⟩:=jp;exact (om hE ae hg hh.ext bm hq hs he).upon hn
  ·exact jp.elim
 unfold wpOp at h;split at h
 ·rename_i b args tys bC;obtain ⟨hq,h⟩:=h;have hq:=hq rfl;split at h
  ·rename_i v H1 he;obtain ⟨rfl,rfl⟩:=h;obtain ⟨consts,cN⟩:=rF (P:=P) (w:=w) (ρ :=a.eval) bC;have:=y5 hE ae hg hh.ext bm (ty:=o.type) (consts:=consts) (vs:=args.map a.eval) hq (by simp) (fun i x u hx hu=>by
    simp only [List.getElem?_map,Option.map_eq_some_iff] at hx;obtain ⟨y,hy,rfl⟩:=hx;simp only [Array.getElem?_map,Option.map_eq_some_iff] at hu;obtain ⟨y',en,rfl⟩:=hu;have:y' =y:=by simp at hy;rw [hy] at en;simpa using en.symm
    subst this;exact hs y' (by rw [bC];simp only [Op.operands,Call.operands];simp [Array.mem_of_getElem? en])) he
   rw [←cN] at this;exact this.upon hn
  ·exact h.elim
 ·rename_i y args tys bC;split at h
  ·rename_i g bR cA;simp only [if_true] at h;have hx:=hs y (by rw [bC];simp [Op.operands,Call.operands])
   rw [cA] at hx;obtain ⟨vs,hv,hl,hp⟩:=hx.kq;have hc:=y1 hX ae hg hh (us:=args.map a.eval ++ vs) (by simp [hl]) (fun i y u hy hu=>by
    rcases Nat.lt_or_ge i args.size with hi|hi
    ·rw [List.getElem?_append_left (by simpa using hi)] at hy
     rw [Array.getElem?_append_left (by simpa using hi)] at hu
     simp only [List.getElem?_map,Option.map_eq_some_iff] at hy;obtain ⟨z,hz,rfl⟩:=hy;simp only [Array.getElem?_map,Option.map_eq_some_iff] at hu;obtain ⟨z',dJ,rfl⟩:=hu;have:z' =z:=by simp at hz;rw [hz] at dJ;simpa using dJ.symm
     subst this;exact hs z' (by rw [bC];simp only [Op.operands,Call.operands];simp [Array.mem_of_getElem? dJ])
    ·rw [List.getElem?_append_right (by simpa using hi)] at hy
     rw [Array.getElem?_append_right (by simpa using hi)] at hu
     exact hp _ y u (by simpa using hy) (by simpa using hu)) h
   unfold Oper.wp;rw [rE bC hv hc.1,Oper.upon_enter];refine hc.2.mono fun e w' he=> ?_
   cases e with
   |returned v' =>
    obtain ⟨ak,A',h1,h2,h3⟩:=he;exact hn v' w' ak A' h1 h2 h3
   |panicked c=>exact he.elim
   |outgrown=>exact he.elim
  ·exact h.elim
 ·exact kW (h.1 rfl) h.2
theorem y6 {o:Oper} {s:aj} {th:Bool} {H H' :J} {x:AV} (h:wpOp X C true th o s H (fun v1 H1=>v1=x∧H1=H')):QG H H' :=by
 have kW:dG o.op=true→(match aN C.E o.op s H with|some (v,H1)=>v=x∧H1=H' |none=>False)→QG H H' :=by
  intro hq jp;split at jp
  ·rename_i v H1 he;obtain ⟨rfl,rfl⟩:=jp;exact .of (qV hq he)
  ·exact jp.elim
 unfold wpOp at h;split at h
 ·obtain ⟨hq,h⟩:=h;split at h
  ·rename_i v H1 he;obtain ⟨rfl,rfl⟩:=h;exact y3 (hq rfl) he
  ·exact h.elim
 ·split at h
  ·rename_i g bR cA;simp only [if_true] at h;unfold dl at h;split at h
   ·exact h.elim
   obtain ⟨y,_,_,hp⟩:=h;split at hp
   ·obtain ⟨_,rfl⟩:=hp;exact pz _ _
   ·obtain ⟨_,rfl⟩:=hp;exact .refl _
  ·exact h.elim
 ·exact kW (h.1 rfl) h.2
end step
end Go.VS
namespace Go.VS
section tr
variable {C:aI} {X:bw}
theorem k_ (dg:Exact X) {q th:Bool} {o:Oper} {s:aj} {H:J} {K:AV→J→Prop} (h:wpOp X C q th o s H K): ∃v H',wpOp X C q th o s H (fun v1 H1=>v1=v∧H1=H')∧K v H' :=by
 unfold wpOp at h⊢;split at h
 ·rename_i b args tys bC;obtain ⟨hq,h⟩:=h;split at h
  ·rename_i v H' he
   refine ⟨v,H',?_,h⟩;first
    |exact ⟨hq,rfl,rfl⟩
    |(simp only [bC];exact ⟨hq,trivial,trivial⟩)
    |(simp only [bC,he];exact ⟨hq,trivial,trivial⟩)
  ·exact h.elim
 ·rename_i x args tys bC;split at h
  ·rename_i g bR hg;have hQ:dl X C g (args.toList.map (ev s) ++ bR) th H K→ ∃v H',dl X C g (args.toList.map (ev s) ++ bR) th H (fun v1 H1=>v1=v∧H1=H')∧K v H' :=by
    intro h;unfold dl at h⊢;split at h
    ·exact h.elim
    rename_i ys bT hy;obtain ⟨y,h1,h2,h3⟩:=h;split at h3
    ·rename_i ht;refine ⟨_,_,⟨y,h1,h2,?_⟩,h3⟩;simp only [ht,if_true];exact ⟨trivial,trivial⟩
    ·rename_i ht;refine ⟨_,_,⟨y,h1,h2,?_⟩,h3⟩;simp only [ht];exact ⟨trivial,trivial⟩
   have key: ∃v H',(if q then dl X C g (args.toList.map (ev s) ++ bR) th H (fun v1 H1=>v1=v∧H1=H') else X g (args.toList.map (ev s) ++ bR) H (fun v1 H1=>v1=v∧H1=H')∨dl X C g (args.toList.map (ev s) ++ bR) th H (fun v1 H1=>v1=v∧H1=H'))∧K v H' :=by
    cases q with
    |false=>
     simp only [Bool.false_eq_true,if_false] at h⊢;rcases h with h|h
     ·obtain ⟨v,H',h1,h2⟩:=dg _ _ _ _ h;exact ⟨v,H',.inl h1,h2⟩
     ·obtain ⟨v,H',h1,h2⟩:=hQ h;exact ⟨v,H',.inr h1,h2⟩
    |true=>
     simp only [if_true] at h⊢;exact hQ h
   obtain ⟨v,H',k1,k2⟩:=key;refine ⟨v,H',?_,k2⟩;first
    |exact k1
    |(simp only [bC,hg];exact k1)
  ·exact h.elim
 ·rename_i op lS Bu;obtain ⟨hq,h⟩:=h;split at h
  ·rename_i v H' he
   refine ⟨v,H',?_,h⟩;exact ⟨hq,rfl,rfl⟩
  ·exact h.elim
theorem mB (C:aI) (ops:Array Oper) (s:aj) (H:J) (K:Prop): ∀(l:List Nat),eX C ops s H K l→(∀j∈l,jI C ops s H j)∧K
 |[],h=>⟨by simp,h⟩
 |j::js,h=>by
  obtain ⟨h1,h2⟩:=h;obtain ⟨k1,k2⟩:=mB C ops s H K js h2;refine ⟨fun i hi=> ?_,k2⟩;rcases List.mem_cons.1 hi with rfl|hi
  ·exact h1
  ·exact k1 i hi
structure Tr (X:bw) (C:aI) (ops:Array Oper) (q:Nat→Bool) (late:Nat→List Nat) (th:List Nat) (K:aj→J→Prop) (l:List Oper) (k:Nat) (s:Nat→aj) (H:Nat→J) (v:Nat→AV) (act:Nat→Bool):Prop where
 step: ∀i o,l[i]? =some o→s (i+1)=bj (s i) o.dst (v i)∧dm ops o (s i)=some (act i)∧(act i=true→wpOp X C (q (k+i)) (th.contains (k+i)) o (s i) (H i) (fun v1 H1=>v1=v i∧H1=H (i+1)))∧
  (act i=false→v i= .ay []∧H (i+1)=H i)∧ ∀j∈late (k+i),jI C ops (s (i+1)) (H (i+1)) j
 fin:K (s l.length) (H l.length)
theorem rZ (dg:Exact X) {ops:Array Oper} {q:Nat→Bool} {late:Nat→List Nat} {th:List Nat} {K:aj→J→Prop}: ∀(l:List Oper) (k:Nat) (s0:aj) (H0:J),cW X C ops q late th K l k s0 H0→
 ∃s H v act,s 0=s0∧H 0=H0∧Tr X C ops q late th K l k s H v act
 |[],k,s0,H0,h=>⟨fun _=>s0,fun _=>H0,fun _=> .undef,fun _=>true,rfl,rfl,⟨by simp,h⟩⟩
 |o::l,k,s0,H0,h=>by
  have key: ∃v0 H1 a0,dm ops o s0=some a0∧(a0=true→wpOp X C (q k) (th.contains k) o s0 H0 (fun v1 H' =>v1=v0∧H' =H1))∧(a0=false→v0= .ay []∧H1=H0)∧(∀j∈late k,jI C ops (bj s0 o.dst v0) H1 j)∧
   cW X C ops q late th K l (k+1) (bj s0 o.dst v0) H1:=by
   simp only [cW] at h;cases hg:o.guard with
   |none=>
    rw [hg] at h;obtain ⟨v,H',h1,h2⟩:=k_ dg h;obtain ⟨k1,k2⟩:=mB _ _ _ _ _ _ h2;exact ⟨v,H',true,by simp [dm,hg],fun _=>h1,fun h=>by simp at h,k1,k2⟩
   |some p=>
    rw [hg] at h;obtain ⟨v,H',h1,h2⟩:=h;obtain ⟨k1,k2⟩:=mB _ _ _ _ _ _ h2;split at h1
    ·rename_i b hb;cases b with
     |true=>exact ⟨v,H',true,hb,fun _=>by simpa using h1,fun h=>by simp at h,k1,k2⟩
     |false=>exact ⟨v,H',false,hb,fun h=>by simp at h,fun _=>by simpa using h1,k1,k2⟩
    ·exact h1.elim
  obtain ⟨v0,H1,a0,g1,g2,g3,g4,g5⟩:=key;obtain ⟨s,H,v,act,e1,e2,t⟩:=rZ dg l (k+1) _ _ g5;refine ⟨fun i=>match i with|0=>s0|i+1=>s i,fun i=>match i with|0=>H0|i+1=>H i,fun i=>match i with|0=>v0|i+1=>v i,fun i=>match i with|0=>a0|i+1=>act i,rfl,rfl,⟨fun i o' hi=> ?_,t.fin⟩⟩
  cases i with
  |zero=>
   simp only [List.getElem?_cons_zero,Option.some.injEq] at hi;subst hi;simp only [Nat.add_zero,e1,e2];exact ⟨trivial,g1,g2,g3,g4⟩
  |succ i=>
   have:=t.step i o' (by simpa using hi)
   rw [show k+1+i=k+(i+1) by omega] at this
   exact this
end tr
theorem r6 (bs:Edge→Bool) (acc:List Nat) (j:Nat): ∀(l:List Edge) (m0:Nat),(l.foldl (fun m e=>if bs e then m|||2^e.on|||acc.getD e.on 0 else m) m0).testBit j=true→m0.testBit j=true∨ ∃e∈l,bs e=true∧(e.on=j∨(acc.getD e.on 0).testBit j=true)
 |[],m0,h=> .inl h
 |e::l,m0,h=>by
  simp only [List.foldl_cons] at h;rcases r6 bs acc j l _ h with h|⟨e',h1,h2⟩
  ·split at h
   ·rename_i hb;simp only [Nat.testBit_or,Nat.testBit_two_pow,Bool.or_eq_true,decide_eq_true_eq] at h;rcases h with (h|h)|h
    ·exact .inl h
    ·exact .inr ⟨e,by simp,hb,.inl h⟩
    ·exact .inr ⟨e,by simp,hb,.inr h⟩
   ·exact .inl h
  ·exact .inr ⟨e',by simp [h1],h2⟩
theorem r7: ∀(os:List Oper) (acc:List Nat),(gd os acc).length=acc.length+os.length∧(∀i,i<acc.length→(gd os acc).getD i 0=acc.getD i 0)∧
 ∀i o,os[i]? =some o→ ∀j,((gd os acc).getD (acc.length+i) 0).testBit j=true→ ∃e∈o.after.toList,Region.binds .any e=true∧(e.on=j∨(e.on<acc.length+i∧((gd os acc).getD e.on 0).testBit j=true))
 |[],acc=>⟨by simp [gd],by simp [gd],by simp⟩
 |o::os,acc=>by
  obtain ⟨h1,h2,h3⟩:=r7 os (acc ++ [o.after.toList.foldl (fun m e=>if Region.binds .any e then m|||2^e.on|||acc.getD e.on 0 else m) 0]);simp only [gd];have hold: ∀i,i<acc.length→(gd os (acc ++ [o.after.toList.foldl (fun m e=>if Region.binds .any e then m|||2^e.on|||acc.getD e.on 0 else m) 0])).getD i 0=acc.getD i 0:=by
   intro i hi;rw [h2 i (by simp;omega)]
   simp [List.getD,List.getElem?_append_left hi]
  refine ⟨by rw [h1];simp;omega,hold,fun i o' ho j hj=> ?_⟩
  cases i with
  |zero=>
   simp only [List.getElem?_cons_zero,Option.some.injEq] at ho;subst ho;rw [Nat.add_zero,h2 _ (by simp)] at hj
   simp only [List.getD,List.getElem?_append_right (Nat.le_refl _),Nat.sub_self,List.getElem?_cons_zero,Option.getD_some] at hj;rcases r6 (Region.binds .any) acc j _ _ hj with h|⟨e,q1,q2,q3⟩
   ·simp at h
   ·refine ⟨e,q1,q2,?_⟩;rcases q3 with q3|q3
    ·exact .inl q3
    ·have ax:e.on<acc.length:=by
      rcases Nat.lt_or_ge e.on acc.length with h|h
      ·exact h
      ·rw [List.getD,List.getElem?_eq_none h] at q3;simp at q3
     exact .inr ⟨by omega,by rw [hold _ ax];exact q3⟩
  |succ i=>
   simp only [List.length_append,List.length_singleton] at h3;have:=h3 i o' (by simpa using ho) j (by rw [show acc.length+1+i=acc.length+(i+1) by omega];exact hj)
   obtain ⟨e,q1,q2,q3⟩:=this;refine ⟨e,q1,q2,?_⟩;rcases q3 with q3|⟨q3,q4⟩
   ·exact .inl q3
   ·exact .inr ⟨by omega,q4⟩
def r8 (ops:Array Oper) (L:Nat→Prop):Prop:= ∀i o,ops[i]? =some o→L i→ ∀e∈o.after,Region.binds .any e=true→L e.on
theorem mC {ops:Array Oper} {L:Nat→Prop} (hs:r8 ops L) (ax: ∀i o,ops[i]? =some o→ ∀e∈o.after,Region.binds .any e=true→e.on<i):
 ∀(i:Nat) (o:Oper),ops[i]? =some o→(∀e∈o.after,Region.binds .any e=true→L e.on)→ ∀j,((eY ops.toList).getD i 0).testBit j=true→L j:=by
 intro i;induction i using Nat.strongRecOn with
 |_ i ih=>
  intro o ho ha j hj;have:=(r7 ops.toList []).2.2 i o (by simpa using ho) j (by simpa [eY] using hj)
  obtain ⟨e,q1,q2,q3⟩:=this;have r9:=ha e (by simpa using q1) q2
  rcases q3 with rfl|⟨_,q4⟩
  ·exact r9
  ·have y7:=ax i o ho e (by simpa using q1) q2
   have hi:i<ops.size:=(Array.getElem?_eq_some_iff.1 ho).1;have r_:=Array.getElem?_eq_getElem (xs:=ops) (show e.on<ops.size by omega)
   exact ih e.on y7 _ r_ (hs e.on _ r_ r9) j q4
end Go.VS
