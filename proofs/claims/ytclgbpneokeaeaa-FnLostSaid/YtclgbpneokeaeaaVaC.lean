import Derived.Test.YtclgbpneokeaeaaVaB
import Derived.Tactics
import Derived.Laws.Sem
namespace Go.VS
section bz
variable {w:World} {A:ah}
theorem rB {m:Mode} {sh:List Sh} {v:AV} {H:J} {y:AV} {H1:J} (h:fc m sh v H=some (y,H1)):bD H H1:=by
 cases m with
 |val=>simp only [fc,Option.some.injEq,Prod.mk.injEq] at h;obtain ⟨_,rfl⟩:=h;exact .refl _
 |eP=>exact fy sh v H y H1 h
 |io=>
  cases v<;>simp only [fc] at h
  case nil=>simp only [Option.some.injEq,Prod.mk.injEq] at h;obtain ⟨_,rfl⟩:=h;exact .refl _
  case e0=>simp only [Option.some.injEq,Prod.mk.injEq] at h;obtain ⟨_,rfl⟩:=h;exact .refl _
  case ref=>
   split at h
   ·split at h
    ·simp only [Option.some.injEq,Prod.mk.injEq] at h;obtain ⟨_,rfl⟩:=h;exact .refl _
    ·split at h
     ·exact fy _ _ H y H1 h
     ·simp at h
   ·simp at h
  case ptr=>exact fy _ _ H y H1 h
  all_goals simp at h
theorem rC: ∀(ms:List Mode) (sh:List (List Sh)) (as:List AV) (H:J) (zs:List AV) (H1:J),fK ms sh as H=some (zs,H1)→bD H H1
 |[],sh,as,H,zs,H1,h=>by
  simp only [fK,Option.some.injEq,Prod.mk.injEq] at h;obtain ⟨_,rfl⟩:=h;exact .refl _
 |m::ms,sh,[],H,zs,H1,h=>by
  simp only [fK,Option.some.injEq,Prod.mk.injEq] at h;obtain ⟨_,rfl⟩:=h;exact .refl _
 |m::ms,sh,a::as,H,zs,H1,h=>by
  simp only [fK] at h;split at h
  ·rename_i y H' h1
   split at h
   ·rename_i ys gE h2
    simp only [Option.some.injEq,Prod.mk.injEq] at h;obtain ⟨_,rfl⟩:=h;exact (rB h1).trans (rC ms _ as H' ys _ h2)
   ·simp at h
  ·simp at h
def gF (w:World) (A:ah) (B:ah) (L0:J) (aD:ag) (bV:Bool) (vs:List AV) (us:List Value):Prop:=
 vs.length=us.length∧ ∀A0:ah,(∀c,A0 c→A c)→(bV=true→ ∀c,A0 c→B c)→ ∀(i:Nat) (x:AV) (u:Value),vs[i]? =some x→us[i]? =some u→R w L0 aD A0 x u
theorem gF.cons {B:ah} {L L0:J} {φL aD:ag} {l1 l2:Bool} {x:AV} {u:Value} {vs:List AV} {us:List Value} (hx: ∀A0:ah,(∀c,A0 c→A c)→(l1=true→ ∀c,A0 c→B c)→R w L φL A0 x u)
 (he: ∀A0,bI w L φL A0 w L0 aD A0) (h:gF w A B L0 aD l2 vs us):gF w A B L0 aD (l1||l2) (x::vs) (u::us):=by
 refine ⟨by simp [h.1],fun A0 h1 h2 i x' u' bG aN=> ?_⟩
 cases i with
 |zero=>simp at bG aN;subst bG;subst aN;exact (hx A0 h1 (fun hl=>h2 (by simp [hl]))).mono (he A0)
 |succ i=>exact h.2 A0 h1 (fun hl=>h2 (by simp [hl])) i x' u' bG aN
theorem bI.any {L L0:J} {φL aD:ag} {A1:ah} (h:bI w L φL A1 w L0 aD A1) (A0:ah):bI w L φL A0 w L0 aD A0:=
 ⟨fun _c _a _t fr hc hn=>⟨⟨fr,hc⟩,hn⟩,h.st,h.ids,h.sz⟩
theorem rD {H:J} {φ :ag} {H1:J} {L:J} {φL:ag} (ae:St w H φ A) (hl:bD H H1) {a:AV} {u:Value} (ha:R w H φ A a u) {y:AV} (hs:aP 8 H1 a=some y):
 ∀A0:ah,(∀c,A0 c→A c)→(eQ a=true→ ∀c,A0 c→fA (aE φ H1) A c)→R w L φL A0 y u:=by
 intro A0 h1 h2;obtain ⟨s1,s2,_⟩:=(ru (ef ae hl) 8).1 a u y (ha.mono (c5 hl)) hs;cases hle:eQ a with
 |false=>exact .fr _ _ ((s2 hle).shrink h1)
 |true=>exact .fr _ _ (s1.shrink (h2 hle))
theorem my: ∀(as:List AV) (ms:List Mode) (fH:List (List Sh)) (us:List Value) (H:J) (φ :ag) (zs:List AV) (H1:J) (ys:List AV) (bV:Bool) (L:J) (φL:ag) (vs:List AV) (L0:J),
 bY w H φ A L φL A→as.length=us.length→(∀(i:Nat) (x:AV) (u:Value),as[i]? =some x→us[i]? =some u→R w H φ A x u)→fK ms fH as H=some (zs,H1)→cc ms zs H1=some (ys,bV)→cd ms ys L=(vs,L0)→
 ∃aD,ca w H φ A L φL A H1 L0 aD∧gF w A (fA (aE φ H1) A) L0 aD bV vs us∧b9 H φ L0 aD ms as vs
 |[],ms,fH,us,H,φ,zs,H1,ys,bV,L,φL,vs,L0,hd,hl,hr,h1,h2,h3=>by
  have hG:zs=[]∧H1=H:=by
   cases ms<;>simp only [fK,Option.some.injEq,Prod.mk.injEq] at h1<;>exact ⟨h1.1.symm,h1.2.symm⟩
  obtain ⟨rfl,rfl⟩:=hG;have cx:ys=[]∧bV=false:=by
   cases ms<;>simp only [cc,Option.some.injEq,Prod.mk.injEq] at h2<;>exact ⟨h2.1.symm,h2.2.symm⟩
  obtain ⟨rfl,rfl⟩:=cx;have dC:vs=[]∧L0=L:=by
   cases ms<;>simp only [cd,Prod.mk.injEq] at h3<;>exact ⟨h3.1.symm,h3.2.symm⟩
  obtain ⟨rfl,rfl⟩:=dC;refine ⟨φL,.refl hd,⟨by simpa using hl,by simp⟩,?_⟩
  cases ms with
  |nil=>simp [b9]
  |cons m ms=>cases m<;>simp [b9]
 |a::as,[],fH,us,H,φ,zs,H1,ys,bV,L,φL,vs,L0,hd,hl,hr,h1,h2,h3=>by
  match us,hl with
  |u::us,hl=>
  simp only [fK,Option.some.injEq,Prod.mk.injEq] at h1;obtain ⟨rfl,rfl⟩:=h1;simp only [cc] at h2;split at h2
  ·rename_i y hy;split at h2
   ·rename_i aU b cx
    simp only [Option.some.injEq,Prod.mk.injEq] at h2;obtain ⟨rfl,rfl⟩:=h2;simp only [cd,mv _ _ _ _ hy,List.tail_nil,Prod.mk.injEq] at h3;obtain ⟨rfl,rfl⟩:=h3;obtain ⟨aD,m,cA,_⟩:=my as [] fH us H φ as H aU b L φL _ _ hd (by simpa using hl) (fun i x u hx hu=>hr (i+1) x u hx hu) rfl cx rfl
    exact ⟨aD,m,gF.cons (rD (L:=L) (φL:= φL) hd.sl (.refl _) (hr 0 a u rfl rfl) hy) (fun A0=>m.eh.any A0) cA,by simp [b9]⟩
   ·simp at h2
  ·simp at h2
 |a::as,md::ms,fH,us,H,φ,zs,H1,ys,bV,L,φL,vs,L0,hd,hl,hr,h1,h2,h3=>by
  match us,hl with
  |u::us,hl=>
  simp only [fK] at h1;split at h1
  rotate_left
  ·simp at h1
  rename_i z H' hz
  split at h1
  rotate_left
  ·simp at h1
  rename_i gG gE hG
  simp only [Option.some.injEq,Prod.mk.injEq] at h1;obtain ⟨rfl,rfl⟩:=h1;have cL:=rB hz;have dg:=rC _ _ _ _ _ _ hG;have ha:=hr 0 a u rfl rfl;have rest: ∀{aU:List AV} {b:Bool} {L' :J} {ak:ag} (m1:ca w H φ A L φL A H' L' ak) (cx:cc ms gG gE=some (aU,b)),
   ∃aD,ca w H' (aE φ H') A L' ak A gE (cd ms aU L').2 aD∧gF w A (fA (aE φ gE) A) (cd ms aU L').2 aD b (cd ms aU L').1 us∧b9 H' (aE φ H') (cd ms aU L').2 aD ms as (cd ms aU L').1:=by
   intro aU b L' ak m1 cx
   obtain ⟨aD,m,cA,dR⟩:=my as ms fH.tail us H' (aE φ H') gG gE aU b L' ak _ _ m1.bz (by simpa using hl) (fun i x u hx hu=>(hr (i+1) x u hx hu).mono (c5 cL)) hG cx rfl
   refine ⟨aD,m,?_,dR⟩;rw [fW dg] at cA;exact cA
  cases md with
  |val=>
   simp only [fc,Option.some.injEq,Prod.mk.injEq] at hz;obtain ⟨rfl,rfl⟩:=hz;simp only [cc] at h2;split at h2
   rotate_left
   ·simp at h2
   rename_i y hy;split at h2
   rotate_left
   ·simp at h2
   rename_i aU b cx
   simp only [Option.some.injEq,Prod.mk.injEq] at h2;obtain ⟨rfl,rfl⟩:=h2;have jq:cd (.val::ms) (y::aU) L=(y::(cd ms aU L).1,(cd ms aU L).2):=by
    simp only [cd,mv _ _ _ _ hy,List.tail_cons]
   rw [jq] at h3;simp only [Prod.mk.injEq] at h3;obtain ⟨rfl,rfl⟩:=h3;obtain ⟨aD,m,cA,dR⟩:=rest (ca.refl hd) cx;refine ⟨aD,(ca.refl hd).trans m,gF.cons (L:=L) (φL:= φL) (fun A0 q1 q2=> ?_) (fun A0=>m.eh.any A0) cA,?_⟩
   ·exact rD (L:=L) (φL:= φL) hd.sl dg ha hy A0 q1 q2
   ·simp only [b9];exact b9.mono (.refl _) (fun _ _ h=>h) (fun _ _ h=>h) dR
  |eP=>
   have dL:aY (fH.headD []) a H=some (z,H'):=hz
   simp only [cc] at h2;split at h2
   rotate_left
   ·simp at h2
   rename_i aU b cx
   simp only [Option.some.injEq,Prod.mk.injEq] at h2;obtain ⟨rfl,rfl⟩:=h2;have jq:cd (.eP::ms) (z::aU) L=((aF z L).1::(cd ms aU (aF z L).2).1,(cd ms aU (aF z L).2).2):=by
    simp only [cd,List.tail_cons]
   rw [jq] at h3;simp only [Prod.mk.injEq] at h3;obtain ⟨rfl,rfl⟩:=h3;obtain ⟨φ1,m1,r1⟩:=rk hd ha dL rfl (.inl fun _ h=>h)
   obtain ⟨aD,m,cA,dR⟩:=rest m1 cx;have:=gF.cons (l1:=false) (L:=(aF z L).2) (φL:= φ1) (x:=(aF z L).1) (u:=u) (fun A0 q1 _=>r1.mq q1) (fun A0=>m.eh.any A0) cA;refine ⟨aD,m1.trans m,by simpa using this,?_⟩
   simp only [b9];exact b9.mono cL (fun _ _ h=>h) (fun _ _ h=>h) dR
  |io=>
   simp only [cc] at h2;split at h2
   rotate_left
   ·simp at h2
   rename_i aU b cx
   simp only [Option.some.injEq,Prod.mk.injEq] at h2;obtain ⟨rfl,rfl⟩:=h2;rcases yM hd ha hz with ⟨sz,xs,φ1,rfl,m1,r1,ro⟩|⟨sz,x,φ1,rfl,m1,r1,ro⟩
   ·have jq:cd (.io::ms) (.own sz xs::aU) L=(.ref (aG xs L).2.bs.length (aG xs L).2.st 0 (aG xs L).1.length::(cd ms aU ((aG xs L).2.new sz true (aG xs L).1)).1,(cd ms aU ((aG xs L).2.new sz true (aG xs L).1)).2):=by
     simp only [cd]
    rw [jq] at h3;simp only [Prod.mk.injEq] at h3;obtain ⟨rfl,rfl⟩:=h3;obtain ⟨aD,m,cA,dR⟩:=rest m1 cx;have:=gF.cons (l1:=false) (φL:= φ1) (u:=u) (fun A0 q1 _=>r1.mq q1) (fun A0=>m.eh.any A0) cA;refine ⟨aD,m1.trans m,by simpa using this,?_⟩
    simp only [b9];refine ⟨?_,b9.mono cL (fun _ _ h=>h) (fun _ _ h=>h) dR⟩;obtain ⟨k,kv,bk,e1,e2,⟨loc,ia⟩,e3,e4⟩:=ro;exact ⟨k,kv,bk,e1,o9 m.bC e2,⟨loc,m.bZ _ _ ia⟩,e3,fun id ad hr=>by obtain ⟨b,c,b0,q1,q2,q3,q4,q5⟩:=e4 id ad hr;exact ⟨b,c,b0,q1,q2,q3,q4,m.bZ _ _ q5⟩⟩
   ·have jq:cd (.io::ms) (.dm sz x::aU) L=((aF (.dm sz x) L).1::(cd ms aU (aF (.dm sz x) L).2).1,(cd ms aU (aF (.dm sz x) L).2).2):=by
     simp only [cd,List.tail_cons]
    rw [jq] at h3;simp only [Prod.mk.injEq] at h3;obtain ⟨rfl,rfl⟩:=h3;obtain ⟨aD,m,cA,dR⟩:=rest m1 cx;have:=gF.cons (l1:=false) (φL:= φ1) (u:=u) (fun A0 q1 _=>r1.mq q1) (fun A0=>m.eh.any A0) cA;refine ⟨aD,m1.trans m,by simpa using this,?_⟩
    simp only [b9];refine ⟨?_,b9.mono cL (fun _ _ h=>h) (fun _ _ h=>h) dR⟩;obtain ⟨k,kv,bk,e1,e2,⟨loc,ia⟩,e3,e4⟩:=ro;exact ⟨k,kv,bk,e1,o9 m.bC e2,⟨loc,m.bZ _ _ ia⟩,e3,fun id ad hr=>by obtain ⟨b,c,b0,q1,q2,q3,q4,q5⟩:=e4 id ad hr;exact ⟨b,c,b0,q1,q2,q3,q4,m.bZ _ _ q5⟩⟩
end bz
end Go.VS
namespace Go.VS
def cT (L Lm:J):List Mode→List AV→List (List AV)→Prop
 | .io::ms,x::xs,l::ls=>(∃k kv b,kD x=some (k,kv)∧L.ap k kv=some b∧b.el=l∧Lm.get k=none)∧cT L Lm ms xs ls
 | .io::_,_::_,[]=>False
 | .val::ms,_::xs,ls=>cT L Lm ms xs ls
 | .eP::ms,_::xs,ls=>cT L Lm ms xs ls
 |_,_,_=>True
theorem cT.mono {L0 L Lm:J} (h:bD L0 L): ∀{ms:List Mode} {xs:List AV} {ls:List (List AV)},cT L Lm ms xs ls→cT L0 Lm ms xs ls
 |[],xs,ls,_=>by simp [cT]
 |m::ms,[],ls,_=>by cases m<;>simp [cT]
 | .val::ms,x::xs,ls,hr=>by simp only [cT] at hr⊢;exact hr.mono h
 | .eP::ms,x::xs,ls,hr=>by simp only [cT] at hr⊢;exact hr.mono h
 | .io::ms,x::xs,[],hr=>by simp only [cT] at hr
 | .io::ms,x::xs,l::ls,hr=>by
  simp only [cT] at hr⊢;obtain ⟨⟨k,kv,b,h1,h2,h3,h4⟩,h5⟩:=hr;exact ⟨⟨k,kv,b,h1,J.rA h h2,h3,h4⟩,h5.mono h⟩
theorem mz: ∀(ms:List Mode) (vs:List AV) (L:J) (ls:List (List AV)) (Lm:J),fi ms vs L=some (ls,Lm)→bD L Lm∧cT L Lm ms vs ls
 |[],vs,L,ls,Lm,h=>by
  simp only [fi,Option.some.injEq,Prod.mk.injEq] at h;obtain ⟨rfl,rfl⟩:=h;exact ⟨.refl _,by simp [cT]⟩
 |m::ms,[],L,ls,Lm,h=>by
  cases m<;>(simp only [fi,Option.some.injEq,Prod.mk.injEq] at h;obtain ⟨rfl,rfl⟩:=h;exact ⟨.refl _,by simp [cT]⟩)
 | .val::ms,x::xs,L,ls,Lm,h=>by simp only [fi] at h;simpa only [cT] using mz ms xs L ls Lm h
 | .eP::ms,x::xs,L,ls,Lm,h=>by simp only [fi] at h;simpa only [cT] using mz ms xs L ls Lm h
 | .io::ms,x::xs,L,ls,Lm,h=>by
  simp only [fi] at h;split at h
  ·rename_i id ad hk;split at h
   ·rename_i b hb;split at h
    ·rename_i r H' hr
     simp only [Option.some.injEq,Prod.mk.injEq] at h;obtain ⟨rfl,rfl⟩:=h;obtain ⟨h1,h2⟩:=mz ms xs _ _ _ hr;refine ⟨(bD.del L id).trans h1,?_⟩;simp only [cT];refine ⟨⟨id,ad,b,hk,hb,rfl,?_⟩,h2.mono (bD.del L id)⟩;cases hq:H'.get id with
     |none=>rfl
     |some b=>have:=h1.get _ _ hq;rw [J.iM,if_pos rfl] at this;simp at this
    ·simp at h
   ·simp at h
  ·simp at h
def junk (b:bA):bA:={b with el:=b.el.map fun _=> .agg (List.replicate b.sz .undef)}
theorem yO {H:J} {id k:Nat} {b b' :bA} (h:(H.aZ id b).get k=some b'):(k=id∧b' =b)∨H.get k=some b' :=by
 unfold J.aZ J.get at h;simp only [List.getElem?_set] at h;by_cases hk:id=k
 ·subst hk;simp only [if_true] at h;split at h
  ·simp at h;exact .inl ⟨rfl,h.symm⟩
  ·simp at h
 ·rw [if_neg hk] at h;exact .inr h
theorem yP {H:J} {id:Nat} {b:bA} (h:id<H.bs.length) (k:Nat):(H.aZ id b).get k=if k=id then some b else H.get k:=by
 unfold J.aZ J.get;simp only [List.getElem?_set];by_cases hk:id=k
 ·subst hk;simp [h]
 ·rw [if_neg hk,if_neg (fun e=>hk e.symm)]
def gH (H0:J) (v:AV) (H:J):J:=
 match dH v with
 |some (id,ad)=>match H0.ap id ad with
  |some b=>H.aZ id (junk b)
  |none=>H
 |none=>H
theorem yQ (H0:J) (v:AV) (H:J):(gH H0 v H).bs.length=H.bs.length∧(gH H0 v H).st=H.st:=by
 unfold gH;split
 ·split
  ·simp [J.aZ]
  ·exact ⟨rfl,rfl⟩
 ·exact ⟨rfl,rfl⟩
theorem rE (H0:J) (ms:List Mode) (v:AV) (vs:List AV) (H:J):cD H0 (.io::ms) (v::vs) H=cD H0 ms vs (gH H0 v H):=rfl
theorem yR {H0:J} {v:AV} {H:J} {k:Nat} {b' :bA} (h:(gH H0 v H).get k=some b'):H.get k=some b' ∨ ∃ad b,dH v=some (k,ad)∧H0.ap k ad=some b∧b' =junk b:=by
 unfold gH at h;split at h
 ·rename_i id ad hr;split at h
  ·rename_i b hb;rcases yO h with ⟨rfl,rfl⟩|h
   ·exact .inr ⟨ad,b,hr,hb,rfl⟩
   ·exact .inl h
  ·exact .inl h
 ·exact .inl h
theorem mA (H0:J): ∀(ms:List Mode) (as:List AV) (H:J),(cD H0 ms as H).bs.length=H.bs.length∧(cD H0 ms as H).st=H.st
 |[],as,H=>by simp [cD]
 |m::ms,[],H=>by cases m<;>simp [cD]
 | .val::ms,a::as,H=>by simp only [cD];exact mA H0 ms as H
 | .eP::ms,a::as,H=>by simp only [cD];exact mA H0 ms as H
 | .io::ms,a::as,H=>by
  rw [rE];have:=mA H0 ms as (gH H0 a H);have h2:=yQ H0 a H;exact ⟨this.1.trans h2.1,this.2.trans h2.2⟩
theorem mB (H0:J) {Lx Lm:J} {φ :ag} {L0:J} {aD:ag}: ∀(ms:List Mode) (as vs:List AV) (ls:List (List AV)) (H:J) (k:Nat) (b' :bA),as.length=vs.length→b9 H0 φ L0 aD ms as vs→cT Lx Lm ms vs ls→
 (cD H0 ms as H).get k=some b' →H.get k=some b' ∨ ∃a x ad b kk kv bk,dH a=some (k,ad)∧H0.ap k ad=some b∧b' =junk b∧h_ H0 φ L0 aD a x∧kD x=some (kk,kv)∧Lx.ap kk kv=some bk∧Lm.get kk=none
 |[],as,vs,ls,H,k,b',_,_,_,h=>by simp only [cD] at h;exact .inl h
 |m::ms,[],vs,ls,H,k,b',_,_,_,h=>by cases m<;>(simp only [cD] at h;exact .inl h)
 |m::ms,a::as,[],ls,H,k,b',hl,_,_,h=>by simp at hl
 | .val::ms,a::as,x::vs,ls,H,k,b',hl,h1,h2,h=>by
  simp only [cD] at h;exact mB H0 ms as vs ls H k b' (by simpa using hl) (by simpa only [b9] using h1) (by simpa only [cT] using h2) h
 | .eP::ms,a::as,x::vs,ls,H,k,b',hl,h1,h2,h=>by
  simp only [cD] at h;exact mB H0 ms as vs ls H k b' (by simpa using hl) (by simpa only [b9] using h1) (by simpa only [cT] using h2) h
 | .io::ms,a::as,x::vs,[],H,k,b',hl,h1,h2,h=>by simp only [cT] at h2
 | .io::ms,a::as,x::vs,l::ls,H,k,b',hl,h1,h2,h=>by
  rw [rE] at h;simp only [b9] at h1;simp only [cT] at h2;rcases mB H0 ms as vs ls _ k b' (by simpa using hl) h1.2 h2.2 h with h3|h3
  ·rcases yR h3 with h4|⟨ad,b,q1,q2,q3⟩
   ·exact .inl h4
   ·obtain ⟨kk,kv,bk,p1,p2,_,p4⟩:=h2.1;exact .inr ⟨a,x,ad,b,kk,kv,bk,q1,q2,q3,h1.1,p1,p2,p4⟩
  ·exact .inr h3
def Has (Hx:J) (id ad:Nat) (b:bA):Prop:= ∃b',Hx.ap id ad=some b' ∧b'.sz=b.sz∧b'.el.length=b.el.length
theorem Has.gH {H0 Hx:J} {id ad:Nat} {b:bA} (h0:H0.ap id ad=some b) (h:Has Hx id ad b) (v:AV):Has (gH H0 v Hx) id ad b:=by
 obtain ⟨b',h1,h2,h3⟩:=h;unfold VS.gH;split
 ·rename_i mC BT hr;split
  ·rename_i b2 iI;have ax:id<Hx.bs.length:=J.fN (J.bj h1).1;by_cases bK:mC=id
   ·subst bK;have g1:=J.bj h0;have g2:=J.bj iI;have:b2=b:=by have:=g1.1.symm.trans g2.1;simp only [Option.some.injEq] at this;exact this.symm
    subst this;refine ⟨junk b2,?_,rfl,by simp [junk]⟩
    have:=J.gw (H:=Hx.aZ mC (junk b2)) (id:=mC) (b:=junk b2) (by rw [yP ax,if_pos rfl])
    rw [←g1.2];exact this
   ·refine ⟨b',?_,h2,h3⟩;have g:=J.bj h1;have:(Hx.aZ mC (junk b2)).get id=some b' :=by
     unfold J.aZ J.get;simp only [List.getElem?_set];rw [if_neg bK];exact g.1
    rw [←g.2];exact J.gw this
  ·exact ⟨b',h1,h2,h3⟩
 ·exact ⟨b',h1,h2,h3⟩
structure pa (w:World) (A:ah) (aD:ag) (w' :World) (ak:ag) (AH:ah):Prop where
 own: ∀c,A c→ ¬Ow aD c→AH c
 er: ∀c,Ow ak c→AH c
 bX: ∀c,AH c→c<w'.heap.size
 fz: ∀c arr T fr,w.heap[c]? =some (.cells arr T fr)→ ¬A c→(∃eU,w'.heap[c]? =some (.cells arr T eU))∧ ¬AH c
def yS (w:World) (L:J) (φL:ag) (AL:ah) (H:J) (φ :ag) (a:AV) (l:List AV):Prop:=
 (dH a=none→l=[])∧ ∀id ad,dH a=some (id,ad)→ ∃c b0 b arr T fr,H.ap id ad=some b∧ φ id=some (.at_ c b0)∧w.heap[c]? =some (.cells arr T fr)∧l.length=b.el.length∧
  (∀(i:Nat) (x:AV),l[i]? =some x→x.cells.length=b.sz)∧ ∀(i:Nat) (x:AV) (j:Nat) (y:AV) (v:Value),l[i]? =some x→x.cells[j]? =some y→arr[b0+i*b.sz+j]? =some v→R w L φL AL y v
def ew (w:World) (L:J) (φL:ag) (AL:ah) (H:J) (φ :ag):List Mode→List AV→List (List AV)→Prop
 | .io::ms,a::as,l::ls=>yS w L φL AL H φ a l∧ew w L φL AL H φ ms as ls
 | .val::ms,_::as,ls=>ew w L φL AL H φ ms as ls
 | .eP::ms,_::as,ls=>ew w L φL AL H φ ms as ls
 |_,_,_=>True
section back
variable {w w' :World} {A:ah} {H:J} {φ :ag} {H1 L0:J} {aD:ag} {A0:ah} {L:J} {ak:ag} {A' AH:ah} {ms:List Mode} {as vs:List AV} {ls:List (List AV)} {Lm:J}
theorem pb (m:ca w H φ A ⟨0,[]⟩ (fun _=>none) A H1 L0 aD) (ho:Out w L0 aD A0 w' L ak A') {a x:AV} (hr:h_ H φ L0 aD a x) {kk kv:Nat} {bk:bA} (hk:kD x=some (kk,kv)) (hb:L.ap kk kv=some bk):
 (dH a=none→bk.el=[])∧ ∀id ad,dH a=some (id,ad)→ ∃b c b0,H.ap id ad=some b∧bk.sz=b.sz∧bk.el.length=b.el.length∧ φ id=some (.at_ c b0)∧ak kk=some (.at_ c b0)∧qt w' L ak A' bk (.at_ c b0):=by
 obtain ⟨k,BU,b1,e1,e2,⟨loc,ia⟩,e3,e4⟩:=hr;rw [hk] at e1;simp only [Option.some.injEq,Prod.mk.injEq] at e1;obtain ⟨rfl,rfl⟩:=e1;obtain ⟨g1,g2⟩:=J.bj hb;obtain ⟨f1,f2⟩:=J.bj e2;have ax:kv<L0.st:=by
  obtain ⟨bb,p1,p2⟩:=m.bz.sh.ap kk loc ia;rw [f1] at p1;simp only [Option.some.injEq] at p1;subst p1;rw [←f2];exact p2.ad
 ·obtain ⟨b2,i1,i2,i3,i4,i5,i6⟩:=ho.bQ.ids kk bk g1 (by omega)
  rw [f1] at i1;simp only [Option.some.injEq] at i1;subst i1;refine ⟨fun h=>List.eq_nil_of_length_eq_zero (by rw [i5,e3 h];rfl),fun id ad h=> ?_⟩
  obtain ⟨b,c,b0,q1,q2,q3,q4,q5⟩:=e4 id ad h;have hp:=i6 _ q5;obtain ⟨bb,p1,p2⟩:=ho.st.ap kk _ hp;rw [g1] at p1;simp only [Option.some.injEq] at p1;subst p1;exact ⟨b,c,b0,q1,i3.trans q2,i5.trans q3,q4,hp,p2⟩
theorem rF (ae:St w H φ A) (m:ca w H φ A ⟨0,[]⟩ (fun _=>none) A H1 L0 aD) (hlen:as.length=vs.length) (dR:b9 H φ L0 aD ms as vs) (ho:Out w L0 aD A0 w' L ak A') (ha:pa w A aD w' ak AH) (ht:fi ms vs L=some (ls,Lm)):
 bY w' Lm (aE ak Lm) A' (cD H ms as H1) (aE φ (cD H ms as H1)) AH∧bI w H φ A w' (cD H ms as H1) (aE φ (cD H ms as H1)) AH:=by
 obtain ⟨cL,pc⟩:=mz _ _ _ _ _ ht;have bw: ∀c,Ow aD c→Ow φ c:=fun c hc=>by
  rcases m.oh c hc with ⟨i,b,h⟩|h
  ·simp at h
  ·exact h.1
 have bC:=fun k b' =>mB H ms as vs ls H1 k b' hlen dR pc
 have pd:=(mA H ms as H1).2;have aR:bI w H φ A w' (cD H ms as H1) (aE φ (cD H ms as H1)) AH:=by
  refine ⟨ha.fz,by rw [pd,m.less.st];exact Nat.le_refl _,fun id b' aw _=> ?_,fun c hc=>ho.post.a8 c (Ow.lt ae hc)⟩
  have bZ: ∀loc,φ id=some loc→aE φ (cD H ms as H1) id=some loc:=fun loc h=>by simp [aE,aw,h]
  rcases bC id b' aw with h|⟨a,x,ad,b,kk,kv,bk,q1,q2,rfl,q4,q5,q6,q7⟩
  ·exact ⟨b',m.less.get _ _ h,rfl,rfl,rfl,rfl,bZ⟩
  ·exact ⟨b,(J.bj q2).1,rfl,rfl,rfl,by simp [junk],bZ⟩
 refine ⟨⟨ef ho.st cL,⟨fun i i' c b b' h1 h2=>ae.inj _ _ _ _ _ (dh h1).1 (dh h2).1,fun c hc=> ?_,ha.bX,fun id loc hl=> ?_⟩,fun c hc hj=> ?_,fun c hc=>ha.er c (bL hc)⟩,aR⟩
 ·obtain ⟨id,b0,h⟩:=hc;obtain ⟨h1,b',aw⟩:=dh h;rcases bC id b' aw with h2|⟨a,x,ad,b,kk,kv,bk,q1,q2,rfl,q4,q5,q6,q7⟩
  ·refine ha.own c (ae.own c ⟨id,b0,h1⟩) (m.bz.b_ c ⟨id,b0,?_⟩);simp [aE,h2,h1]
  ·obtain ⟨_,re⟩:=pb m ho q4 q5 q6;obtain ⟨b2,c2,pe,_,_,_,r4,r5,_⟩:=re id _ q1;rw [h1] at r4;simp only [Option.some.injEq,Loc.at_.injEq] at r4;obtain ⟨rfl,rfl⟩:=r4;exact ha.er c ⟨kk,b0,r5⟩
 ·obtain ⟨h1,b',aw⟩:=dh hl;refine ⟨b',aw,?_⟩;rcases bC id b' aw with h2|⟨a,x,ad,b,kk,kv,bk,q1,q2,rfl,q4,q5,q6,q7⟩
  ·obtain ⟨b2,iI,af⟩:=ae.ap id loc h1;rw [m.less.get _ _ h2] at iI;simp only [Option.some.injEq] at iI;subst iI;refine ⟨by rw [pd,m.less.st];exact af.ad,af.sized,af.aQ,fun c b0 he=> ?_⟩
   subst he;obtain ⟨arr,T,fr,k1,k2,k3,k4⟩:=af.here c b0 rfl;have hn: ¬Ow aD c:=m.bz.b_ c ⟨id,b0,by simp [aE,h2,h1]⟩
   refine ⟨arr,T,fr,?_,k2,k3,fun i x j y v hx hy hv=>⟨(k4 i x j y v hx hy hv).1.mono aR,(k4 i x j y v hx hy hv).2⟩⟩;rw [ho.post.kept c (Ow.lt ae ⟨id,b0,h1⟩) hn];exact k1
  ·obtain ⟨_,re⟩:=pb m ho q4 q5 q6;obtain ⟨b2,c2,pe,r1,r2,r3,r4,r5,af⟩:=re id _ q1;rw [h1] at r4;simp only [Option.some.injEq] at r4;subst r4;rw [q2] at r1;simp only [Option.some.injEq] at r1;subst r1;obtain ⟨b3,kS,yT⟩:=ae.ap id _ h1;rw [(J.bj q2).1] at kS;simp only [Option.some.injEq] at kS;subst kS;have hcs: ∀(i:Nat) (x:AV),(junk b).el[i]? =some x→i<b.el.length∧x= .agg (List.replicate b.sz .undef):=by
    intro i x hx;simp only [junk,List.getElem?_map,Option.map_eq_some_iff] at hx;obtain ⟨z,hz,rfl⟩:=hx;exact ⟨(List.getElem?_eq_some_iff.1 hz).1,rfl⟩
   refine ⟨by rw [pd,m.less.st];exact yT.ad,fun i x hx=>by rw [(hcs i x hx).2];simp [AV.cells,junk],fun h=>by simp at h,fun c b0 he=> ?_⟩
   simp only [Loc.at_.injEq] at he;obtain ⟨rfl,rfl⟩:=he;obtain ⟨arr,T,fr,k1,k2,k3,k4⟩:=af.here c2 pe rfl;refine ⟨arr,T,fr,k1,k2,by simp only [junk,List.length_map];rw [←r3,←r2];exact k3,fun i x j y v hx hy hv=> ?_⟩
   obtain ⟨hi,rfl⟩:=hcs i x hx;have hj:j<b.sz:=by have:=(List.getElem?_eq_some_iff.1 hy).1;simpa [AV.cells] using this
   have yU:y= .undef:=by simp only [AV.cells] at hy;rw [List.getElem?_replicate,if_pos hj] at hy;simpa using hy.symm
   subst yU;refine ⟨.fr _ _ (.undef _),?_⟩;have rG:=List.getElem?_eq_getElem (show i<bk.el.length by omega)
   exact (k4 i _ j _ v rG (List.getElem?_eq_getElem (show j<_ by rw [af.sized _ _ rG,r2];exact hj)) (by rw [r2];exact hv)).2
 ·obtain ⟨id,b0,h⟩:=hj;obtain ⟨h1,b',aw⟩:=dh h;rcases bC id b' aw with h2|⟨a,x,ad,b,kk,kv,bk,q1,q2,rfl,q4,q5,q6,q7⟩
  ·rcases ho.post.own c (bL hc) with h3|h3
   ·exact m.bz.b_ c ⟨id,b0,by simp [aE,h2,h1]⟩ h3
   ·have:=Ow.lt ae ⟨id,b0,h1⟩;omega
  ·obtain ⟨_,re⟩:=pb m ho q4 q5 q6;obtain ⟨b2,c2,pe,_,_,_,r4,r5,_⟩:=re id _ q1;rw [h1] at r4;simp only [Option.some.injEq,Loc.at_.injEq] at r4;obtain ⟨rfl,rfl⟩:=r4;obtain ⟨i,bb,hi⟩:=hc;obtain ⟨fw,bx,rH⟩:=dh hi;have:=ho.st.inj _ _ _ _ _ fw r5;subst this;rw [q7] at rH;simp at rH
end back
end Go.VS
namespace Go.VS
section back
variable {w:World} {AL AH:ah}
structure Mv (w:World) (L:J) (φL:ag) (AL:ah) (H:J) (φ :ag) (AH:ah) (L1 H1:J) (φ1:ag):Prop where
 less:bD L L1
 bz:bY w L1 (aE φL L1) AL H1 φ1 AH
 eh:bI w H φ AH w H1 φ1 AH
 oh: ∀c,Ow φ1 c→Ow φ c∨(Ow φL c∧ ¬Ow (aE φL L1) c)
 has: ∀id ad b,H.ap id ad=some b→ ∃b',H1.ap id ad=some b' ∧b'.sz=b.sz∧b'.el.length=b.el.length
 bZ: ∀id loc,φ id=some loc→ φ1 id=some loc
theorem Mv.trans {L L1 L2:J} {φL:ag} {H H1 H2:J} {φ φ1 bf:ag} (h:Mv w L φL AL H φ AH L1 H1 φ1) (k:Mv w L1 (aE φL L1) AL H1 φ1 AH L2 H2 bf):Mv w L φL AL H φ AH L2 H2 bf:=by
 have hr:=fW (φ := φL) k.less;refine ⟨h.less.trans k.less,by rw [←hr];exact k.bz,h.eh.trans k.eh (fun _ _=>rfl),fun c hc=> ?_,fun id ad b hb=> ?_,fun id loc hl=>k.bZ id loc (h.bZ id loc hl)⟩
 ·rcases k.oh c hc with h1|⟨h1,h2⟩
  ·rcases h.oh c h1 with h3|⟨h3,h4⟩
   ·exact .inl h3
   ·refine .inr ⟨h3,fun h5=>h4 ?_⟩;rw [←hr] at h5;exact bL h5
  ·rw [hr] at h2;exact .inr ⟨bL h1,h2⟩
 ·obtain ⟨b1,e1,e2,e3⟩:=h.has id ad b hb;obtain ⟨b2,f1,f2,f3⟩:=k.has id ad b1 e1;exact ⟨b2,f1,f2.trans e2,f3.trans e3⟩
theorem iJ.refl {w:World} {c:Nat} {o:Obj} (h:w.heap[c]? =some o):iJ w c o w:=⟨h,fun _ _=>rfl,rfl,rfl,rfl,rfl⟩
theorem ew.mono {L L1:J} {φL:ag} {H H1:J} {φ φ1:ag} (hl:bD L L1) (has: ∀id ad b,H.ap id ad=some b→ ∃b',H1.ap id ad=some b' ∧b'.sz=b.sz∧b'.el.length=b.el.length) (bZ: ∀id loc,φ id=some loc→ φ1 id=some loc):
 ∀{ms:List Mode} {as:List AV} {ls:List (List AV)},ew w L φL AL H φ ms as ls→ew w L1 (aE φL L1) AL H1 φ1 ms as ls
 |[],as,ls,_=>by simp [ew]
 |m::ms,[],ls,_=>by cases m<;>simp [ew]
 | .val::ms,a::as,ls,h=>by simp only [ew] at h⊢;exact ew.mono hl has bZ h
 | .eP::ms,a::as,ls,h=>by simp only [ew] at h⊢;exact ew.mono hl has bZ h
 | .io::ms,a::as,[],h=>by simp [ew]
 | .io::ms,a::as,l::ls,h=>by
  simp only [ew] at h⊢;refine ⟨⟨h.1.1,fun id ad hr=> ?_⟩,ew.mono hl has bZ h.2⟩;obtain ⟨c,b0,b,arr,T,fr,k1,k2,k3,k4,k5,k6⟩:=h.1.2 id ad hr;obtain ⟨b',e1,e2,e3⟩:=has id ad b k1;exact ⟨c,b0,b',arr,T,fr,e1,bZ _ _ k2,k3,by rw [k4,e3],fun i x hx=>by rw [e2];exact k5 i x hx,fun i x j y v hx hy hv=>(k6 i x j y v hx hy (by rw [←e2];exact hv)).mono (c5 hl)⟩
theorem rI: ∀(sh:List (List Sh)) (rs:List AV) (us:List Value) (L:J) (φL:ag) (H:J) (φ :ag) (ys:List AV) (L1:J),bY w L φL AL H φ AH→rs.length=us.length→
 (∀(i:Nat) (x:AV) (u:Value),rs[i]? =some x→us[i]? =some u→R w L φL AL x u)→de sh rs L=some (ys,L1)→dQ AL AH ys→
 ∃ φ1,ca w L φL AL H φ AH L1 (aG ys H).2 φ1∧(aG ys H).1.length=us.length∧ ∀(i:Nat) (x:AV) (u:Value),(aG ys H).1[i]? =some x→us[i]? =some u→R w (aG ys H).2 φ1 AH x u
 |sh,[],us,L,φL,H,φ,ys,L1,hd,hl,hr,ht,hk=>by
  simp only [de,Option.some.injEq,Prod.mk.injEq] at ht;obtain ⟨rfl,rfl⟩:=ht;exact ⟨φ,.refl hd,hl,by simp [aG]⟩
 |sh,x::rs,u::us,L,φL,H,φ,ys,L1,hd,hl,hr,ht,hk=>by
  simp only [de] at ht;split at ht
  rotate_left
  ·simp at ht
  rename_i y L' h1
  split at ht
  rotate_left
  ·simp at ht
  rename_i aU c9 h2
  simp only [Option.some.injEq,Prod.mk.injEq] at ht;obtain ⟨rfl,rfl⟩:=ht;obtain ⟨k1,k2⟩:=hk.cons;obtain ⟨φ1,m1,r1⟩:=rk hd (hr 0 x u rfl rfl) h1 rfl k1;obtain ⟨bf,m2,l2,r2⟩:=rI sh.tail rs us L' (aE φL L') (aF y H).2 φ1 aU c9 m1.bz (by simpa using hl) (fun i x u hx hu=>(hr (i+1) x u hx hu).mono (c5 m1.less)) h2 k2
  refine ⟨bf,m1.trans m2,by simp [aG,l2],fun i x' u' hx hu=> ?_⟩
  cases i with
  |zero=>simp [aG] at hx hu;subst hx;subst hu;exact r1.mono m2.eh
  |succ i=>simp only [aG,List.getElem?_cons_succ] at hx hu;exact r2 i x' u' hx hu
 |sh,x::rs,[],L,φL,H,φ,ys,L1,hd,hl,hr,ht,hk=>by simp at hl
theorem rJ: ∀(sh:List (List Sh)) (rs:List AV) (L:J) (ys:List AV) (L1:J),de sh rs L=some (ys,L1)→bD L L1
 |sh,[],L,ys,L1,ht=>by simp only [de,Option.some.injEq,Prod.mk.injEq] at ht;obtain ⟨rfl,rfl⟩:=ht;exact .refl _
 |sh,x::rs,L,ys,L1,ht=>by
  simp only [de] at ht;split at ht
  ·rename_i y L' h1
   split at ht
   ·rename_i aU c9 h2
    simp only [Option.some.injEq,Prod.mk.injEq] at ht;obtain ⟨rfl,rfl⟩:=ht;exact (fy _ _ _ _ _ h1).trans (rJ _ rs _ _ _ h2)
   ·simp at ht
  ·simp at ht
theorem rK {es:List Sh} {x:AV} {v:Value} {L:J} {φL:ag} {A' :ah} {y:AV} {L1:J} (ae:St w L φL AL) (hx:R w L φL AL x v) (ht:aY es x L=some (y,L1)) (hk: ∀c,A' c→gone φL AL L1 c):FR w A' (bB y) v:=by
 by_cases bW: ∃cs,x= .agg cs
 ·obtain ⟨cs,rfl⟩:=bW;obtain ⟨aW,hc,rfl⟩:=la ht;obtain ⟨vs,rfl,hl,ho,hp⟩:=hx.fP;obtain ⟨l1,r1⟩:=o7 es cs vs.toList L φL AL A' aW L1 ae (by simpa using hl) (fun j c u hj hu=>hp j c u hj (by simpa using hu)) hc hk
  exact .agg _ _ (by rw [l1,hl]) ho fun i x v hx hv=>r1 i x v hx (by simpa using hv)
 ·obtain ⟨e,rfl,cz⟩:=jp (fun cs h=>bW ⟨cs,h⟩) ht;exact (mu e x v L φL AL A' y L1 ae hx cz hk).1
theorem pf {A' :ah}: ∀(sh:List (List Sh)) (rs:List AV) (us:List Value) (L:J) (φL:ag) (ys:List AV) (L1:J),St w L φL AL→rs.length=us.length→
 (∀(i:Nat) (x:AV) (u:Value),rs[i]? =some x→us[i]? =some u→R w L φL AL x u)→de sh rs L=some (ys,L1)→(∀c,A' c→gone φL AL L1 c)→
 (bU ys).length=us.length∧ ∀(i:Nat) (x:AV) (u:Value),(bU ys)[i]? =some x→us[i]? =some u→FR w A' x u
 |sh,[],us,L,φL,ys,L1,hd,hl,hr,ht,hk=>by
  simp only [de,Option.some.injEq,Prod.mk.injEq] at ht;obtain ⟨rfl,rfl⟩:=ht;exact ⟨hl,by simp [bU]⟩
 |sh,x::rs,u::us,L,φL,ys,L1,hd,hl,hr,ht,hk=>by
  simp only [de] at ht;split at ht
  rotate_left
  ·simp at ht
  rename_i y L' h1
  split at ht
  rotate_left
  ·simp at ht
  rename_i aU c9 h2
  simp only [Option.some.injEq,Prod.mk.injEq] at ht;obtain ⟨rfl,rfl⟩:=ht;have cL:=fy _ _ _ _ _ h1;have dg:=rJ _ _ _ _ _ h2;have r1:=rK (A' :=A') hd (hr 0 x u rfl rfl) h1 (fun c hc=>oX dg (hk c hc))
  obtain ⟨l2,r2⟩:=pf sh.tail rs us L' (aE φL L') aU c9 (ef hd cL) (by simpa using hl) (fun i x u hx hu=>(hr (i+1) x u hx hu).mono (c5 cL)) h2 (fun c hc=>by
   obtain ⟨k1,k2⟩:=hk c hc;exact ⟨k1,fun ho=>by rw [fW dg];exact k2 (bL ho)⟩)
  refine ⟨by simp [bU,l2],fun i x' u' hx hu=> ?_⟩
  cases i with
  |zero=>simp [bU] at hx hu;subst hx;subst hu;exact r1
  |succ i=>simp only [bU,List.getElem?_cons_succ] at hx hu;exact r2 i x' u' hx hu
 |sh,x::rs,[],L,φL,ys,L1,hd,hl,hr,ht,hk=>by simp at hl
end back
end Go.VS
namespace Go.VS
def ib:List Value→Value
 |[v]=>v
 |vs=> .tuple vs.toArray
def gI (P:Program) (f:FuncId):Prop:= ∃fn,P.funcs[f]? =some fn∧(fn.name== "runtime.NumGoroutine")=false∧fn.body.isNone=false
def iO (w:World) (H:J) (φ :ag) (A:ah) (K:AV→J→Prop) (e:Ending) (w' :World):Prop:=
 match e with
 | .returned v' => ∃x H' ak A',Out w H φ A w' H' ak A' ∧R w' H' ak A' x v' ∧K x H'
 |_=>False
theorem iO.mono {w:World} {H:J} {φ :ag} {A:ah} {K K' :AV→J→Prop} (h: ∀v H,K v H→K' v H) {e:Ending} {w' :World} (k:iO w H φ A K e w'):iO w H φ A K' e w' :=by
 cases e with
 |returned v' =>obtain ⟨x,H',ak,A',h1,h2,h3⟩:=k;exact ⟨x,H',ak,A',h1,h2,h _ _ h3⟩
 |panicked c=>exact k
 |outgrown=>exact k
def cb (P:Program):br:=fun f ys H K=>gI P f∧
 ∀(w:World) (A:ah) (φ :ag) (us:Array Value),St w H φ A→ys.length=us.size→
  (∀(i:Nat) (x:AV) (u:Value),ys[i]? =some x→us[i]? =some u→R w H φ A x u)→Calls P f us w (iO w H φ A K)
theorem cb.mono {P:Program} {f:FuncId} {ys:List AV} {H:J} {K K' :AV→J→Prop} (h: ∀v H,K v H→K' v H) (k:cb P f ys H K):cb P f ys H K' :=
 ⟨k.1,fun w A φ us h1 h2 h3=>(k.2 w A φ us h1 h2 h3).mono fun _ _ he=>he.mono h⟩
def Exact (X:br):Prop:= ∀f ys H K,X f ys H K→ ∃v H',X f ys H (fun v1 H1=>v1=v∧H1=H')∧K v H'
theorem St.shrink {w:World} {H:J} {φ :ag} {A A' :ah} (h:St w H φ A) (h1: ∀c,A' c→A c) (h2: ∀c,Ow φ c→A' c):St w H φ A' :=by
 refine ⟨h.inj,h2,fun c hc=>h.bX c (h1 c hc),fun id loc hl=> ?_⟩;obtain ⟨b,hb,af⟩:=h.ap id loc hl;refine ⟨b,hb,af.ad,af.sized,af.aQ,fun c b0 he=> ?_⟩;obtain ⟨arr,T,fr,k1,k2,k3,k4⟩:=af.here c b0 he;exact ⟨arr,T,fr,k1,k2,k3,fun i x j y v hx hy hv=>⟨(k4 i x j y v hx hy hv).1.mq h1,(k4 i x j y v hx hy hv).2⟩⟩
section
variable {w:World} {H:J} {φ :ag} {A:ah}
theorem pg {xs:List AV} {us:List Value} (hl:xs.length=us.length) (h: ∀(i:Nat) (x:AV) (u:Value),xs[i]? =some x→us[i]? =some u→R w H φ A x u):R w H φ A (cq xs) (ib us):=by
 have key: ∀{xs:List AV} {us:List Value},xs.length=us.length→(∀(i:Nat) (x:AV) (u:Value),xs[i]? =some x→us[i]? =some u→R w H φ A x u)→R w H φ A (.az xs) (.tuple us.toArray):=
  fun hl h=> .az _ _ (by simpa using hl) fun i x v hx hv=>h i x v hx (by simpa using hv)
 match xs,us,hl with
 |[],[],hl=>exact key hl h
 |[x],[u],_=>exact h 0 x u rfl rfl
 |x::x' ::xs,u::u' ::us,hl=>exact key hl h
theorem rL {xs:List AV} {us:List Value} (hl:xs.length=us.length) (h: ∀(i:Nat) (x:AV) (u:Value),xs[i]? =some x→us[i]? =some u→FR w A x u):FR w A (cq xs) (ib us):=by
 have key: ∀{xs:List AV} {us:List Value},xs.length=us.length→(∀(i:Nat) (x:AV) (u:Value),xs[i]? =some x→us[i]? =some u→FR w A x u)→FR w A (.az xs) (.tuple us.toArray):=
  fun hl h=> .az _ _ (by simpa using hl) fun i x v hx hv=>h i x v hx (by simpa using hv)
 match xs,us,hl with
 |[],[],hl=>exact key hl h
 |[x],[u],_=>exact h 0 x u rfl rfl
 |x::x' ::xs,u::u' ::us,hl=>exact key hl h
end
theorem rM (zs:List AV) (H:J):aF (cq zs) H=(cq (aG zs H).1,(aG zs H).2):=by
 match zs with
 |[]=>rfl
 |[z]=>rfl
 |z::z' ::zs=>rfl
theorem rN (zs:List AV):bB (cq zs)=cq (bU zs):=by
 match zs with
 |[]=>rfl
 |[z]=>rfl
 |z::z' ::zs=>rfl
theorem rO (zs:List AV):cg (cq zs)=dY zs:=by
 match zs with
 |[]=>rfl
 |[z]=>simp [cq,dY]
 |z::z' ::zs=>rfl
theorem rP {xs:List AV} {v:Value} {w:World} {H:J} {φ :ag} {A:ah} (h:R w H φ A (cq xs) v): ∃us:List Value,v=ib us∧xs.length=us.length∧ ∀(i:Nat) (x:AV) (u:Value),xs[i]? =some x→us[i]? =some u→R w H φ A x u:=by
 have key: ∀{xs:List AV},xs.length≠1→R w H φ A (.az xs) v→ ∃us:List Value,v=ib us∧xs.length=us.length∧ ∀(i:Nat) (x:AV) (u:Value),xs[i]? =some x→us[i]? =some u→R w H φ A x u:=by
  intro xs hl h;obtain ⟨vs,rfl,h1,h2⟩:=h.lT;refine ⟨vs.toList,?_,by simpa using h1,fun i x u hx hu=>h2 i x u hx (by simpa using hu)⟩
  have cZ:vs.toList.length≠1:=by simp only [Array.length_toList];omega
  generalize hv:vs.toList=l at cZ;have:Value.tuple vs= .tuple l.toArray:=by rw [←hv]
  rw [this]
  match l with
  |[]=>rfl
  |[u]=>exact absurd rfl cZ
  |u::u' ::l=>rfl
 match xs with
 |[]=>exact key (by simp) h
 |[x]=>exact ⟨[v],rfl,rfl,fun i x' u hx hu=>by
  cases i with
  |zero=>simp at hx hu;subst hx;subst hu;exact h
  |succ i=>simp at hx⟩
 |x::x' ::xs=>exact key (by simp) h
def mD (ms:List Mode):Prop:= ∀m∈ms,m= .val
theorem ph: ∀(ms:List Mode) (sh:List (List Sh)) (as:List AV) (H:J),mD ms→fK ms sh as H=some (as,H)
 |[],sh,as,H,_=>rfl
 |m::ms,sh,[],H,_=>rfl
 |m::ms,sh,a::as,H,h=>by
  have hm:=h m (by simp)
  subst hm;simp only [fK,fc,ph ms sh.tail as H (fun m hm=>h m (by simp [hm]))]
theorem pj (H0:J): ∀(ms:List Mode) (as:List AV) (H:J),mD ms→cD H0 ms as H=H
 |[],as,H,_=>by simp [cD]
 |m::ms,[],H,_=>by cases m<;>simp [cD]
 |m::ms,a::as,H,h=>by
  have hm:=h m (by simp)
  subst hm;simp only [cD];exact pj H0 ms as H (fun m hm=>h m (by simp [hm]))
theorem ka {w:World} {H:J} {φ :ag} {A:ah} (ae:St w H φ A):aE φ H= φ :=by
 funext id
 unfold aE;cases hp: φ id with
 |none=>simp
 |some loc=>obtain ⟨b,hb,_⟩:=ae.ap id loc hp;simp [hb]
theorem pk {H:J}: ∀(as ys:List AV) (b:Bool),cc [] as H=some (ys,b)→ ∀L,cd [] ys L=(ys,L)
 |[],ys,b,h,L=>by simp only [cc,Option.some.injEq,Prod.mk.injEq] at h;obtain ⟨rfl,_⟩:=h;rfl
 |a::as,ys,b,h,L=>by
  simp only [cc] at h;split at h
  ·rename_i y hy;split at h
   ·rename_i aU b' cx
    simp only [Option.some.injEq,Prod.mk.injEq] at h;obtain ⟨rfl,_⟩:=h;simp only [cd,mv H 8 a y hy,List.tail_nil,pk as aU b' cx]
   ·simp at h
  ·simp at h
theorem yV {P:Program} {C:aH} {X:br} (hX: ∀f ys H K,X f ys H K→cb P f ys H K) {w:World} {H:J} {φ :ag} {A:ah} (ae:St w H φ A) {f:FuncId} {as:List AV} {us:Array Value} (hl:as.length=us.size)
 (hr: ∀(i:Nat) (x:AV) (u:Value),as[i]? =some x→us[i]? =some u→R w H φ A x u) {th:Bool} {K:AV→J→Prop} (h:dq X C f as th H K):gI P f∧Calls P f us w (iO w H φ A K):=by
 unfold dq at h;split at h
 ·exact h.elim
 rename_i ys bV hy;obtain ⟨y,lg,hZ,hp⟩:=h;have hm:mD []:=fun m hm=>by simp at hm
 have po:bY w H φ A ⟨0,[]⟩ (fun _=>none) A:=by
  refine ⟨ae,⟨fun i i' c b b' h=>by simp at h,fun c hc=> ?_,ae.bX,fun id loc h=>by simp at h⟩,fun c _ hc=> ?_,ae.own⟩
  ·obtain ⟨i,b,h⟩:=hc;simp at h
  ·obtain ⟨i,b,h⟩:=hc;simp at h
 have pq:cd [] ys ⟨0,[]⟩=(ys,⟨0,[]⟩):=pk _ _ _ hy _;obtain ⟨aD,m,cA,dR⟩:=my as [] [] us.toList H φ as H ys bV ⟨0,[]⟩ (fun _=>none) ys ⟨0,[]⟩ po (by simpa using hl) (fun i x u hx hu=>hr i x u hx (by simpa using hu)) (ph _ _ _ _ hm) hy pq
 have bw: ∀c,¬Ow aD c:=fun c hc=>by
  rcases m.oh c hc with ⟨i,b,h⟩|⟨h1,h2⟩
  ·simp at h
  ·rw [ka ae] at h2;exact h2 h1
 let A0:ah:=if bV=true then Ow aD else A
 have jr: ∀c,A0 c→A c:=by
  intro c hc;simp only [A0] at hc;split at hc
  ·exact absurd hc (bw c)
  ·exact hc
 have pr:bV=true→ ∀c,A0 c→fA (aE φ H) A c:=by
  intro ax c hc;simp only [A0,ax,if_true] at hc;exact absurd hc (bw c)
 have cU:St w ⟨0,[]⟩ aD A0:=m.bz.sh.shrink jr (fun c hc=>absurd hc (bw c));have eZ:ys.length=us.size:=by simpa using cA.1
 refine ⟨(hX _ _ _ _ lg).1,((hX _ _ _ _ lg).2 w A0 aD us cU eZ (fun i x u hx hu=>cA.2 A0 jr pr i x u hx (by simpa using hu))).mono fun e w' he=> ?_⟩
 cases e with
 |panicked c=>exact he.elim
 |outgrown=>exact he.elim
 |returned v' =>
 obtain ⟨x0,L,ak,A',ho,pu,rs,gG,L2,rfl,lh,rfl⟩:=he;obtain ⟨cF,rfl,eL,hM⟩:=rP pu
 let AH:ah:=if bV=true then fun c=>A c∨(A' c∧w.heap.size≤c) else A'
 have jt: ∀c,Ow ak c→w.heap.size≤c:=fun c hc=>(ho.post.own c hc).resolve_left (bw c)
 have ha:pa w A aD w' ak AH:=by
  refine ⟨fun c hc hn=> ?_,fun c hc=> ?_,fun c hc=> ?_,fun c arr T fr hc hn=> ?_⟩
  ·simp only [AH];split
   ·exact .inl hc
   ·rename_i ax;refine ho.keep c ?_ hn;simp only [A0,ax];exact hc
  ·simp only [AH];split
   ·exact .inr ⟨ho.st.own c hc,jt c hc⟩
   ·exact ho.st.own c hc
  ·simp only [AH] at hc;split at hc
   ·rcases hc with h|⟨h,_⟩
    ·exact Nat.lt_of_lt_of_le (ae.bX c h) ho.post.size
    ·exact ho.st.bX c h
   ·exact ho.st.bX c hc
  ·obtain ⟨h1,h2⟩:=ho.bQ.fz c arr T fr hc (fun h=>hn (jr c h));refine ⟨h1,?_⟩;simp only [AH];split
   ·rintro (h|⟨_,h⟩)
    ·exact hn h
    ·have:c<w.heap.size:=by
      rcases Nat.lt_or_ge c w.heap.size with h' |h'
      ·exact h'
      ·rw [Array.getElem?_eq_none h'] at hc;simp at hc
     omega
   ·exact h2
 obtain ⟨D,E⟩:=rF (ls:=[]) (Lm:=L) ae m (by rw [hl,eZ]) dR ho ha (by simp [fi])
 rw [pj _ _ _ _ hm,ka ae] at D E;have pv:dQ A' AH gG:=by
  cases ax:bV with
  |false=>exact .inl fun c h=>by simpa [AH,ax] using h
  |true=>
   rcases hZ with h|h
   ·rw [ax] at h;simp at h
   ·rw [rO] at h;exact .inr h
 have ju: ∀(i:Nat) (x:AV) (u:Value),rs[i]? =some x→cF[i]? =some u→R w' L (aE ak L) A' x u:=fun i x u hx hu=>by
  rw [ka ho.st];exact hM i x u hx hu
 have fm: ∀{cV:ag},(∀c,Ow cV c→Ow φ c∨Ow ak c)→fj w φ w' cV:=fun hq=>
  ⟨ho.post.os,ho.post.tape,ho.post.output,ho.post.size,fun c hc _=>ho.post.kept c hc (bw c),ho.post.a8,fun c hc=>by
   rcases hq c hc with h|h
   ·exact .inl h
   ·exact .inr (jt c h)⟩
 have jv: ∀c,A c→ ¬Ow φ c→AH c:=fun c hc _=>ha.own c hc (bw c);have cf: ∀c,Ow φ c→a8 w' c=a8 w c:=fun c hc=>ho.post.a8 c (Ow.lt ae hc)
 cases fV:(th||bV) with
 |true=>
  rw [fV] at hp;simp only [if_true,rM] at hp;obtain ⟨cV,m3,l3,r3⟩:=rI _ rs cF L _ H φ gG L2 D eL ju lh pv
  refine ⟨_,_,cV,AH,⟨m3.bz.sh,fm fun c hc=> ?_,E.trans m3.eh cf,jv⟩,pg l3 r3,hp⟩;rcases m3.oh c hc with h|⟨h,_⟩
  ·exact .inl h
  ·exact .inr (bL h)
 |false=>
  rw [fV] at hp;simp only [Bool.false_eq_true,if_false,rN] at hp;simp only [Bool.or_eq_false_iff] at fV;have pw:AH=A' :=by simp [AH,fV.2]
  rw [pw] at D E jv
  let A2:ah:=gone (aE ak L) A' L2
  obtain ⟨l3,r3⟩:=pf (A' :=A2) _ rs cF L (aE ak L) gG L2 D.sl eL ju lh (fun c h=>h)
  have px: ∀c,Ow φ c→A2 c:=fun c hc=>⟨D.sh.own c hc,fun h=>absurd hc (D.b_ c h)⟩;have py:bI w H φ A w' H φ A2:=⟨fun c arr T fr hc hn=>⟨(E.fz c arr T fr hc hn).1,fun h2=>(E.fz c arr T fr hc hn).2 h2.1⟩,E.st,E.ids,E.sz⟩
  refine ⟨_,_,φ,A2,⟨D.sh.shrink (fun c h=>h.1) px,fm fun c hc=> .inl hc,py,fun c hc hn=>⟨jv c hc hn,fun h=> ?_⟩⟩,.fr _ _ (rL l3 r3),hp⟩;have:=jt c (bL h)
  have:=ae.bX c hc;omega
end Go.VS
namespace Go.VS
section ops
variable {P:Program} {C:aH} {X:br} {w:World} {H:J} {φ :ag} {A:ah}
theorem yW {f:FuncId} (h:gI P f) (args:Array Value) (w:World):(callFunc f args).run P w= .ok (.enter f args) w:=by
 obtain ⟨fn,h1,h2,h3⟩:=h;have lf:fn.name≠ "runtime.NumGoroutine" :=by simpa using h2
 have yX:fn.body≠none:=by intro e;rw [e] at h3;simp at h3
 simp [callFunc,h1,lf,yX]
theorem rQ {o:Oper} {ρ :Operand→Value} {x:Operand} {args:Array Operand} {tys:Array TypeId} (ho:o.op= .call {callee:= .value x,args,argTypes:=tys}) {g:FuncId} {bT:Array Value} (hx: ρ x= .func (.func g) #[] bT) (hc:gI P g):
 (execOp ρ o).run P w= .ok (.enter g (args.map ρ ++ bT)) w:=by
 simp [execOp,ho,resolve,hx,Deferred.ofValue,invoke,yW hc]
theorem rR {o:Oper} {ρ :Operand→Value} {b:Builtin} {args:Array Operand} {tys:Array TypeId} (ho:o.op= .call {callee:= .builtin b,args,argTypes:=tys}):
 ∃consts,(execOp ρ o).run P w=(builtin b tys o.type consts (args.map ρ)).run P w:=
 ⟨_,by simp only [execOp,ho,resolve,invoke,Sem.run_bind,Sem.run_pure,Result.andThen_ok];rfl⟩
theorem cj.upon {H' :J} {r:Result Next} {x:AV} (h:cj w H φ A H' r x) {o:Oper} {a:Act} {next:Act→World→Prop} {Q:Exit→Act→World→Prop}
 (hn: ∀v w' ak A',Out w H φ A w' H' ak A' →R w' H' ak A' x v→next (a.put o.dst v) w'):o.upon P a next Q r:=by
 obtain ⟨n,v,w',ak,A',rfl,hv,hr,ho⟩:=h;rcases hv with rfl|⟨rfl,rfl⟩
 ·exact hn v w' ak A' ho hr
 ·exact hn _ w' ak A' ho hr
theorem mE (hE: ∀t ti,C.E t=some ti→aS P t ti) (hX: ∀f ys H K,X f ys H K→cb P f ys H K) (ae:St w H φ A) {o:Oper} {s:aj} {a:Act} (hs: ∀x∈o.op.operands,R w H φ A (ev s x) (a.eval x)) {th:Bool} {K:AV→J→Prop} (h:wpOp X C false th o s H K)
 {next:Act→World→Prop} {Q:Exit→Act→World→Prop} (hn: ∀x v w' H' ak A',Out w H φ A w' H' ak A' →R w' H' ak A' x v→K x H' →next (a.put o.dst v) w'):o.wp P a w next Q:=by
 have li: ∀(hh:(match aM C.E o.op s H with|some (v,H')=>K v H' |none=>False)),o.wp P a w next Q:=by
  intro hh;split at hh
  ·rename_i v H' he
   exact (yB hE ae hs he).upon (fun u w' ak A' h1 h2=>hn v u w' H' ak A' h1 h2 hh)
  ·exact hh.elim
 unfold wpOp at h;split at h
 ·rename_i b args tys a_;obtain ⟨_,h⟩:=h;split at h
  ·rename_i v H' he
   obtain ⟨consts,cQ⟩:=rR (P:=P) (w:=w) (ρ :=a.eval) a_;have:=yC hE ae (ty:=o.type) (consts:=consts) (vs:=args.map a.eval) (by simp) (fun i x u hx hu=>by
    simp only [List.getElem?_map,Option.map_eq_some_iff] at hx;obtain ⟨y,hy,rfl⟩:=hx;simp only [Array.getElem?_map,Option.map_eq_some_iff] at hu;obtain ⟨y',ep,rfl⟩:=hu;have:y' =y:=by simp at hy;rw [hy] at ep;simpa using ep.symm
    subst this;exact hs y' (by rw [a_];simp only [Op.operands,Call.operands];simp [Array.mem_of_getElem? ep])) he
   rw [←cQ] at this;exact this.upon (fun u w' ak A' h1 h2=>hn v u w' H' ak A' h1 h2 h)
  ·exact h.elim
 ·rename_i x args tys a_;split at h
  ·rename_i g bT hg;simp only [Bool.false_eq_true,if_false] at h;have hx:=hs x (by rw [a_];simp [Op.operands,Call.operands])
   rw [hg] at hx;obtain ⟨vs,hv,hl,hp⟩:=hx.kF;have rS: ∀(i:Nat) (y:AV) (u:Value),(args.toList.map (ev s) ++ bT)[i]? =some y→(args.map a.eval ++ vs)[i]? =some u→R w H φ A y u:=fun i y u hy hu=>by
    rcases Nat.lt_or_ge i args.size with hi|hi
    ·rw [List.getElem?_append_left (by simpa using hi)] at hy
     rw [Array.getElem?_append_left (by simpa using hi)] at hu
     simp only [List.getElem?_map,Option.map_eq_some_iff] at hy;obtain ⟨z,hz,rfl⟩:=hy;simp only [Array.getElem?_map,Option.map_eq_some_iff] at hu;obtain ⟨z',dL,rfl⟩:=hu;have:z' =z:=by simp at hz;rw [hz] at dL;simpa using dL.symm
     subst this;exact hs z' (by rw [a_];simp only [Op.operands,Call.operands];simp [Array.mem_of_getElem? dL])
    ·rw [List.getElem?_append_right (by simpa using hi)] at hy
     rw [Array.getElem?_append_right (by simpa using hi)] at hu
     exact hp _ y u (by simpa using hy) (by simpa using hu)
   have hc:gI P g∧Calls P g (args.map a.eval ++ vs) w (iO w H φ A K):=by
    rcases h with h|h
    ·exact ⟨(hX _ _ _ _ h).1,(hX _ _ _ _ h).2 w A φ (args.map a.eval ++ vs) ae (by simp [hl]) rS⟩
    ·exact yV hX ae (us:=args.map a.eval ++ vs) (by simp [hl]) rS h
   unfold Oper.wp;rw [rQ a_ hv hc.1,Oper.upon_enter];refine hc.2.mono fun e w' he=> ?_
   cases e with
   |returned v' =>
    obtain ⟨x',H',ak,A',h1,h2,h3⟩:=he;exact hn x' v' w' H' ak A' h1 h2 h3
   |panicked c=>exact he.elim
   |outgrown=>exact he.elim
  ·exact h.elim
 ·exact li h.2
end ops
end Go.VS
namespace Go.VS
structure kb (π :List Nat) (ops:Array Oper):Prop where
 len: π.length=ops.size
 nodup: π.Nodup
 lt: ∀i∈ π,i<ops.size
 mem: ∀i,i<ops.size→i∈ π
 rT: ∀(i:Nat) (o:Oper),ops[i]? =some o→ ∀e∈o.after.toList,Region.binds .any e=true→e.on<ops.size
 ic: ∀(i:Nat) (o:Oper) (j:Nat) (b:Bool),ops[i]? =some o→o.guard=some (j,b)→j<ops.size
theorem yY {π :List Nat} {ops:Array Oper} (h:nN π ops=true):kb π ops:=by
 simp only [nN,Bool.and_eq_true,beq_iff_eq,List.all_eq_true,decide_eq_true_eq,List.mem_range,List.contains_iff_mem] at h;obtain ⟨⟨⟨⟨h1,h0⟩,h2⟩,h3⟩,h4⟩:=h;refine ⟨h1,h0,h2,h3,fun i o ho e he hb=> ?_,fun i o j b ho hg=> ?_⟩
 ·have:=(h4 o (by rw [←Array.getElem?_toList] at ho;exact List.mem_of_getElem? ho)).1
  rw [Array.all_eq_true_iff_forall_mem] at this;have:=this e (by simpa using he)
  rw [hb] at this;simpa using this
 ·have:=(h4 o (by rw [←Array.getElem?_toList] at ho;exact List.mem_of_getElem? ho)).2
  rw [hg] at this;simpa using this
section
variable {π :List Nat} {ops:Array Oper} (hp:kb π ops)
include hp
theorem kb.at_ {k:Nat} (hk:k< π.length): ∃o,ops[π[k]]? =some o∧(eC π ops)[k]? =some (iC π o):=by
 have:=hp.lt _ (List.getElem_mem hk);refine ⟨ops[π[k]],by simp [this],?_⟩
 unfold eC nM;rw [List.getElem?_toArray,List.getElem?_map,List.getElem?_eq_getElem hk];simp [List.getD,this]
theorem kb.size:(eC π ops).size=ops.size:=by
 simp [eC,nM,hp.len]
theorem kb.kc {i:Nat} (hi:i<ops.size):dG π i< π.length∧ π[dG π i]? =some i:=by
 have:=hp.mem i hi;unfold dG;have h:=List.idxOf_lt_length_of_mem this;exact ⟨h,by rw [List.getElem?_eq_getElem h,List.getElem_idxOf]⟩
theorem kb.get {i:Nat} {o:Oper} (ho:ops[i]? =some o):(eC π ops)[dG π i]? =some (iC π o):=by
 have hi:i<ops.size:=(Array.getElem?_eq_some_iff.1 ho).1;obtain ⟨h1,h2⟩:=hp.kc hi;obtain ⟨o',h3,h4⟩:=hp.at_ h1;have: π[dG π i]=i:=by rw [List.getElem?_eq_getElem h1] at h2;simpa using h2
 rw [this,ho] at h3;simp only [Option.some.injEq] at h3;subst h3;exact h4
def PL (π :List Nat) (n:Nat) (l l' :Array Bool):Prop:=l.size=n∧l'.size=n∧ ∀i,i<n→l'[dG π i]? =l[i]?
theorem PL.set {l l' :Array Bool} (h:PL π ops.size l l') {i:Nat} (hi:i<ops.size):PL π ops.size (l.setIfInBounds i true) (l'.setIfInBounds (dG π i) true):=by
 obtain ⟨h1,h2,h3⟩:=h;refine ⟨by simp [h1],by simp [h2],fun j hj=> ?_⟩
 obtain ⟨yZ,pz⟩:=hp.kc hi;obtain ⟨BV,y0⟩:=hp.kc hj;rw [Array.getElem?_setIfInBounds,Array.getElem?_setIfInBounds];by_cases e:i=j
 ·subst e;rw [if_pos rfl,if_pos rfl,if_pos (by rw [h2,←hp.len];exact yZ),if_pos (by rw [h1];exact hi)]
 ·have: ¬dG π i=dG π j:=by
   intro e2;rw [e2,y0] at pz;simp at pz;exact e pz.symm
  rw [if_neg this,if_neg e];exact h3 j hj
omit hp in
theorem PL.getD {l l' :Array Bool} (h:PL π ops.size l l') {i:Nat} (hi:i<ops.size) (b:Bool):l'.getD (dG π i) b=l.getD i b:=by
 have:=h.2.2 i hi;rw [Array.getD_eq_getD_getElem?,Array.getD_eq_getD_getElem?,this]
theorem rU {l l' :Array Bool} (h:PL π ops.size l l') {i:Nat} (hi:i∈Region.ready .any ops l):i<ops.size∧dG π i∈Region.ready .any (eC π ops) l' :=by
 unfold Region.ready at hi⊢;simp only [List.mem_filter,List.mem_range,Bool.and_eq_true] at hi⊢;obtain ⟨h1,h2,h3⟩:=hi;have ho:ops[i]? =some ops[i]:=by simp [h1]
 obtain ⟨r1,r2⟩:=hp.kc h1;refine ⟨h1,by rw [hp.size,←hp.len];exact r1,by rw [h.getD h1];exact h2,?_⟩
 rw [hp.get ho];rw [ho] at h3;simp only [Option.map_some,Option.getD_some,Array.all_eq_true_iff_forall_mem] at h3⊢;intro e he;simp only [iC,List.mem_toArray,List.mem_filterMap] at he;obtain ⟨e0,rV,mF⟩:=he;split at mF
 ·rename_i hb;simp only [Option.some.injEq] at mF;subst mF;have:=h3 e0 (by simpa using rV)
  rw [hb] at this;simp only [Bool.not_true,Bool.false_or] at this;rw [h.getD (hp.rT i _ ho e0 rV hb)];simp [this]
 ·simp at mF
theorem y1 {i:Nat} {o:Oper} (ho:ops[i]? =some o) (t:Array Value):Region.wanted (iC π o) (yielded (eC π ops) t)=Region.wanted o (yielded ops t):=by
 unfold Region.wanted iC;simp only;cases hg:o.guard with
 |none=>rfl
 |some p=>
  obtain ⟨j,b⟩:=p;have hj:=hp.ic i o j b ho hg;simp only [Option.map_some];congr 1;unfold yielded;have rW:ops[j]? =some ops[j]:=by simp [hj]
  rw [hp.get rW,rW];rfl
omit hp in
theorem rX (ρ :Operand→Value) (o:Oper):execOp ρ (iC π o)=execOp ρ o:=by
 cases o;rfl
theorem y2 {P:Program} {Q:Exit→Act→World→Prop} {i:Nat} {o:Oper} (ho:ops[i]? =some o) {K K' :Act→World→Prop} (hK: ∀a w,K' a w→K a w) {a:Act} {w:World} (h:Go.wpOp P (eC π ops) Q (dG π i) K' a w):Go.wpOp P ops Q i K a w:=by
 unfold Go.wpOp at h⊢;rw [hp.get ho] at h;rw [ho];simp only at h⊢;rw [y1 hp ho] at h;split at h
 ·rename_i hw;rw [if_pos hw];rcases h with h|⟨h1,h2⟩
  ·refine .inl (Oper.wp_mono hK ?_);unfold Oper.wp at h⊢;rw [rX] at h;exact h
  ·refine .inr ⟨?_,h2⟩;unfold Oper.asks at h1⊢;rw [rX] at h1;exact h1
 ·rename_i hw;rw [if_neg hw];exact hK _ _ h
theorem y3 {l l' :Array Bool} (h:PL π ops.size l l') {k:Nat} (hk:k∈Region.ready .any (eC π ops) l'): ∃i,i∈Region.ready .any ops l:=by
 unfold Region.ready at hk⊢;simp only [List.mem_filter,List.mem_range,Bool.and_eq_true] at hk;obtain ⟨h1,h2,h3⟩:=hk;rw [hp.size,←hp.len] at h1;obtain ⟨o,ho,af⟩:=hp.at_ h1;have hi:=hp.lt _ (List.getElem_mem h1);have hr:dG π π[k]=k:=by
  obtain ⟨r1,r2⟩:=hp.kc hi;rw [List.getElem?_eq_getElem r1] at r2;simp only [Option.some.injEq] at r2;exact (List.getElem_inj hp.nodup).1 r2
 refine ⟨π[k],?_⟩;simp only [List.mem_filter,List.mem_range,Bool.and_eq_true];refine ⟨hi,by rw [←h.getD hi,hr];exact h2,?_⟩
 rw [af] at h3;rw [ho];simp only [Option.map_some,Option.getD_some,Array.all_eq_true_iff_forall_mem] at h3⊢;intro e he;by_cases hb:Region.binds .any e=true
 ·have hl:=hp.rT _ o ho e (by simpa using he) hb
  have:=h3 {e with on:=dG π e.on} (by
   simp only [iC,List.mem_toArray,List.mem_filterMap];exact ⟨e,by simpa using he,by rw [if_pos hb]⟩)
  have aw:Region.binds .any {e with on:=dG π e.on}=true:=hb
  rw [aw] at this;simp only [Bool.not_true,Bool.false_or] at this;rw [h.getD hl] at this;simp [this]
 ·simp [hb]
theorem rY {P:Program} {Q:Exit→Act→World→Prop}: ∀(n:Nat) (l l' :Array Bool) (a:Act) (w:World),PL π ops.size l l' →wpAny P .any (eC π ops) Q n l' a w→wpAny P .any ops Q n l a w
 |0,l,l',a,w,hl,h=>by
  simp only [wpAny] at h⊢;refine ⟨?_,h.2⟩;rw [List.eq_nil_iff_forall_not_mem];intro i hi;have:=(rU hp hl hi).2;rw [h.1] at this;simp at this
 |n+1,l,l',a,w,hl,h=>by
  simp only [wpAny] at h⊢;refine ⟨fun he=>h.1 ?_,fun i hi=> ?_⟩
  ·rw [List.eq_nil_iff_forall_not_mem];intro k hk;obtain ⟨i,hi⟩:=y3 hp hl hk;rw [he] at hi;simp at hi
  ·obtain ⟨h1,h2⟩:=rU hp hl hi;have ho:ops[i]? =some ops[i]:=by simp [h1]
   exact y2 hp ho (fun a w hh=>rY n _ _ a w (hl.set hp h1) hh) (h.2 _ h2)
theorem y4 {P:Program} {Q:Exit→Act→World→Prop} {a:Act} {w:World} (h:wpAny P .any (eC π ops) Q (eC π ops).size (Array.replicate (eC π ops).size false) a w):wpAny P .any ops Q ops.size (Array.replicate ops.size false) a w:=by
 rw [hp.size] at h;refine rY hp _ _ _ a w ⟨by simp,by simp,fun i hi=> ?_⟩ h
 obtain ⟨r1,_⟩:=hp.kc hi;rw [hp.len] at r1;simp [hi,r1]
end
theorem SF.kill {w:World} {H:J} {φ :ag} {A:ah} {s:aj} {a:Act} (h:SF w H φ A s a) (l:List Nat):SF w H φ A (eD l s) a:=by
 have key: ∀(s:aj) (i:Nat),(eD.go l i s).length=s.length∧ ∀(t:Nat) (x:AV),(eD.go l i s)[t]? =some x→x= .undef∨s[t]? =some x:=by
  intro s;induction s with
  |nil=>intro i;simp [eD.go]
  |cons y s ih=>
   intro i;obtain ⟨h1,h2⟩:=ih (i+1);refine ⟨by simp [eD.go,h1],fun t x hx=> ?_⟩
   cases t with
   |zero=>
    simp only [eD.go,List.getElem?_cons_zero,Option.some.injEq] at hx;split at hx
    ·exact .inr (by simp [hx])
    ·exact .inl hx.symm
   |succ t=>simp only [eD.go,List.getElem?_cons_succ] at hx⊢;exact h2 t x hx
 obtain ⟨h1,h2⟩:=key s 0;refine ⟨h1.trans h.len,fun t x v hx hv=> ?_,h.eI⟩;rcases h2 t x hx with rfl|hx
 ·exact .fr _ _ (.undef _)
 ·exact h.val t x v hx hv
theorem y5 {w:World} {H:J} {φ :ag} {A:ah} (ae:St w H φ A) (n:Nat):Out w H φ A w (H.trim n) (aE φ (H.trim n)) A:=by
 have hg: ∀id b,(H.trim n).get id=some b→H.get id=some b:=by
  intro id b h;unfold J.trim J.get at h;unfold J.get;simp only [List.getElem?_take] at h;split at h
  ·exact h
  ·simp at h
 have aR:bI w H φ A w (H.trim n) (aE φ (H.trim n)) A:=
  ⟨fun c arr T fr hc hn=>⟨⟨fr,hc⟩,hn⟩,Nat.le_refl _,fun id b hb _=>⟨b,hg id b hb,rfl,rfl,rfl,rfl,fun loc hl=>by simp [aE,hb,hl]⟩,fun _ _=>rfl⟩
 refine ⟨⟨fun i i' c b b' h h' =>ae.inj _ _ _ _ _ (dh h).1 (dh h').1,fun c hc=>ae.own c (bL hc),ae.bX,fun id loc h=> ?_⟩,⟨rfl,rfl,rfl,Nat.le_refl _,fun _ _ _=>rfl,fun _ _=>rfl,fun c hc=> .inl (bL hc)⟩,aR,fun c hc _=>hc⟩
 obtain ⟨h1,b,hb⟩:=dh h;obtain ⟨b',aw,af⟩:=ae.ap id loc h1;rw [hg id b hb] at aw;simp only [Option.some.injEq] at aw;subst aw;refine ⟨b,hb,af.ad,af.sized,af.aQ,fun c b0 he=> ?_⟩;obtain ⟨arr,T,fr,k1,k2,k3,k4⟩:=af.here c b0 he;exact ⟨arr,T,fr,k1,k2,k3,fun i x j y v hx hy hv=>⟨(k4 i x j y v hx hy hv).1.mono aR,(k4 i x j y v hx hy hv).2⟩⟩
def rZ:Ex→Exit
 | .normal=> .normal
 | .exit id=> .exit id
 | .ret=> .ret
theorem mG {x y:AV} (h:fh x y=true):x=y:=by
 unfold fh at h;split at h
 ·simp only [Bool.and_eq_true,beq_iff_eq] at h;obtain ⟨⟨⟨rfl,rfl⟩,rfl⟩,rfl⟩:=h;rfl
 ·rfl
 ·rfl
 ·simp at h
theorem y6 {w:World} {H:J} {φ :ag} {A:ah} {s:aj} {a:Act} (ae:St w H φ A) (hs:SF w H φ A s a) {t:Nat} {ts:List Nat} {sh:List Sh} {y:AV} {H1:J} (h:aY sh (s.getD t .undef) H=some (y,H1)):
 Out w H φ A w H1 (aE φ H1) (gone φ A H1)∧SF w H1 (aE φ H1) (gone φ A H1) (fM (s.getD t .undef) (bB y) ts (s.set t (bB y))) a:=by
 have hl:=fy _ _ _ _ _ h;have aR:bI w H φ A w H1 (aE φ H1) (gone φ A H1):=by
  have e:=c5 (w:=w) (φ := φ) (A:=A) hl;exact ⟨fun c arr T fr hc hn=>⟨(e.fz c arr T fr hc hn).1,fun h2=>hn h2.1⟩,e.st,e.ids,e.sz⟩
 refine ⟨⟨(ef ae hl).shrink (fun c hc=>hc.1) (fun c hc=>⟨ae.own c (bL hc),fun _=>hc⟩),⟨rfl,rfl,rfl,Nat.le_refl _,fun _ _ _=>rfl,fun _ _=>rfl,fun c hc=> .inl (bL hc)⟩,aR,fun c hc hn=>⟨hc,fun ho=>absurd ho hn⟩⟩,?_⟩;have cI:=hs.mono aR;have one: ∀(k:Nat) (v:Value),s.getD k .undef=s.getD t .undef→a.tmps[k]? =some v→R w H1 (aE φ H1) (gone φ A H1) (bB y) v:=by
  intro k v hk hv;have hr:=hs.ev (.tmp k);simp only [ev,Act.eval] at hr;rw [Array.getD_eq_getD_getElem?,hv,hk] at hr;exact .fr _ _ (rK ae hr h (fun c hc=>hc))
 have base:SF w H1 (aE φ H1) (gone φ A H1) (s.set t (bB y)) a∧ ∀k,(s.set t (bB y)).getD k .undef=bB y∨(s.set t (bB y)).getD k .undef=s.getD k .undef:=by
  refine ⟨⟨by simpa using cI.len,fun k x v hx hv=> ?_,cI.eI⟩,fun k=> ?_⟩
  ·rw [List.getElem?_set] at hx;split at hx
   ·rename_i hk;subst hk;split at hx
    ·simp only [Option.some.injEq] at hx;subst hx;exact one t v rfl hv
    ·simp at hx
   ·exact cI.val k x v hx hv
  ·simp only [List.getD_eq_getElem?_getD,List.getElem?_set];split
   ·rename_i hk;subst hk;split
    ·exact .inl rfl
    ·rename_i ax;right;rw [List.getElem?_eq_none (by omega)]
   ·exact .inr rfl
 have gen: ∀(ts:List Nat) (s' :aj),SF w H1 (aE φ H1) (gone φ A H1) s' a→(∀k,fh (s'.getD k .undef) (s.getD t .undef)=true→s.getD k .undef=s.getD t .undef∨bB y=s.getD t .undef)→SF w H1 (aE φ H1) (gone φ A H1) (fM (s.getD t .undef) (bB y) ts s') a:=by
  intro ts;induction ts with
  |nil=>intro s' h _;exact h
  |cons k ks ih=>
   intro s' h1 h2
   simp only [fM];split
   ·rename_i r6;have hval: ∀v,a.tmps[k]? =some v→R w H1 (aE φ H1) (gone φ A H1) (bB y) v:=by
     intro v hv;rcases h2 k r6 with e|e
     ·exact one k v e hv
     ·have:=h1.ev (.tmp k);simp only [ev,Act.eval] at this;rw [Array.getD_eq_getD_getElem?,hv,mG r6,←e] at this;exact this
    refine ih _ ⟨by simpa using h1.len,fun m x v hx hv=> ?_,h1.eI⟩ (fun m hm=> ?_)
    ·rw [List.getElem?_set] at hx;split at hx
     ·rename_i hk;subst hk;split at hx
      ·simp only [Option.some.injEq] at hx;subst hx;exact hval v hv
      ·simp at hx
     ·exact h1.val m x v hx hv
    ·simp only [List.getD_eq_getElem?_getD,List.getElem?_set] at hm;split at hm
     ·split at hm
      ·exact .inr (mG hm)
      ·rename_i hk ax;refine h2 m ?_;subst hk;rw [List.getD_eq_getElem?_getD,List.getElem?_eq_none (by omega)]
       exact hm
     ·exact h2 m (by rw [List.getD_eq_getElem?_getD];exact hm)
   ·exact ih s' h1 h2
 refine gen ts _ base.1 fun k hk=> ?_;rcases base.2 k with e|e
 ·rw [e] at hk;exact .inr (mG hk)
 ·rw [e] at hk;exact .inl (mG hk)
theorem pA {w:World} {H:J} {φ :ag} {A:ah} {x:AV} {v:Value} (h:R w H φ A x v):R w H φ A (kB x) v:=by
 cases x with
 |nil=>have:=h.c8;subst this;exact .fr _ _ (.cH none 0)
 |e0=>obtain ⟨a,rfl⟩:=h.eG;exact .fr _ _ (.cH a 0)
 |_=>exact h
theorem y7 {w:World} {H:J} {φ :ag} {A:ah} {x:AV} {v:Value} (h:R w H φ A x v):R w H φ A (dF x) v:=by
 cases x with
 |agg cs=>
  obtain ⟨vs,rfl,h1,h2,h3⟩:=h.fP;refine .agg _ _ (by simpa using h1) h2 fun i x v hx hv=> ?_
  simp only [List.getElem?_map,Option.map_eq_some_iff] at hx;obtain ⟨y,hy,rfl⟩:=hx;exact pA (h3 i y v hy hv)
 |_=>exact pA h
theorem y8 {w:World} {H:J} {φ :ag} {A:ah} {s:aj} {a:Act} (t:Nat) (ae:St w H φ A) (hs:SF w H φ A s a): ∃ak A',Out w H φ A w (jS t s H).2 ak A' ∧SF w (jS t s H).2 ak A' (jS t s H).1 a:=by
 have plain: ∀v,s.getD t .undef=v→SF w H φ A (s.set t (dF v)) a:=by
  intro v hv;refine ⟨by simpa using hs.len,fun k x u hx hu=> ?_,hs.eI⟩
  rw [List.getElem?_set] at hx;split at hx
  ·rename_i hk;subst hk;split at hx
   ·simp only [Option.some.injEq] at hx;subst hx;have hr:=hs.ev (.tmp t);simp only [ev,Act.eval] at hr;rw [Array.getD_eq_getD_getElem?,hu,hv] at hr;exact y7 hr
   ·simp at hx
  ·exact hs.val k x u hx hu
 have key: ∀v,s.getD t .undef=v→ ∃ak A',Out w H φ A w (match v with
  | .ref id ad _ _=>match H.ap id ad with
   |some b=>(s,H.aZ id {b with el:=b.el.map dF})
   |none=>(s,H)
  |v=>(s.set t (dF v),H)).2 ak A' ∧SF w (match v with
  | .ref id ad _ _=>match H.ap id ad with
   |some b=>(s,H.aZ id {b with el:=b.el.map dF})
   |none=>(s,H)
  |v=>(s.set t (dF v),H)).2 ak A' (match v with
  | .ref id ad _ _=>match H.ap id ad with
   |some b=>(s,H.aZ id {b with el:=b.el.map dF})
   |none=>(s,H)
  |v=>(s.set t (dF v),H)).1 a:=by
  intro v hv;cases v with
  |ref id ad off len=>
   simp only;cases hb:H.ap id ad with
   |none=>exact ⟨φ,A,.refl ae,hs⟩
   |some b=>
    simp only;have hg:=(J.bj hb).1;have ax:=J.fN hg;have bC: ∀k,(H.aZ id {b with el:=b.el.map dF}).get k=if k=id then some {b with el:=b.el.map dF} else H.get k:=by
     intro k;simp only [J.get,J.aZ,List.getElem?_set];by_cases h:id=k
     ·subst h;simp [ax]
     ·have h' : ¬k=id:=fun e=>h e.symm
      simp [h,h']
    have aR:bI w H φ A w (H.aZ id {b with el:=b.el.map dF}) φ A:=by
     refine ⟨fun c arr T fr hc hn=>⟨⟨fr,hc⟩,hn⟩,Nat.le_refl _,fun k b' hk _=> ?_,fun _ _=>rfl⟩
     rw [bC] at hk;split at hk
     ·rename_i e;subst e;simp only [Option.some.injEq] at hk;subst hk;exact ⟨b,hg,rfl,rfl,rfl,by simp,fun _ h=>h⟩
     ·exact ⟨b',hk,rfl,rfl,rfl,rfl,fun _ h=>h⟩
    have y9:St w (H.aZ id {b with el:=b.el.map dF}) φ A:=by
     refine ⟨ae.inj,ae.own,ae.bX,fun k loc hk=> ?_⟩;obtain ⟨b0,mH,af⟩:=ae.ap k loc hk;by_cases h:k=id
     ·subst h;rw [hg] at mH;simp only [Option.some.injEq] at mH;subst mH;refine ⟨{b with el:=b.el.map dF},by rw [bC,if_pos rfl],af.ad,fun i x hx=> ?_,fun h=>by simp [af.aQ h],fun c b0 he=> ?_⟩
      ·simp only [List.getElem?_map,Option.map_eq_some_iff] at hx;obtain ⟨y,hy,rfl⟩:=hx;rw [kQ,List.length_map];exact af.sized i y hy
      ·obtain ⟨arr,T,fr,k1,k2,k3,k4⟩:=af.here c b0 he;refine ⟨arr,T,fr,k1,k2,by simpa using k3,fun i x j y v hx hy hv=> ?_⟩
       simp only [List.getElem?_map,Option.map_eq_some_iff] at hx;obtain ⟨x',bG,rfl⟩:=hx;rw [kQ] at hy;simp only [List.getElem?_map,Option.map_eq_some_iff] at hy;obtain ⟨y',ep,rfl⟩:=hy;have:=k4 i x' j y' v bG ep hv
       exact ⟨pA (this.1.mono aR),this.2⟩
     ·refine ⟨b0,by rw [bC,if_neg h];exact mH,af.ad,af.sized,af.aQ,fun c b1 he=> ?_⟩
      obtain ⟨arr,T,fr,k1,k2,k3,k4⟩:=af.here c b1 he;exact ⟨arr,T,fr,k1,k2,k3,fun i x j y v hx hy hv=>⟨(k4 i x j y v hx hy hv).1.mono aR,(k4 i x j y v hx hy hv).2⟩⟩
    exact ⟨φ,A,⟨y9,.refl _ _,aR,fun c hc _=>hc⟩,hs.mono aR⟩
  |_=>exact ⟨φ,A,.refl ae,plain _ hv⟩
 unfold jS;exact key _ rfl
theorem mI {w:World} {a:Act}: ∀(l:List (List Nat×List Sh)) {H:J} {φ :ag} {A:ah} {s s' :aj} {H' :J},St w H φ A→SF w H φ A s a→dt l s H=some (s',H')→
 ∃ak A',Out w H φ A w H' ak A' ∧SF w H' ak A' s' a
 |[],H,φ,A,s,s',H',ae,hs,h=>by
  simp only [dt,Option.some.injEq,Prod.mk.injEq] at h;obtain ⟨rfl,rfl⟩:=h;exact ⟨φ,A,.refl ae,hs⟩
 |([],sh)::l,H,φ,A,s,s',H',ae,hs,h=>by simp [dt] at h
 |(t::ts,[])::l,H,φ,A,s,s',H',ae,hs,h=>by
  simp only [dt] at h;obtain ⟨φ1,A1,h1,h2⟩:=y8 t ae hs;obtain ⟨ak,A',h3,h4⟩:=mI l h1.st h2 h;exact ⟨ak,A',h1.trans ae h3,h4⟩
 |(t::ts,e::sh)::l,H,φ,A,s,s',H',ae,hs,h=>by
  simp only [dt] at h;split at h
  ·rename_i y H1 hy;obtain ⟨h1,h2⟩:=y6 (ts:=ts) ae hs hy;obtain ⟨ak,A',h3,h4⟩:=mI l h1.st h2 h;exact ⟨ak,A',h1.trans ae h3,h4⟩
  ·simp at h
section code
variable {P:Program} {C:aH} {X:br}
def Ends (Q:Exit→Act→World→Prop) (K:Ex→aj→J→Prop) (w:World) (H:J) (φ :ag) (A:ah):Prop:=
 ∀e s' H' ak A' a' w',Out w H φ A w' H' ak A' →SF w' H' ak A' s' a' →K e s' H' →Q (rZ e) a' w'
theorem pB {w:World} {H:J} {φ :ag} {A:ah} {s:aj} {a:Act} {ops:Array Oper} {o:Oper} {b:Bool} (hs: ∀j want t,o.guard=some (j,want)→(ops[j]?).bind (·.dst)=some t→R w H φ A (ev s (.tmp t)) (a.eval (.tmp t))) (h:dr ops o s=some b):Region.wanted o (yielded ops a.tmps)=b:=by
 unfold dr at h;unfold Region.wanted;cases hg:o.guard with
 |none=>rw [hg] at h;simp at h;subst h;simp
 |some p=>
  obtain ⟨j,want⟩:=p;rw [hg] at h;simp only at h⊢;split at h
  ·rename_i t ht;have hv:=hs j want t hg ht;simp only [ev,Act.eval] at hv;split at h
   ·rename_i c hc;rw [hc] at hv;simp only [Option.some.injEq] at h;subst h;have:=hv.eV;have hy:yielded ops a.tmps j=some c:=by
     unfold yielded;rw [ht];simp only [Option.bind_some];rw [Array.getD_eq_getD_getElem?] at this;cases hq:a.tmps[t]? with
     |none=>rw [hq] at this;simp [undef] at this
     |some v=>rw [hq] at this;simp at this;subst this;rfl
    rw [hy];cases c<;>cases want<;>rfl
   ·rename_i cs hc;rw [hc] at hv;simp only [Option.some.injEq] at h;subst h;obtain ⟨vs,bu,_⟩:=hv.lT;have hy:yielded ops a.tmps j=none:=by
     unfold yielded;rw [ht];simp only [Option.bind_some];rw [Array.getD_eq_getD_getElem?] at bu;cases hq:a.tmps[t]? with
     |none=>rfl
     |some v=>rw [hq] at bu;simp at bu;subst bu;rfl
    rw [hy];cases want<;>rfl
   ·simp at h
  ·simp at h
theorem r7 (hE: ∀t ti,C.E t=some ti→aS P t ti) (hX: ∀f ys H K,X f ys H K→cb P f ys H K) {ops:Array Oper} {th:List Nat} {fz:List (Nat×List (List Nat×List Sh))} {K:aj→J→Prop} {Q:Exit→Act→World→Prop}:
 ∀(l:List Oper) (i:Nat) (s:aj) (H:J) (w:World) (φ :ag) (A:ah) (a:Act),cP X C ops th fz K l i s H→St w H φ A→SF w H φ A s a→
  (∀s' H' ak A' a' w',Out w H φ A w' H' ak A' →SF w' H' ak A' s' a' →K s' H' →Q .normal a' w')→wpList P ops Q l a w
 |[],i,s,H,w,φ,A,a,h,ae,hs,hq=>hq s H φ A a w (.refl ae) hs h
 |o::rest,i,s0,H0,w,aD,A0,a,h,cU,en,y_=>by
  simp only [cP] at h;obtain ⟨s,H,hf,h⟩:=h;obtain ⟨φ,A,ho,hs⟩:=mI _ cU en hf;have ae:=ho.st;have hq: ∀s' H' ak A' a' w',Out w H φ A w' H' ak A' →SF w' H' ak A' s' a' →K s' H' →Q .normal a' w' :=fun s' H' ak A' a' w' k1 k2 k3=>y_ s' H' ak A' a' w' (ho.trans cU k1) k2 k3
  have next: ∀{x:AV} {v:Value} {w' :World} {H' :J} {ak:ag} {A' :ah},Out w H φ A w' H' ak A' →R w' H' ak A' x v→cP X C ops th fz K rest (i+1) (bm s o.dst x) H' →wpList P ops Q rest (a.put o.dst v) w' :=by
   intro x v w' H' ak A' h1 h2 h3
   exact r7 hE hX rest (i+1) _ H' w' ak A' _ h3 h1.st ((hs.mono h1.bQ).set o.dst h2) fun s2 H2 bf A2 a2 w2 k1 k2 k3=>hq s2 H2 bf A2 a2 w2 (h1.trans ae k1) k2 k3
  simp only [wpList];cases hg:o.guard with
  |none=>
   rw [hg] at h;simp only at h;have hw:Region.wanted o (yielded ops a.tmps)=true:=by simp [Region.wanted,hg]
   rw [if_pos hw];exact .inl (mE hE hX ae (fun x _=>hs.ev x) h fun x v w' H' ak A' h1 h2 h3=>next h1 h2 h3)
  |some p=>
   rw [hg] at h;simp only at h;obtain ⟨v,H',h1,h2⟩:=h;split at h1
   ·rename_i b hb;have hw:=pB (fun _ _ t _ _=>hs.ev (.tmp t)) hb;cases b with
    |true=>
     rw [if_pos hw];simp only [if_true] at h1;exact .inl (mE hE hX ae (fun x _=>hs.ev x) h1 fun x u w' gE ak A' k1 k2 k3=>by obtain ⟨rfl,rfl⟩:=k3;exact next k1 k2 h2)
    |false=>
     rw [if_neg (by rw [hw];simp)]
     simp only [Bool.false_eq_true,if_false] at h1;obtain ⟨rfl,rfl⟩:=h1;exact next (.refl ae) (.fr _ _ (.az [] #[] rfl (by simp))) h2
   ·exact h1.elim
def mJ (P:Program) (C:aH) (X:br):Prop:=
 ∀(ops:Array Oper) (aC:List Nat) (th:List Nat) (s:aj) (H:J) (K:aj→J→Prop) (Q:Exit→Act→World→Prop) (w:World) (φ :ag) (A:ah) (a:Act),iE ops aC=true→
  cY X C ops (fun i=> !aC.contains i) (fL ops aC) th K ops.toList 0 s H→St w H φ A→SF w H φ A s a→(∀s' H' ak A' a' w',Out w H φ A w' H' ak A' →SF w' H' ak A' s' a' →K s' H' →Q .normal a' w')→wpAny P .any ops Q ops.size (Array.replicate ops.size false) a {w with drawn:=w.drawn+1}
theorem Ends.trans {Q:Exit→Act→World→Prop} {K:Ex→aj→J→Prop} {w w1:World} {H H1:J} {φ φ1:ag} {A A1:ah} (ae:St w H φ A) (h:Out w H φ A w1 H1 φ1 A1) (k:Ends Q K w H φ A):Ends Q K w1 H1 φ1 A1:=
 fun e s' H' ak A' a' w' h1 h2 h3=>k e s' H' ak A' a' w' (h.trans ae h1) h2 h3
theorem r8 (hm:P.follows .mixedOrders=true) (hE: ∀t ti,C.E t=some ti→aS P t ti) (hX: ∀f ys H K,X f ys H K→cb P f ys H K) (hD:mJ P C X) (p:kC):
 ∀(c:Code) (cC:Nat) (s:aj) (H:J) (K:Ex→aj→J→Prop) (Q:Exit→Act→World→Prop) (w:World) (φ :ag) (A:ah) (a:Act),cW p c=true→aL X C (cX p cC c) s H K→St w H φ A→SF w H φ A s a→Ends Q K w H φ A→c.wp P Q a w:=by
 intro c;induction c with
 |skip=>intro cC s H K Q w φ A a ho h ae hs hq;exact wp_skip (hq .normal s H φ A a w (.refl ae) hs h)
 |ret=>intro cC s H K Q w φ A a ho h ae hs hq;exact wp_ret (hq .ret s H φ A a w (.refl ae) hs h)
 |exit id=>intro cC s H K Q w φ A a ho h ae hs hq;exact wp_exit (hq (.exit id) s H φ A a w (.refl ae) hs h)
 |seq x y za pC=>
  intro cC s H K Q w φ A a ho h ae hs hq;simp only [cX,aL] at h;simp only [cW,Bool.and_eq_true] at ho;refine wp_seq (za cC s H _ _ w φ A a ho.1 h ae hs fun e s' H' ak A' a' w' h1 h2 h3=> ?_)
  cases e with
  |normal=>exact pC cC s' H' K Q w' ak A' a' ho.2 h3 h1.st h2 (Ends.trans ae h1 hq)
  |exit id=>exact hq (.exit id) s' H' ak A' a' w' h1 h2 h3
  |ret=>exact hq .ret s' H' ak A' a' w' h1 h2 h3
 |cond x y z pC zb=>
  intro cC s H K Q w φ A a ho h ae hs hq;simp only [cW,Bool.and_eq_true] at ho;have key: ∀(K:Ex→aj→J→Prop),aL X C (.cond x (cX p cC y) (cX p cC z)) s H K→Ends Q K w H φ A→(Code.cond x y z).wp P Q a w:=by
   intro K h hq;simp only [aL] at h;split at h
   ·rename_i t ht;have hv:=hs.ev x;rw [ht] at hv;refine wp_cond hv.eV ?_;cases t with
    |true=>exact pC cC s H K Q w φ A a ho.1 h ae hs hq
    |false=>exact zb cC s H K Q w φ A a ho.2 h ae hs hq
   ·exact h.elim
  simp only [cX] at h;unfold lR at h;split at h
  ·rename_i kp _;simp only [aL,dt] at h;refine key _ h fun e s' H' ak A' a' w' h1 h2 h3=> ?_
   cases e with
   |normal=>exact hq .normal _ H' ak A' a' w' h1 (h2.kill kp) h3
   |exit id=>exact hq (.exit id) s' H' ak A' a' w' h1 h2 h3
   |ret=>exact hq .ret s' H' ak A' a' w' h1 h2 h3
  ·exact key K h hq
 |block id x ih=>
  intro cC s H K Q w φ A a ho h ae hs hq;simp only [cX,aL] at h;have mK: ∀{w:World} {H:J} {φ :ag} {A:ah} {s:aj} {a:Act} (kp:Option (List Nat)),SF w H φ A s a→SF w H φ A (dZ kp s) a:=by
   intro w H φ A s a kp h;cases kp with
   |none=>exact h
   |some l=>exact h.kill l
  simp only [cW] at ho;refine wp_block (ih id s H _ _ w φ A a ho h ae hs fun e s' H' ak A' a' w' h1 h2 h3=> ?_)
  cases e with
  |normal=>exact hq .normal _ H' ak A' a' w' h1 (mK _ h2) h3
  |exit j=>
   simp only at h3;simp only [rZ,Exit.inBlock];split at h3
   ·rename_i hj;rw [if_pos hj];exact hq .normal _ H' ak A' a' w' h1 (mK _ h2) h3
   ·rename_i hj;rw [if_neg hj];exact hq (.exit j) s' H' ak A' a' w' h1 h2 h3
  |ret=>exact hq .ret s' H' ak A' a' w' h1 h2 h3
 |loop c ih=>
  intro cC s H K Q w φ A a ho h ae hs hq;simp only [cX,aL] at h;have r9: ∀{w:World} {H:J} {φ :ag} {A:ah} {s:aj} {a:Act} (sp:lQ) (n:Nat),St w H φ A→SF w H φ A s a→ ∃ φ1,Out w H φ A w (gV sp n s H).2 φ1 A∧SF w (gV sp n s H).2 φ1 A (gV sp n s H).1 a:=by
   intro w H φ A s a sp n h1 h2;unfold gV;by_cases ht:sp.trim=true
   ·have ho:=y5 h1 n;simp only [ht,if_true];exact ⟨_,ho,(h2.mono ho.bQ).kill _⟩
   ·simp only [ht];exact ⟨φ,.refl h1,h2.kill _⟩
  intro b k cs;have main:=h (fun s H=> ∀(w:World) (φ :ag) (A:ah) (a:Act),St w H φ A→SF w H φ A s a→Ends Q K w H φ A→
   ∀(b:Frame) (k:List Item) (cs:List Frame),∃e a' w',Q e a' w' ∧Arrives P (lone (b.at a (.code c:: .inLoop c::k)) cs w) b k cs e a' w') (fun s H hB w φ A a ae hs hq b k cs=>by
    obtain ⟨e,a1,w1,ie,dK⟩:=ih cC s H _ (Exit.then (fun a1 w1=> ∀(b:Frame) (k:List Item) (cs:List Frame),∃e a' w',Q e a' w' ∧Arrives P (lone (b.at a1 (.code c:: .inLoop c::k)) cs w1) b k cs e a' w') Q) w φ A a (by simpa only [cW] using ho) hB ae hs (fun e s' H' ak A' a' w' h1 h2 h3=>by
     cases e with
     |normal=>
      obtain ⟨φ1,k1,k2⟩:=r9 ((p.loops.lookup cC).getD {}) _ h1.st h2;exact h3 w' φ1 A' a' k1.st k2 (Ends.trans ae (h1.trans ae k1) hq)
     |exit id=>exact hq (.exit id) s' H' ak A' a' w' h1 h2 h3
     |ret=>exact hq .ret s' H' ak A' a' w' h1 h2 h3) b (.inLoop c::k) cs
    cases e with
    |normal=>
     obtain ⟨zd,a₂,ze,zf,zg⟩:=ie b k cs;exact ⟨zd,a₂,ze,zf,.of_steps (Steps.trans dK (.one step_inLoop)) zg⟩
    |exit id=>exact ⟨_,a1,w1,ie,.pass (x:= .inLoop c) rfl (fun _ _=> .inl (by simp)) dK⟩
    |goto l=>exact ⟨_,a1,w1,ie,.pass (x:= .inLoop c) rfl (fun _ _=> .inl (by simp)) dK⟩
    |ret=>exact ⟨_,a1,w1,ie,.pass (x:= .inLoop c) rfl (fun _ _=> .inl (by simp)) dK⟩
    |panic ch=>exact ⟨_,a1,w1,ie,.pass (x:= .inLoop c) rfl (fun _ _=> .inl (by simp)) dK⟩
    |outgrown=>exact ⟨_,a1,w1,ie,.pass (x:= .inLoop c) rfl (fun _ _=> .inl (by simp)) dK⟩)
  obtain ⟨φ1,k1,k2⟩:=r9 ((p.loops.lookup cC).getD {}) H.bs.length ae hs;obtain ⟨e,a',w',zh,dK⟩:=main w φ1 A a k1.st k2 (Ends.trans ae k1 hq) b k cs;exact ⟨e,a',w',zh,.of_steps (.one step_loop) dK⟩
 |region id ops draw=>
  intro cC s H K Q w φ A a ho h ae hs hq;have key: ∀(K:Ex→aj→J→Prop),aL X C (iB (p.nL.lookup id) ((p.fz.lookup id).getD []) id (fJ (p.gn.lookup id) ops) draw) s H K→Ends Q K w H φ A→(Code.region id ops draw).wp P Q a w:=by
   intro K h hq;cases draw with
   |false=>
    have e8:fJ (p.gn.lookup id) ops=ops:=by
     simp only [cW] at ho;cases hl:p.gn.lookup id with
     |none=>rfl
     |some π =>rw [hl] at ho;simp at ho
    rw [e8] at h;have h' :cP X C ops (match p.nL.lookup id with|some (_,th)=>th|none=>[]) ((p.fz.lookup id).getD []) (fun s H=>K .normal s H) ops.toList 0 s H:=by
     unfold iB at h;split at h
     ·rename_i n th he;rw [he];exact h
     ·rename_i he;rw [he];exact h
    exact wp_region_list (r7 hE hX ops.toList 0 s H w φ A a h' ae hs fun s' H' ak A' a' w' h1 h2 h3=>hq .normal s' H' ak A' a' w' h1 h2 h3)
   |true=>
    have h' : ∃q th,iE (fJ (p.gn.lookup id) ops) q=true∧cY X C (fJ (p.gn.lookup id) ops) (fun i=> !q.contains i) (fL (fJ (p.gn.lookup id) ops) q) th (fun s H=>K .normal s H) (fJ (p.gn.lookup id) ops).toList 0 s H:=by
     unfold iB at h;split at h
     ·exact ⟨_,_,h.1,h.2⟩
     ·exact ⟨_,_,h.1,h.2⟩
    obtain ⟨q,th,hd,h'⟩:=h';have hw:=hD _ q th s H _ Q w φ A a hd h' ae hs fun s' H' ak A' a' w' h1 h2 h3=>hq .normal s' H' ak A' a' w' h1 h2 h3
    refine wp_region_any hm ?_;simp only [cW] at ho;cases hl:p.gn.lookup id with
    |none=>rw [hl] at hw;exact hw
    |some π =>
     rw [hl] at hw ho;simp only [Bool.true_and] at ho;exact y4 (yY ho) hw
  simp only [cX] at h;unfold jQ at h;split at h
  ·rename_i l kp _;have mK: ∀{w:World} {H:J} {φ :ag} {A:ah} {s:aj} {a:Act} (kp:Option (List Nat)),SF w H φ A s a→SF w H φ A (dZ kp s) a:=by
    intro w H φ A s a kp h;cases kp with
    |none=>exact h
    |some l=>exact h.kill l
   simp only [aL] at h;refine key _ h fun e s' H' ak A' a' w' h1 h2 h3=> ?_
   cases e with
   |normal=>
    simp only at h3;split at h3
    ·rename_i s2 H2 hf;obtain ⟨bf,A2,k1,k2⟩:=mI l h1.st h2 hf;exact hq .normal _ H2 bf A2 a' w' (h1.trans ae k1) (mK kp k2) h3
    ·exact h3.elim
   |exit id=>exact hq (.exit id) s' H' ak A' a' w' h1 h2 h3
   |ret=>exact hq .ret s' H' ak A' a' w' h1 h2 h3
  ·exact key K h hq
 |_=>intro cC s H K Q w φ A a ho h ae hs hq;simp only [cX,aL] at h
end code
end Go.VS
namespace Go.VS
section body
variable {P:Program} {C:aH} {X:br}
theorem pD (hE: ∀t ti,C.E t=some ti→aS P t ti) {w:World} {H:J} {φ :ag} {A:ah} {s:aj} {a:Act} (ae:St w H φ A) (hs:SF w H φ A s a) {f:ResultVar→Sem Value} (lj: ∀t,f (.tmp t)=pure (a.tmps.getD t undef)) (ll: ∀x t,f (.cell x t)=(do loadVar t (←asAddr (a.tmps.getD x undef)))):
 ∀(l:List ResultVar) (rs:List AV),dz C.E s H l=some rs→
 ∃cF:List Value,(l.mapM f).run P w= .ok cF w∧rs.length=cF.length∧ ∀(i:Nat) (x:AV) (u:Value),rs[i]? =some x→cF[i]? =some u→R w H φ A x u
 |[],rs,h=>by
  simp only [dz,Option.some.injEq] at h;subst h;exact ⟨[],by simp,rfl,by simp⟩
 | .tmp t::l,rs,h=>by
  simp only [dz,Option.map_eq_some_iff] at h;obtain ⟨pE,h1,rfl⟩:=h;obtain ⟨cF,k1,k2,k3⟩:=pD hE ae hs lj ll l pE h1
  refine ⟨a.tmps.getD t undef::cF,by simp [List.mapM_cons,k1,lj],by simp [k2],fun i x u hx hu=> ?_⟩
  cases i with
  |zero=>simp at hx hu;subst hx;subst hu;have:=hs.ev (.tmp t);simpa [ev,Act.eval] using this
  |succ i=>exact k3 i x u hx hu
 | .cell b t::l,rs,h=>by
  simp only [dz] at h;split at h
  ·rename_i v H' he
   simp only [Option.map_eq_some_iff] at h;obtain ⟨pE,h1,rfl⟩:=h;obtain ⟨cF,k1,k2,k3⟩:=pD hE ae hs lj ll l pE h1
   have hb:=hs.ev (.tmp b);simp only [aM] at he;obtain ⟨u,hu,hr⟩:=qJ (P:=P) hE ae (bd.refl H) hb he;have aN:(do loadVar t (←asAddr (a.tmps.getD b undef)):Sem Value).run P w= .ok u w:=by
    revert hu;simp only [Act.eval];unfold Instr.loadAt;generalize a.tmps.getD b undef=q;intro hu;cases q with
    |pointer o=>cases o with
     |none=>simp [Instr.sureAddr] at hu
     |some o=>simpa [Instr.sureAddr,asAddr] using hu
    |_=>simp [Instr.sureAddr] at hu
   refine ⟨u::cF,by rw [List.mapM_cons,ll,Sem.run_bind,aN];simp [k1],by simp [k2],fun i x u' hx aN=> ?_⟩
   cases i with
   |zero=>simp at hx aN;subst hx;subst aN;exact hr
   |succ i=>exact k3 i x u' hx aN
  ·simp at h
theorem r_ (hE: ∀t ti,C.E t=some ti→aS P t ti) {w:World} {H:J} {φ :ag} {A:ah} {s:aj} {a:Act} (ae:St w H φ A) (hs:SF w H φ A s a) {fn:Func} {rs:List AV} (h:dz C.E s H fn.results.toList=some rs):
 ∃cF:List Value,(results fn a.tmps).run P w= .ok (ib cF) w∧rs.length=cF.length∧ ∀(i:Nat) (x:AV) (u:Value),rs[i]? =some x→cF[i]? =some u→R w H φ A x u:=by
 obtain ⟨f,lj,ll,zi⟩: ∃f:ResultVar→Sem Value,(∀t,f (.tmp t)=pure (a.tmps.getD t undef))∧(∀x t,f (.cell x t)=(do loadVar t (←asAddr (a.tmps.getD x undef))))∧
  results fn a.tmps=(do let vs←fn.results.mapM f;pure (if h:vs.size=1 then vs[0] else .tuple vs)):=⟨_,fun _=>rfl,fun _ _=>rfl,rfl⟩
 obtain ⟨cF,h1,h2,h3⟩:=pD hE ae hs lj ll fn.results.toList rs h;refine ⟨cF,?_,h2,h3⟩;rw [zi,Sem.run_bind,Array.mapM_eq_mapM_toList,Sem.run_map,h1]
 match cF with
 |[]=>simp [ib]
 |[u]=>simp [ib]
 |u::u' ::us=>simp [ib]
theorem zj (hm:P.follows .mixedOrders=true) (hE: ∀t ti,C.E t=some ti→aS P t ti) (hC: ∀f fn,C.code f=some fn→P.funcs[f]? =some fn∧(fn.name== "runtime.NumGoroutine")=false∧nO (C.gq f) fn=true) (hX: ∀f ys H K,X f ys H K→cb P f ys H K) (hD:mJ P C X)
 {f:FuncId} {ys:List AV} {H:J} {K:AV→J→Prop} (h:Body X C f ys H K):cb P f ys H K:=by
 unfold Body at h;split at h
 ·exact h.elim
 rename_i fn kI;split at h
 ·exact h.elim
 rename_i c hc;obtain ⟨hf,pF,ln⟩:=hC f fn kI;have ln:cW (C.gq f) c=true:=by unfold nO at ln;rw [hc] at ln;exact ln
 refine ⟨⟨fn,hf,pF,by simp [hc]⟩,fun w A φ us ae hl hr=> ?_⟩
 refine calls_of_wp hf hc (r8 hm hE hX hD (C.gq f) c 0 _ H _ _ w φ A _ ln h ae ⟨by simp [hl],fun t x v hx hv=> ?_,rfl⟩ ?_)
 ·rcases Nat.lt_or_ge t us.size with ht|ht
  ·rw [List.getElem?_append_left (by rw [hl];exact ht)] at hx
   rw [Array.getElem?_append_left ht] at hv;exact hr t x v hx hv
  ·rw [List.getElem?_append_right (by rw [hl];exact ht)] at hx
   have:x= .undef:=by
    rw [List.getElem?_replicate] at hx;split at hx<;>simp at hx;exact hx.symm
   subst this;exact .fr _ _ (.undef _)
 ·intro e s' H' ak A' a' w' h1 h2 h3
  have fin:(∃rs,dz C.E s' H' fn.results.toList=some rs∧K (cq rs) H')→a'.defers=[]∧ ∃v,(results fn a'.tmps).run P w' = .ok v w' ∧iO w H φ A K (.returned v) w' :=by
   rintro ⟨rs,ju,hk⟩;refine ⟨h2.eI,?_⟩;obtain ⟨cF,k1,k2,k3⟩:=r_ (P:=P) hE h1.st h2 ju;exact ⟨_,k1,_,H',ak,A',h1,pg k2 k3,hk⟩
  cases e with
  |normal=>exact fin h3
  |ret=>exact fin h3
  |exit id=>exact h3.elim
end body
end Go.VS
namespace Go.VS
def fC (H H1:J):Prop:=bd H H1∧H.bs.length≤H1.bs.length
theorem bd.trans {H H1 H2:J} (h:bd H H1) (k:bd H1 H2):bd H H2:=⟨fun id b hb=>k.1 id b (h.1 id b hb),Nat.le_trans h.2 k.2⟩
theorem fC.refl (H:J):fC H H:=⟨bd.refl _,Nat.le_refl _⟩
theorem fC.trans {H H1 H2:J} (h:fC H H1) (k:fC H1 H2):fC H H2:=⟨h.1.trans k.1,Nat.le_trans h.2 k.2⟩
theorem fC.new (H:J) (sz:Nat) (fx:Bool) (el:List AV):fC H (H.new sz fx el):=⟨J.ob H sz fx el,by simp [J.new]⟩
mutual
theorem pG: ∀(y:AV) (H:J),fC H (aF y H).2
 | .own sz xs,H=>by simp only [aF];exact (iP xs H).trans (.new _ _ _ _)
 | .dm sz x,H=>by simp only [aF];exact (pG x H).trans (.new _ _ _ _)
 | .agg xs,H=>by simp only [aF];exact iP xs H
 | .az xs,H=>by simp only [aF];exact iP xs H
 | .undef,H=> .refl _
 | .int _ _,H=> .refl _
 | .bool _,H=> .refl _
 | .str _,H=> .refl _
 | .nil,H=> .refl _
 | .e0,H=> .refl _
 | .fz _,H=> .refl _
 | .ref _ _ _ _,H=> .refl _
 | .ptr _ _ _ _,H=> .refl _
 | .fe _ _,H=> .refl _
 | .fn _ _,H=> .refl _
 | .ck _,H=> .refl _
 | .dy,H=> .refl _
theorem iP: ∀(ys:List AV) (H:J),fC H (aG ys H).2
 |[],H=> .refl _
 |y::ys,H=>by simp only [aG];exact (pG y H).trans (iP ys _)
end
structure GH (G:J) (φ :ag) (H H1:J):Prop where
 ext:bd H1 G
 none: ∀id,H.bs.length≤id→id<H1.bs.length→ φ id=none
theorem kd (H:J) (sz:Nat) (fx:Bool) (el:List AV):(H.new sz fx el).bs.length=H.bs.length+1:=by simp [J.new]
theorem GH.fst {G:J} {φ :ag} {H H1 H2:J} (h:GH G φ H H2) (k:fC H1 H2):GH G φ H H1:=⟨k.1.trans h.ext,fun id h1 h2=>h.none id h1 (Nat.lt_of_lt_of_le h2 k.2)⟩
section bz
variable {w:World}
structure MG (w:World) (L:J) (φL:ag) (AL:ah) (G:J) (φ :ag) (AH:ah) (L1:J) (φ1:ag) (lo hi:Nat):Prop where
 less:bD L L1
 bz:bY w L1 (aE φL L1) AL G φ1 AH
 oh: ∀c,Ow φ1 c→Ow φ c∨(Ow φL c∧ ¬Ow (aE φL L1) c)
 hI: ∀c,Ow φ c→Ow φ1 c
 bZ: ∀id loc,φ id=some loc→ φ1 id=some loc
 new: ∀id loc,φ1 id=some loc→ φ id=some loc∨(lo≤id∧id<hi)
 le:lo≤hi
theorem MG.eh {L:J} {φL:ag} {AL:ah} {G:J} {φ :ag} {AH:ah} {L1:J} {φ1:ag} {lo hi:Nat} (m:MG w L φL AL G φ AH L1 φ1 lo hi):bI w G φ AH w G φ1 AH:=
 ⟨fun _c _arr _T fr hc hn=>⟨⟨fr,hc⟩,hn⟩,Nat.le_refl _,fun id b hb _=>⟨b,hb,rfl,rfl,rfl,rfl,fun loc h=>m.bZ id loc h⟩,fun _ _=>rfl⟩
theorem MG.refl {L:J} {φL:ag} {AL:ah} {G:J} {φ :ag} {AH:ah} (h:bY w L φL AL G φ AH) (lo:Nat):MG w L φL AL G φ AH L φ lo lo:=
 ⟨.refl _,⟨ef h.sl (.refl _),h.sh,fun c hc=>h.b_ c (bL hc),fun c hc=>h.er c (bL hc)⟩,fun _c hc=> .inl hc,fun _c hc=>hc,fun _ _ h=>h,fun _ _ h=> .inl h,Nat.le_refl _⟩
theorem MG.trans {L L1 L2:J} {φL:ag} {AL:ah} {G:J} {φ φ1 bf:ag} {AH:ah} {lo mi hi:Nat} (h:MG w L φL AL G φ AH L1 φ1 lo mi) (k:MG w L1 (aE φL L1) AL G φ1 AH L2 bf mi hi):MG w L φL AL G φ AH L2 bf lo hi:=by
 have hr:=fW (φ := φL) k.less;refine ⟨h.less.trans k.less,by rw [←hr];exact k.bz,fun c hc=> ?_,fun c hc=>k.hI c (h.hI c hc),fun id loc hl=>k.bZ id loc (h.bZ id loc hl),fun id loc hl=> ?_,Nat.le_trans h.le k.le⟩
 ·rcases k.oh c hc with h1|⟨h1,h2⟩
  ·rcases h.oh c h1 with h3|⟨h3,h4⟩
   ·exact .inl h3
   ·refine .inr ⟨h3,fun h5=>h4 ?_⟩;rw [←hr] at h5;exact bL h5
  ·rw [hr] at h2;exact .inr ⟨bL h1,h2⟩
 ·have h1:=h.le;have h2:=k.le;rcases k.new id loc hl with h3|⟨h3,h4⟩
  ·rcases h.new id loc h3 with h5|⟨h5,h6⟩
   ·exact .inl h5
   ·exact .inr ⟨h5,by omega⟩
  ·exact .inr ⟨by omega,h4⟩
theorem GH.snd {L L1:J} {φL:ag} {AL:ah} {G:J} {φ φ1:ag} {AH:ah} {H H1 H2:J} (h:GH G φ H H2) (m:MG w L φL AL G φ AH L1 φ1 H.bs.length H1.bs.length):GH G φ1 H1 H2:=by
 refine ⟨h.ext,fun id h1 h2=> ?_⟩;cases hp: φ1 id with
 |none=>rfl
 |some loc=>
  have hle:=m.le;rcases m.new id loc hp with h3|⟨_,h3⟩
  ·rw [h.none id (by omega) h2] at h3;simp at h3
  ·omega
theorem sa {L L1:J} {φL:ag} {AL:ah} {G:J} {φ φ1:ag} {AH:ah} {lo hi:Nat} (m:MG w L φL AL G φ AH L1 φ1 lo hi) {ad sz:Nat} {fx:Bool} {el:List AV} {loc:Loc} (hg:G.get hi=some ⟨ad,sz,fx,el⟩) (bE:ad<G.st) (hN: φ hi=none)
 (eb: ∀(i:Nat) (x:AV),el[i]? =some x→x.cells.length=sz) (hv:loc= .aQ→el=[])
 (et: ∀c b0,loc= .at_ c b0→Ow φL c∧ ¬Ow (aE φL L1) c∧ ¬Ow φ1 c∧AH c∧ ∃arr T fr,w.heap[c]? =some (.cells arr T fr)∧(∀j,j<arr.size→ ¬(fr.1≤j∧j<fr.2))∧b0+el.length*sz≤arr.size∧
  ∀(i:Nat) (x:AV) (j:Nat) (y:AV) (v:Value),el[i]? =some x→x.cells[j]? =some y→arr[b0+i*sz+j]? =some v→R w G φ1 AH y v∧v.oneCell' =true):
 MG w L φL AL G φ AH L1 (fun i=>if i=hi then some loc else φ1 i) lo (hi+1):=by
 have fq:=m.bz.sh;have hle:=m.le;have bq: φ1 hi=none:=by
  cases hp: φ1 hi with
  |none=>rfl
  |some l=>
   rcases m.new hi l hp with h|⟨_,h⟩
   ·rw [hN] at h;simp at h
   ·omega
 have aR:bI w G φ1 AH w G (fun i=>if i=hi then some loc else φ1 i) AH:=by
  refine ⟨fun c a t fr hc hn=>⟨⟨fr,hc⟩,hn⟩,Nat.le_refl _,fun id b hb ax=>⟨b,hb,rfl,rfl,rfl,rfl,fun l hl=> ?_⟩,fun _ _=>rfl⟩;rw [if_neg (by rintro rfl;rw [bq] at hl;simp at hl)];exact hl
 have dJ: ∀c,Ow (fun i=>if i=hi then some loc else φ1 i) c→Ow φ1 c∨ ∃b0,loc= .at_ c b0:=by
  rintro c ⟨i,b,h⟩;try simp only at h
  split at h
  ·simp only [Option.some.injEq] at h;exact .inr ⟨b,h⟩
  ·exact .inl ⟨i,b,h⟩
 refine ⟨m.less,⟨m.bz.sl,⟨fun i i' c b b' h1 h2=> ?_,fun c hc=> ?_,fq.bX,fun i l hl=> ?_⟩,fun c hc ho=> ?_,m.bz.er⟩,fun c hc=> ?_,fun c hc=> ?_,fun id l hl=> ?_,fun id l hl=> ?_,by omega⟩
 ·try simp only at h1 h2
  split at h1
  ·rename_i hi;split at h2
   ·rename_i gZ;omega
   ·simp only [Option.some.injEq] at h1;exact absurd ⟨i',b',h2⟩ (et c b h1).2.2.1
  ·split at h2
   ·simp only [Option.some.injEq] at h2;exact absurd ⟨i,b,h1⟩ (et c b' h2).2.2.1
   ·exact fq.inj _ _ _ _ _ h1 h2
 ·rcases dJ c hc with h|⟨b0,h⟩
  ·exact fq.own c h
  ·exact (et c b0 h).2.2.2.1
 ·try simp only at hl
  split at hl
  ·rename_i hi;subst hi;simp only [Option.some.injEq] at hl;subst hl;refine ⟨_,hg,bE,eb,hv,fun c b0 he=> ?_⟩;obtain ⟨_,_,_,_,arr,T,fr,k1,k2,k3,k4⟩:=et c b0 he;exact ⟨arr,T,fr,k1,k2,k3,fun j x q y v bG hy cv=>⟨(k4 j x q y v bG hy cv).1.mono aR,(k4 j x q y v bG hy cv).2⟩⟩
  ·obtain ⟨bb,hb,af⟩:=fq.ap i l hl;refine ⟨bb,hb,af.ad,af.sized,af.aQ,fun c b0 he=> ?_⟩;obtain ⟨arr,T,fr,k1,k2,k3,k4⟩:=af.here c b0 he;exact ⟨arr,T,fr,k1,k2,k3,fun j x q y v bG hy cv=>⟨(k4 j x q y v bG hy cv).1.mono aR,(k4 j x q y v bG hy cv).2⟩⟩
 ·rcases dJ c ho with h|⟨b0,h⟩
  ·exact m.bz.b_ c hc h
  ·exact (et c b0 h).2.1 hc
 ·rcases dJ c hc with h|⟨b0,h⟩
  ·exact m.oh c h
  ·exact .inr ⟨(et c b0 h).1,(et c b0 h).2.1⟩
 ·obtain ⟨i,b,h⟩:=m.hI c hc
  exact ⟨i,b,by show (if i=hi then some loc else φ1 i)=_;rw [if_neg (by rintro rfl;rw [bq] at h;simp at h)];exact h⟩
 ·have:=m.bZ id l hl;rw [if_neg (by rintro rfl;rw [bq] at this;simp at this)];exact this
 ·try simp only at hl
  split at hl
  ·rename_i hi;subst hi;exact .inr ⟨hle,Nat.lt_succ_self _⟩
  ·rcases m.new id l hl with h|⟨h1,h2⟩
   ·exact .inl h
   ·exact .inr ⟨h1,by omega⟩
set_option maxRecDepth 4000
theorem sb {es:List Sh} (hE: ∀(x:AV) (vs:List Value) (L:J) (φL:ag) (AL:ah) (H G:J) (φ :ag) (AH:ah) (y:AV) (L1:J) (a:AV) (H1:J),bY w L φL AL G φ AH→GH G φ H H1→x.cells.length=vs.length→
 (∀(j:Nat) (c:AV) (u:Value),x.cells[j]? =some c→vs[j]? =some u→R w L φL AL c u)→aY es x L=some (y,L1)→aF y H=(a,H1)→fX AL AH y→
 ∃ φ1,MG w L φL AL G φ AH L1 φ1 H.bs.length H1.bs.length∧a.cells.length=x.cells.length∧ ∀(j:Nat) (c:AV) (u:Value),a.cells[j]? =some c→vs[j]? =some u→R w G φ1 AH c u):
 ∀(xs:List AV) (g:Nat→Nat→Value) (L:J) (φL:ag) (AL:ah) (H G:J) (φ :ag) (AH:ah) (ys:List AV) (L1:J) (as:List AV) (H1:J),bY w L φL AL G φ AH→GH G φ H H1→
  (∀(i:Nat) (x:AV) (j:Nat) (c:AV),xs[i]? =some x→x.cells[j]? =some c→R w L φL AL c (g i j))→dn (aY es) xs L=some (ys,L1)→aG ys H=(as,H1)→dQ AL AH ys→
  ∃ φ1,MG w L φL AL G φ AH L1 φ1 H.bs.length H1.bs.length∧as.length=xs.length∧(∀(i:Nat) (x a:AV),xs[i]? =some x→as[i]? =some a→a.cells.length=x.cells.length)∧
   ∀(i:Nat) (a:AV) (j:Nat) (c:AV),as[i]? =some a→a.cells[j]? =some c→R w G φ1 AH c (g i j)
 |[],g,L,φL,AL,H,G,φ,AH,ys,L1,as,H1,hd,hh,_,ht,hw,_=>by
  simp only [dn,Option.some.injEq,Prod.mk.injEq] at ht;obtain ⟨rfl,rfl⟩:=ht;simp only [aG,Prod.mk.injEq] at hw;obtain ⟨rfl,rfl⟩:=hw;exact ⟨φ,.refl hd _,rfl,by simp,by simp⟩
 |x::xs,g,L,φL,AL,H,G,φ,AH,ys,L1,as,H1,hd,hh,hr,ht,hw,hk=>by
  simp only [dn] at ht;split at ht
  ·rename_i y L' h1
   split at ht
   ·rename_i aU c9 h2
    simp only [Option.some.injEq,Prod.mk.injEq] at ht;obtain ⟨rfl,rfl⟩:=ht;obtain ⟨k1,k2⟩:=hk.cons;simp only [aG,Prod.mk.injEq] at hw;obtain ⟨rfl,rfl⟩:=hw
    let vs:List Value:=(List.range x.cells.length).map (g 0)
    obtain ⟨φ1,m1,l1,r1⟩:=hE x vs L φL AL H G φ AH y L' _ _ hd (hh.fst (iP _ _)) (by simp [vs]) (fun j c u hj hu=>by
     have dP:j<x.cells.length:=(List.getElem?_eq_some_iff.1 hj).1;have:vs[j]? =some (g 0 j):=by simp [vs,dP]
     rw [this] at hu;simp only [Option.some.injEq] at hu;subst hu;exact hr 0 x j c rfl hj) h1 rfl k1
    obtain ⟨bf,m2,l2,s2,r2⟩:=sb hE xs (fun i j=>g (i+1) j) L' (aE φL L') AL _ G φ1 AH aU c9 _ _ m1.bz (hh.snd m1) (fun i x' j c hi hj=>(hr (i+1) x' j c hi hj).mono (c5 m1.less)) h2 rfl k2
    refine ⟨bf,m1.trans m2,by simp [l2],fun i x' a hx ha=> ?_,fun i a j c ha hc=> ?_⟩
    ·cases i with
     |zero=>simp at hx ha;subst hx;subst ha;exact l1
     |succ i=>exact s2 i x' a hx ha
    ·cases i with
     |zero=>
      simp only [List.getElem?_cons_zero,Option.some.injEq] at ha;subst ha;have hj:j<x.cells.length:=by rw [←l1];exact (List.getElem?_eq_some_iff.1 hc).1
      exact (r1 j c (g 0 j) hc (by simp [vs,hj])).mono m2.eh
     |succ i=>exact r2 i a j c ha hc
   ·simp at ht
  ·simp at ht
theorem sd {L:J} {φL:ag} {AL:ah} {G:J} {φ :ag} {AH:ah} (hd:bY w L φL AL G φ AH) {id ad:Nat} {b:bA} (hb:L.ap id ad=some b) {off n:Nat} (hle:off+n≤b.el.length) {sz:Nat} (hs:b.sz=sz) {loc:Loc} (aV: φL id=some loc)
 {L1:J} {as:List AV} {lo hi:Nat} {g:Nat→Nat→Value} {φ1:ag} (hg: ∀c b0 arr T fr,loc= .at_ c b0→w.heap[c]? =some (.cells arr T fr)→ ∀(i j:Nat) (v:Value),i<n→j<sz→arr[b0+(off+i)*sz+j]? =some v→g i j=v)
 (m:MG w (L.del id) (aE φL (L.del id)) AL G φ AH L1 φ1 lo hi) (hl:as.length=n) (eb: ∀(i:Nat) (a:AV),as[i]? =some a→a.cells.length=sz)
 (hr: ∀(i:Nat) (a:AV) (j:Nat) (c:AV),as[i]? =some a→a.cells[j]? =some c→R w G φ1 AH c (g i j)) {fB:Nat} (fx:Bool) (ig:G.get hi=some ⟨fB,sz,fx,as⟩) (bE:fB<G.st) (hN: φ hi=none) (loc' :Loc) (hJ:loc' = .aQ∧n=0∨ ∃c b0,loc= .at_ c b0∧loc' = .at_ c (b0+off*sz)):
 MG w L φL AL G φ AH L1 (fun i=>if i=hi then some loc' else φ1 i) lo (hi+1):=by
 have oO:=(J.bj hb).1;have oP:=(bD.del L id).trans m.less;have hM:aE (aE φL (L.del id)) L1=aE φL L1:=fW m.less;have m' :MG w L φL AL G φ AH L1 φ1 lo hi:=by
  refine ⟨oP,by have:=m.bz;rwa [hM] at this,fun c hc=> ?_,m.hI,m.bZ,m.new,m.le⟩
  rcases m.oh c hc with h|⟨h1,h2⟩
  ·exact .inl h
  ·rw [hM] at h2;exact .inr ⟨bL h1,h2⟩
 refine sa m' ig bE hN eb (fun hv=> ?_) (fun c b1 he=> ?_)
 ·rcases hJ with ⟨_,h0⟩|⟨c,b0,_,h2⟩
  ·exact List.eq_nil_of_length_eq_zero (by omega)
  ·rw [h2] at hv;simp at hv
 ·rcases hJ with ⟨h1,_⟩|⟨c',b0,h1,h2⟩
  ·rw [h1] at he;simp at he
  ·rw [h2] at he;simp only [Loc.at_.injEq] at he;obtain ⟨rfl,rfl⟩:=he;subst h1;have jn:Ow φL c' :=⟨id,b0,aV⟩
   have oQ: ¬Ow (aE φL L1) c' :=by
    rintro ⟨i,bb,hi⟩;obtain ⟨fw,bk,aX⟩:=dh hi;have:=hd.sl.inj _ _ _ _ _ fw aV;subst this;have:=m.less.get _ _ aX;rw [J.iM,if_pos rfl] at this;simp at this
   refine ⟨jn,oQ,fun ho=> ?_,hd.er _ jn,?_⟩
   ·rcases m.oh c' ho with h|⟨⟨i,bb,hi⟩,_⟩
    ·exact hd.b_ c' jn h
    ·obtain ⟨fw,bk,aX⟩:=dh hi;have:=hd.sl.inj _ _ _ _ _ fw aV;subst this;rw [J.iM,if_pos rfl] at aX;simp at aX
   ·obtain ⟨bk,aX,af⟩:=hd.sl.ap id _ aV;rw [oO] at aX;simp only [Option.some.injEq] at aX;subst aX;obtain ⟨arr,T,fr,k1,k2,k3,k4⟩:=af.here c' b0 rfl
    have hmul:off*sz+n*sz≤b.el.length*sz:=by rw [←Nat.add_mul];exact Nat.mul_le_mul_right _ hle
    refine ⟨arr,T,fr,k1,k2,by rw [hl];rw [hs] at k3;omega,fun i a j c v ha hc hv=> ?_⟩
    have hi:i<n:=by rw [←hl];exact (List.getElem?_eq_some_iff.1 ha).1
    have hj:j<sz:=by rw [←eb i a ha];exact (List.getElem?_eq_some_iff.1 hc).1
    have e:b0+off*sz+i*sz+j=b0+(off+i)*sz+j:=by rw [Nat.add_mul];omega
    rw [e] at hv;have oR:=hg c' b0 arr T fr rfl k1 i j v hi hj hv
    refine ⟨by rw [←oR];exact hr i a j c ha hc,?_⟩
    have bN:off+i<b.el.length:=by omega
    have hx:=List.getElem?_eq_getElem bN;have cu:=af.sized _ _ hx;exact (k4 (off+i) _ j _ v hx (List.getElem?_eq_getElem (by omega)) (by rw [hs];exact hv)).2
mutual
theorem mL (sh:Sh) (x:AV) (v:Value) (L:J) (φL:ag) (AL:ah) (H G:J) (φ :ag) (AH:ah) (y:AV) (L1:J) (a:AV) (H1:J) (hd:bY w L φL AL G φ AH) (hh:GH G φ H H1) (hx:R w L φL AL x v)
 (ht:aO sh x L=some (y,L1)) (hw:aF y H=(a,H1)) (hk:fX AL AH y): ∃ φ1,MG w L φL AL G φ AH L1 φ1 H.bs.length H1.bs.length∧R w G φ1 AH a v∧(x≠ .undef→a.cells=[a])∧(x= .undef→a= .undef):=by
 cases sh with
 |sc=>
  simp only [aO] at ht;split at ht
  ·rename_i hp;simp only [Option.some.injEq,Prod.mk.injEq] at ht;obtain ⟨rfl,rfl⟩:=ht;rw [rj hp] at hw;simp only [Prod.mk.injEq] at hw;obtain ⟨rfl,rfl⟩:=hw;exact ⟨φ,.refl hd _,ri hp hx,fun hu=>cells_one hu (by rintro cs rfl;simp [dp] at hp),fun h=>h⟩
  ·simp at ht
 |sl es=>
  have kZ: ∀{v0:Option Addr},v= .slice v0 0 0→aF (.own es.length []) H=(a,H1)→L1=L→ ∃ φ1,MG w L φL AL G φ AH L1 φ1 H.bs.length H1.bs.length∧R w G φ1 AH a v∧a.cells=[a]:=by
   intro v0 hv hw hL;subst hL;simp only [aF,aG,Prod.mk.injEq] at hw;obtain ⟨rfl,rfl⟩:=hw;have ig:=hh.ext.1 _ _ (J.ea H es.length false []);have bE:H.st<G.st:=Nat.lt_of_lt_of_le (Nat.lt_succ_self _) hh.ext.2;have m:=sa (MG.refl hd H.bs.length) ig bE (hh.none _ (Nat.le_refl _) (by rw [kd];exact Nat.lt_succ_self _)) (loc:= .aQ) (by simp) (fun _=>rfl) (by simp)
   rw [←kd H es.length false []] at m;refine ⟨_,m,?_,rfl⟩;refine .ref _ _ _ _ _ bE ⟨_,_,hv⟩ fun b hb=> ?_;have:=j_ ig hb;subst this;exact ⟨.aQ,v0,0,by simp,hv,by simp,Nat.le_refl _,by simp,rfl,fun _=>rfl⟩
  cases x with
  |nil=>
   simp only [aO,Option.some.injEq,Prod.mk.injEq] at ht;obtain ⟨rfl,rfl⟩:=ht;obtain ⟨φ1,h1,h2,h3⟩:=kZ hx.c8 hw rfl;exact ⟨φ1,h1,h2,fun _=>h3,fun h=>by simp at h⟩
  |e0=>
   simp only [aO,Option.some.injEq,Prod.mk.injEq] at ht;obtain ⟨rfl,rfl⟩:=ht;obtain ⟨a0,k9⟩:=hx.eG;obtain ⟨φ1,h1,h2,h3⟩:=kZ k9 hw rfl;exact ⟨φ1,h1,h2,fun _=>h3,fun h=>by simp at h⟩
  |fz xs=>
   simp only [aO,Option.some.injEq,Prod.mk.injEq] at ht;obtain ⟨rfl,rfl⟩:=ht;simp only [aF,Prod.mk.injEq] at hw;obtain ⟨rfl,rfl⟩:=hw;rcases hk with hk|hk
   ·exact ⟨φ,.refl hd _,.fr _ _ (hx.dA.shrink hk),fun _=>rfl,fun h=>by simp at h⟩
   ·simp [cg] at hk
  |ref id ad off len=>
   simp only [aO] at ht;split at ht
   ·rename_i b hb;split at ht
    ·rename_i hc;obtain ⟨c1,c2,c3⟩:=hc;split at ht
     ·rename_i ys L' hm
      simp only [Option.some.injEq,Prod.mk.injEq] at ht;obtain ⟨rfl,rfl⟩:=ht;simp only [aF,Prod.mk.injEq] at hw;obtain ⟨rfl,rfl⟩:=hw;have hg:=(J.bj hb).1;obtain ⟨bE,_,hr⟩:=hx.df;obtain ⟨loc,a0,cap,q1,rfl,q3,q4,q5,q6⟩:=(hr b hb).out;obtain ⟨bk,aX,af⟩:=hd.sl.ap id _ q1;rw [hg] at aX;simp only [Option.some.injEq] at aX;subst aX;have bH:dQ AL AH ys:=by
       rcases hk with h|h
       ·exact .inl h
       ·exact .inr (by simpa [cg] using h)
      have cS:=bD.del L id;have b4:bY w (L.del id) (aE φL (L.del id)) AL G φ AH:=⟨ef hd.sl cS,hd.sh,fun c hc=>hd.b_ c (bL hc),fun c hc=>hd.er c (bL hc)⟩
      have bw:(aB b.el off len).length=len:=by simp [aB];omega
      have fY: ∀(i:Nat) (x:AV),(aB b.el off len)[i]? =some x→b.el[off+i]? =some x:=by
       intro i x hi;simp only [aB,List.getElem?_take,List.getElem?_drop] at hi;split at hi
       ·exact hi
       ·simp at hi
      let g:Nat→Nat→Value:=match loc with
       | .aQ=>fun _ _=>undef
       | .at_ c b0=>fun i j=>match w.heap[c]? with
        |some (.cells arr _ _)=>arr.getD (b0+(off+i)*es.length+j) undef
        |_=>undef
      have cy: ∀(i:Nat) (x:AV) (j:Nat) (c:AV),(aB b.el off len)[i]? =some x→x.cells[j]? =some c→R w (L.del id) (aE φL (L.del id)) AL c (g i j):=by
       intro i x j c hi hj;have bG:=fY i x hi
       have ci:i<len:=by rw [←bw];exact (List.getElem?_eq_some_iff.1 hi).1
       cases loc with
       |aQ=>have:=af.aQ rfl;rw [this] at bG;simp at bG
       |at_ c0 b0=>
        obtain ⟨arr,T,fr,k1,k2,k3,k4⟩:=af.here c0 b0 rfl;have dP:j<b.sz:=by rw [←af.sized _ _ bG];exact (List.getElem?_eq_some_iff.1 hj).1
        have hle:=cK (n:=b.sz) (show off+i<b.el.length by omega)
        have ax:b0+(off+i)*b.sz+j<arr.size:=by omega
        have:g i j=arr[b0+(off+i)*b.sz+j]:=by
         simp only [g,k1,←c1,Array.getD_eq_getD_getElem?,Array.getElem?_eq_getElem ax,Option.getD_some]
        rw [this];exact ((k4 _ _ _ _ _ bG hj (Array.getElem?_eq_getElem ax)).1).mono (c5 cS)
      obtain ⟨φ1,m,l1,s1,r1⟩:=sb (w:=w) (es:=es) (fun x vs L φL AL H G φ AH y L1 a H1=>se es x vs L φL AL H G φ AH y L1 a H1) _ g _ _ _ _ _ _ _ _ _ _ _ b4 (hh.fst (.new _ _ _ _)) cy hm rfl bH
      rw [bw] at l1;have k_: ∀(i:Nat) (a:AV),(aG ys H).1[i]? =some a→a.cells.length=b.sz:=by
       intro i a ha;have ci:i<(aB b.el off len).length:=by rw [bw,←l1];exact (List.getElem?_eq_some_iff.1 ha).1
       have iN:=List.getElem?_eq_getElem ci;rw [s1 i _ a iN ha];exact af.sized _ _ (fY i _ iN)
      have oS: ∀c b0 arr T fr,loc= .at_ c b0→w.heap[c]? =some (.cells arr T fr)→ ∀(i j:Nat) (v:Value),i<len→j<b.sz→arr[b0+(off+i)*b.sz+j]? =some v→g i j=v:=by
       intro c b0 arr T fr hl hh i j v _ _ hv;subst hl;simp only [g,hh,←c1,Array.getD_eq_getD_getElem?,hv,Option.getD_some]
      let loc' :Loc:=match loc with
       | .aQ=> .aQ
       | .at_ c b0=>if cap=0 then .aQ else .at_ c (b0+off*b.sz)
      have hJ:loc' = .aQ∧len=0∨ ∃c b0,loc= .at_ c b0∧loc' = .at_ c (b0+off*b.sz):=by
       cases loc with
       |aQ=>left;refine ⟨rfl,?_⟩;have:=af.aQ rfl;rw [this] at q3;simp at q3;omega
       |at_ c b0=>
        by_cases eu:cap=0
        ·left;exact ⟨by simp [loc',eu],by omega⟩
        ·right;exact ⟨c,b0,rfl,by simp [loc',eu]⟩
      have ig:=hh.ext.1 _ _ (J.ea (aG ys H).2 es.length false (aG ys H).1);have bE:(aG ys H).2.st<G.st:=Nat.lt_of_lt_of_le (Nat.lt_succ_self _) hh.ext.2;have M:=sd hd hb c2 rfl q1 oS m l1 k_ r1 false (by rw [c1];exact ig) bE (hh.none _ (iP ys H).2 (by rw [kd];exact Nat.lt_succ_self _)) loc' hJ
      rw [←kd (aG ys H).2 es.length false (aG ys H).1] at M;refine ⟨_,M,?_,fun _=>rfl,fun h=>by simp at h⟩
      refine .ref _ _ _ _ _ bE ⟨a0,cap,by rw [l1]⟩ fun b' aw=> ?_
      have:=j_ ig aw;subst this;refine ⟨loc',a0,cap,by simp,by rw [l1],by simp,by omega,by simp only;omega,?_⟩
      cases loc with
      |aQ=>
       simp only at q6;have b8:len=0:=by have:=af.aQ rfl;rw [this] at q3;simp at q3;omega
       refine ⟨List.eq_nil_of_length_eq_zero (by rw [l1,b8]),fun _=> ?_⟩
       rcases c3 with c3|c3
       ·exact q6.2 c3
       ·omega
      |at_ c b0=>
       simp only at q6;by_cases eu:cap=0
       ·simp only [loc',eu,if_true];exact ⟨List.eq_nil_of_length_eq_zero (by omega),fun _=>by first|trivial|omega|rfl⟩
       ·simp only [loc',eu,if_false];rcases q6 with q6|⟨h1,h2⟩
        ·exact absurd q6 eu
        ·refine Or.inr ⟨by rw [h1];simp,?_⟩
         rw [c1] at h2⊢;have:(off+cap)*es.length=off*es.length+cap*es.length:=Nat.add_mul _ _ _;simp only [Nat.zero_add];omega
     ·simp at ht
    ·simp at ht
   ·simp at ht
  |_=>simp [aO] at ht
 |pt es=>
  cases x with
  |fe z o=>
   simp only [aO,Option.some.injEq,Prod.mk.injEq] at ht;obtain ⟨rfl,rfl⟩:=ht;simp only [aF,Prod.mk.injEq] at hw;obtain ⟨rfl,rfl⟩:=hw;rcases hk with hk|hk
   ·exact ⟨φ,.refl hd _,.fr _ _ (hx.eF.shrink hk),fun _=>rfl,fun h=>by simp at h⟩
   ·simp [cg] at hk
  |ptr id ad idx off=>
   rcases idx with _|idx
   rotate_left
   ·simp [aO] at ht
   rcases off with _|off
   rotate_left
   ·simp [aO] at ht
   simp only [aO] at ht;split at ht
   ·rename_i oT sz oU z hb;split at ht
    ·rename_i y' L' hm
     simp only [Option.some.injEq,Prod.mk.injEq] at ht;obtain ⟨rfl,rfl⟩:=ht;simp only [aF,Prod.mk.injEq] at hw;obtain ⟨rfl,rfl⟩:=hw;have hg:=(J.bj hb).1;obtain ⟨bE,_,hr⟩:=hx.fl;obtain ⟨c,b0,q1,rfl⟩:=hr _ hb;obtain ⟨bk,aX,af⟩:=hd.sl.ap id _ q1;rw [hg] at aX;simp only [Option.some.injEq] at aX;subst aX;obtain ⟨arr,T,fr,k1,k2,k3,k4⟩:=af.here c b0 rfl;have bH:fX AL AH y' :=by
      rcases hk with h|h
      ·exact .inl h
      ·exact .inr (by simpa [cg] using h)
     have cS:=bD.del L id;have b4:bY w (L.del id) (aE φL (L.del id)) AL G φ AH:=⟨ef hd.sl cS,hd.sh,fun c hc=>hd.b_ c (bL hc),fun c hc=>hd.er c (bL hc)⟩
     have cw:z.cells.length=sz:=af.sized 0 z rfl;simp only [List.length_singleton,Nat.one_mul] at k3
     let vs:List Value:=(arr.extract b0 (b0+sz)).toList
     have dC:vs.length=sz:=by simp [vs];omega
     have fZ: ∀j u,vs[j]? =some u→arr[b0+j]? =some u:=by
      intro j u hu;simp only [vs,Array.getElem?_toList,Array.getElem?_extract] at hu;split at hu
      ·exact hu
      ·simp at hu
     obtain ⟨φ1,m,l1,r1⟩:=se es z vs _ _ _ _ _ _ _ _ _ _ _ b4 (hh.fst (.new _ _ _ _)) (by rw [dC,cw]) (fun j c' u hj hu=>((k4 0 z j c' u rfl hj (by simpa using fZ j u hu)).1).mono (c5 cS)) hm rfl bH
     have ig:=hh.ext.1 _ _ (J.ea (aF y' H).2 sz false [(aF y' H).1])
     have bE:(aF y' H).2.st<G.st:=Nat.lt_of_lt_of_le (Nat.lt_succ_self _) hh.ext.2
     have M:=sd (as:=[(aF y' H).1]) (n:=1) (off:=0) (sz:=sz) (loc' := .at_ c b0) (g:=fun i j=>vs.getD j undef) hd hb (by simp) rfl q1 (fun c' oV arr' T' eU hl hh i j v hi hj hv=>by
      simp only [Loc.at_.injEq] at hl;obtain ⟨rfl,rfl⟩:=hl;rw [k1] at hh;simp only [Option.some.injEq,Obj.cells.injEq] at hh;obtain ⟨rfl,_,_⟩:=hh;have jo:i=0:=by omega
      subst jo;simp only [Nat.zero_mul,Nat.add_zero] at hv;have:vs[j]? =some v:=by
       simp only [vs,Array.getElem?_toList,Array.getElem?_extract];rw [if_pos (by omega)];exact hv
      simp [List.getD,this]) m rfl (fun i a ha=>by
      cases i with
      |zero=>simp at ha;subst ha;rw [l1,cw]
      |succ i=>simp at ha) (fun i a j c' ha hc=>by
      cases i with
      |zero=>
       simp at ha;subst ha;have hj:j<vs.length:=by rw [dC,←cw,←l1];exact (List.getElem?_eq_some_iff.1 hc).1
       have:=r1 j c' vs[j] hc (List.getElem?_eq_getElem hj)
       simpa [List.getD,hj] using this
      |succ i=>simp at ha) false ig bE (hh.none _ (pG y' H).2 (by rw [kd];exact Nat.lt_succ_self _)) (.inr ⟨c,b0,rfl,by simp⟩)
     rw [←kd (aF y' H).2 sz false [(aF y' H).1]] at M
     refine ⟨_,M,?_,fun _=>rfl,fun h=>by simp at h⟩
     refine .ptr _ _ _ _ _ bE ⟨_,rfl⟩ fun b' aw=>⟨c,b0,by simp,?_⟩
     simp
    ·simp at ht
   ·simp at ht
  |_=>simp [aO] at ht
 termination_by (SizeOf.sizeOf sh,0)
theorem se (es:List Sh) (x:AV) (vs:List Value) (L:J) (φL:ag) (AL:ah) (H G:J) (φ :ag) (AH:ah) (y:AV) (L1:J) (a:AV) (H1:J) (hd:bY w L φL AL G φ AH) (hh:GH G φ H H1) (hl:x.cells.length=vs.length)
 (hx: ∀(j:Nat) (c:AV) (u:Value),x.cells[j]? =some c→vs[j]? =some u→R w L φL AL c u) (ht:aY es x L=some (y,L1)) (hw:aF y H=(a,H1)) (hk:fX AL AH y):
 ∃ φ1,MG w L φL AL G φ AH L1 φ1 H.bs.length H1.bs.length∧a.cells.length=x.cells.length∧ ∀(j:Nat) (c:AV) (u:Value),a.cells[j]? =some c→vs[j]? =some u→R w G φ1 AH c u:=by
 by_cases bW: ∃cs,x= .agg cs
 ·obtain ⟨cs,rfl⟩:=bW;have cz: ∃aW,cp es cs L=some (aW,L1)∧y= .agg aW:=by
   match es,ht with
   |[],ht=>
    simp only [aY] at ht;split at ht
    ·rename_i aW L' hc
     simp only [Option.some.injEq,Prod.mk.injEq] at ht;obtain ⟨rfl,rfl⟩:=ht;exact ⟨aW,hc,rfl⟩
    ·simp at ht
   |[e],ht=>
    simp only [aY] at ht;split at ht
    ·rename_i aW L' hc
     simp only [Option.some.injEq,Prod.mk.injEq] at ht;obtain ⟨rfl,rfl⟩:=ht;exact ⟨aW,hc,rfl⟩
    ·simp at ht
   |e::e' ::es,ht=>
    simp only [aY] at ht;split at ht
    ·rename_i aW L' hc
     simp only [Option.some.injEq,Prod.mk.injEq] at ht;obtain ⟨rfl,rfl⟩:=ht;exact ⟨aW,hc,rfl⟩
    ·simp at ht
  obtain ⟨aW,hc,rfl⟩:=cz;simp only [aF,Prod.mk.injEq] at hw;obtain ⟨rfl,rfl⟩:=hw;have bH:dQ AL AH aW:=by
   rcases hk with h|h
   ·exact .inl h
   ·exact .inr (by simpa [cg] using h)
  exact pH es cs vs L φL AL H G φ AH aW L1 _ _ hd hh hl hx hc rfl bH
 ·have dw: ∀cs,x≠ .agg cs:=fun cs h=>bW ⟨cs,h⟩
  match es,ht with
  |[e],ht=>
   have cz:aO e x L=some (y,L1):=by
    cases x<;>first|(simpa only [aY] using ht)|exact absurd rfl (dw _)
   by_cases hu:x= .undef
   ·subst hu;have fO:vs=[]:=List.eq_nil_of_length_eq_zero (by simpa [AV.cells] using hl.symm)
    subst fO;obtain ⟨φ1,m,_,_,h4⟩:=mL e .undef undef L φL AL H G φ AH y L1 a H1 hd hh (.fr _ _ (.undef _)) cz hw hk
    exact ⟨φ1,m,by rw [h4 rfl],by simp⟩
   ·have di:=cells_one hu dw;rw [di] at hl;obtain ⟨v,rfl⟩: ∃v,vs=[v]:=by
     match vs,hl with
     |[v],_=>exact ⟨v,rfl⟩
    obtain ⟨φ1,m,h2,h3,_⟩:=mL e x v L φL AL H G φ AH y L1 a H1 hd hh (hx 0 x v (by rw [di];rfl) rfl) cz hw hk
    refine ⟨φ1,m,by rw [h3 hu,di];rfl,fun j c u hj aN=> ?_⟩
    rw [h3 hu] at hj;cases j with
    |zero=>simp at hj aN;subst hj;subst aN;exact h2
    |succ j=>simp at hj
  |[],ht=>cases x<;>first|(simp [aY] at ht;done)|exact absurd rfl (dw _)
  |_::_::_,ht=>cases x<;>first|(simp [aY] at ht;done)|exact absurd rfl (dw _)
 termination_by (SizeOf.sizeOf es,1)
theorem pH (es:List Sh) (cs:List AV) (vs:List Value) (L:J) (φL:ag) (AL:ah) (H G:J) (φ :ag) (AH:ah) (ys:List AV) (L1:J) (as:List AV) (H1:J) (hd:bY w L φL AL G φ AH) (hh:GH G φ H H1) (hl:cs.length=vs.length)
 (hx: ∀(j:Nat) (c:AV) (u:Value),cs[j]? =some c→vs[j]? =some u→R w L φL AL c u) (ht:cp es cs L=some (ys,L1)) (hw:aG ys H=(as,H1)) (hk:dQ AL AH ys):
 ∃ φ1,MG w L φL AL G φ AH L1 φ1 H.bs.length H1.bs.length∧as.length=cs.length∧ ∀(j:Nat) (c:AV) (u:Value),as[j]? =some c→vs[j]? =some u→R w G φ1 AH c u:=by
 match es,cs,ht with
 |[],[],ht=>
  simp only [cp,Option.some.injEq,Prod.mk.injEq] at ht;obtain ⟨rfl,rfl⟩:=ht;simp only [aG,Prod.mk.injEq] at hw;obtain ⟨rfl,rfl⟩:=hw;exact ⟨φ,.refl hd _,rfl,by simp⟩
 |e::es,x::cs,ht=>
  simp only [cp] at ht;split at ht
  ·rename_i y L' h1
   split at ht
   ·rename_i aU c9 h2
    simp only [Option.some.injEq,Prod.mk.injEq] at ht;obtain ⟨rfl,rfl⟩:=ht;simp only [aG,Prod.mk.injEq] at hw;obtain ⟨rfl,rfl⟩:=hw;obtain ⟨k1,k2⟩:=hk.cons
    match vs,hl with
    |v::vs,hl=>
     obtain ⟨φ1,m1,r1,_,_⟩:=mL e x v L φL AL H G φ AH y L' _ _ hd (hh.fst (iP _ _)) (hx 0 x v rfl rfl) h1 rfl k1
     obtain ⟨bf,m2,l2,r2⟩:=pH es cs vs L' (aE φL L') AL _ G φ1 AH aU c9 _ _ m1.bz (hh.snd m1) (by simpa using hl) (fun j c u hj hu=>(hx (j+1) c u hj hu).mono (c5 m1.less)) h2 rfl k2
     refine ⟨bf,m1.trans m2,by simp [l2],fun j c u hj hu=> ?_⟩
     cases j with
     |zero=>simp at hj hu;subst hj;subst hu;exact r1.mono m2.eh
     |succ j=>exact r2 j c u hj hu
   ·simp at ht
  ·simp at ht
 |[],_::_,ht=>simp [cp] at ht
 |_::_,[],ht=>simp [cp] at ht
 termination_by (SizeOf.sizeOf es,0)
end
end bz
end Go.VS
namespace Go.VS
section bz
variable {w:World} {AL AH:ah}
theorem zk {es:List Sh} {x:AV} {v:Value} {L:J} {φL:ag} {H G:J} {φ :ag} {y:AV} {L1:J} {a:AV} {H1:J} (hd:bY w L φL AL G φ AH) (hh:GH G φ H H1) (hx:R w L φL AL x v)
 (ht:aY es x L=some (y,L1)) (hw:aF y H=(a,H1)) (hk:fX AL AH y): ∃ φ1,MG w L φL AL G φ AH L1 φ1 H.bs.length H1.bs.length∧R w G φ1 AH a v:=by
 by_cases bW: ∃cs,x= .agg cs
 ·obtain ⟨cs,rfl⟩:=bW;obtain ⟨aW,hc,rfl⟩:=la ht;simp only [aF,Prod.mk.injEq] at hw;obtain ⟨rfl,rfl⟩:=hw;have bH:dQ AL AH aW:=by
   rcases hk with h|h
   ·exact .inl h
   ·exact .inr (by simpa [cg] using h)
  obtain ⟨vs,rfl,hl,ho,hp⟩:=hx.fP;obtain ⟨φ1,m,l1,r1⟩:=pH es cs vs.toList L φL AL H G φ AH aW L1 _ _ hd hh (by simpa using hl) (fun j c u hj hu=>hp j c u hj (by simpa using hu)) hc rfl bH
  exact ⟨φ1,m,.agg _ _ (by rw [l1,hl]) ho fun i x v hx hv=>r1 i x v hx (by simpa using hv)⟩
 ·obtain ⟨e,rfl,cz⟩:=jp (fun cs h=>bW ⟨cs,h⟩) ht;obtain ⟨φ1,m,r,_⟩:=mL e x v L φL AL H G φ AH y L1 a H1 hd hh hx cz hw hk
  exact ⟨φ1,m,r⟩
theorem sf: ∀(sh:List (List Sh)) (rs:List AV) (us:List Value) (L:J) (φL:ag) (H G:J) (φ :ag) (ys:List AV) (L1:J),bY w L φL AL G φ AH→GH G φ H (aG ys H).2→rs.length=us.length→
 (∀(i:Nat) (x:AV) (u:Value),rs[i]? =some x→us[i]? =some u→R w L φL AL x u)→de sh rs L=some (ys,L1)→dQ AL AH ys→
 ∃ φ1,MG w L φL AL G φ AH L1 φ1 H.bs.length (aG ys H).2.bs.length∧(aG ys H).1.length=us.length∧ ∀(i:Nat) (x:AV) (u:Value),(aG ys H).1[i]? =some x→us[i]? =some u→R w G φ1 AH x u
 |sh,[],us,L,φL,H,G,φ,ys,L1,hd,hh,hl,hr,ht,hk=>by
  simp only [de,Option.some.injEq,Prod.mk.injEq] at ht;obtain ⟨rfl,rfl⟩:=ht;exact ⟨φ,.refl hd _,hl,by simp [aG]⟩
 |sh,x::rs,u::us,L,φL,H,G,φ,ys,L1,hd,hh,hl,hr,ht,hk=>by
  simp only [de] at ht;split at ht
  rotate_left
  ·simp at ht
  rename_i y L' h1
  split at ht
  rotate_left
  ·simp at ht
  rename_i aU c9 h2
  simp only [Option.some.injEq,Prod.mk.injEq] at ht;obtain ⟨rfl,rfl⟩:=ht;obtain ⟨k1,k2⟩:=hk.cons;obtain ⟨φ1,m1,r1⟩:=zk (y:=y) (H:=H) hd (hh.fst (H1:=(aF y H).2) (iP aU (aF y H).2)) (hr 0 x u rfl rfl) h1 rfl k1
  obtain ⟨bf,m2,l2,r2⟩:=sf sh.tail rs us L' (aE φL L') (aF y H).2 G φ1 aU c9 m1.bz (hh.snd m1) (by simpa using hl) (fun i x u hx hu=>(hr (i+1) x u hx hu).mono (c5 m1.less)) h2 k2
  refine ⟨bf,m1.trans m2,by simp [aG,l2],fun i x' u' hx hu=> ?_⟩
  cases i with
  |zero=>simp [aG] at hx hu;subst hx;subst hu;exact r1.mono m2.eh
  |succ i=>simp only [aG,List.getElem?_cons_succ] at hx hu;exact r2 i x' u' hx hu
 |sh,x::rs,[],L,φL,H,G,φ,ys,L1,hd,hh,hl,hr,ht,hk=>by simp at hl
end bz
theorem mM {H G:J} (h:bd H G): ∀(n:Nat) (x y:AV),aP n H x=some y→aP n G x=some y
 |0,x,y,hs=>by simp [aP] at hs
 |n+1,x,y,hs=>by
  have hm: ∀(xs ys:List AV),xs.mapM (aP n H)=some ys→xs.mapM (aP n G)=some ys:=by
   intro xs;induction xs with
   |nil=>intro ys h;simpa using h
   |cons z xs ih=>
    intro ys hy;simp only [List.mapM_cons,Option.bind_eq_bind,Option.bind_eq_some_iff,Option.pure_def,Option.some.injEq] at hy⊢;obtain ⟨a,h1,b,h2,h3⟩:=hy;exact ⟨a,mM h n z a h1,b,ih b h2,h3⟩
  cases x with
  |agg cs=>
   simp only [aP,Option.map_eq_some_iff] at hs⊢;obtain ⟨ys,h1,h2⟩:=hs;exact ⟨ys,hm _ _ h1,h2⟩
  |fn f cs=>
   simp only [aP,Option.map_eq_some_iff] at hs⊢;obtain ⟨ys,h1,h2⟩:=hs;exact ⟨ys,hm _ _ h1,h2⟩
  |ref id ad off len=>
   simp only [aP] at hs⊢;split at hs
   ·rename_i b hb;rw [h.ap hb];simp only;split at hs
    ·rename_i hle;rw [if_pos hle];simp only [Option.map_eq_some_iff] at hs⊢;obtain ⟨ys,h1,h2⟩:=hs;exact ⟨ys,hm _ _ h1,h2⟩
    ·simp at hs
   ·simp at hs
  |ptr id ad idx off=>
   simp only [aP] at hs⊢;split at hs
   ·rename_i b hb;rw [h.ap hb];simp only;split at hs
    ·rename_i z hz;simp only [Option.map_eq_some_iff] at hs⊢;obtain ⟨y',h1,h2⟩:=hs;exact ⟨y',mM h n z y' h1,h2⟩
    ·simp at hs
   ·simp at hs
  |_=>first|(simpa only [aP] using hs)|(simp [aP] at hs;done)
theorem ke {H G:J} (h:bd H G): ∀(ms:List Mode) (as ys:List AV) (b:Bool),cc ms as H=some (ys,b)→cc ms as G=some (ys,b)
 |ms,[],ys,b,hp=>by cases ms<;>simpa only [cc] using hp
 |[],a::as,ys,b,hp=>by
  simp only [cc] at hp⊢;split at hp
  ·rename_i y hy;split at hp
   ·rename_i aU b' cx
    rw [mM h 8 a y hy,ke h [] as aU b' cx]
    exact hp
   ·simp at hp
  ·simp at hp
 |m::ms,a::as,ys,b,hp=>by
  have other:(match cc ms as H with|some (ys,b)=>some (a::ys,b)|none=>none)=some (ys,b)→(match cc ms as G with|some (ys,b)=>some (a::ys,b)|none=>none)=some (ys,b):=by
   intro hp;split at hp
   ·rename_i aU b' cx
    rw [ke h ms as aU b' cx]
    exact hp
   ·simp at hp
  cases m with
  |val=>
   simp only [cc] at hp⊢;split at hp
   ·rename_i y hy;split at hp
    ·rename_i aU b' cx
     rw [mM h 8 a y hy,ke h ms as aU b' cx]
     exact hp
    ·simp at hp
   ·simp at hp
  |eP=>
   simp only [cc] at hp⊢;split at hp
   ·rename_i aU b' cx
    rw [ke h ms as aU b' cx]
    exact hp
   ·simp at hp
  |io=>
   simp only [cc] at hp⊢;split at hp
   ·rename_i aU b' cx
    rw [ke h ms as aU b' cx]
    exact hp
   ·simp at hp
def zl (w:World) (G:J) (φ :ag) (A:ah) (H H' :J) (x:AV) (e:Ending) (w' :World):Prop:=
 match e with
 | .returned v' => ∃ak A',Out w G φ A w' G ak A' ∧R w' G ak A' x v' ∧ ∀id loc,ak id=some loc→ φ id=some loc∨(H.bs.length≤id∧id<H'.bs.length)
 |_=>False
theorem zm {P:Program} {C:aH} {X:br} (hX: ∀f ys H K,X f ys H K→cb P f ys H K) {w:World} {G:J} {φ :ag} {A:ah} (ae:St w G φ A) {H H' :J} (hg:bd H G) (hh:GH G φ H H') {f:FuncId} {as:List AV} {us:Array Value} (hl:as.length=us.size)
 (hr: ∀(i:Nat) (x:AV) (u:Value),as[i]? =some x→us[i]? =some u→R w G φ A x u) {th:Bool} {x:AV} (h:dq X C f as th H (fun v1 H1=>v1=x∧H1=H')):gI P f∧Calls P f us w (zl w G φ A H H' x):=by
 unfold dq at h;split at h
 ·exact h.elim
 rename_i ys bV hy;obtain ⟨y,lg,hZ,hp⟩:=h;have hm:mD []:=fun m hm=>by simp at hm
 have po:bY w G φ A ⟨0,[]⟩ (fun _=>none) A:=by
  refine ⟨ae,⟨fun i i' c b b' h=>by simp at h,fun c hc=> ?_,ae.bX,fun id loc h=>by simp at h⟩,fun c _ hc=> ?_,ae.own⟩
  ·obtain ⟨i,b,h⟩:=hc;simp at h
  ·obtain ⟨i,b,h⟩:=hc;simp at h
 have pq:cd [] ys ⟨0,[]⟩=(ys,⟨0,[]⟩):=pk _ _ _ hy _;obtain ⟨aD,m,cA,dR⟩:=my as [] [] us.toList G φ as G ys bV ⟨0,[]⟩ (fun _=>none) ys ⟨0,[]⟩ po (by simpa using hl) (fun i x u hx hu=>hr i x u hx (by simpa using hu)) (ph _ _ _ _ hm) (ke hg _ _ _ _ hy) pq
 have bw: ∀c,¬Ow aD c:=fun c hc=>by
  rcases m.oh c hc with ⟨i,b,h⟩|⟨h1,h2⟩
  ·simp at h
  ·rw [ka ae] at h2;exact h2 h1
 let A0:ah:=if bV=true then Ow aD else A
 have jr: ∀c,A0 c→A c:=by
  intro c hc;simp only [A0] at hc;split at hc
  ·exact absurd hc (bw c)
  ·exact hc
 have pr:bV=true→ ∀c,A0 c→fA (aE φ G) A c:=by
  intro ax c hc;simp only [A0,ax,if_true] at hc;exact absurd hc (bw c)
 have cU:St w ⟨0,[]⟩ aD A0:=m.bz.sh.shrink jr (fun c hc=>absurd hc (bw c));have eZ:ys.length=us.size:=by simpa using cA.1
 refine ⟨(hX _ _ _ _ lg).1,((hX _ _ _ _ lg).2 w A0 aD us cU eZ (fun i x u hx hu=>cA.2 A0 jr pr i x u hx (by simpa using hu))).mono fun e w' he=> ?_⟩
 cases e with
 |panicked c=>exact he.elim
 |outgrown=>exact he.elim
 |returned v' =>
 obtain ⟨x0,L,ak,A',ho,pu,rs,gG,L2,rfl,lh,rfl⟩:=he;obtain ⟨cF,rfl,eL,hM⟩:=rP pu
 let AH:ah:=if bV=true then fun c=>A c∨(A' c∧w.heap.size≤c) else A'
 have jt: ∀c,Ow ak c→w.heap.size≤c:=fun c hc=>(ho.post.own c hc).resolve_left (bw c)
 have ha:pa w A aD w' ak AH:=by
  refine ⟨fun c hc hn=> ?_,fun c hc=> ?_,fun c hc=> ?_,fun c arr T fr hc hn=> ?_⟩
  ·simp only [AH];split
   ·exact .inl hc
   ·rename_i ax;refine ho.keep c ?_ hn;simp only [A0,ax];exact hc
  ·simp only [AH];split
   ·exact .inr ⟨ho.st.own c hc,jt c hc⟩
   ·exact ho.st.own c hc
  ·simp only [AH] at hc;split at hc
   ·rcases hc with h|⟨h,_⟩
    ·exact Nat.lt_of_lt_of_le (ae.bX c h) ho.post.size
    ·exact ho.st.bX c h
   ·exact ho.st.bX c hc
  ·obtain ⟨h1,h2⟩:=ho.bQ.fz c arr T fr hc (fun h=>hn (jr c h));refine ⟨h1,?_⟩;simp only [AH];split
   ·rintro (h|⟨_,h⟩)
    ·exact hn h
    ·have:c<w.heap.size:=by
      rcases Nat.lt_or_ge c w.heap.size with h' |h'
      ·exact h'
      ·rw [Array.getElem?_eq_none h'] at hc;simp at hc
     omega
   ·exact h2
 obtain ⟨D,E⟩:=rF (ls:=[]) (Lm:=L) ae m (by rw [hl,eZ]) dR ho ha (by simp [fi])
 rw [pj _ _ _ _ hm,ka ae] at D E;have pv:dQ A' AH gG:=by
  cases ax:bV with
  |false=>exact .inl fun c h=>by simpa [AH,ax] using h
  |true=>
   rcases hZ with h|h
   ·rw [ax] at h;simp at h
   ·rw [rO] at h;exact .inr h
 have ju: ∀(i:Nat) (x:AV) (u:Value),rs[i]? =some x→cF[i]? =some u→R w' L (aE ak L) A' x u:=fun i x u hx hu=>by
  rw [ka ho.st];exact hM i x u hx hu
 have fm: ∀{cV:ag},(∀c,Ow cV c→Ow φ c∨Ow ak c)→fj w φ w' cV:=fun hq=>
  ⟨ho.post.os,ho.post.tape,ho.post.output,ho.post.size,fun c hc _=>ho.post.kept c hc (bw c),ho.post.a8,fun c hc=>by
   rcases hq c hc with h|h
   ·exact .inl h
   ·exact .inr (jt c h)⟩
 have jv: ∀c,A c→ ¬Ow φ c→AH c:=fun c hc _=>ha.own c hc (bw c);have cf: ∀c,Ow φ c→a8 w' c=a8 w c:=fun c hc=>ho.post.a8 c (Ow.lt ae hc)
 cases fV:(th||bV) with
 |true=>
  rw [fV] at hp;simp only [if_true,rM] at hp;obtain ⟨rfl,rfl⟩:=hp;obtain ⟨cV,m3,l3,r3⟩:=sf _ rs cF L _ H G φ gG L2 D hh eL ju lh pv
  refine ⟨cV,AH,⟨m3.bz.sh,fm fun c hc=> ?_,E.trans m3.eh cf,jv⟩,pg l3 r3,m3.new⟩;rcases m3.oh c hc with h|⟨h,_⟩
  ·exact .inl h
  ·exact .inr (bL h)
 |false=>
  rw [fV] at hp;simp only [Bool.false_eq_true,if_false,rN] at hp;obtain ⟨rfl,rfl⟩:=hp;simp only [Bool.or_eq_false_iff] at fV;have pw:AH=A' :=by simp [AH,fV.2]
  rw [pw] at D E jv
  let A2:ah:=gone (aE ak L) A' L2
  obtain ⟨l3,r3⟩:=pf (A' :=A2) _ rs cF L (aE ak L) gG L2 D.sl eL ju lh (fun c h=>h)
  have px: ∀c,Ow φ c→A2 c:=fun c hc=>⟨D.sh.own c hc,fun h=>absurd hc (D.b_ c h)⟩;have py:bI w G φ A w' G φ A2:=⟨fun c arr T fr hc hn=>⟨(E.fz c arr T fr hc hn).1,fun h2=>(E.fz c arr T fr hc hn).2 h2.1⟩,E.st,E.ids,E.sz⟩
  refine ⟨φ,A2,⟨D.sh.shrink (fun c h=>h.1) px,fm fun c hc=> .inl hc,py,fun c hc hn=>⟨jv c hc hn,fun h=> ?_⟩⟩,.fr _ _ (rL l3 r3),fun id loc h=> .inl h⟩;have:=jt c (bL h)
  have:=ae.bX c hc;omega
end Go.VS
namespace Go.VS
def zn (H H1:J):Prop:= ∀id b,H1.get id=some b→b.ad<H.st→H.get id=some b
def QG (H H1:J):Prop:=fC H H1∧zn H H1
theorem QG.refl (H:J):QG H H:=⟨.refl _,fun _ _ h _=>h⟩
theorem QG.trans {H H1 H2:J} (h:QG H H1) (k:QG H1 H2):QG H H2:=
 ⟨h.1.trans k.1,fun id b hb hv=>h.2 id b (k.2 id b hb (Nat.lt_of_lt_of_le hv h.1.1.2)) hv⟩
theorem QG.of {H H' :J} (h:H' =H∨ ∃sz fx el,H' =H.new sz fx el):QG H H' :=by
 obtain ⟨h1,h2,h3⟩:=J.jl h;exact ⟨⟨h1,h3⟩,h2⟩
theorem QG.new (H:J) (sz:Nat) (fx:Bool) (el:List AV):QG H (H.new sz fx el):= .of (.inr ⟨_,_,_,rfl⟩)
mutual
theorem pI: ∀(y:AV) (H:J),QG H (aF y H).2
 | .own sz xs,H=>by simp only [aF];exact (mN xs H).trans (.new _ _ _ _)
 | .dm sz x,H=>by simp only [aF];exact (pI x H).trans (.new _ _ _ _)
 | .agg xs,H=>by simp only [aF];exact mN xs H
 | .az xs,H=>by simp only [aF];exact mN xs H
 | .undef,H=> .refl _
 | .int _ _,H=> .refl _
 | .bool _,H=> .refl _
 | .str _,H=> .refl _
 | .nil,H=> .refl _
 | .e0,H=> .refl _
 | .fz _,H=> .refl _
 | .ref _ _ _ _,H=> .refl _
 | .ptr _ _ _ _,H=> .refl _
 | .fe _ _,H=> .refl _
 | .fn _ _,H=> .refl _
 | .ck _,H=> .refl _
 | .dy,H=> .refl _
theorem mN: ∀(ys:List AV) (H:J),QG H (aG ys H).2
 |[],H=> .refl _
 |y::ys,H=>by simp only [aG];exact (pI y H).trans (mN ys _)
end
section ops
variable {P:Program} {E:aI} (hE: ∀t ti,E t=some ti→aS P t ti)
variable {w:World} {G:J} {φ :ag} {A:ah}
theorem zo {b:Builtin} {tys:Array TypeId} {args:List AV} {H H' :J} {z:AV} (hq:eR b args=true) (h:cB E b tys args H=some (z,H')):QG H H' :=by
 have zp: ∀{te:TI} {s x:AV},s= .nil∨s= .e0→ek te s x H=some (z,H')→QG H H' :=by
  intro te s x hs h;refine .of ?_;rcases hs with rfl|rfl;all_goals
   simp only [ek] at h;repeat' split at h
   all_goals first
    |(simp at h;done)
    |(simp only [Option.some.injEq,Prod.mk.injEq] at h;first|exact .inl h.2.symm|exact .inr ⟨_,_,_,h.2.symm⟩)
 unfold cB at h;split at h
 ·repeat' split at h
  all_goals first
   |(simp at h;done)
   |(simp only [Option.some.injEq,Prod.mk.injEq] at h;rw [←h.2];exact .refl _)
 ·rename_i s x;have hs:s= .nil∨s= .e0:=by
   cases s<;>first|exact .inl rfl|exact .inr rfl|(simp [eR] at hq)
  split at h
  ·split at h
   ·split at h
    ·split at h
     ·unfold jM at h;refine .of ?_;repeat' split at h
      all_goals first
       |(simp at h;done)
       |(simp only [Option.some.injEq,Prod.mk.injEq] at h;first|exact .inl h.2.symm|exact .inr ⟨_,_,_,h.2.symm⟩)
     ·simp at h
    ·exact zp hs h
   ·simp at h
  ·simp at h
 ·simp [eR] at hq
 ·simp [eR] at hq
 ·split at h
  ·simp only [Option.some.injEq,Prod.mk.injEq] at h;rw [←h.2];exact .refl _
  ·simp at h
 ·split at h
  ·simp only [Option.some.injEq,Prod.mk.injEq] at h;rw [←h.2];exact .refl _
  ·simp at h
 ·split at h
  ·split at h
   ·simp only [Option.some.injEq,Prod.mk.injEq] at h;rw [←h.2];exact .refl _
   ·simp at h
  ·simp at h
 ·simp at h
include hE in
theorem zq (ae:St w G φ A) {H H' :J} (hX:bd H G) (sg:bd H' G) (bq:H.bs.length<H'.bs.length→ φ H.bs.length=none) {b:Builtin} {tys:Array TypeId} {ty:TypeId} {consts:Array Bool} {args:List AV} {vs:Array Value} {z:AV} (hq:eR b args=true) (hl:args.length=vs.size)
 (aT: ∀(i:Nat) (a:AV) (u:Value),args[i]? =some a→vs[i]? =some u→R w G φ A a u) (h:cB E b tys args H=some (z,H')):
 bh w G φ A H H' ((builtin b tys ty consts vs).run P w) z:=by
 unfold cB at h;split at h
 ·rename_i x;obtain ⟨a,rfl⟩: ∃a,vs= #[a]:=by
   have h1:vs.size=1:=hl.symm;exact ⟨vs[0],by apply Array.ext;simp [h1];intro i h1 h2;simp at h2;subst h2;rfl⟩
  have hx:=aT 0 x a rfl rfl;split at h
  ·rename_i ti n ht hn;obtain ⟨t,h0,ht⟩:=Option.bind_eq_some_iff.1 ht;have key: ∀{q:AV×J},some q=some (z,H')→q=(AV.int .i64 n,H)→((∃e,ti.au= .sl e∧ ∀s,x≠ .str s)∨(ti.au= .str∧ ∃s,x= .str s))→bh w G φ A H H' ((builtin .len tys ty consts #[a]).run P w) z:=by
    intro q hq oM hu;subst oM;simp only [Option.some.injEq,Prod.mk.injEq] at hq;obtain ⟨rfl,rfl⟩:=hq;have:=rf (tys:=tys) (ty:=ty) hE h0 hx hX hn ht hu;exact bh.val ae (by simp [builtin,this]) (.fr _ _ (.int _ _))
   split at h
   ·rename_i s hu;exact key h rfl (.inr ⟨hu,s,rfl⟩)
   ·simp at h
   ·rename_i e hu aK;exact key h rfl (.inl ⟨e,hu,fun s hs=>aK s hs⟩)
   ·simp at h
  ·simp at h
 ·rename_i s x;obtain ⟨a,b,rfl⟩: ∃a b,vs= #[a,b]:=by
   have h1:vs.size=2:=hl.symm;exact ⟨vs[0],vs[1],by apply Array.ext;simp [h1];intro i h1 h2;simp at h2;rcases i with _|_|i;rfl;rfl;omega⟩
  have hs:=aT 0 s a rfl rfl;have hx:=aT 1 x b rfl rfl;have en:s= .nil∨s= .e0:=by
   cases s<;>first|exact .inl rfl|exact .inr rfl|(simp [eR] at hq)
  split at h
  ·rename_i t h0;split at h
   ·rename_i te tx bn cG;obtain ⟨t2,h1,cG⟩:=Option.bind_eq_some_iff.1 cG;split at h
    ·rename_i k hit;split at h
     ·exact qX hE ae sg bq h0 h1 bn cG hit hs hx h
     ·simp at h
    ·rename_i aK;exact oC hE ae hX sg bq h0 h1 bn cG (fun k hk=>aK k hk) hs hx en h
   ·simp at h
  ·simp at h
 ·simp [eR] at hq
 ·simp [eR] at hq
 ·split at h
  ·rename_i v hv;simp only [Option.some.injEq,Prod.mk.injEq] at h;obtain ⟨rfl,rfl⟩:=h;cases args with
   |nil=>simp [jO] at hv
   |cons x rest=>
    obtain ⟨a,us,dx⟩: ∃a us,vs.toList=a::us:=by
     cases eZ:vs.toList with
     |nil=>have:=congrArg List.length eZ;simp at this;simp [this] at hl
     |cons a us=>exact ⟨a,us,rfl⟩
    have hlen:rest.length=us.length:=by have:=congrArg List.length dx;simp at this;simp at hl;omega
    have bC: ∀(i:Nat) (u:Value),(a::us)[i]? =some u→vs[i]? =some u:=fun i u hu=>by rw [←dx] at hu;simpa using hu
    obtain ⟨u,hu,hz⟩:=kY (P:=P) (op:=Builtin.min2) (f:=fun a b=>match a,b with| .int k x,.int _ y=>some (.int k (if y<x then y else x))|_,_=>none) (fun a b x y z ha hb hf=>by
     split at hf
     ·have e1:=ha.cr;have e2:=hb.cr;subst e1;subst e2;simp only [Option.some.injEq] at hf;subst hf;exact ⟨_,by simp [Builtin.min2],.fr _ _ (.int _ _)⟩
     ·simp at hf) rest us x a v hlen (fun i p q hp hq=>aT (i+1) p q hp (bC (i+1) q hq)) (aT 0 x a rfl (bC 0 a rfl)) hv
    exact bh.val ae (by simp [builtin,Builtin.min_,dx,hu]) hz
  ·simp at h
 ·split at h
  ·rename_i v hv;simp only [Option.some.injEq,Prod.mk.injEq] at h;obtain ⟨rfl,rfl⟩:=h;cases args with
   |nil=>simp [jP] at hv
   |cons x rest=>
    obtain ⟨a,us,dx⟩: ∃a us,vs.toList=a::us:=by
     cases eZ:vs.toList with
     |nil=>have:=congrArg List.length eZ;simp at this;simp [this] at hl
     |cons a us=>exact ⟨a,us,rfl⟩
    have hlen:rest.length=us.length:=by have:=congrArg List.length dx;simp at this;simp at hl;omega
    have bC: ∀(i:Nat) (u:Value),(a::us)[i]? =some u→vs[i]? =some u:=fun i u hu=>by rw [←dx] at hu;simpa using hu
    obtain ⟨u,hu,hz⟩:=kY (P:=P) (op:=Builtin.max2) (f:=fun a b=>match a,b with| .int k x,.int _ y=>some (.int k (if y>x then y else x))|_,_=>none) (fun a b x y z ha hb hf=>by
     split at hf
     ·have e1:=ha.cr;have e2:=hb.cr;subst e1;subst e2;simp only [Option.some.injEq] at hf;subst hf;exact ⟨_,by simp [Builtin.max2],.fr _ _ (.int _ _)⟩
     ·simp at hf) rest us x a v hlen (fun i p q hp hq=>aT (i+1) p q hp (bC (i+1) q hq)) (aT 0 x a rfl (bC 0 a rfl)) hv
    exact bh.val ae (by simp [builtin,Builtin.max_,dx,hu]) hz
  ·simp at h
 ·obtain ⟨a,rfl⟩: ∃a,vs= #[a]:=by
   have h1:vs.size=1:=hl.symm;exact ⟨vs[0],by apply Array.ext;simp [h1];intro i h1 h2;simp at h2;subst h2;rfl⟩
  have hx:=(aT 0 .nil a rfl rfl).c8;subst hx;split at h
  ·rename_i ti ht;obtain ⟨t,h0,ht⟩:=Option.bind_eq_some_iff.1 ht;split at h
   ·rename_i e hu;simp only [Option.some.injEq,Prod.mk.injEq] at h;obtain ⟨rfl,rfl⟩:=h;have hc:(Builtin.cap_ tys ty #[.slice none 0 0]).run P w= .ok (.int .i64 0) w:=by
     unfold Builtin.cap_;simp only [h0,List.getElem?_toArray,List.getElem?_cons_zero,Sem.run_bind,(hE _ _ ht).sl w hu,Result.andThen_ok];rfl
    exact bh.val ae (by simp [builtin,hc]) (.fr _ _ (.int _ _))
   ·simp at h
  ·simp at h
 ·simp at h
end ops
section step
variable {P:Program} {C:aH} {X:br} {w:World} {G:J} {φ :ag} {A:ah}
theorem bh.upon {H H' :J} {r:Result Next} {x:AV} (h:bh w G φ A H H' r x) {o:Oper} {a:Act} {next:Act→World→Prop} {Q:Exit→Act→World→Prop}
 (hn: ∀v w' ak A',Out w G φ A w' G ak A' →R w' G ak A' x v→(∀id loc,ak id=some loc→ φ id=some loc∨(H.bs.length≤id∧id<H'.bs.length))→next (a.put o.dst v) w'):o.upon P a next Q r:=by
 obtain ⟨n,v,w',ak,A',rfl,hv,hr,ho,hi⟩:=h;rcases hv with rfl|⟨rfl,rfl⟩
 ·exact hn v w' ak A' ho hr hi
 ·exact hn _ w' ak A' ho hr hi
theorem kf (hE: ∀t ti,C.E t=some ti→aS P t ti) (hX: ∀f ys H K,X f ys H K→cb P f ys H K) (ae:St w G φ A) {o:Oper} {s:aj} {a:Act} (hs: ∀x∈o.op.operands,R w G φ A (ev s x) (a.eval x)) {th:Bool} {H H' :J} {x:AV} (hg:bd H G) (hh:GH G φ H H')
 (h:wpOp X C true th o s H (fun v1 H1=>v1=x∧H1=H')) {next:Act→World→Prop} {Q:Exit→Act→World→Prop}
 (hn: ∀v w' ak A',Out w G φ A w' G ak A' →R w' G ak A' x v→(∀id loc,ak id=some loc→ φ id=some loc∨(H.bs.length≤id∧id<H'.bs.length))→next (a.put o.dst v) w'):o.wp P a w next Q:=by
 have bq:H.bs.length<H'.bs.length→ φ H.bs.length=none:=fun ax=>hh.none _ (Nat.le_refl _) ax;have li:dI o.op=true→(match aM C.E o.op s H with|some (v,H1)=>v=x∧H1=H' |none=>False)→o.wp P a w next Q:=by
  intro hq jw;split at jw
  ·rename_i v H1 he;obtain ⟨rfl,rfl⟩:=jw;exact (q0 hE ae hg hh.ext bq hq hs he).upon hn
  ·exact jw.elim
 unfold wpOp at h;split at h
 ·rename_i b args tys a_;obtain ⟨hq,h⟩:=h;have hq:=hq rfl;split at h
  ·rename_i v H1 he;obtain ⟨rfl,rfl⟩:=h;obtain ⟨consts,cQ⟩:=rR (P:=P) (w:=w) (ρ :=a.eval) a_;have:=zq hE ae hg hh.ext bq (ty:=o.type) (consts:=consts) (vs:=args.map a.eval) hq (by simp) (fun i x u hx hu=>by
    simp only [List.getElem?_map,Option.map_eq_some_iff] at hx;obtain ⟨y,hy,rfl⟩:=hx;simp only [Array.getElem?_map,Option.map_eq_some_iff] at hu;obtain ⟨y',ep,rfl⟩:=hu;have:y' =y:=by simp at hy;rw [hy] at ep;simpa using ep.symm
    subst this;exact hs y' (by rw [a_];simp only [Op.operands,Call.operands];simp [Array.mem_of_getElem? ep])) he
   rw [←cQ] at this;exact this.upon hn
  ·exact h.elim
 ·rename_i y args tys a_;split at h
  ·rename_i g bT cE;simp only [if_true] at h;have hx:=hs y (by rw [a_];simp [Op.operands,Call.operands])
   rw [cE] at hx;obtain ⟨vs,hv,hl,hp⟩:=hx.kF;have hc:=zm hX ae hg hh (us:=args.map a.eval ++ vs) (by simp [hl]) (fun i y u hy hu=>by
    rcases Nat.lt_or_ge i args.size with hi|hi
    ·rw [List.getElem?_append_left (by simpa using hi)] at hy
     rw [Array.getElem?_append_left (by simpa using hi)] at hu
     simp only [List.getElem?_map,Option.map_eq_some_iff] at hy;obtain ⟨z,hz,rfl⟩:=hy;simp only [Array.getElem?_map,Option.map_eq_some_iff] at hu;obtain ⟨z',dL,rfl⟩:=hu;have:z' =z:=by simp at hz;rw [hz] at dL;simpa using dL.symm
     subst this;exact hs z' (by rw [a_];simp only [Op.operands,Call.operands];simp [Array.mem_of_getElem? dL])
    ·rw [List.getElem?_append_right (by simpa using hi)] at hy
     rw [Array.getElem?_append_right (by simpa using hi)] at hu
     exact hp _ y u (by simpa using hy) (by simpa using hu)) h
   unfold Oper.wp;rw [rQ a_ hv hc.1,Oper.upon_enter];refine hc.2.mono fun e w' he=> ?_
   cases e with
   |returned v' =>
    obtain ⟨ak,A',h1,h2,h3⟩:=he;exact hn v' w' ak A' h1 h2 h3
   |panicked c=>exact he.elim
   |outgrown=>exact he.elim
  ·exact h.elim
 ·exact li (h.1 rfl) h.2
theorem zr {o:Oper} {s:aj} {th:Bool} {H H' :J} {x:AV} (h:wpOp X C true th o s H (fun v1 H1=>v1=x∧H1=H')):QG H H' :=by
 have li:dI o.op=true→(match aM C.E o.op s H with|some (v,H1)=>v=x∧H1=H' |none=>False)→QG H H' :=by
  intro hq jw;split at jw
  ·rename_i v H1 he;obtain ⟨rfl,rfl⟩:=jw;exact .of (rh hq he)
  ·exact jw.elim
 unfold wpOp at h;split at h
 ·obtain ⟨hq,h⟩:=h;split at h
  ·rename_i v H1 he;obtain ⟨rfl,rfl⟩:=h;exact zo (hq rfl) he
  ·exact h.elim
 ·split at h
  ·rename_i g bT cE;simp only [if_true] at h;unfold dq at h;split at h
   ·exact h.elim
   obtain ⟨y,_,_,hp⟩:=h;split at hp
   ·obtain ⟨_,rfl⟩:=hp;exact pI _ _
   ·obtain ⟨_,rfl⟩:=hp;exact .refl _
  ·exact h.elim
 ·exact li (h.1 rfl) h.2
end step
end Go.VS
namespace Go.VS
section tr
variable {C:aH} {X:br}
theorem lp (dj:Exact X) {q th:Bool} {o:Oper} {s:aj} {H:J} {K:AV→J→Prop} (h:wpOp X C q th o s H K): ∃v H',wpOp X C q th o s H (fun v1 H1=>v1=v∧H1=H')∧K v H' :=by
 unfold wpOp at h⊢;split at h
 ·rename_i b args tys a_;obtain ⟨hq,h⟩:=h;split at h
  ·rename_i v H' he
   refine ⟨v,H',?_,h⟩;first
    |exact ⟨hq,rfl,rfl⟩
    |(simp only [a_];exact ⟨hq,trivial,trivial⟩)
    |(simp only [a_,he];exact ⟨hq,trivial,trivial⟩)
  ·exact h.elim
 ·rename_i x args tys a_;split at h
  ·rename_i g bT hg;have hQ:dq X C g (args.toList.map (ev s) ++ bT) th H K→ ∃v H',dq X C g (args.toList.map (ev s) ++ bT) th H (fun v1 H1=>v1=v∧H1=H')∧K v H' :=by
    intro h;unfold dq at h⊢;split at h
    ·exact h.elim
    rename_i ys bV hy;obtain ⟨y,h1,h2,h3⟩:=h;split at h3
    ·rename_i ht;refine ⟨_,_,⟨y,h1,h2,?_⟩,h3⟩;simp only [ht,if_true];exact ⟨trivial,trivial⟩
    ·rename_i ht;refine ⟨_,_,⟨y,h1,h2,?_⟩,h3⟩;simp only [ht];exact ⟨trivial,trivial⟩
   have key: ∃v H',(if q then dq X C g (args.toList.map (ev s) ++ bT) th H (fun v1 H1=>v1=v∧H1=H') else X g (args.toList.map (ev s) ++ bT) H (fun v1 H1=>v1=v∧H1=H')∨dq X C g (args.toList.map (ev s) ++ bT) th H (fun v1 H1=>v1=v∧H1=H'))∧K v H' :=by
    cases q with
    |false=>
     simp only [Bool.false_eq_true,if_false] at h⊢;rcases h with h|h
     ·obtain ⟨v,H',h1,h2⟩:=dj _ _ _ _ h;exact ⟨v,H',.inl h1,h2⟩
     ·obtain ⟨v,H',h1,h2⟩:=hQ h;exact ⟨v,H',.inr h1,h2⟩
    |true=>
     simp only [if_true] at h⊢;exact hQ h
   obtain ⟨v,H',k1,k2⟩:=key;refine ⟨v,H',?_,k2⟩;first
    |exact k1
    |(simp only [a_,hg];exact k1)
  ·exact h.elim
 ·rename_i op l_ BW;obtain ⟨hq,h⟩:=h;split at h
  ·rename_i v H' he
   refine ⟨v,H',?_,h⟩;exact ⟨hq,rfl,rfl⟩
  ·exact h.elim
theorem mO (C:aH) (ops:Array Oper) (s:aj) (H:J) (K:Prop): ∀(l:List Nat),ff C ops s H K l→(∀j∈l,jR C ops s H j)∧K
 |[],h=>⟨by simp,h⟩
 |j::js,h=>by
  obtain ⟨h1,h2⟩:=h;obtain ⟨k1,k2⟩:=mO C ops s H K js h2;refine ⟨fun i hi=> ?_,k2⟩;rcases List.mem_cons.1 hi with rfl|hi
  ·exact h1
  ·exact k1 i hi
structure Tr (X:br) (C:aH) (ops:Array Oper) (q:Nat→Bool) (late:Nat→List Nat) (th:List Nat) (K:aj→J→Prop) (l:List Oper) (k:Nat) (s:Nat→aj) (H:Nat→J) (v:Nat→AV) (act:Nat→Bool):Prop where
 step: ∀i o,l[i]? =some o→s (i+1)=bm (s i) o.dst (v i)∧dr ops o (s i)=some (act i)∧(act i=true→wpOp X C (q (k+i)) (th.contains (k+i)) o (s i) (H i) (fun v1 H1=>v1=v i∧H1=H (i+1)))∧
  (act i=false→v i= .az []∧H (i+1)=H i)∧ ∀j∈late (k+i),jR C ops (s (i+1)) (H (i+1)) j
 fin:K (s l.length) (H l.length)
theorem si (dj:Exact X) {ops:Array Oper} {q:Nat→Bool} {late:Nat→List Nat} {th:List Nat} {K:aj→J→Prop}: ∀(l:List Oper) (k:Nat) (s0:aj) (H0:J),cY X C ops q late th K l k s0 H0→
 ∃s H v act,s 0=s0∧H 0=H0∧Tr X C ops q late th K l k s H v act
 |[],k,s0,H0,h=>⟨fun _=>s0,fun _=>H0,fun _=> .undef,fun _=>true,rfl,rfl,⟨by simp,h⟩⟩
 |o::l,k,s0,H0,h=>by
  have key: ∃v0 H1 a0,dr ops o s0=some a0∧(a0=true→wpOp X C (q k) (th.contains k) o s0 H0 (fun v1 H' =>v1=v0∧H' =H1))∧(a0=false→v0= .az []∧H1=H0)∧(∀j∈late k,jR C ops (bm s0 o.dst v0) H1 j)∧
   cY X C ops q late th K l (k+1) (bm s0 o.dst v0) H1:=by
   simp only [cY] at h;cases hg:o.guard with
   |none=>
    rw [hg] at h;obtain ⟨v,H',h1,h2⟩:=lp dj h;obtain ⟨k1,k2⟩:=mO _ _ _ _ _ _ h2;exact ⟨v,H',true,by simp [dr,hg],fun _=>h1,fun h=>by simp at h,k1,k2⟩
   |some p=>
    rw [hg] at h;obtain ⟨v,H',h1,h2⟩:=h;obtain ⟨k1,k2⟩:=mO _ _ _ _ _ _ h2;split at h1
    ·rename_i b hb;cases b with
     |true=>exact ⟨v,H',true,hb,fun _=>by simpa using h1,fun h=>by simp at h,k1,k2⟩
     |false=>exact ⟨v,H',false,hb,fun h=>by simp at h,fun _=>by simpa using h1,k1,k2⟩
    ·exact h1.elim
  obtain ⟨v0,H1,a0,g1,g2,g3,g4,g5⟩:=key;obtain ⟨s,H,v,act,e1,e2,t⟩:=si dj l (k+1) _ _ g5;refine ⟨fun i=>match i with|0=>s0|i+1=>s i,fun i=>match i with|0=>H0|i+1=>H i,fun i=>match i with|0=>v0|i+1=>v i,fun i=>match i with|0=>a0|i+1=>act i,rfl,rfl,⟨fun i o' hi=> ?_,t.fin⟩⟩
  cases i with
  |zero=>
   simp only [List.getElem?_cons_zero,Option.some.injEq] at hi;subst hi;simp only [Nat.add_zero,e1,e2];exact ⟨trivial,g1,g2,g3,g4⟩
  |succ i=>
   have:=t.step i o' (by simpa using hi)
   rw [show k+1+i=k+(i+1) by omega] at this
   exact this
end tr
theorem sj (bs:Edge→Bool) (acc:List Nat) (j:Nat): ∀(l:List Edge) (m0:Nat),(l.foldl (fun m e=>if bs e then m|||2^e.on|||acc.getD e.on 0 else m) m0).testBit j=true→m0.testBit j=true∨ ∃e∈l,bs e=true∧(e.on=j∨(acc.getD e.on 0).testBit j=true)
 |[],m0,h=> .inl h
 |e::l,m0,h=>by
  simp only [List.foldl_cons] at h;rcases sj bs acc j l _ h with h|⟨e',h1,h2⟩
  ·split at h
   ·rename_i hb;simp only [Nat.testBit_or,Nat.testBit_two_pow,Bool.or_eq_true,decide_eq_true_eq] at h;rcases h with (h|h)|h
    ·exact .inl h
    ·exact .inr ⟨e,by simp,hb,.inl h⟩
    ·exact .inr ⟨e,by simp,hb,.inr h⟩
   ·exact .inl h
  ·exact .inr ⟨e',by simp [h1],h2⟩
theorem sk: ∀(os:List Oper) (acc:List Nat),(gu os acc).length=acc.length+os.length∧(∀i,i<acc.length→(gu os acc).getD i 0=acc.getD i 0)∧
 ∀i o,os[i]? =some o→ ∀j,((gu os acc).getD (acc.length+i) 0).testBit j=true→ ∃e∈o.after.toList,Region.binds .any e=true∧(e.on=j∨(e.on<acc.length+i∧((gu os acc).getD e.on 0).testBit j=true))
 |[],acc=>⟨by simp [gu],by simp [gu],by simp⟩
 |o::os,acc=>by
  obtain ⟨h1,h2,h3⟩:=sk os (acc ++ [o.after.toList.foldl (fun m e=>if Region.binds .any e then m|||2^e.on|||acc.getD e.on 0 else m) 0]);simp only [gu];have hold: ∀i,i<acc.length→(gu os (acc ++ [o.after.toList.foldl (fun m e=>if Region.binds .any e then m|||2^e.on|||acc.getD e.on 0 else m) 0])).getD i 0=acc.getD i 0:=by
   intro i hi;rw [h2 i (by simp;omega)]
   simp [List.getD,List.getElem?_append_left hi]
  refine ⟨by rw [h1];simp;omega,hold,fun i o' ho j hj=> ?_⟩
  cases i with
  |zero=>
   simp only [List.getElem?_cons_zero,Option.some.injEq] at ho;subst ho;rw [Nat.add_zero,h2 _ (by simp)] at hj
   simp only [List.getD,List.getElem?_append_right (Nat.le_refl _),Nat.sub_self,List.getElem?_cons_zero,Option.getD_some] at hj;rcases sj (Region.binds .any) acc j _ _ hj with h|⟨e,q1,q2,q3⟩
   ·simp at h
   ·refine ⟨e,q1,q2,?_⟩;rcases q3 with q3|q3
    ·exact .inl q3
    ·have ax:e.on<acc.length:=by
      rcases Nat.lt_or_ge e.on acc.length with h|h
      ·exact h
      ·rw [List.getD,List.getElem?_eq_none h] at q3;simp at q3
     exact .inr ⟨by omega,by rw [hold _ ax];exact q3⟩
  |succ i=>
   simp only [List.length_append,List.length_singleton] at h3;have:=h3 i o' (by simpa using ho) j (by rw [show acc.length+1+i=acc.length+(i+1) by omega];exact hj)
   obtain ⟨e,q1,q2,q3⟩:=this;refine ⟨e,q1,q2,?_⟩;rcases q3 with q3|⟨q3,q4⟩
   ·exact .inl q3
   ·exact .inr ⟨by omega,q4⟩
def sm (ops:Array Oper) (L:Nat→Prop):Prop:= ∀i o,ops[i]? =some o→L i→ ∀e∈o.after,Region.binds .any e=true→L e.on
theorem mP {ops:Array Oper} {L:Nat→Prop} (hs:sm ops L) (ax: ∀i o,ops[i]? =some o→ ∀e∈o.after,Region.binds .any e=true→e.on<i):
 ∀(i:Nat) (o:Oper),ops[i]? =some o→(∀e∈o.after,Region.binds .any e=true→L e.on)→ ∀j,((fg ops.toList).getD i 0).testBit j=true→L j:=by
 intro i;induction i using Nat.strongRecOn with
 |_ i ih=>
  intro o ho ha j hj;have:=(sk ops.toList []).2.2 i o (by simpa using ho) j (by simpa [fg] using hj)
  obtain ⟨e,q1,q2,q3⟩:=this;have sn:=ha e (by simpa using q1) q2
  rcases q3 with rfl|⟨_,q4⟩
  ·exact sn
  ·have zt:=ax i o ho e (by simpa using q1) q2
   have hi:i<ops.size:=(Array.getElem?_eq_some_iff.1 ho).1;have so:=Array.getElem?_eq_getElem (xs:=ops) (show e.on<ops.size by omega)
   exact ih e.on zt _ so (hs e.on _ so sn) j q4
end Go.VS
