import Derived.Test.YtmmomohapflagaaVaB
import Derived.Tactics
import Derived.Laws.Sem
namespace Go.VS
section bn
variable {w:World} {A:ah}
theorem qT {m:Mode} {sh:List Sh} {v:AV} {H:J} {y:AV} {H1:J} (h:eX m sh v H=some (y,H1)):bu H H1:=by
 cases m with
 |val=>simp only [eX,Option.some.injEq,Prod.mk.injEq] at h;obtain ⟨_,rfl⟩:=h;exact .refl _
 |eG=>exact fo sh v H y H1 h
 |io=>
  cases v<;>simp only [eX] at h
  case nil=>simp only [Option.some.injEq,Prod.mk.injEq] at h;obtain ⟨_,rfl⟩:=h;exact .refl _
  case e0=>simp only [Option.some.injEq,Prod.mk.injEq] at h;obtain ⟨_,rfl⟩:=h;exact .refl _
  case ref=>
   split at h
   ·split at h
    ·simp only [Option.some.injEq,Prod.mk.injEq] at h;obtain ⟨_,rfl⟩:=h;exact .refl _
    ·split at h
     ·exact fo _ _ H y H1 h
     ·simp at h
   ·simp at h
  case ptr=>exact fo _ _ H y H1 h
  all_goals simp at h
theorem qU: ∀(ms:List Mode) (sh:List (List Sh)) (as:List AV) (H:J) (zs:List AV) (H1:J),fC ms sh as H=some (zs,H1)→bu H H1
 |[],sh,as,H,zs,H1,h=>by
  simp only [fC,Option.some.injEq,Prod.mk.injEq] at h;obtain ⟨_,rfl⟩:=h;exact .refl _
 |m::ms,sh,[],H,zs,H1,h=>by
  simp only [fC,Option.some.injEq,Prod.mk.injEq] at h;obtain ⟨_,rfl⟩:=h;exact .refl _
 |m::ms,sh,a::as,H,zs,H1,h=>by
  simp only [fC] at h;split at h
  ·rename_i y H' h1
   split at h
   ·rename_i ys iw h2
    simp only [Option.some.injEq,Prod.mk.injEq] at h;obtain ⟨_,rfl⟩:=h;exact (qT h1).trans (qU ms _ as H' ys _ h2)
   ·simp at h
  ·simp at h
def gp (w:World) (A:ah) (B:ah) (L0:J) (az:af) (bT:Bool) (vs:List AV) (us:List Value):Prop:=
 vs.length=us.length∧ ∀A0:ah,(∀c,A0 c→A c)→(bT=true→ ∀c,A0 c→B c)→ ∀(i:Nat) (x:AV) (u:Value),vs[i]? =some x→us[i]? =some u→R w L0 az A0 x u
theorem gp.cons {B:ah} {L L0:J} {φL az:af} {l1 l2:Bool} {x:AV} {u:Value} {vs:List AV} {us:List Value} (hx: ∀A0:ah,(∀c,A0 c→A c)→(l1=true→ ∀c,A0 c→B c)→R w L φL A0 x u)
 (he: ∀A0,bH w L φL A0 w L0 az A0) (h:gp w A B L0 az l2 vs us):gp w A B L0 az (l1||l2) (x::vs) (u::us):=by
 refine ⟨by simp [h.1],fun A0 h1 h2 i x' u' bC aK=> ?_⟩
 cases i with
 |zero=>simp at bC aK;subst bC;subst aK;exact (hx A0 h1 (fun hl=>h2 (by simp [hl]))).mono (he A0)
 |succ i=>exact h.2 A0 h1 (fun hl=>h2 (by simp [hl])) i x' u' bC aK
theorem bH.any {L L0:J} {φL az:af} {A1:ah} (h:bH w L φL A1 w L0 az A1) (A0:ah):bH w L φL A0 w L0 az A0:=
 ⟨fun _c _a _t fr hc hn=>⟨⟨fr,hc⟩,hn⟩,h.st,h.ids,h.sz⟩
theorem qV {H:J} {φ :af} {H1:J} {L:J} {φL:af} (ae:St w H φ A) (hl:bu H H1) {a:AV} {u:Value} (ha:R w H φ A a u) {y:AV} (hs:aX 8 H1 a=some y):
 ∀A0:ah,(∀c,A0 c→A c)→(eH a=true→ ∀c,A0 c→fp (aA φ H1) A c)→R w L φL A0 y u:=by
 intro A0 h1 h2;obtain ⟨s1,s2,_⟩:=(qO (dX ae hl) 8).1 a u y (ha.mono (cY hl)) hs;cases hle:eH a with
 |false=>exact .fr _ _ ((s2 hle).shrink h1)
 |true=>exact .fr _ _ (s1.shrink (h2 hle))
theorem l_: ∀(as:List AV) (ms:List Mode) (fy:List (List Sh)) (us:List Value) (H:J) (φ :af) (zs:List AV) (H1:J) (ys:List AV) (bT:Bool) (L:J) (φL:af) (vs:List AV) (L0:J),
 bW w H φ A L φL A→as.length=us.length→(∀(i:Nat) (x:AV) (u:Value),as[i]? =some x→us[i]? =some u→R w H φ A x u)→fC ms fy as H=some (zs,H1)→b_ ms zs H1=some (ys,bT)→ca ms ys L=(vs,L0)→
 ∃az,b9 w H φ A L φL A H1 L0 az∧gp w A (fp (aA φ H1) A) L0 az bT vs us∧b6 H φ L0 az ms as vs
 |[],ms,fy,us,H,φ,zs,H1,ys,bT,L,φL,vs,L0,hd,hl,hr,h1,h2,h3=>by
  have gN:zs=[]∧H1=H:=by
   cases ms<;>simp only [fC,Option.some.injEq,Prod.mk.injEq] at h1<;>exact ⟨h1.1.symm,h1.2.symm⟩
  obtain ⟨rfl,rfl⟩:=gN;have cq:ys=[]∧bT=false:=by
   cases ms<;>simp only [b_,Option.some.injEq,Prod.mk.injEq] at h2<;>exact ⟨h2.1.symm,h2.2.symm⟩
  obtain ⟨rfl,rfl⟩:=cq;have dy:vs=[]∧L0=L:=by
   cases ms<;>simp only [ca,Prod.mk.injEq] at h3<;>exact ⟨h3.1.symm,h3.2.symm⟩
  obtain ⟨rfl,rfl⟩:=dy;refine ⟨φL,.refl hd,⟨by simpa using hl,by simp⟩,?_⟩
  cases ms with
  |nil=>simp [b6]
  |cons m ms=>cases m<;>simp [b6]
 |a::as,[],fy,us,H,φ,zs,H1,ys,bT,L,φL,vs,L0,hd,hl,hr,h1,h2,h3=>by
  match us,hl with
  |u::us,hl=>
  simp only [fC,Option.some.injEq,Prod.mk.injEq] at h1;obtain ⟨rfl,rfl⟩:=h1;simp only [b_] at h2;split at h2
  ·rename_i y hy;split at h2
   ·rename_i aS b cq
    simp only [Option.some.injEq,Prod.mk.injEq] at h2;obtain ⟨rfl,rfl⟩:=h2;simp only [ca,l8 _ _ _ _ hy,List.tail_nil,Prod.mk.injEq] at h3;obtain ⟨rfl,rfl⟩:=h3;obtain ⟨az,m,cr,_⟩:=l_ as [] fy us H φ as H aS b L φL _ _ hd (by simpa using hl) (fun i x u hx hu=>hr (i+1) x u hx hu) rfl cq rfl
    exact ⟨az,m,gp.cons (qV (L:=L) (φL:= φL) hd.sl (.refl _) (hr 0 a u rfl rfl) hy) (fun A0=>m.eh.any A0) cr,by simp [b6]⟩
   ·simp at h2
  ·simp at h2
 |a::as,md::ms,fy,us,H,φ,zs,H1,ys,bT,L,φL,vs,L0,hd,hl,hr,h1,h2,h3=>by
  match us,hl with
  |u::us,hl=>
  simp only [fC] at h1;split at h1
  rotate_left
  ·simp at h1
  rename_i z H' hz
  split at h1
  rotate_left
  ·simp at h1
  rename_i gq iw gN
  simp only [Option.some.injEq,Prod.mk.injEq] at h1;obtain ⟨rfl,rfl⟩:=h1;have dz:=qT hz;have dc:=qU _ _ _ _ _ _ gN;have ha:=hr 0 a u rfl rfl;have rest: ∀{aS:List AV} {b:Bool} {L' :J} {ak:af} (m1:b9 w H φ A L φL A H' L' ak) (cq:b_ ms gq iw=some (aS,b)),
   ∃az,b9 w H' (aA φ H') A L' ak A iw (ca ms aS L').2 az∧gp w A (fp (aA φ iw) A) (ca ms aS L').2 az b (ca ms aS L').1 us∧b6 H' (aA φ H') (ca ms aS L').2 az ms as (ca ms aS L').1:=by
   intro aS b L' ak m1 cq
   obtain ⟨az,m,cr,dM⟩:=l_ as ms fy.tail us H' (aA φ H') gq iw aS b L' ak _ _ m1.bn (by simpa using hl) (fun i x u hx hu=>(hr (i+1) x u hx hu).mono (cY dz)) gN cq rfl
   refine ⟨az,m,?_,dM⟩;rw [fN dc] at cr;exact cr
  cases md with
  |val=>
   simp only [eX,Option.some.injEq,Prod.mk.injEq] at hz;obtain ⟨rfl,rfl⟩:=hz;simp only [b_] at h2;split at h2
   rotate_left
   ·simp at h2
   rename_i y hy;split at h2
   rotate_left
   ·simp at h2
   rename_i aS b cq
   simp only [Option.some.injEq,Prod.mk.injEq] at h2;obtain ⟨rfl,rfl⟩:=h2;have jb:ca (.val::ms) (y::aS) L=(y::(ca ms aS L).1,(ca ms aS L).2):=by
    simp only [ca,l8 _ _ _ _ hy,List.tail_cons]
   rw [jb] at h3;simp only [Prod.mk.injEq] at h3;obtain ⟨rfl,rfl⟩:=h3;obtain ⟨az,m,cr,dM⟩:=rest (b9.refl hd) cq;refine ⟨az,(b9.refl hd).trans m,gp.cons (L:=L) (φL:= φL) (fun A0 q1 q2=> ?_) (fun A0=>m.eh.any A0) cr,?_⟩
   ·exact qV (L:=L) (φL:= φL) hd.sl dc ha hy A0 q1 q2
   ·simp only [b6];exact b6.mono (.refl _) (fun _ _ h=>h) (fun _ _ h=>h) dM
  |eG=>
   have dH:aY (fy.headD []) a H=some (z,H'):=hz
   simp only [b_] at h2;split at h2
   rotate_left
   ·simp at h2
   rename_i aS b cq
   simp only [Option.some.injEq,Prod.mk.injEq] at h2;obtain ⟨rfl,rfl⟩:=h2;have jb:ca (.eG::ms) (z::aS) L=((aG z L).1::(ca ms aS (aG z L).2).1,(ca ms aS (aG z L).2).2):=by
    simp only [ca,List.tail_cons]
   rw [jb] at h3;simp only [Prod.mk.injEq] at h3;obtain ⟨rfl,rfl⟩:=h3;obtain ⟨φ1,m1,r1⟩:=qI hd ha dH rfl (.inl fun _ h=>h)
   obtain ⟨az,m,cr,dM⟩:=rest m1 cq;have:=gp.cons (l1:=false) (L:=(aG z L).2) (φL:= φ1) (x:=(aG z L).1) (u:=u) (fun A0 q1 _=>r1.l5 q1) (fun A0=>m.eh.any A0) cr;refine ⟨az,m1.trans m,by simpa using this,?_⟩
   simp only [b6];exact b6.mono dz (fun _ _ h=>h) (fun _ _ h=>h) dM
  |io=>
   simp only [b_] at h2;split at h2
   rotate_left
   ·simp at h2
   rename_i aS b cq
   simp only [Option.some.injEq,Prod.mk.injEq] at h2;obtain ⟨rfl,rfl⟩:=h2;rcases x_ hd ha hz with ⟨sz,xs,φ1,rfl,m1,r1,ro⟩|⟨sz,x,φ1,rfl,m1,r1,ro⟩
   ·have jb:ca (.io::ms) (.own sz xs::aS) L=(.ref (aF xs L).2.bs.length (aF xs L).2.st 0 (aF xs L).1.length::(ca ms aS ((aF xs L).2.new sz true (aF xs L).1)).1,(ca ms aS ((aF xs L).2.new sz true (aF xs L).1)).2):=by
     simp only [ca]
    rw [jb] at h3;simp only [Prod.mk.injEq] at h3;obtain ⟨rfl,rfl⟩:=h3;obtain ⟨az,m,cr,dM⟩:=rest m1 cq;have:=gp.cons (l1:=false) (φL:= φ1) (u:=u) (fun A0 q1 _=>r1.l5 q1) (fun A0=>m.eh.any A0) cr;refine ⟨az,m1.trans m,by simpa using this,?_⟩
    simp only [b6];refine ⟨?_,b6.mono dz (fun _ _ h=>h) (fun _ _ h=>h) dM⟩;obtain ⟨k,kv,bk,e1,e2,⟨loc,kP⟩,e3,e4⟩:=ro;exact ⟨k,kv,bk,e1,oI m.bw e2,⟨loc,m.bX _ _ kP⟩,e3,fun id ad hr=>by obtain ⟨b,c,b0,q1,q2,q3,q4,q5⟩:=e4 id ad hr;exact ⟨b,c,b0,q1,q2,q3,q4,m.bX _ _ q5⟩⟩
   ·have jb:ca (.io::ms) (.dh sz x::aS) L=((aG (.dh sz x) L).1::(ca ms aS (aG (.dh sz x) L).2).1,(ca ms aS (aG (.dh sz x) L).2).2):=by
     simp only [ca,List.tail_cons]
    rw [jb] at h3;simp only [Prod.mk.injEq] at h3;obtain ⟨rfl,rfl⟩:=h3;obtain ⟨az,m,cr,dM⟩:=rest m1 cq;have:=gp.cons (l1:=false) (φL:= φ1) (u:=u) (fun A0 q1 _=>r1.l5 q1) (fun A0=>m.eh.any A0) cr;refine ⟨az,m1.trans m,by simpa using this,?_⟩
    simp only [b6];refine ⟨?_,b6.mono dz (fun _ _ h=>h) (fun _ _ h=>h) dM⟩;obtain ⟨k,kv,bk,e1,e2,⟨loc,kP⟩,e3,e4⟩:=ro;exact ⟨k,kv,bk,e1,oI m.bw e2,⟨loc,m.bX _ _ kP⟩,e3,fun id ad hr=>by obtain ⟨b,c,b0,q1,q2,q3,q4,q5⟩:=e4 id ad hr;exact ⟨b,c,b0,q1,q2,q3,q4,m.bX _ _ q5⟩⟩
end bn
end Go.VS
namespace Go.VS
def cO (L Lm:J):List Mode→List AV→List (List AV)→Prop
 | .io::ms,x::xs,l::ls=>(∃k kv b,ke x=some (k,kv)∧L.ap k kv=some b∧b.el=l∧Lm.get k=none)∧cO L Lm ms xs ls
 | .io::_,_::_,[]=>False
 | .val::ms,_::xs,ls=>cO L Lm ms xs ls
 | .eG::ms,_::xs,ls=>cO L Lm ms xs ls
 |_,_,_=>True
theorem cO.mono {L0 L Lm:J} (h:bu L0 L): ∀{ms:List Mode} {xs:List AV} {ls:List (List AV)},cO L Lm ms xs ls→cO L0 Lm ms xs ls
 |[],xs,ls,_=>by simp [cO]
 |m::ms,[],ls,_=>by cases m<;>simp [cO]
 | .val::ms,x::xs,ls,hr=>by simp only [cO] at hr⊢;exact hr.mono h
 | .eG::ms,x::xs,ls,hr=>by simp only [cO] at hr⊢;exact hr.mono h
 | .io::ms,x::xs,[],hr=>by simp only [cO] at hr
 | .io::ms,x::xs,l::ls,hr=>by
  simp only [cO] at hr⊢;obtain ⟨⟨k,kv,b,h1,h2,h3,h4⟩,h5⟩:=hr;exact ⟨⟨k,kv,b,h1,J.qS h h2,h3,h4⟩,h5.mono h⟩
theorem ma: ∀(ms:List Mode) (vs:List AV) (L:J) (ls:List (List AV)) (Lm:J),fb ms vs L=some (ls,Lm)→bu L Lm∧cO L Lm ms vs ls
 |[],vs,L,ls,Lm,h=>by
  simp only [fb,Option.some.injEq,Prod.mk.injEq] at h;obtain ⟨rfl,rfl⟩:=h;exact ⟨.refl _,by simp [cO]⟩
 |m::ms,[],L,ls,Lm,h=>by
  cases m<;>(simp only [fb,Option.some.injEq,Prod.mk.injEq] at h;obtain ⟨rfl,rfl⟩:=h;exact ⟨.refl _,by simp [cO]⟩)
 | .val::ms,x::xs,L,ls,Lm,h=>by simp only [fb] at h;simpa only [cO] using ma ms xs L ls Lm h
 | .eG::ms,x::xs,L,ls,Lm,h=>by simp only [fb] at h;simpa only [cO] using ma ms xs L ls Lm h
 | .io::ms,x::xs,L,ls,Lm,h=>by
  simp only [fb] at h;split at h
  ·rename_i id ad hk;split at h
   ·rename_i b hb;split at h
    ·rename_i r H' hr
     simp only [Option.some.injEq,Prod.mk.injEq] at h;obtain ⟨rfl,rfl⟩:=h;obtain ⟨h1,h2⟩:=ma ms xs _ _ _ hr;refine ⟨(bu.del L id).trans h1,?_⟩;simp only [cO];refine ⟨⟨id,ad,b,hk,hb,rfl,?_⟩,h2.mono (bu.del L id)⟩;cases hq:H'.get id with
     |none=>rfl
     |some b=>have:=h1.get _ _ hq;rw [J.iu,if_pos rfl] at this;simp at this
    ·simp at h
   ·simp at h
  ·simp at h
def junk (b:bE):bE:={b with el:=b.el.map fun _=> .agg (List.replicate b.sz .undef)}
theorem yb {H:J} {id k:Nat} {b b' :bE} (h:(H.bj id b).get k=some b'):(k=id∧b' =b)∨H.get k=some b' :=by
 unfold J.bj J.get at h;simp only [List.getElem?_set] at h;by_cases hk:id=k
 ·subst hk;simp only [if_true] at h;split at h
  ·simp at h;exact .inl ⟨rfl,h.symm⟩
  ·simp at h
 ·rw [if_neg hk] at h;exact .inr h
theorem yc {H:J} {id:Nat} {b:bE} (h:id<H.bs.length) (k:Nat):(H.bj id b).get k=if k=id then some b else H.get k:=by
 unfold J.bj J.get;simp only [List.getElem?_set];by_cases hk:id=k
 ·subst hk;simp [h]
 ·rw [if_neg hk,if_neg (fun e=>hk e.symm)]
def gu (H0:J) (v:AV) (H:J):J:=
 match dC v with
 |some (id,ad)=>match H0.ap id ad with
  |some b=>H.bj id (junk b)
  |none=>H
 |none=>H
theorem yd (H0:J) (v:AV) (H:J):(gu H0 v H).bs.length=H.bs.length∧(gu H0 v H).st=H.st:=by
 unfold gu;split
 ·split
  ·simp [J.bj]
  ·exact ⟨rfl,rfl⟩
 ·exact ⟨rfl,rfl⟩
theorem qW (H0:J) (ms:List Mode) (v:AV) (vs:List AV) (H:J):cv H0 (.io::ms) (v::vs) H=cv H0 ms vs (gu H0 v H):=rfl
theorem ye {H0:J} {v:AV} {H:J} {k:Nat} {b' :bE} (h:(gu H0 v H).get k=some b'):H.get k=some b' ∨ ∃ad b,dC v=some (k,ad)∧H0.ap k ad=some b∧b' =junk b:=by
 unfold gu at h;split at h
 ·rename_i id ad hr;split at h
  ·rename_i b hb;rcases yb h with ⟨rfl,rfl⟩|h
   ·exact .inr ⟨ad,b,hr,hb,rfl⟩
   ·exact .inl h
  ·exact .inl h
 ·exact .inl h
theorem mb (H0:J): ∀(ms:List Mode) (as:List AV) (H:J),(cv H0 ms as H).bs.length=H.bs.length∧(cv H0 ms as H).st=H.st
 |[],as,H=>by simp [cv]
 |m::ms,[],H=>by cases m<;>simp [cv]
 | .val::ms,a::as,H=>by simp only [cv];exact mb H0 ms as H
 | .eG::ms,a::as,H=>by simp only [cv];exact mb H0 ms as H
 | .io::ms,a::as,H=>by
  rw [qW];have:=mb H0 ms as (gu H0 a H);have h2:=yd H0 a H;exact ⟨this.1.trans h2.1,this.2.trans h2.2⟩
theorem mc (H0:J) {Lx Lm:J} {φ :af} {L0:J} {az:af}: ∀(ms:List Mode) (as vs:List AV) (ls:List (List AV)) (H:J) (k:Nat) (b' :bE),as.length=vs.length→b6 H0 φ L0 az ms as vs→cO Lx Lm ms vs ls→
 (cv H0 ms as H).get k=some b' →H.get k=some b' ∨ ∃a x ad b kk kv bk,dC a=some (k,ad)∧H0.ap k ad=some b∧b' =junk b∧gU H0 φ L0 az a x∧ke x=some (kk,kv)∧Lx.ap kk kv=some bk∧Lm.get kk=none
 |[],as,vs,ls,H,k,b',_,_,_,h=>by simp only [cv] at h;exact .inl h
 |m::ms,[],vs,ls,H,k,b',_,_,_,h=>by cases m<;>(simp only [cv] at h;exact .inl h)
 |m::ms,a::as,[],ls,H,k,b',hl,_,_,h=>by simp at hl
 | .val::ms,a::as,x::vs,ls,H,k,b',hl,h1,h2,h=>by
  simp only [cv] at h;exact mc H0 ms as vs ls H k b' (by simpa using hl) (by simpa only [b6] using h1) (by simpa only [cO] using h2) h
 | .eG::ms,a::as,x::vs,ls,H,k,b',hl,h1,h2,h=>by
  simp only [cv] at h;exact mc H0 ms as vs ls H k b' (by simpa using hl) (by simpa only [b6] using h1) (by simpa only [cO] using h2) h
 | .io::ms,a::as,x::vs,[],H,k,b',hl,h1,h2,h=>by simp only [cO] at h2
 | .io::ms,a::as,x::vs,l::ls,H,k,b',hl,h1,h2,h=>by
  rw [qW] at h;simp only [b6] at h1;simp only [cO] at h2;rcases mc H0 ms as vs ls _ k b' (by simpa using hl) h1.2 h2.2 h with h3|h3
  ·rcases ye h3 with h4|⟨ad,b,q1,q2,q3⟩
   ·exact .inl h4
   ·obtain ⟨kk,kv,bk,p1,p2,_,p4⟩:=h2.1;exact .inr ⟨a,x,ad,b,kk,kv,bk,q1,q2,q3,h1.1,p1,p2,p4⟩
  ·exact .inr h3
def Has (Hx:J) (id ad:Nat) (b:bE):Prop:= ∃b',Hx.ap id ad=some b' ∧b'.sz=b.sz∧b'.el.length=b.el.length
theorem Has.gu {H0 Hx:J} {id ad:Nat} {b:bE} (h0:H0.ap id ad=some b) (h:Has Hx id ad b) (v:AV):Has (gu H0 v Hx) id ad b:=by
 obtain ⟨b',h1,h2,h3⟩:=h;unfold VS.gu;split
 ·rename_i me AZ hr;split
  ·rename_i b2 il;have aw:id<Hx.bs.length:=J.gI (J.bp h1).1;by_cases bO:me=id
   ·subst bO;have g1:=J.bp h0;have g2:=J.bp il;have:b2=b:=by have:=g1.1.symm.trans g2.1;simp only [Option.some.injEq] at this;exact this.symm
    subst this;refine ⟨junk b2,?_,rfl,by simp [junk]⟩
    have:=J.gg (H:=Hx.bj me (junk b2)) (id:=me) (b:=junk b2) (by rw [yc aw,if_pos rfl])
    rw [←g1.2];exact this
   ·refine ⟨b',?_,h2,h3⟩;have g:=J.bp h1;have:(Hx.bj me (junk b2)).get id=some b' :=by
     unfold J.bj J.get;simp only [List.getElem?_set];rw [if_neg bO];exact g.1
    rw [←g.2];exact J.gg this
  ·exact ⟨b',h1,h2,h3⟩
 ·exact ⟨b',h1,h2,h3⟩
structure oK (w:World) (A:ah) (az:af) (w' :World) (ak:af) (AH:ah):Prop where
 own: ∀c,A c→ ¬Ow az c→AH c
 ei: ∀c,Ow ak c→AH c
 b4: ∀c,AH c→c<w'.heap.size
 fz: ∀c arr T fr,w.heap[c]? =some (.cells arr T fr)→ ¬A c→(∃eJ,w'.heap[c]? =some (.cells arr T eJ))∧ ¬AH c
def yf (w:World) (L:J) (φL:af) (AL:ah) (H:J) (φ :af) (a:AV) (l:List AV):Prop:=
 (dC a=none→l=[])∧ ∀id ad,dC a=some (id,ad)→ ∃c b0 b arr T fr,H.ap id ad=some b∧ φ id=some (.at_ c b0)∧w.heap[c]? =some (.cells arr T fr)∧l.length=b.el.length∧
  (∀(i:Nat) (x:AV),l[i]? =some x→x.cells.length=b.sz)∧ ∀(i:Nat) (x:AV) (j:Nat) (y:AV) (v:Value),l[i]? =some x→x.cells[j]? =some y→arr[b0+i*b.sz+j]? =some v→R w L φL AL y v
def eo (w:World) (L:J) (φL:af) (AL:ah) (H:J) (φ :af):List Mode→List AV→List (List AV)→Prop
 | .io::ms,a::as,l::ls=>yf w L φL AL H φ a l∧eo w L φL AL H φ ms as ls
 | .val::ms,_::as,ls=>eo w L φL AL H φ ms as ls
 | .eG::ms,_::as,ls=>eo w L φL AL H φ ms as ls
 |_,_,_=>True
section back
variable {w w' :World} {A:ah} {H:J} {φ :af} {H1 L0:J} {az:af} {A0:ah} {L:J} {ak:af} {A' AH:ah} {ms:List Mode} {as vs:List AV} {ls:List (List AV)} {Lm:J}
theorem oL (m:b9 w H φ A ⟨0,[]⟩ (fun _=>none) A H1 L0 az) (ho:Out w L0 az A0 w' L ak A') {a x:AV} (hr:gU H φ L0 az a x) {kk kv:Nat} {bk:bE} (hk:ke x=some (kk,kv)) (hb:L.ap kk kv=some bk):
 (dC a=none→bk.el=[])∧ ∀id ad,dC a=some (id,ad)→ ∃b c b0,H.ap id ad=some b∧bk.sz=b.sz∧bk.el.length=b.el.length∧ φ id=some (.at_ c b0)∧ak kk=some (.at_ c b0)∧pV w' L ak A' bk (.at_ c b0):=by
 obtain ⟨k,A7,b1,e1,e2,⟨loc,kP⟩,e3,e4⟩:=hr;rw [hk] at e1;simp only [Option.some.injEq,Prod.mk.injEq] at e1;obtain ⟨rfl,rfl⟩:=e1;obtain ⟨g1,g2⟩:=J.bp hb;obtain ⟨f1,f2⟩:=J.bp e2;have aw:kv<L0.st:=by
  obtain ⟨bb,p1,p2⟩:=m.bn.sh.ap kk loc kP;rw [f1] at p1;simp only [Option.some.injEq] at p1;subst p1;rw [←f2];exact p2.ad
 ·obtain ⟨b2,i1,i2,i3,i4,i5,i6⟩:=ho.bV.ids kk bk g1 (by omega)
  rw [f1] at i1;simp only [Option.some.injEq] at i1;subst i1;refine ⟨fun h=>List.eq_nil_of_length_eq_zero (by rw [i5,e3 h];rfl),fun id ad h=> ?_⟩
  obtain ⟨b,c,b0,q1,q2,q3,q4,q5⟩:=e4 id ad h;have hp:=i6 _ q5;obtain ⟨bb,p1,p2⟩:=ho.st.ap kk _ hp;rw [g1] at p1;simp only [Option.some.injEq] at p1;subst p1;exact ⟨b,c,b0,q1,i3.trans q2,i5.trans q3,q4,hp,p2⟩
theorem qX (ae:St w H φ A) (m:b9 w H φ A ⟨0,[]⟩ (fun _=>none) A H1 L0 az) (hlen:as.length=vs.length) (dM:b6 H φ L0 az ms as vs) (ho:Out w L0 az A0 w' L ak A') (ha:oK w A az w' ak AH) (ht:fb ms vs L=some (ls,Lm)):
 bW w' Lm (aA ak Lm) A' (cv H ms as H1) (aA φ (cv H ms as H1)) AH∧bH w H φ A w' (cv H ms as H1) (aA φ (cv H ms as H1)) AH:=by
 obtain ⟨dz,oM⟩:=ma _ _ _ _ _ ht;have bm: ∀c,Ow az c→Ow φ c:=fun c hc=>by
  rcases m.oh c hc with ⟨i,b,h⟩|h
  ·simp at h
  ·exact h.1
 have bw:=fun k b' =>mc H ms as vs ls H1 k b' hlen dM oM
 have oN:=(mb H ms as H1).2;have aT:bH w H φ A w' (cv H ms as H1) (aA φ (cv H ms as H1)) AH:=by
  refine ⟨ha.fz,by rw [oN,m.less.st];exact Nat.le_refl _,fun id b' ax _=> ?_,fun c hc=>ho.post.a7 c (Ow.lt ae hc)⟩
  have bX: ∀loc,φ id=some loc→aA φ (cv H ms as H1) id=some loc:=fun loc h=>by simp [aA,ax,h]
  rcases bw id b' ax with h|⟨a,x,ad,b,kk,kv,bk,q1,q2,rfl,q4,q5,q6,q7⟩
  ·exact ⟨b',m.less.get _ _ h,rfl,rfl,rfl,rfl,bX⟩
  ·exact ⟨b,(J.bp q2).1,rfl,rfl,rfl,by simp [junk],bX⟩
 refine ⟨⟨dX ho.st dz,⟨fun i i' c b b' h1 h2=>ae.inj _ _ _ _ _ (de h1).1 (de h2).1,fun c hc=> ?_,ha.b4,fun id loc hl=> ?_⟩,fun c hc hj=> ?_,fun c hc=>ha.ei c (bG hc)⟩,aT⟩
 ·obtain ⟨id,b0,h⟩:=hc;obtain ⟨h1,b',ax⟩:=de h;rcases bw id b' ax with h2|⟨a,x,ad,b,kk,kv,bk,q1,q2,rfl,q4,q5,q6,q7⟩
  ·refine ha.own c (ae.own c ⟨id,b0,h1⟩) (m.bn.b8 c ⟨id,b0,?_⟩);simp [aA,h2,h1]
  ·obtain ⟨_,re⟩:=oL m ho q4 q5 q6;obtain ⟨b2,c2,oO,_,_,_,r4,r5,_⟩:=re id _ q1;rw [h1] at r4;simp only [Option.some.injEq,Loc.at_.injEq] at r4;obtain ⟨rfl,rfl⟩:=r4;exact ha.ei c ⟨kk,b0,r5⟩
 ·obtain ⟨h1,b',ax⟩:=de hl;refine ⟨b',ax,?_⟩;rcases bw id b' ax with h2|⟨a,x,ad,b,kk,kv,bk,q1,q2,rfl,q4,q5,q6,q7⟩
  ·obtain ⟨b2,il,ag⟩:=ae.ap id loc h1;rw [m.less.get _ _ h2] at il;simp only [Option.some.injEq] at il;subst il;refine ⟨by rw [oN,m.less.st];exact ag.ad,ag.sized,ag.aO,fun c b0 he=> ?_⟩
   subst he;obtain ⟨arr,T,fr,k1,k2,k3,k4⟩:=ag.here c b0 rfl;have hn: ¬Ow az c:=m.bn.b8 c ⟨id,b0,by simp [aA,h2,h1]⟩
   refine ⟨arr,T,fr,?_,k2,k3,fun i x j y v hx hy hv=>⟨(k4 i x j y v hx hy hv).1.mono aT,(k4 i x j y v hx hy hv).2⟩⟩;rw [ho.post.kept c (Ow.lt ae ⟨id,b0,h1⟩) hn];exact k1
  ·obtain ⟨_,re⟩:=oL m ho q4 q5 q6;obtain ⟨b2,c2,oO,r1,r2,r3,r4,r5,ag⟩:=re id _ q1;rw [h1] at r4;simp only [Option.some.injEq] at r4;subst r4;rw [q2] at r1;simp only [Option.some.injEq] at r1;subst r1;obtain ⟨b3,kB,yg⟩:=ae.ap id _ h1;rw [(J.bp q2).1] at kB;simp only [Option.some.injEq] at kB;subst kB;have hcs: ∀(i:Nat) (x:AV),(junk b).el[i]? =some x→i<b.el.length∧x= .agg (List.replicate b.sz .undef):=by
    intro i x hx;simp only [junk,List.getElem?_map,Option.map_eq_some_iff] at hx;obtain ⟨z,hz,rfl⟩:=hx;exact ⟨(List.getElem?_eq_some_iff.1 hz).1,rfl⟩
   refine ⟨by rw [oN,m.less.st];exact yg.ad,fun i x hx=>by rw [(hcs i x hx).2];simp [AV.cells,junk],fun h=>by simp at h,fun c b0 he=> ?_⟩
   simp only [Loc.at_.injEq] at he;obtain ⟨rfl,rfl⟩:=he;obtain ⟨arr,T,fr,k1,k2,k3,k4⟩:=ag.here c2 oO rfl;refine ⟨arr,T,fr,k1,k2,by simp only [junk,List.length_map];rw [←r3,←r2];exact k3,fun i x j y v hx hy hv=> ?_⟩
   obtain ⟨hi,rfl⟩:=hcs i x hx;have hj:j<b.sz:=by have:=(List.getElem?_eq_some_iff.1 hy).1;simpa [AV.cells] using this
   have yh:y= .undef:=by simp only [AV.cells] at hy;rw [List.getElem?_replicate,if_pos hj] at hy;simpa using hy.symm
   subst yh;refine ⟨.fr _ _ (.undef _),?_⟩;have qY:=List.getElem?_eq_getElem (show i<bk.el.length by omega)
   exact (k4 i _ j _ v qY (List.getElem?_eq_getElem (show j<_ by rw [ag.sized _ _ qY,r2];exact hj)) (by rw [r2];exact hv)).2
 ·obtain ⟨id,b0,h⟩:=hj;obtain ⟨h1,b',ax⟩:=de h;rcases bw id b' ax with h2|⟨a,x,ad,b,kk,kv,bk,q1,q2,rfl,q4,q5,q6,q7⟩
  ·rcases ho.post.own c (bG hc) with h3|h3
   ·exact m.bn.b8 c ⟨id,b0,by simp [aA,h2,h1]⟩ h3
   ·have:=Ow.lt ae ⟨id,b0,h1⟩;omega
  ·obtain ⟨_,re⟩:=oL m ho q4 q5 q6;obtain ⟨b2,c2,oO,_,_,_,r4,r5,_⟩:=re id _ q1;rw [h1] at r4;simp only [Option.some.injEq,Loc.at_.injEq] at r4;obtain ⟨rfl,rfl⟩:=r4;obtain ⟨i,bb,hi⟩:=hc;obtain ⟨fm,bx,qZ⟩:=de hi;have:=ho.st.inj _ _ _ _ _ fm r5;subst this;rw [q7] at qZ;simp at qZ
end back
end Go.VS
namespace Go.VS
section back
variable {w:World} {AL AH:ah}
structure Mv (w:World) (L:J) (φL:af) (AL:ah) (H:J) (φ :af) (AH:ah) (L1 H1:J) (φ1:af):Prop where
 less:bu L L1
 bn:bW w L1 (aA φL L1) AL H1 φ1 AH
 eh:bH w H φ AH w H1 φ1 AH
 oh: ∀c,Ow φ1 c→Ow φ c∨(Ow φL c∧ ¬Ow (aA φL L1) c)
 has: ∀id ad b,H.ap id ad=some b→ ∃b',H1.ap id ad=some b' ∧b'.sz=b.sz∧b'.el.length=b.el.length
 bX: ∀id loc,φ id=some loc→ φ1 id=some loc
theorem Mv.trans {L L1 L2:J} {φL:af} {H H1 H2:J} {φ φ1 a8:af} (h:Mv w L φL AL H φ AH L1 H1 φ1) (k:Mv w L1 (aA φL L1) AL H1 φ1 AH L2 H2 a8):Mv w L φL AL H φ AH L2 H2 a8:=by
 have hr:=fN (φ := φL) k.less;refine ⟨h.less.trans k.less,by rw [←hr];exact k.bn,h.eh.trans k.eh (fun _ _=>rfl),fun c hc=> ?_,fun id ad b hb=> ?_,fun id loc hl=>k.bX id loc (h.bX id loc hl)⟩
 ·rcases k.oh c hc with h1|⟨h1,h2⟩
  ·rcases h.oh c h1 with h3|⟨h3,h4⟩
   ·exact .inl h3
   ·refine .inr ⟨h3,fun h5=>h4 ?_⟩;rw [←hr] at h5;exact bG h5
  ·rw [hr] at h2;exact .inr ⟨bG h1,h2⟩
 ·obtain ⟨b1,e1,e2,e3⟩:=h.has id ad b hb;obtain ⟨b2,f1,f2,f3⟩:=k.has id ad b1 e1;exact ⟨b2,f1,f2.trans e2,f3.trans e3⟩
theorem iV.refl {w:World} {c:Nat} {o:Obj} (h:w.heap[c]? =some o):iV w c o w:=⟨h,fun _ _=>rfl,rfl,rfl,rfl,rfl⟩
theorem eo.mono {L L1:J} {φL:af} {H H1:J} {φ φ1:af} (hl:bu L L1) (has: ∀id ad b,H.ap id ad=some b→ ∃b',H1.ap id ad=some b' ∧b'.sz=b.sz∧b'.el.length=b.el.length) (bX: ∀id loc,φ id=some loc→ φ1 id=some loc):
 ∀{ms:List Mode} {as:List AV} {ls:List (List AV)},eo w L φL AL H φ ms as ls→eo w L1 (aA φL L1) AL H1 φ1 ms as ls
 |[],as,ls,_=>by simp [eo]
 |m::ms,[],ls,_=>by cases m<;>simp [eo]
 | .val::ms,a::as,ls,h=>by simp only [eo] at h⊢;exact eo.mono hl has bX h
 | .eG::ms,a::as,ls,h=>by simp only [eo] at h⊢;exact eo.mono hl has bX h
 | .io::ms,a::as,[],h=>by simp [eo]
 | .io::ms,a::as,l::ls,h=>by
  simp only [eo] at h⊢;refine ⟨⟨h.1.1,fun id ad hr=> ?_⟩,eo.mono hl has bX h.2⟩;obtain ⟨c,b0,b,arr,T,fr,k1,k2,k3,k4,k5,k6⟩:=h.1.2 id ad hr;obtain ⟨b',e1,e2,e3⟩:=has id ad b k1;exact ⟨c,b0,b',arr,T,fr,e1,bX _ _ k2,k3,by rw [k4,e3],fun i x hx=>by rw [e2];exact k5 i x hx,fun i x j y v hx hy hv=>(k6 i x j y v hx hy (by rw [←e2];exact hv)).mono (cY hl)⟩
theorem q0: ∀(sh:List (List Sh)) (rs:List AV) (us:List Value) (L:J) (φL:af) (H:J) (φ :af) (ys:List AV) (L1:J),bW w L φL AL H φ AH→rs.length=us.length→
 (∀(i:Nat) (x:AV) (u:Value),rs[i]? =some x→us[i]? =some u→R w L φL AL x u)→db sh rs L=some (ys,L1)→dL AL AH ys→
 ∃ φ1,b9 w L φL AL H φ AH L1 (aF ys H).2 φ1∧(aF ys H).1.length=us.length∧ ∀(i:Nat) (x:AV) (u:Value),(aF ys H).1[i]? =some x→us[i]? =some u→R w (aF ys H).2 φ1 AH x u
 |sh,[],us,L,φL,H,φ,ys,L1,hd,hl,hr,ht,hk=>by
  simp only [db,Option.some.injEq,Prod.mk.injEq] at ht;obtain ⟨rfl,rfl⟩:=ht;exact ⟨φ,.refl hd,hl,by simp [aF]⟩
 |sh,x::rs,u::us,L,φL,H,φ,ys,L1,hd,hl,hr,ht,hk=>by
  simp only [db] at ht;split at ht
  rotate_left
  ·simp at ht
  rename_i y L' h1
  split at ht
  rotate_left
  ·simp at ht
  rename_i aS c7 h2
  simp only [Option.some.injEq,Prod.mk.injEq] at ht;obtain ⟨rfl,rfl⟩:=ht;obtain ⟨k1,k2⟩:=hk.cons;obtain ⟨φ1,m1,r1⟩:=qI hd (hr 0 x u rfl rfl) h1 rfl k1;obtain ⟨a8,m2,l2,r2⟩:=q0 sh.tail rs us L' (aA φL L') (aG y H).2 φ1 aS c7 m1.bn (by simpa using hl) (fun i x u hx hu=>(hr (i+1) x u hx hu).mono (cY m1.less)) h2 k2
  refine ⟨a8,m1.trans m2,by simp [aF,l2],fun i x' u' hx hu=> ?_⟩
  cases i with
  |zero=>simp [aF] at hx hu;subst hx;subst hu;exact r1.mono m2.eh
  |succ i=>simp only [aF,List.getElem?_cons_succ] at hx hu;exact r2 i x' u' hx hu
 |sh,x::rs,[],L,φL,H,φ,ys,L1,hd,hl,hr,ht,hk=>by simp at hl
theorem q8: ∀(sh:List (List Sh)) (rs:List AV) (L:J) (ys:List AV) (L1:J),db sh rs L=some (ys,L1)→bu L L1
 |sh,[],L,ys,L1,ht=>by simp only [db,Option.some.injEq,Prod.mk.injEq] at ht;obtain ⟨rfl,rfl⟩:=ht;exact .refl _
 |sh,x::rs,L,ys,L1,ht=>by
  simp only [db] at ht;split at ht
  ·rename_i y L' h1
   split at ht
   ·rename_i aS c7 h2
    simp only [Option.some.injEq,Prod.mk.injEq] at ht;obtain ⟨rfl,rfl⟩:=ht;exact (fo _ _ _ _ _ h1).trans (q8 _ rs _ _ _ h2)
   ·simp at ht
  ·simp at ht
theorem q9 {es:List Sh} {x:AV} {v:Value} {L:J} {φL:af} {A' :ah} {y:AV} {L1:J} (ae:St w L φL AL) (hx:R w L φL AL x v) (ht:aY es x L=some (y,L1)) (hk: ∀c,A' c→gone φL AL L1 c):FR w A' (br y) v:=by
 by_cases bN: ∃cs,x= .agg cs
 ·obtain ⟨cs,rfl⟩:=bN;obtain ⟨aU,hc,rfl⟩:=kM ht;obtain ⟨vs,rfl,hl,ho,hp⟩:=hx.fG;obtain ⟨l1,r1⟩:=oG es cs vs.toList L φL AL A' aU L1 ae (by simpa using hl) (fun j c u hj hu=>hp j c u hj (by simpa using hu)) hc hk
  exact .agg _ _ (by rw [l1,hl]) ho fun i x v hx hv=>r1 i x v hx (by simpa using hv)
 ·obtain ⟨e,rfl,cI⟩:=ja (fun cs h=>bN ⟨cs,h⟩) ht;exact (l7 e x v L φL AL A' y L1 ae hx cI hk).1
theorem oP {A' :ah}: ∀(sh:List (List Sh)) (rs:List AV) (us:List Value) (L:J) (φL:af) (ys:List AV) (L1:J),St w L φL AL→rs.length=us.length→
 (∀(i:Nat) (x:AV) (u:Value),rs[i]? =some x→us[i]? =some u→R w L φL AL x u)→db sh rs L=some (ys,L1)→(∀c,A' c→gone φL AL L1 c)→
 (bS ys).length=us.length∧ ∀(i:Nat) (x:AV) (u:Value),(bS ys)[i]? =some x→us[i]? =some u→FR w A' x u
 |sh,[],us,L,φL,ys,L1,hd,hl,hr,ht,hk=>by
  simp only [db,Option.some.injEq,Prod.mk.injEq] at ht;obtain ⟨rfl,rfl⟩:=ht;exact ⟨hl,by simp [bS]⟩
 |sh,x::rs,u::us,L,φL,ys,L1,hd,hl,hr,ht,hk=>by
  simp only [db] at ht;split at ht
  rotate_left
  ·simp at ht
  rename_i y L' h1
  split at ht
  rotate_left
  ·simp at ht
  rename_i aS c7 h2
  simp only [Option.some.injEq,Prod.mk.injEq] at ht;obtain ⟨rfl,rfl⟩:=ht;have dz:=fo _ _ _ _ _ h1;have dc:=q8 _ _ _ _ _ h2;have r1:=q9 (A' :=A') hd (hr 0 x u rfl rfl) h1 (fun c hc=>oC dc (hk c hc))
  obtain ⟨l2,r2⟩:=oP sh.tail rs us L' (aA φL L') aS c7 (dX hd dz) (by simpa using hl) (fun i x u hx hu=>(hr (i+1) x u hx hu).mono (cY dz)) h2 (fun c hc=>by
   obtain ⟨k1,k2⟩:=hk c hc;exact ⟨k1,fun ho=>by rw [fN dc];exact k2 (bG ho)⟩)
  refine ⟨by simp [bS,l2],fun i x' u' hx hu=> ?_⟩
  cases i with
  |zero=>simp [bS] at hx hu;subst hx;subst hu;exact r1
  |succ i=>simp only [bS,List.getElem?_cons_succ] at hx hu;exact r2 i x' u' hx hu
 |sh,x::rs,[],L,φL,ys,L1,hd,hl,hr,ht,hk=>by simp at hl
end back
end Go.VS
namespace Go.VS
def gW:List Value→Value
 |[v]=>v
 |vs=> .tuple vs.toArray
def jc (P:Program) (f:FuncId):Prop:= ∃fn,P.funcs[f]? =some fn∧(fn.name== "runtime.NumGoroutine")=false∧fn.body.isNone=false
def iy (w:World) (H:J) (φ :af) (A:ah) (K:AV→J→Prop) (e:Ending) (w' :World):Prop:=
 match e with
 | .returned v' => ∃x H' ak A',Out w H φ A w' H' ak A' ∧R w' H' ak A' x v' ∧K x H'
 |_=>False
theorem iy.mono {w:World} {H:J} {φ :af} {A:ah} {K K' :AV→J→Prop} (h: ∀v H,K v H→K' v H) {e:Ending} {w' :World} (k:iy w H φ A K e w'):iy w H φ A K' e w' :=by
 cases e with
 |returned v' =>obtain ⟨x,H',ak,A',h1,h2,h3⟩:=k;exact ⟨x,H',ak,A',h1,h2,h _ _ h3⟩
 |panicked c=>exact k
 |outgrown=>exact k
def cz (P:Program):bz:=fun f ys H K=>jc P f∧
 ∀(w:World) (A:ah) (φ :af) (us:Array Value),St w H φ A→ys.length=us.size→
  (∀(i:Nat) (x:AV) (u:Value),ys[i]? =some x→us[i]? =some u→R w H φ A x u)→Calls P f us w (iy w H φ A K)
theorem cz.mono {P:Program} {f:FuncId} {ys:List AV} {H:J} {K K' :AV→J→Prop} (h: ∀v H,K v H→K' v H) (k:cz P f ys H K):cz P f ys H K' :=
 ⟨k.1,fun w A φ us h1 h2 h3=>(k.2 w A φ us h1 h2 h3).mono fun _ _ he=>he.mono h⟩
def Exact (X:bz):Prop:= ∀f ys H K,X f ys H K→ ∃v H',X f ys H (fun v1 H1=>v1=v∧H1=H')∧K v H'
theorem St.shrink {w:World} {H:J} {φ :af} {A A' :ah} (h:St w H φ A) (h1: ∀c,A' c→A c) (h2: ∀c,Ow φ c→A' c):St w H φ A' :=by
 refine ⟨h.inj,h2,fun c hc=>h.b4 c (h1 c hc),fun id loc hl=> ?_⟩;obtain ⟨b,hb,ag⟩:=h.ap id loc hl;refine ⟨b,hb,ag.ad,ag.sized,ag.aO,fun c b0 he=> ?_⟩;obtain ⟨arr,T,fr,k1,k2,k3,k4⟩:=ag.here c b0 he;exact ⟨arr,T,fr,k1,k2,k3,fun i x j y v hx hy hv=>⟨(k4 i x j y v hx hy hv).1.l5 h1,(k4 i x j y v hx hy hv).2⟩⟩
section
variable {w:World} {H:J} {φ :af} {A:ah}
theorem oQ {xs:List AV} {us:List Value} (hl:xs.length=us.length) (h: ∀(i:Nat) (x:AV) (u:Value),xs[i]? =some x→us[i]? =some u→R w H φ A x u):R w H φ A (cg xs) (gW us):=by
 have key: ∀{xs:List AV} {us:List Value},xs.length=us.length→(∀(i:Nat) (x:AV) (u:Value),xs[i]? =some x→us[i]? =some u→R w H φ A x u)→R w H φ A (.aB xs) (.tuple us.toArray):=
  fun hl h=> .aB _ _ (by simpa using hl) fun i x v hx hv=>h i x v hx (by simpa using hv)
 match xs,us,hl with
 |[],[],hl=>exact key hl h
 |[x],[u],_=>exact h 0 x u rfl rfl
 |x::x' ::xs,u::u' ::us,hl=>exact key hl h
theorem q_ {xs:List AV} {us:List Value} (hl:xs.length=us.length) (h: ∀(i:Nat) (x:AV) (u:Value),xs[i]? =some x→us[i]? =some u→FR w A x u):FR w A (cg xs) (gW us):=by
 have key: ∀{xs:List AV} {us:List Value},xs.length=us.length→(∀(i:Nat) (x:AV) (u:Value),xs[i]? =some x→us[i]? =some u→FR w A x u)→FR w A (.aB xs) (.tuple us.toArray):=
  fun hl h=> .aB _ _ (by simpa using hl) fun i x v hx hv=>h i x v hx (by simpa using hv)
 match xs,us,hl with
 |[],[],hl=>exact key hl h
 |[x],[u],_=>exact h 0 x u rfl rfl
 |x::x' ::xs,u::u' ::us,hl=>exact key hl h
end
theorem ra (zs:List AV) (H:J):aG (cg zs) H=(cg (aF zs H).1,(aF zs H).2):=by
 match zs with
 |[]=>rfl
 |[z]=>rfl
 |z::z' ::zs=>rfl
theorem rb (zs:List AV):br (cg zs)=cg (bS zs):=by
 match zs with
 |[]=>rfl
 |[z]=>rfl
 |z::z' ::zs=>rfl
theorem rf (zs:List AV):cB (cg zs)=fZ zs:=by
 match zs with
 |[]=>rfl
 |[z]=>simp [cg,fZ]
 |z::z' ::zs=>rfl
theorem rh {xs:List AV} {v:Value} {w:World} {H:J} {φ :af} {A:ah} (h:R w H φ A (cg xs) v): ∃us:List Value,v=gW us∧xs.length=us.length∧ ∀(i:Nat) (x:AV) (u:Value),xs[i]? =some x→us[i]? =some u→R w H φ A x u:=by
 have key: ∀{xs:List AV},xs.length≠1→R w H φ A (.aB xs) v→ ∃us:List Value,v=gW us∧xs.length=us.length∧ ∀(i:Nat) (x:AV) (u:Value),xs[i]? =some x→us[i]? =some u→R w H φ A x u:=by
  intro xs hl h;obtain ⟨vs,rfl,h1,h2⟩:=h.lA;refine ⟨vs.toList,?_,by simpa using h1,fun i x u hx hu=>h2 i x u hx (by simpa using hu)⟩
  have cW:vs.toList.length≠1:=by simp only [Array.length_toList];omega
  generalize hv:vs.toList=l at cW;have:Value.tuple vs= .tuple l.toArray:=by rw [←hv]
  rw [this]
  match l with
  |[]=>rfl
  |[u]=>exact absurd rfl cW
  |u::u' ::l=>rfl
 match xs with
 |[]=>exact key (by simp) h
 |[x]=>exact ⟨[v],rfl,rfl,fun i x' u hx hu=>by
  cases i with
  |zero=>simp at hx hu;subst hx;subst hu;exact h
  |succ i=>simp at hx⟩
 |x::x' ::xs=>exact key (by simp) h
def mf (ms:List Mode):Prop:= ∀m∈ms,m= .val
theorem oR: ∀(ms:List Mode) (sh:List (List Sh)) (as:List AV) (H:J),mf ms→fC ms sh as H=some (as,H)
 |[],sh,as,H,_=>rfl
 |m::ms,sh,[],H,_=>rfl
 |m::ms,sh,a::as,H,h=>by
  have hm:=h m (by simp)
  subst hm;simp only [fC,eX,oR ms sh.tail as H (fun m hm=>h m (by simp [hm]))]
theorem oS (H0:J): ∀(ms:List Mode) (as:List AV) (H:J),mf ms→cv H0 ms as H=H
 |[],as,H,_=>by simp [cv]
 |m::ms,[],H,_=>by cases m<;>simp [cv]
 |m::ms,a::as,H,h=>by
  have hm:=h m (by simp)
  subst hm;simp only [cv];exact oS H0 ms as H (fun m hm=>h m (by simp [hm]))
theorem jM {w:World} {H:J} {φ :af} {A:ah} (ae:St w H φ A):aA φ H= φ :=by
 funext id
 unfold aA;cases hp: φ id with
 |none=>simp
 |some loc=>obtain ⟨b,hb,_⟩:=ae.ap id loc hp;simp [hb]
theorem oT {H:J}: ∀(as ys:List AV) (b:Bool),b_ [] as H=some (ys,b)→ ∀L,ca [] ys L=(ys,L)
 |[],ys,b,h,L=>by simp only [b_,Option.some.injEq,Prod.mk.injEq] at h;obtain ⟨rfl,_⟩:=h;rfl
 |a::as,ys,b,h,L=>by
  simp only [b_] at h;split at h
  ·rename_i y hy;split at h
   ·rename_i aS b' cq
    simp only [Option.some.injEq,Prod.mk.injEq] at h;obtain ⟨rfl,_⟩:=h;simp only [ca,l8 H 8 a y hy,List.tail_nil,oT as aS b' cq]
   ·simp at h
  ·simp at h
theorem yi {P:Program} {C:aI} {X:bz} (hX: ∀f ys H K,X f ys H K→cz P f ys H K) {w:World} {H:J} {φ :af} {A:ah} (ae:St w H φ A) {f:FuncId} {as:List AV} {us:Array Value} (hl:as.length=us.size)
 (hr: ∀(i:Nat) (x:AV) (u:Value),as[i]? =some x→us[i]? =some u→R w H φ A x u) {th:Bool} {K:AV→J→Prop} (h:dj X C f as th H K):jc P f∧Calls P f us w (iy w H φ A K):=by
 unfold dj at h;split at h
 ·exact h.elim
 rename_i ys bT hy;obtain ⟨y,kQ,gT,hp⟩:=h;have hm:mf []:=fun m hm=>by simp at hm
 have oU:bW w H φ A ⟨0,[]⟩ (fun _=>none) A:=by
  refine ⟨ae,⟨fun i i' c b b' h=>by simp at h,fun c hc=> ?_,ae.b4,fun id loc h=>by simp at h⟩,fun c _ hc=> ?_,ae.own⟩
  ·obtain ⟨i,b,h⟩:=hc;simp at h
  ·obtain ⟨i,b,h⟩:=hc;simp at h
 have oV:ca [] ys ⟨0,[]⟩=(ys,⟨0,[]⟩):=oT _ _ _ hy _;obtain ⟨az,m,cr,dM⟩:=l_ as [] [] us.toList H φ as H ys bT ⟨0,[]⟩ (fun _=>none) ys ⟨0,[]⟩ oU (by simpa using hl) (fun i x u hx hu=>hr i x u hx (by simpa using hu)) (oR _ _ _ _ hm) hy oV
 have bm: ∀c,¬Ow az c:=fun c hc=>by
  rcases m.oh c hc with ⟨i,b,h⟩|⟨h1,h2⟩
  ·simp at h
  ·rw [jM ae] at h2;exact h2 h1
 let A0:ah:=if bT=true then Ow az else A
 have jd: ∀c,A0 c→A c:=by
  intro c hc;simp only [A0] at hc;split at hc
  ·exact absurd hc (bm c)
  ·exact hc
 have oW:bT=true→ ∀c,A0 c→fp (aA φ H) A c:=by
  intro aw c hc;simp only [A0,aw,if_true] at hc;exact absurd hc (bm c)
 have cP:St w ⟨0,[]⟩ az A0:=m.bn.sh.shrink jd (fun c hc=>absurd hc (bm c));have eR:ys.length=us.size:=by simpa using cr.1
 refine ⟨(hX _ _ _ _ kQ).1,((hX _ _ _ _ kQ).2 w A0 az us cP eR (fun i x u hx hu=>cr.2 A0 jd oW i x u hx (by simpa using hu))).mono fun e w' he=> ?_⟩
 cases e with
 |panicked c=>exact he.elim
 |outgrown=>exact he.elim
 |returned v' =>
 obtain ⟨x0,L,ak,A',ho,oX,rs,gq,L2,rfl,kR,rfl⟩:=he;obtain ⟨cx,rfl,gX,gR⟩:=rh oX
 let AH:ah:=if bT=true then fun c=>A c∨(A' c∧w.heap.size≤c) else A'
 have je: ∀c,Ow ak c→w.heap.size≤c:=fun c hc=>(ho.post.own c hc).resolve_left (bm c)
 have ha:oK w A az w' ak AH:=by
  refine ⟨fun c hc hn=> ?_,fun c hc=> ?_,fun c hc=> ?_,fun c arr T fr hc hn=> ?_⟩
  ·simp only [AH];split
   ·exact .inl hc
   ·rename_i aw;refine ho.bJ c ?_ hn;simp only [A0,aw];exact hc
  ·simp only [AH];split
   ·exact .inr ⟨ho.st.own c hc,je c hc⟩
   ·exact ho.st.own c hc
  ·simp only [AH] at hc;split at hc
   ·rcases hc with h|⟨h,_⟩
    ·exact Nat.lt_of_lt_of_le (ae.b4 c h) ho.post.size
    ·exact ho.st.b4 c h
   ·exact ho.st.b4 c hc
  ·obtain ⟨h1,h2⟩:=ho.bV.fz c arr T fr hc (fun h=>hn (jd c h));refine ⟨h1,?_⟩;simp only [AH];split
   ·rintro (h|⟨_,h⟩)
    ·exact hn h
    ·have:c<w.heap.size:=by
      rcases Nat.lt_or_ge c w.heap.size with h' |h'
      ·exact h'
      ·rw [Array.getElem?_eq_none h'] at hc;simp at hc
     omega
   ·exact h2
 obtain ⟨D,E⟩:=qX (ls:=[]) (Lm:=L) ae m (by rw [hl,eR]) dM ho ha (by simp [fb])
 rw [oS _ _ _ _ hm,jM ae] at D E;have oY:dL A' AH gq:=by
  cases aw:bT with
  |false=>exact .inl fun c h=>by simpa [AH,aw] using h
  |true=>
   rcases gT with h|h
   ·rw [aw] at h;simp at h
   ·rw [rf] at h;exact .inr h
 have jf: ∀(i:Nat) (x:AV) (u:Value),rs[i]? =some x→cx[i]? =some u→R w' L (aA ak L) A' x u:=fun i x u hx hu=>by
  rw [jM ho.st];exact gR i x u hx hu
 have fh: ∀{cQ:af},(∀c,Ow cQ c→Ow φ c∨Ow ak c)→fc w φ w' cQ:=fun hq=>
  ⟨ho.post.os,ho.post.tape,ho.post.output,ho.post.size,fun c hc _=>ho.post.kept c hc (bm c),ho.post.a7,fun c hc=>by
   rcases hq c hc with h|h
   ·exact .inl h
   ·exact .inr (je c h)⟩
 have jg: ∀c,A c→ ¬Ow φ c→AH c:=fun c hc _=>ha.own c hc (bm c);have cH: ∀c,Ow φ c→a7 w' c=a7 w c:=fun c hc=>ho.post.a7 c (Ow.lt ae hc)
 cases fM:(th||bT) with
 |true=>
  rw [fM] at hp;simp only [if_true,ra] at hp;obtain ⟨cQ,m3,l3,r3⟩:=q0 _ rs cx L _ H φ gq L2 D gX jf kR oY
  refine ⟨_,_,cQ,AH,⟨m3.bn.sh,fh fun c hc=> ?_,E.trans m3.eh cH,jg⟩,oQ l3 r3,hp⟩;rcases m3.oh c hc with h|⟨h,_⟩
  ·exact .inl h
  ·exact .inr (bG h)
 |false=>
  rw [fM] at hp;simp only [Bool.false_eq_true,if_false,rb] at hp;simp only [Bool.or_eq_false_iff] at fM;have oZ:AH=A' :=by simp [AH,fM.2]
  rw [oZ] at D E jg
  let A2:ah:=gone (aA ak L) A' L2
  obtain ⟨l3,r3⟩:=oP (A' :=A2) _ rs cx L (aA ak L) gq L2 D.sl gX jf kR (fun c h=>h)
  have o0: ∀c,Ow φ c→A2 c:=fun c hc=>⟨D.sh.own c hc,fun h=>absurd hc (D.b8 c h)⟩;have o7:bH w H φ A w' H φ A2:=⟨fun c arr T fr hc hn=>⟨(E.fz c arr T fr hc hn).1,fun h2=>(E.fz c arr T fr hc hn).2 h2.1⟩,E.st,E.ids,E.sz⟩
  refine ⟨_,_,φ,A2,⟨D.sh.shrink (fun c h=>h.1) o0,fh fun c hc=> .inl hc,o7,fun c hc hn=>⟨jg c hc hn,fun h=> ?_⟩⟩,.fr _ _ (q_ l3 r3),hp⟩;have:=je c (bG h)
  have:=ae.b4 c hc;omega
end Go.VS
namespace Go.VS
section ops
variable {P:Program} {C:aI} {X:bz} {w:World} {H:J} {φ :af} {A:ah}
theorem yj {f:FuncId} (h:jc P f) (args:Array Value) (w:World):(callFunc f args).run P w= .ok (.enter f args) w:=by
 obtain ⟨fn,h1,h2,h3⟩:=h;have kO:fn.name≠ "runtime.NumGoroutine" :=by simpa using h2
 have yl:fn.body≠none:=by intro e;rw [e] at h3;simp at h3
 simp [callFunc,h1,kO,yl]
theorem ri {o:Oper} {ρ :Operand→Value} {x:Operand} {args:Array Operand} {tys:Array TypeId} (ho:o.op= .call {callee:= .value x,args,argTypes:=tys}) {g:FuncId} {bR:Array Value} (hx: ρ x= .func (.func g) #[] bR) (hc:jc P g):
 (execOp ρ o).run P w= .ok (.enter g (args.map ρ ++ bR)) w:=by
 simp [execOp,ho,resolve,hx,Deferred.ofValue,invoke,yj hc]
theorem rj {o:Oper} {ρ :Operand→Value} {b:Builtin} {args:Array Operand} {tys:Array TypeId} (ho:o.op= .call {callee:= .builtin b,args,argTypes:=tys}):
 ∃consts,(execOp ρ o).run P w=(builtin b tys o.type consts (args.map ρ)).run P w:=
 ⟨_,by simp only [execOp,ho,resolve,invoke,Sem.run_bind,Sem.run_pure,Result.andThen_ok];rfl⟩
theorem cd.upon {H' :J} {r:Result Next} {x:AV} (h:cd w H φ A H' r x) {o:Oper} {a:Act} {next:Act→World→Prop} {Q:Exit→Act→World→Prop}
 (hn: ∀v w' ak A',Out w H φ A w' H' ak A' →R w' H' ak A' x v→next (a.put o.dst v) w'):o.upon P a next Q r:=by
 obtain ⟨n,v,w',ak,A',rfl,hv,hr,ho⟩:=h;rcases hv with rfl|⟨rfl,rfl⟩
 ·exact hn v w' ak A' ho hr
 ·exact hn _ w' ak A' ho hr
theorem mg (hE: ∀t ti,C.E t=some ti→aQ P t ti) (hX: ∀f ys H K,X f ys H K→cz P f ys H K) (ae:St w H φ A) {o:Oper} {s:aj} {a:Act} (hs: ∀x∈o.op.operands,R w H φ A (ev s x) (a.eval x)) {th:Bool} {K:AV→J→Prop} (h:wpOp X C false th o s H K)
 {next:Act→World→Prop} {Q:Exit→Act→World→Prop} (hn: ∀x v w' H' ak A',Out w H φ A w' H' ak A' →R w' H' ak A' x v→K x H' →next (a.put o.dst v) w'):o.wp P a w next Q:=by
 have kS: ∀(hh:(match aL C.E o.op s H with|some (v,H')=>K v H' |none=>False)),o.wp P a w next Q:=by
  intro hh;split at hh
  ·rename_i v H' he
   exact (xX hE ae hs he).upon (fun u w' ak A' h1 h2=>hn v u w' H' ak A' h1 h2 hh)
  ·exact hh.elim
 unfold wpOp at h;split at h
 ·rename_i b args tys bB;obtain ⟨_,h⟩:=h;split at h
  ·rename_i v H' he
   obtain ⟨consts,cL⟩:=rj (P:=P) (w:=w) (ρ :=a.eval) bB;have:=xY hE ae (ty:=o.type) (consts:=consts) (vs:=args.map a.eval) (by simp) (fun i x u hx hu=>by
    simp only [List.getElem?_map,Option.map_eq_some_iff] at hx;obtain ⟨y,hy,rfl⟩:=hx;simp only [Array.getElem?_map,Option.map_eq_some_iff] at hu;obtain ⟨y',eg,rfl⟩:=hu;have:y' =y:=by simp at hy;rw [hy] at eg;simpa using eg.symm
    subst this;exact hs y' (by rw [bB];simp only [Op.operands,Call.operands];simp [Array.mem_of_getElem? eg])) he
   rw [←cL] at this;exact this.upon (fun u w' ak A' h1 h2=>hn v u w' H' ak A' h1 h2 h)
  ·exact h.elim
 ·rename_i x args tys bB;split at h
  ·rename_i g bR hg;simp only [Bool.false_eq_true,if_false] at h;have hx:=hs x (by rw [bB];simp [Op.operands,Call.operands])
   rw [hg] at hx;obtain ⟨vs,hv,hl,hp⟩:=hx.kh;have rk: ∀(i:Nat) (y:AV) (u:Value),(args.toList.map (ev s) ++ bR)[i]? =some y→(args.map a.eval ++ vs)[i]? =some u→R w H φ A y u:=fun i y u hy hu=>by
    rcases Nat.lt_or_ge i args.size with hi|hi
    ·rw [List.getElem?_append_left (by simpa using hi)] at hy
     rw [Array.getElem?_append_left (by simpa using hi)] at hu
     simp only [List.getElem?_map,Option.map_eq_some_iff] at hy;obtain ⟨z,hz,rfl⟩:=hy;simp only [Array.getElem?_map,Option.map_eq_some_iff] at hu;obtain ⟨z',dH,rfl⟩:=hu;have:z' =z:=by simp at hz;rw [hz] at dH;simpa using dH.symm
     subst this;exact hs z' (by rw [bB];simp only [Op.operands,Call.operands];simp [Array.mem_of_getElem? dH])
    ·rw [List.getElem?_append_right (by simpa using hi)] at hy
     rw [Array.getElem?_append_right (by simpa using hi)] at hu
     exact hp _ y u (by simpa using hy) (by simpa using hu)
   have hc:jc P g∧Calls P g (args.map a.eval ++ vs) w (iy w H φ A K):=by
    rcases h with h|h
    ·exact ⟨(hX _ _ _ _ h).1,(hX _ _ _ _ h).2 w A φ (args.map a.eval ++ vs) ae (by simp [hl]) rk⟩
    ·exact yi hX ae (us:=args.map a.eval ++ vs) (by simp [hl]) rk h
   unfold Oper.wp;rw [ri bB hv hc.1,Oper.upon_enter];refine hc.2.mono fun e w' he=> ?_
   cases e with
   |returned v' =>
    obtain ⟨x',H',ak,A',h1,h2,h3⟩:=he;exact hn x' v' w' H' ak A' h1 h2 h3
   |panicked c=>exact he.elim
   |outgrown=>exact he.elim
  ·exact h.elim
 ·exact kS h.2
end ops
end Go.VS
namespace Go.VS
structure jN (π :List Nat) (ops:Array Oper):Prop where
 len: π.length=ops.size
 nodup: π.Nodup
 lt: ∀i∈ π,i<ops.size
 mem: ∀i,i<ops.size→i∈ π
 rl: ∀(i:Nat) (o:Oper),ops[i]? =some o→ ∀e∈o.after.toList,Region.binds .any e=true→e.on<ops.size
 gY: ∀(i:Nat) (o:Oper) (j:Nat) (b:Bool),ops[i]? =some o→o.guard=some (j,b)→j<ops.size
theorem ym {π :List Nat} {ops:Array Oper} (h:nn π ops=true):jN π ops:=by
 simp only [nn,Bool.and_eq_true,beq_iff_eq,List.all_eq_true,decide_eq_true_eq,List.mem_range,List.contains_iff_mem] at h;obtain ⟨⟨⟨⟨h1,h0⟩,h2⟩,h3⟩,h4⟩:=h;refine ⟨h1,h0,h2,h3,fun i o ho e he hb=> ?_,fun i o j b ho hg=> ?_⟩
 ·have:=(h4 o (by rw [←Array.getElem?_toList] at ho;exact List.mem_of_getElem? ho)).1
  rw [Array.all_eq_true_iff_forall_mem] at this;have:=this e (by simpa using he)
  rw [hb] at this;simpa using this
 ·have:=(h4 o (by rw [←Array.getElem?_toList] at ho;exact List.mem_of_getElem? ho)).2
  rw [hg] at this;simpa using this
section
variable {π :List Nat} {ops:Array Oper} (hp:jN π ops)
include hp
theorem jN.at_ {k:Nat} (hk:k< π.length): ∃o,ops[π[k]]? =some o∧(ey π ops)[k]? =some (eW π o):=by
 have:=hp.lt _ (List.getElem_mem hk);refine ⟨ops[π[k]],by simp [this],?_⟩
 unfold ey ly;rw [List.getElem?_toArray,List.getElem?_map,List.getElem?_eq_getElem hk];simp [List.getD,this]
theorem jN.size:(ey π ops).size=ops.size:=by
 simp [ey,ly,hp.len]
theorem jN.jO {i:Nat} (hi:i<ops.size):c5 π i< π.length∧ π[c5 π i]? =some i:=by
 have:=hp.mem i hi;unfold c5;have h:=List.idxOf_lt_length_of_mem this;exact ⟨h,by rw [List.getElem?_eq_getElem h,List.getElem_idxOf]⟩
theorem jN.get {i:Nat} {o:Oper} (ho:ops[i]? =some o):(ey π ops)[c5 π i]? =some (eW π o):=by
 have hi:i<ops.size:=(Array.getElem?_eq_some_iff.1 ho).1;obtain ⟨h1,h2⟩:=hp.jO hi;obtain ⟨o',h3,h4⟩:=hp.at_ h1;have: π[c5 π i]=i:=by rw [List.getElem?_eq_getElem h1] at h2;simpa using h2
 rw [this,ho] at h3;simp only [Option.some.injEq] at h3;subst h3;exact h4
def PL (π :List Nat) (n:Nat) (l l' :Array Bool):Prop:=l.size=n∧l'.size=n∧ ∀i,i<n→l'[c5 π i]? =l[i]?
theorem PL.set {l l' :Array Bool} (h:PL π ops.size l l') {i:Nat} (hi:i<ops.size):PL π ops.size (l.setIfInBounds i true) (l'.setIfInBounds (c5 π i) true):=by
 obtain ⟨h1,h2,h3⟩:=h;refine ⟨by simp [h1],by simp [h2],fun j hj=> ?_⟩
 obtain ⟨yn,o8⟩:=hp.jO hi;obtain ⟨A8,yo⟩:=hp.jO hj;rw [Array.getElem?_setIfInBounds,Array.getElem?_setIfInBounds];by_cases e:i=j
 ·subst e;rw [if_pos rfl,if_pos rfl,if_pos (by rw [h2,←hp.len];exact yn),if_pos (by rw [h1];exact hi)]
 ·have: ¬c5 π i=c5 π j:=by
   intro e2;rw [e2,yo] at o8;simp at o8;exact e o8.symm
  rw [if_neg this,if_neg e];exact h3 j hj
omit hp in
theorem PL.getD {l l' :Array Bool} (h:PL π ops.size l l') {i:Nat} (hi:i<ops.size) (b:Bool):l'.getD (c5 π i) b=l.getD i b:=by
 have:=h.2.2 i hi;rw [Array.getD_eq_getD_getElem?,Array.getD_eq_getD_getElem?,this]
theorem rm {l l' :Array Bool} (h:PL π ops.size l l') {i:Nat} (hi:i∈Region.ready .any ops l):i<ops.size∧c5 π i∈Region.ready .any (ey π ops) l' :=by
 unfold Region.ready at hi⊢;simp only [List.mem_filter,List.mem_range,Bool.and_eq_true] at hi⊢;obtain ⟨h1,h2,h3⟩:=hi;have ho:ops[i]? =some ops[i]:=by simp [h1]
 obtain ⟨r1,r2⟩:=hp.jO h1;refine ⟨h1,by rw [hp.size,←hp.len];exact r1,by rw [h.getD h1];exact h2,?_⟩
 rw [hp.get ho];rw [ho] at h3;simp only [Option.map_some,Option.getD_some,Array.all_eq_true_iff_forall_mem] at h3⊢;intro e he;simp only [eW,List.mem_toArray,List.mem_filterMap] at he;obtain ⟨e0,rn,mh⟩:=he;split at mh
 ·rename_i hb;simp only [Option.some.injEq] at mh;subst mh;have:=h3 e0 (by simpa using rn)
  rw [hb] at this;simp only [Bool.not_true,Bool.false_or] at this;rw [h.getD (hp.rl i _ ho e0 rn hb)];simp [this]
 ·simp at mh
theorem yp {i:Nat} {o:Oper} (ho:ops[i]? =some o) (t:Array Value):Region.wanted (eW π o) (yielded (ey π ops) t)=Region.wanted o (yielded ops t):=by
 unfold Region.wanted eW;simp only;cases hg:o.guard with
 |none=>rfl
 |some p=>
  obtain ⟨j,b⟩:=p;have hj:=hp.gY i o j b ho hg;simp only [Option.map_some];congr 1;unfold yielded;have rq:ops[j]? =some ops[j]:=by simp [hj]
  rw [hp.get rq,rq];rfl
omit hp in
theorem rr (ρ :Operand→Value) (o:Oper):execOp ρ (eW π o)=execOp ρ o:=by
 cases o;rfl
theorem yq {P:Program} {Q:Exit→Act→World→Prop} {i:Nat} {o:Oper} (ho:ops[i]? =some o) {K K' :Act→World→Prop} (hK: ∀a w,K' a w→K a w) {a:Act} {w:World} (h:Go.wpOp P (ey π ops) Q (c5 π i) K' a w):Go.wpOp P ops Q i K a w:=by
 unfold Go.wpOp at h⊢;rw [hp.get ho] at h;rw [ho];simp only at h⊢;rw [yp hp ho] at h;split at h
 ·rename_i hw;rw [if_pos hw];rcases h with h|⟨h1,h2⟩
  ·refine .inl (Oper.wp_mono hK ?_);unfold Oper.wp at h⊢;rw [rr] at h;exact h
  ·refine .inr ⟨?_,h2⟩;unfold Oper.asks at h1⊢;rw [rr] at h1;exact h1
 ·rename_i hw;rw [if_neg hw];exact hK _ _ h
theorem yr {l l' :Array Bool} (h:PL π ops.size l l') {k:Nat} (hk:k∈Region.ready .any (ey π ops) l'): ∃i,i∈Region.ready .any ops l:=by
 unfold Region.ready at hk⊢;simp only [List.mem_filter,List.mem_range,Bool.and_eq_true] at hk;obtain ⟨h1,h2,h3⟩:=hk;rw [hp.size,←hp.len] at h1;obtain ⟨o,ho,ag⟩:=hp.at_ h1;have hi:=hp.lt _ (List.getElem_mem h1);have hr:c5 π π[k]=k:=by
  obtain ⟨r1,r2⟩:=hp.jO hi;rw [List.getElem?_eq_getElem r1] at r2;simp only [Option.some.injEq] at r2;exact (List.getElem_inj hp.nodup).1 r2
 refine ⟨π[k],?_⟩;simp only [List.mem_filter,List.mem_range,Bool.and_eq_true];refine ⟨hi,by rw [←h.getD hi,hr];exact h2,?_⟩
 rw [ag] at h3;rw [ho];simp only [Option.map_some,Option.getD_some,Array.all_eq_true_iff_forall_mem] at h3⊢;intro e he;by_cases hb:Region.binds .any e=true
 ·have hl:=hp.rl _ o ho e (by simpa using he) hb
  have:=h3 {e with on:=c5 π e.on} (by
   simp only [eW,List.mem_toArray,List.mem_filterMap];exact ⟨e,by simpa using he,by rw [if_pos hb]⟩)
  have ax:Region.binds .any {e with on:=c5 π e.on}=true:=hb
  rw [ax] at this;simp only [Bool.not_true,Bool.false_or] at this;rw [h.getD hl] at this;simp [this]
 ·simp [hb]
theorem ru {P:Program} {Q:Exit→Act→World→Prop}: ∀(n:Nat) (l l' :Array Bool) (a:Act) (w:World),PL π ops.size l l' →wpAny P .any (ey π ops) Q n l' a w→wpAny P .any ops Q n l a w
 |0,l,l',a,w,hl,h=>by
  simp only [wpAny] at h⊢;refine ⟨?_,h.2⟩;rw [List.eq_nil_iff_forall_not_mem];intro i hi;have:=(rm hp hl hi).2;rw [h.1] at this;simp at this
 |n+1,l,l',a,w,hl,h=>by
  simp only [wpAny] at h⊢;refine ⟨fun he=>h.1 ?_,fun i hi=> ?_⟩
  ·rw [List.eq_nil_iff_forall_not_mem];intro k hk;obtain ⟨i,hi⟩:=yr hp hl hk;rw [he] at hi;simp at hi
  ·obtain ⟨h1,h2⟩:=rm hp hl hi;have ho:ops[i]? =some ops[i]:=by simp [h1]
   exact yq hp ho (fun a w hh=>ru n _ _ a w (hl.set hp h1) hh) (h.2 _ h2)
theorem yt {P:Program} {Q:Exit→Act→World→Prop} {a:Act} {w:World} (h:wpAny P .any (ey π ops) Q (ey π ops).size (Array.replicate (ey π ops).size false) a w):wpAny P .any ops Q ops.size (Array.replicate ops.size false) a w:=by
 rw [hp.size] at h;refine ru hp _ _ _ a w ⟨by simp,by simp,fun i hi=> ?_⟩ h
 obtain ⟨r1,_⟩:=hp.jO hi;rw [hp.len] at r1;simp [hi,r1]
end
theorem SF.kill {w:World} {H:J} {φ :af} {A:ah} {s:aj} {a:Act} (h:SF w H φ A s a) (l:List Nat):SF w H φ A (ez l s) a:=by
 have key: ∀(s:aj) (i:Nat),(ez.go l i s).length=s.length∧ ∀(t:Nat) (x:AV),(ez.go l i s)[t]? =some x→x= .undef∨s[t]? =some x:=by
  intro s;induction s with
  |nil=>intro i;simp [ez.go]
  |cons y s ih=>
   intro i;obtain ⟨h1,h2⟩:=ih (i+1);refine ⟨by simp [ez.go,h1],fun t x hx=> ?_⟩
   cases t with
   |zero=>
    simp only [ez.go,List.getElem?_cons_zero,Option.some.injEq] at hx;split at hx
    ·exact .inr (by simp [hx])
    ·exact .inl hx.symm
   |succ t=>simp only [ez.go,List.getElem?_cons_succ] at hx⊢;exact h2 t x hx
 obtain ⟨h1,h2⟩:=key s 0;refine ⟨h1.trans h.len,fun t x v hx hv=> ?_,h.eD⟩;rcases h2 t x hx with rfl|hx
 ·exact .fr _ _ (.undef _)
 ·exact h.val t x v hx hv
theorem yu {w:World} {H:J} {φ :af} {A:ah} (ae:St w H φ A) (n:Nat):Out w H φ A w (H.trim n) (aA φ (H.trim n)) A:=by
 have hg: ∀id b,(H.trim n).get id=some b→H.get id=some b:=by
  intro id b h;unfold J.trim J.get at h;unfold J.get;simp only [List.getElem?_take] at h;split at h
  ·exact h
  ·simp at h
 have aT:bH w H φ A w (H.trim n) (aA φ (H.trim n)) A:=
  ⟨fun c arr T fr hc hn=>⟨⟨fr,hc⟩,hn⟩,Nat.le_refl _,fun id b hb _=>⟨b,hg id b hb,rfl,rfl,rfl,rfl,fun loc hl=>by simp [aA,hb,hl]⟩,fun _ _=>rfl⟩
 refine ⟨⟨fun i i' c b b' h h' =>ae.inj _ _ _ _ _ (de h).1 (de h').1,fun c hc=>ae.own c (bG hc),ae.b4,fun id loc h=> ?_⟩,⟨rfl,rfl,rfl,Nat.le_refl _,fun _ _ _=>rfl,fun _ _=>rfl,fun c hc=> .inl (bG hc)⟩,aT,fun c hc _=>hc⟩
 obtain ⟨h1,b,hb⟩:=de h;obtain ⟨b',ax,ag⟩:=ae.ap id loc h1;rw [hg id b hb] at ax;simp only [Option.some.injEq] at ax;subst ax;refine ⟨b,hb,ag.ad,ag.sized,ag.aO,fun c b0 he=> ?_⟩;obtain ⟨arr,T,fr,k1,k2,k3,k4⟩:=ag.here c b0 he;exact ⟨arr,T,fr,k1,k2,k3,fun i x j y v hx hy hv=>⟨(k4 i x j y v hx hy hv).1.mono aT,(k4 i x j y v hx hy hv).2⟩⟩
def rv:Ex→Exit
 | .normal=> .normal
 | .exit id=> .exit id
 | .ret=> .ret
theorem mj {x y:AV} (h:e9 x y=true):x=y:=by
 unfold e9 at h;split at h
 ·simp only [Bool.and_eq_true,beq_iff_eq] at h;obtain ⟨⟨⟨rfl,rfl⟩,rfl⟩,rfl⟩:=h;rfl
 ·rfl
 ·rfl
 ·simp at h
theorem yv {w:World} {H:J} {φ :af} {A:ah} {s:aj} {a:Act} (ae:St w H φ A) (hs:SF w H φ A s a) {t:Nat} {ts:List Nat} {sh:List Sh} {y:AV} {H1:J} (h:aY sh (s.getD t .undef) H=some (y,H1)):
 Out w H φ A w H1 (aA φ H1) (gone φ A H1)∧SF w H1 (aA φ H1) (gone φ A H1) (fE (s.getD t .undef) (br y) ts (s.set t (br y))) a:=by
 have hl:=fo _ _ _ _ _ h;have aT:bH w H φ A w H1 (aA φ H1) (gone φ A H1):=by
  have e:=cY (w:=w) (φ := φ) (A:=A) hl;exact ⟨fun c arr T fr hc hn=>⟨(e.fz c arr T fr hc hn).1,fun h2=>hn h2.1⟩,e.st,e.ids,e.sz⟩
 refine ⟨⟨(dX ae hl).shrink (fun c hc=>hc.1) (fun c hc=>⟨ae.own c (bG hc),fun _=>hc⟩),⟨rfl,rfl,rfl,Nat.le_refl _,fun _ _ _=>rfl,fun _ _=>rfl,fun c hc=> .inl (bG hc)⟩,aT,fun c hc hn=>⟨hc,fun ho=>absurd ho hn⟩⟩,?_⟩;have cD:=hs.mono aT;have one: ∀(k:Nat) (v:Value),s.getD k .undef=s.getD t .undef→a.tmps[k]? =some v→R w H1 (aA φ H1) (gone φ A H1) (br y) v:=by
  intro k v hk hv;have hr:=hs.ev (.tmp k);simp only [ev,Act.eval] at hr;rw [Array.getD_eq_getD_getElem?,hv,hk] at hr;exact .fr _ _ (q9 ae hr h (fun c hc=>hc))
 have base:SF w H1 (aA φ H1) (gone φ A H1) (s.set t (br y)) a∧ ∀k,(s.set t (br y)).getD k .undef=br y∨(s.set t (br y)).getD k .undef=s.getD k .undef:=by
  refine ⟨⟨by simpa using cD.len,fun k x v hx hv=> ?_,cD.eD⟩,fun k=> ?_⟩
  ·rw [List.getElem?_set] at hx;split at hx
   ·rename_i hk;subst hk;split at hx
    ·simp only [Option.some.injEq] at hx;subst hx;exact one t v rfl hv
    ·simp at hx
   ·exact cD.val k x v hx hv
  ·simp only [List.getD_eq_getElem?_getD,List.getElem?_set];split
   ·rename_i hk;subst hk;split
    ·exact .inl rfl
    ·rename_i aw;right;rw [List.getElem?_eq_none (by omega)]
   ·exact .inr rfl
 have gen: ∀(ts:List Nat) (s' :aj),SF w H1 (aA φ H1) (gone φ A H1) s' a→(∀k,e9 (s'.getD k .undef) (s.getD t .undef)=true→s.getD k .undef=s.getD t .undef∨br y=s.getD t .undef)→SF w H1 (aA φ H1) (gone φ A H1) (fE (s.getD t .undef) (br y) ts s') a:=by
  intro ts;induction ts with
  |nil=>intro s' h _;exact h
  |cons k ks ih=>
   intro s' h1 h2
   simp only [fE];split
   ·rename_i ry;have hval: ∀v,a.tmps[k]? =some v→R w H1 (aA φ H1) (gone φ A H1) (br y) v:=by
     intro v hv;rcases h2 k ry with e|e
     ·exact one k v e hv
     ·have:=h1.ev (.tmp k);simp only [ev,Act.eval] at this;rw [Array.getD_eq_getD_getElem?,hv,mj ry,←e] at this;exact this
    refine ih _ ⟨by simpa using h1.len,fun m x v hx hv=> ?_,h1.eD⟩ (fun m hm=> ?_)
    ·rw [List.getElem?_set] at hx;split at hx
     ·rename_i hk;subst hk;split at hx
      ·simp only [Option.some.injEq] at hx;subst hx;exact hval v hv
      ·simp at hx
     ·exact h1.val m x v hx hv
    ·simp only [List.getD_eq_getElem?_getD,List.getElem?_set] at hm;split at hm
     ·split at hm
      ·exact .inr (mj hm)
      ·rename_i hk aw;refine h2 m ?_;subst hk;rw [List.getD_eq_getElem?_getD,List.getElem?_eq_none (by omega)]
       exact hm
     ·exact h2 m (by rw [List.getD_eq_getElem?_getD];exact hm)
   ·exact ih s' h1 h2
 refine gen ts _ base.1 fun k hk=> ?_;rcases base.2 k with e|e
 ·rw [e] at hk;exact .inr (mj hk)
 ·rw [e] at hk;exact .inl (mj hk)
theorem o9 {w:World} {H:J} {φ :af} {A:ah} {x:AV} {v:Value} (h:R w H φ A x v):R w H φ A (j_ x) v:=by
 cases x with
 |nil=>have:=h.c6;subst this;exact .fr _ _ (.cC none 0)
 |e0=>obtain ⟨a,rfl⟩:=h.eB;exact .fr _ _ (.cC a 0)
 |_=>exact h
theorem yw {w:World} {H:J} {φ :af} {A:ah} {x:AV} {v:Value} (h:R w H φ A x v):R w H φ A (dB x) v:=by
 cases x with
 |agg cs=>
  obtain ⟨vs,rfl,h1,h2,h3⟩:=h.fG;refine .agg _ _ (by simpa using h1) h2 fun i x v hx hv=> ?_
  simp only [List.getElem?_map,Option.map_eq_some_iff] at hx;obtain ⟨y,hy,rfl⟩:=hx;exact o9 (h3 i y v hy hv)
 |_=>exact o9 h
theorem yx {w:World} {H:J} {φ :af} {A:ah} {s:aj} {a:Act} (t:Nat) (ae:St w H φ A) (hs:SF w H φ A s a): ∃ak A',Out w H φ A w (jA t s H).2 ak A' ∧SF w (jA t s H).2 ak A' (jA t s H).1 a:=by
 have plain: ∀v,s.getD t .undef=v→SF w H φ A (s.set t (dB v)) a:=by
  intro v hv;refine ⟨by simpa using hs.len,fun k x u hx hu=> ?_,hs.eD⟩
  rw [List.getElem?_set] at hx;split at hx
  ·rename_i hk;subst hk;split at hx
   ·simp only [Option.some.injEq] at hx;subst hx;have hr:=hs.ev (.tmp t);simp only [ev,Act.eval] at hr;rw [Array.getD_eq_getD_getElem?,hu,hv] at hr;exact yw hr
   ·simp at hx
  ·exact hs.val k x u hx hu
 have key: ∀v,s.getD t .undef=v→ ∃ak A',Out w H φ A w (match v with
  | .ref id ad _ _=>match H.ap id ad with
   |some b=>(s,H.bj id {b with el:=b.el.map dB})
   |none=>(s,H)
  |v=>(s.set t (dB v),H)).2 ak A' ∧SF w (match v with
  | .ref id ad _ _=>match H.ap id ad with
   |some b=>(s,H.bj id {b with el:=b.el.map dB})
   |none=>(s,H)
  |v=>(s.set t (dB v),H)).2 ak A' (match v with
  | .ref id ad _ _=>match H.ap id ad with
   |some b=>(s,H.bj id {b with el:=b.el.map dB})
   |none=>(s,H)
  |v=>(s.set t (dB v),H)).1 a:=by
  intro v hv;cases v with
  |ref id ad off len=>
   simp only;cases hb:H.ap id ad with
   |none=>exact ⟨φ,A,.refl ae,hs⟩
   |some b=>
    simp only;have hg:=(J.bp hb).1;have aw:=J.gI hg;have bw: ∀k,(H.bj id {b with el:=b.el.map dB}).get k=if k=id then some {b with el:=b.el.map dB} else H.get k:=by
     intro k;simp only [J.get,J.bj,List.getElem?_set];by_cases h:id=k
     ·subst h;simp [aw]
     ·have h' : ¬k=id:=fun e=>h e.symm
      simp [h,h']
    have aT:bH w H φ A w (H.bj id {b with el:=b.el.map dB}) φ A:=by
     refine ⟨fun c arr T fr hc hn=>⟨⟨fr,hc⟩,hn⟩,Nat.le_refl _,fun k b' hk _=> ?_,fun _ _=>rfl⟩
     rw [bw] at hk;split at hk
     ·rename_i e;subst e;simp only [Option.some.injEq] at hk;subst hk;exact ⟨b,hg,rfl,rfl,rfl,by simp,fun _ h=>h⟩
     ·exact ⟨b',hk,rfl,rfl,rfl,rfl,fun _ h=>h⟩
    have yy:St w (H.bj id {b with el:=b.el.map dB}) φ A:=by
     refine ⟨ae.inj,ae.own,ae.b4,fun k loc hk=> ?_⟩;obtain ⟨b0,ml,ag⟩:=ae.ap k loc hk;by_cases h:k=id
     ·subst h;rw [hg] at ml;simp only [Option.some.injEq] at ml;subst ml;refine ⟨{b with el:=b.el.map dB},by rw [bw,if_pos rfl],ag.ad,fun i x hx=> ?_,fun h=>by simp [ag.aO h],fun c b0 he=> ?_⟩
      ·simp only [List.getElem?_map,Option.map_eq_some_iff] at hx;obtain ⟨y,hy,rfl⟩:=hx;rw [lI,List.length_map];exact ag.sized i y hy
      ·obtain ⟨arr,T,fr,k1,k2,k3,k4⟩:=ag.here c b0 he;refine ⟨arr,T,fr,k1,k2,by simpa using k3,fun i x j y v hx hy hv=> ?_⟩
       simp only [List.getElem?_map,Option.map_eq_some_iff] at hx;obtain ⟨x',bC,rfl⟩:=hx;rw [lI] at hy;simp only [List.getElem?_map,Option.map_eq_some_iff] at hy;obtain ⟨y',eg,rfl⟩:=hy;have:=k4 i x' j y' v bC eg hv
       exact ⟨o9 (this.1.mono aT),this.2⟩
     ·refine ⟨b0,by rw [bw,if_neg h];exact ml,ag.ad,ag.sized,ag.aO,fun c b1 he=> ?_⟩
      obtain ⟨arr,T,fr,k1,k2,k3,k4⟩:=ag.here c b1 he;exact ⟨arr,T,fr,k1,k2,k3,fun i x j y v hx hy hv=>⟨(k4 i x j y v hx hy hv).1.mono aT,(k4 i x j y v hx hy hv).2⟩⟩
    exact ⟨φ,A,⟨yy,.refl _ _,aT,fun c hc _=>hc⟩,hs.mono aT⟩
  |_=>exact ⟨φ,A,.refl ae,plain _ hv⟩
 unfold jA;exact key _ rfl
theorem mm {w:World} {a:Act}: ∀(l:List (List Nat×List Sh)) {H:J} {φ :af} {A:ah} {s s' :aj} {H' :J},St w H φ A→SF w H φ A s a→dm l s H=some (s',H')→
 ∃ak A',Out w H φ A w H' ak A' ∧SF w H' ak A' s' a
 |[],H,φ,A,s,s',H',ae,hs,h=>by
  simp only [dm,Option.some.injEq,Prod.mk.injEq] at h;obtain ⟨rfl,rfl⟩:=h;exact ⟨φ,A,.refl ae,hs⟩
 |([],sh)::l,H,φ,A,s,s',H',ae,hs,h=>by simp [dm] at h
 |(t::ts,[])::l,H,φ,A,s,s',H',ae,hs,h=>by
  simp only [dm] at h;obtain ⟨φ1,A1,h1,h2⟩:=yx t ae hs;obtain ⟨ak,A',h3,h4⟩:=mm l h1.st h2 h;exact ⟨ak,A',h1.trans ae h3,h4⟩
 |(t::ts,e::sh)::l,H,φ,A,s,s',H',ae,hs,h=>by
  simp only [dm] at h;split at h
  ·rename_i y H1 hy;obtain ⟨h1,h2⟩:=yv (ts:=ts) ae hs hy;obtain ⟨ak,A',h3,h4⟩:=mm l h1.st h2 h;exact ⟨ak,A',h1.trans ae h3,h4⟩
  ·simp at h
section code
variable {P:Program} {C:aI} {X:bz}
def Ends (Q:Exit→Act→World→Prop) (K:Ex→aj→J→Prop) (w:World) (H:J) (φ :af) (A:ah):Prop:=
 ∀e s' H' ak A' a' w',Out w H φ A w' H' ak A' →SF w' H' ak A' s' a' →K e s' H' →Q (rv e) a' w'
theorem o_ {w:World} {H:J} {φ :af} {A:ah} {s:aj} {a:Act} {ops:Array Oper} {o:Oper} {b:Bool} (hs: ∀j want t,o.guard=some (j,want)→(ops[j]?).bind (·.dst)=some t→R w H φ A (ev s (.tmp t)) (a.eval (.tmp t))) (h:dl ops o s=some b):Region.wanted o (yielded ops a.tmps)=b:=by
 unfold dl at h;unfold Region.wanted;cases hg:o.guard with
 |none=>rw [hg] at h;simp at h;subst h;simp
 |some p=>
  obtain ⟨j,want⟩:=p;rw [hg] at h;simp only at h⊢;split at h
  ·rename_i t ht;have hv:=hs j want t hg ht;simp only [ev,Act.eval] at hv;split at h
   ·rename_i c hc;rw [hc] at hv;simp only [Option.some.injEq] at h;subst h;have:=hv.eK;have hy:yielded ops a.tmps j=some c:=by
     unfold yielded;rw [ht];simp only [Option.bind_some];rw [Array.getD_eq_getD_getElem?] at this;cases hq:a.tmps[t]? with
     |none=>rw [hq] at this;simp [undef] at this
     |some v=>rw [hq] at this;simp at this;subst this;rfl
    rw [hy];cases c<;>cases want<;>rfl
   ·rename_i cs hc;rw [hc] at hv;simp only [Option.some.injEq] at h;subst h;obtain ⟨vs,bA,_⟩:=hv.lA;have hy:yielded ops a.tmps j=none:=by
     unfold yielded;rw [ht];simp only [Option.bind_some];rw [Array.getD_eq_getD_getElem?] at bA;cases hq:a.tmps[t]? with
     |none=>rfl
     |some v=>rw [hq] at bA;simp at bA;subst bA;rfl
    rw [hy];cases want<;>rfl
   ·simp at h
  ·simp at h
theorem rz (hE: ∀t ti,C.E t=some ti→aQ P t ti) (hX: ∀f ys H K,X f ys H K→cz P f ys H K) {ops:Array Oper} {th:List Nat} {fz:List (Nat×List (List Nat×List Sh))} {K:aj→J→Prop} {Q:Exit→Act→World→Prop}:
 ∀(l:List Oper) (i:Nat) (s:aj) (H:J) (w:World) (φ :af) (A:ah) (a:Act),cK X C ops th fz K l i s H→St w H φ A→SF w H φ A s a→
  (∀s' H' ak A' a' w',Out w H φ A w' H' ak A' →SF w' H' ak A' s' a' →K s' H' →Q .normal a' w')→wpList P ops Q l a w
 |[],i,s,H,w,φ,A,a,h,ae,hs,hq=>hq s H φ A a w (.refl ae) hs h
 |o::rest,i,s0,H0,w,az,A0,a,h,cP,ec,yz=>by
  simp only [cK] at h;obtain ⟨s,H,hf,h⟩:=h;obtain ⟨φ,A,ho,hs⟩:=mm _ cP ec hf;have ae:=ho.st;have hq: ∀s' H' ak A' a' w',Out w H φ A w' H' ak A' →SF w' H' ak A' s' a' →K s' H' →Q .normal a' w' :=fun s' H' ak A' a' w' k1 k2 k3=>yz s' H' ak A' a' w' (ho.trans cP k1) k2 k3
  have next: ∀{x:AV} {v:Value} {w' :World} {H' :J} {ak:af} {A' :ah},Out w H φ A w' H' ak A' →R w' H' ak A' x v→cK X C ops th fz K rest (i+1) (bf s o.dst x) H' →wpList P ops Q rest (a.put o.dst v) w' :=by
   intro x v w' H' ak A' h1 h2 h3
   exact rz hE hX rest (i+1) _ H' w' ak A' _ h3 h1.st ((hs.mono h1.bV).set o.dst h2) fun s2 H2 a8 A2 a2 w2 k1 k2 k3=>hq s2 H2 a8 A2 a2 w2 (h1.trans ae k1) k2 k3
  simp only [wpList];cases hg:o.guard with
  |none=>
   rw [hg] at h;simp only at h;have hw:Region.wanted o (yielded ops a.tmps)=true:=by simp [Region.wanted,hg]
   rw [if_pos hw];exact .inl (mg hE hX ae (fun x _=>hs.ev x) h fun x v w' H' ak A' h1 h2 h3=>next h1 h2 h3)
  |some p=>
   rw [hg] at h;simp only at h;obtain ⟨v,H',h1,h2⟩:=h;split at h1
   ·rename_i b hb;have hw:=o_ (fun _ _ t _ _=>hs.ev (.tmp t)) hb;cases b with
    |true=>
     rw [if_pos hw];simp only [if_true] at h1;exact .inl (mg hE hX ae (fun x _=>hs.ev x) h1 fun x u w' iw ak A' k1 k2 k3=>by obtain ⟨rfl,rfl⟩:=k3;exact next k1 k2 h2)
    |false=>
     rw [if_neg (by rw [hw];simp)]
     simp only [Bool.false_eq_true,if_false] at h1;obtain ⟨rfl,rfl⟩:=h1;exact next (.refl ae) (.fr _ _ (.aB [] #[] rfl (by simp))) h2
   ·exact h1.elim
def mn (P:Program) (C:aI) (X:bz):Prop:=
 ∀(ops:Array Oper) (ay:List Nat) (th:List Nat) (s:aj) (H:J) (K:aj→J→Prop) (Q:Exit→Act→World→Prop) (w:World) (φ :af) (A:ah) (a:Act),ig ops ay=true→
  cV X C ops (fun i=> !ay.contains i) (fD ops ay) th K ops.toList 0 s H→St w H φ A→SF w H φ A s a→(∀s' H' ak A' a' w',Out w H φ A w' H' ak A' →SF w' H' ak A' s' a' →K s' H' →Q .normal a' w')→wpAny P .any ops Q ops.size (Array.replicate ops.size false) a {w with drawn:=w.drawn+1}
theorem Ends.trans {Q:Exit→Act→World→Prop} {K:Ex→aj→J→Prop} {w w1:World} {H H1:J} {φ φ1:af} {A A1:ah} (ae:St w H φ A) (h:Out w H φ A w1 H1 φ1 A1) (k:Ends Q K w H φ A):Ends Q K w1 H1 φ1 A1:=
 fun e s' H' ak A' a' w' h1 h2 h3=>k e s' H' ak A' a' w' (h.trans ae h1) h2 h3
theorem rA (hm:P.follows .mixedOrders=true) (hE: ∀t ti,C.E t=some ti→aQ P t ti) (hX: ∀f ys H K,X f ys H K→cz P f ys H K) (hD:mn P C X) (p:kd):
 ∀(c:Code) (cu:Nat) (s:aj) (H:J) (K:Ex→aj→J→Prop) (Q:Exit→Act→World→Prop) (w:World) (φ :af) (A:ah) (a:Act),cT p c=true→aJ X C (cU p cu c) s H K→St w H φ A→SF w H φ A s a→Ends Q K w H φ A→c.wp P Q a w:=by
 intro c;induction c with
 |skip=>intro cu s H K Q w φ A a ho h ae hs hq;exact wp_skip (hq .normal s H φ A a w (.refl ae) hs h)
 |ret=>intro cu s H K Q w φ A a ho h ae hs hq;exact wp_ret (hq .ret s H φ A a w (.refl ae) hs h)
 |exit id=>intro cu s H K Q w φ A a ho h ae hs hq;exact wp_exit (hq (.exit id) s H φ A a w (.refl ae) hs h)
 |seq x y yA pa=>
  intro cu s H K Q w φ A a ho h ae hs hq;simp only [cU,aJ] at h;simp only [cT,Bool.and_eq_true] at ho;refine wp_seq (yA cu s H _ _ w φ A a ho.1 h ae hs fun e s' H' ak A' a' w' h1 h2 h3=> ?_)
  cases e with
  |normal=>exact pa cu s' H' K Q w' ak A' a' ho.2 h3 h1.st h2 (Ends.trans ae h1 hq)
  |exit id=>exact hq (.exit id) s' H' ak A' a' w' h1 h2 h3
  |ret=>exact hq .ret s' H' ak A' a' w' h1 h2 h3
 |cond x y z pa yB=>
  intro cu s H K Q w φ A a ho h ae hs hq;simp only [cT,Bool.and_eq_true] at ho;have key: ∀(K:Ex→aj→J→Prop),aJ X C (.cond x (cU p cu y) (cU p cu z)) s H K→Ends Q K w H φ A→(Code.cond x y z).wp P Q a w:=by
   intro K h hq;simp only [aJ] at h;split at h
   ·rename_i t ht;have hv:=hs.ev x;rw [ht] at hv;refine wp_cond hv.eK ?_;cases t with
    |true=>exact pa cu s H K Q w φ A a ho.1 h ae hs hq
    |false=>exact yB cu s H K Q w φ A a ho.2 h ae hs hq
   ·exact h.elim
  simp only [cU] at h;unfold lx at h;split at h
  ·rename_i kp _;simp only [aJ,dm] at h;refine key _ h fun e s' H' ak A' a' w' h1 h2 h3=> ?_
   cases e with
   |normal=>exact hq .normal _ H' ak A' a' w' h1 (h2.kill kp) h3
   |exit id=>exact hq (.exit id) s' H' ak A' a' w' h1 h2 h3
   |ret=>exact hq .ret s' H' ak A' a' w' h1 h2 h3
  ·exact key K h hq
 |block id x ih=>
  intro cu s H K Q w φ A a ho h ae hs hq;simp only [cU,aJ] at h;have mo: ∀{w:World} {H:J} {φ :af} {A:ah} {s:aj} {a:Act} (kp:Option (List Nat)),SF w H φ A s a→SF w H φ A (dS kp s) a:=by
   intro w H φ A s a kp h;cases kp with
   |none=>exact h
   |some l=>exact h.kill l
  simp only [cT] at ho;refine wp_block (ih id s H _ _ w φ A a ho h ae hs fun e s' H' ak A' a' w' h1 h2 h3=> ?_)
  cases e with
  |normal=>exact hq .normal _ H' ak A' a' w' h1 (mo _ h2) h3
  |exit j=>
   simp only at h3;simp only [rv,Exit.inBlock];split at h3
   ·rename_i hj;rw [if_pos hj];exact hq .normal _ H' ak A' a' w' h1 (mo _ h2) h3
   ·rename_i hj;rw [if_neg hj];exact hq (.exit j) s' H' ak A' a' w' h1 h2 h3
  |ret=>exact hq .ret s' H' ak A' a' w' h1 h2 h3
 |loop c ih=>
  intro cu s H K Q w φ A a ho h ae hs hq;simp only [cU,aJ] at h;have rB: ∀{w:World} {H:J} {φ :af} {A:ah} {s:aj} {a:Act} (sp:lv) (n:Nat),St w H φ A→SF w H φ A s a→ ∃ φ1,Out w H φ A w (gH sp n s H).2 φ1 A∧SF w (gH sp n s H).2 φ1 A (gH sp n s H).1 a:=by
   intro w H φ A s a sp n h1 h2;unfold gH;by_cases ht:sp.trim=true
   ·have ho:=yu h1 n;simp only [ht,if_true];exact ⟨_,ho,(h2.mono ho.bV).kill _⟩
   ·simp only [ht];exact ⟨φ,.refl h1,h2.kill _⟩
  intro b k cs;have main:=h (fun s H=> ∀(w:World) (φ :af) (A:ah) (a:Act),St w H φ A→SF w H φ A s a→Ends Q K w H φ A→
   ∀(b:Frame) (k:List Item) (cs:List Frame),∃e a' w',Q e a' w' ∧Arrives P (lone (b.at a (.code c:: .inLoop c::k)) cs w) b k cs e a' w') (fun s H hB w φ A a ae hs hq b k cs=>by
    obtain ⟨e,a1,w1,gZ,dG⟩:=ih cu s H _ (Exit.then (fun a1 w1=> ∀(b:Frame) (k:List Item) (cs:List Frame),∃e a' w',Q e a' w' ∧Arrives P (lone (b.at a1 (.code c:: .inLoop c::k)) cs w1) b k cs e a' w') Q) w φ A a (by simpa only [cT] using ho) hB ae hs (fun e s' H' ak A' a' w' h1 h2 h3=>by
     cases e with
     |normal=>
      obtain ⟨φ1,k1,k2⟩:=rB ((p.loops.lookup cu).getD {}) _ h1.st h2;exact h3 w' φ1 A' a' k1.st k2 (Ends.trans ae (h1.trans ae k1) hq)
     |exit id=>exact hq (.exit id) s' H' ak A' a' w' h1 h2 h3
     |ret=>exact hq .ret s' H' ak A' a' w' h1 h2 h3) b (.inLoop c::k) cs
    cases e with
    |normal=>
     obtain ⟨yC,a₂,yD,yE,yF⟩:=gZ b k cs;exact ⟨yC,a₂,yD,yE,.of_steps (Steps.trans dG (.one step_inLoop)) yF⟩
    |exit id=>exact ⟨_,a1,w1,gZ,.pass (x:= .inLoop c) rfl (fun _ _=> .inl (by simp)) dG⟩
    |goto l=>exact ⟨_,a1,w1,gZ,.pass (x:= .inLoop c) rfl (fun _ _=> .inl (by simp)) dG⟩
    |ret=>exact ⟨_,a1,w1,gZ,.pass (x:= .inLoop c) rfl (fun _ _=> .inl (by simp)) dG⟩
    |panic ch=>exact ⟨_,a1,w1,gZ,.pass (x:= .inLoop c) rfl (fun _ _=> .inl (by simp)) dG⟩
    |outgrown=>exact ⟨_,a1,w1,gZ,.pass (x:= .inLoop c) rfl (fun _ _=> .inl (by simp)) dG⟩)
  obtain ⟨φ1,k1,k2⟩:=rB ((p.loops.lookup cu).getD {}) H.bs.length ae hs;obtain ⟨e,a',w',yG,dG⟩:=main w φ1 A a k1.st k2 (Ends.trans ae k1 hq) b k cs;exact ⟨e,a',w',yG,.of_steps (.one step_loop) dG⟩
 |region id ops draw=>
  intro cu s H K Q w φ A a ho h ae hs hq;have key: ∀(K:Ex→aj→J→Prop),aJ X C (ic (p.nl.lookup id) ((p.fz.lookup id).getD []) id (fB (p.f_.lookup id) ops) draw) s H K→Ends Q K w H φ A→(Code.region id ops draw).wp P Q a w:=by
   intro K h hq;cases draw with
   |false=>
    have eS:fB (p.f_.lookup id) ops=ops:=by
     simp only [cT] at ho;cases hl:p.f_.lookup id with
     |none=>rfl
     |some π =>rw [hl] at ho;simp at ho
    rw [eS] at h;have h' :cK X C ops (match p.nl.lookup id with|some (_,th)=>th|none=>[]) ((p.fz.lookup id).getD []) (fun s H=>K .normal s H) ops.toList 0 s H:=by
     unfold ic at h;split at h
     ·rename_i n th he;rw [he];exact h
     ·rename_i he;rw [he];exact h
    exact wp_region_list (rz hE hX ops.toList 0 s H w φ A a h' ae hs fun s' H' ak A' a' w' h1 h2 h3=>hq .normal s' H' ak A' a' w' h1 h2 h3)
   |true=>
    have h' : ∃q th,ig (fB (p.f_.lookup id) ops) q=true∧cV X C (fB (p.f_.lookup id) ops) (fun i=> !q.contains i) (fD (fB (p.f_.lookup id) ops) q) th (fun s H=>K .normal s H) (fB (p.f_.lookup id) ops).toList 0 s H:=by
     unfold ic at h;split at h
     ·exact ⟨_,_,h.1,h.2⟩
     ·exact ⟨_,_,h.1,h.2⟩
    obtain ⟨q,th,hd,h'⟩:=h';have hw:=hD _ q th s H _ Q w φ A a hd h' ae hs fun s' H' ak A' a' w' h1 h2 h3=>hq .normal s' H' ak A' a' w' h1 h2 h3
    refine wp_region_any hm ?_;simp only [cT] at ho;cases hl:p.f_.lookup id with
    |none=>rw [hl] at hw;exact hw
    |some π =>
     rw [hl] at hw ho;simp only [Bool.true_and] at ho;exact yt (ym ho) hw
  simp only [cU] at h;unfold jy at h;split at h
  ·rename_i l kp _;have mo: ∀{w:World} {H:J} {φ :af} {A:ah} {s:aj} {a:Act} (kp:Option (List Nat)),SF w H φ A s a→SF w H φ A (dS kp s) a:=by
    intro w H φ A s a kp h;cases kp with
    |none=>exact h
    |some l=>exact h.kill l
   simp only [aJ] at h;refine key _ h fun e s' H' ak A' a' w' h1 h2 h3=> ?_
   cases e with
   |normal=>
    simp only at h3;split at h3
    ·rename_i s2 H2 hf;obtain ⟨a8,A2,k1,k2⟩:=mm l h1.st h2 hf;exact hq .normal _ H2 a8 A2 a' w' (h1.trans ae k1) (mo kp k2) h3
    ·exact h3.elim
   |exit id=>exact hq (.exit id) s' H' ak A' a' w' h1 h2 h3
   |ret=>exact hq .ret s' H' ak A' a' w' h1 h2 h3
  ·exact key K h hq
 |_=>intro cu s H K Q w φ A a ho h ae hs hq;simp only [cU,aJ] at h
end code
end Go.VS
namespace Go.VS
section body
variable {P:Program} {C:aI} {X:bz}
theorem pb (hE: ∀t ti,C.E t=some ti→aQ P t ti) {w:World} {H:J} {φ :af} {A:ah} {s:aj} {a:Act} (ae:St w H φ A) (hs:SF w H φ A s a) {f:ResultVar→Sem Value} (kT: ∀t,f (.tmp t)=pure (a.tmps.getD t undef)) (kU: ∀x t,f (.cell x t)=(do loadVar t (←asAddr (a.tmps.getD x undef)))):
 ∀(l:List ResultVar) (rs:List AV),eb C.E s H l=some rs→
 ∃cx:List Value,(l.mapM f).run P w= .ok cx w∧rs.length=cx.length∧ ∀(i:Nat) (x:AV) (u:Value),rs[i]? =some x→cx[i]? =some u→R w H φ A x u
 |[],rs,h=>by
  simp only [eb,Option.some.injEq] at h;subst h;exact ⟨[],by simp,rfl,by simp⟩
 | .tmp t::l,rs,h=>by
  simp only [eb,Option.map_eq_some_iff] at h;obtain ⟨pc,h1,rfl⟩:=h;obtain ⟨cx,k1,k2,k3⟩:=pb hE ae hs kT kU l pc h1
  refine ⟨a.tmps.getD t undef::cx,by simp [List.mapM_cons,k1,kT],by simp [k2],fun i x u hx hu=> ?_⟩
  cases i with
  |zero=>simp at hx hu;subst hx;subst hu;have:=hs.ev (.tmp t);simpa [ev,Act.eval] using this
  |succ i=>exact k3 i x u hx hu
 | .cell b t::l,rs,h=>by
  simp only [eb] at h;split at h
  ·rename_i v H' he
   simp only [Option.map_eq_some_iff] at h;obtain ⟨pc,h1,rfl⟩:=h;obtain ⟨cx,k1,k2,k3⟩:=pb hE ae hs kT kU l pc h1
   have hb:=hs.ev (.tmp b);simp only [aL] at he;obtain ⟨u,hu,hr⟩:=qf (P:=P) hE ae (aZ.refl H) hb he;have aK:(do loadVar t (←asAddr (a.tmps.getD b undef)):Sem Value).run P w= .ok u w:=by
    revert hu;simp only [Act.eval];unfold Instr.loadAt;generalize a.tmps.getD b undef=q;intro hu;cases q with
    |pointer o=>cases o with
     |none=>simp [Instr.sureAddr] at hu
     |some o=>simpa [Instr.sureAddr,asAddr] using hu
    |_=>simp [Instr.sureAddr] at hu
   refine ⟨u::cx,by rw [List.mapM_cons,kU,Sem.run_bind,aK];simp [k1],by simp [k2],fun i x u' hx aK=> ?_⟩
   cases i with
   |zero=>simp at hx aK;subst hx;subst aK;exact hr
   |succ i=>exact k3 i x u' hx aK
  ·simp at h
theorem rC (hE: ∀t ti,C.E t=some ti→aQ P t ti) {w:World} {H:J} {φ :af} {A:ah} {s:aj} {a:Act} (ae:St w H φ A) (hs:SF w H φ A s a) {fn:Func} {rs:List AV} (h:eb C.E s H fn.results.toList=some rs):
 ∃cx:List Value,(results fn a.tmps).run P w= .ok (gW cx) w∧rs.length=cx.length∧ ∀(i:Nat) (x:AV) (u:Value),rs[i]? =some x→cx[i]? =some u→R w H φ A x u:=by
 obtain ⟨f,kT,kU,yH⟩: ∃f:ResultVar→Sem Value,(∀t,f (.tmp t)=pure (a.tmps.getD t undef))∧(∀x t,f (.cell x t)=(do loadVar t (←asAddr (a.tmps.getD x undef))))∧
  results fn a.tmps=(do let vs←fn.results.mapM f;pure (if h:vs.size=1 then vs[0] else .tuple vs)):=⟨_,fun _=>rfl,fun _ _=>rfl,rfl⟩
 obtain ⟨cx,h1,h2,h3⟩:=pb hE ae hs kT kU fn.results.toList rs h;refine ⟨cx,?_,h2,h3⟩;rw [yH,Sem.run_bind,Array.mapM_eq_mapM_toList,Sem.run_map,h1]
 match cx with
 |[]=>simp [gW]
 |[u]=>simp [gW]
 |u::u' ::us=>simp [gW]
theorem yI (hm:P.follows .mixedOrders=true) (hE: ∀t ti,C.E t=some ti→aQ P t ti) (hC: ∀f fn,C.code f=some fn→P.funcs[f]? =some fn∧(fn.name== "runtime.NumGoroutine")=false∧np (C.gb f) fn=true) (hX: ∀f ys H K,X f ys H K→cz P f ys H K) (hD:mn P C X)
 {f:FuncId} {ys:List AV} {H:J} {K:AV→J→Prop} (h:Body X C f ys H K):cz P f ys H K:=by
 unfold Body at h;split at h
 ·exact h.elim
 rename_i fn kn;split at h
 ·exact h.elim
 rename_i c hc;obtain ⟨hf,pd,kV⟩:=hC f fn kn;have kV:cT (C.gb f) c=true:=by unfold np at kV;rw [hc] at kV;exact kV
 refine ⟨⟨fn,hf,pd,by simp [hc]⟩,fun w A φ us ae hl hr=> ?_⟩
 refine calls_of_wp hf hc (rA hm hE hX hD (C.gb f) c 0 _ H _ _ w φ A _ kV h ae ⟨by simp [hl],fun t x v hx hv=> ?_,rfl⟩ ?_)
 ·rcases Nat.lt_or_ge t us.size with ht|ht
  ·rw [List.getElem?_append_left (by rw [hl];exact ht)] at hx
   rw [Array.getElem?_append_left ht] at hv;exact hr t x v hx hv
  ·rw [List.getElem?_append_right (by rw [hl];exact ht)] at hx
   have:x= .undef:=by
    rw [List.getElem?_replicate] at hx;split at hx<;>simp at hx;exact hx.symm
   subst this;exact .fr _ _ (.undef _)
 ·intro e s' H' ak A' a' w' h1 h2 h3
  have fin:(∃rs,eb C.E s' H' fn.results.toList=some rs∧K (cg rs) H')→a'.defers=[]∧ ∃v,(results fn a'.tmps).run P w' = .ok v w' ∧iy w H φ A K (.returned v) w' :=by
   rintro ⟨rs,jf,hk⟩;refine ⟨h2.eD,?_⟩;obtain ⟨cx,k1,k2,k3⟩:=rC (P:=P) hE h1.st h2 jf;exact ⟨_,k1,_,H',ak,A',h1,oQ k2 k3,hk⟩
  cases e with
  |normal=>exact fin h3
  |ret=>exact fin h3
  |exit id=>exact h3.elim
end body
end Go.VS
namespace Go.VS
def fq (H H1:J):Prop:=aZ H H1∧H.bs.length≤H1.bs.length
theorem aZ.trans {H H1 H2:J} (h:aZ H H1) (k:aZ H1 H2):aZ H H2:=⟨fun id b hb=>k.1 id b (h.1 id b hb),Nat.le_trans h.2 k.2⟩
theorem fq.refl (H:J):fq H H:=⟨aZ.refl _,Nat.le_refl _⟩
theorem fq.trans {H H1 H2:J} (h:fq H H1) (k:fq H1 H2):fq H H2:=⟨h.1.trans k.1,Nat.le_trans h.2 k.2⟩
theorem fq.new (H:J) (sz:Nat) (fx:Bool) (el:List AV):fq H (H.new sz fx el):=⟨J.nL H sz fx el,by simp [J.new]⟩
mutual
theorem pe: ∀(y:AV) (H:J),fq H (aG y H).2
 | .own sz xs,H=>by simp only [aG];exact (iz xs H).trans (.new _ _ _ _)
 | .dh sz x,H=>by simp only [aG];exact (pe x H).trans (.new _ _ _ _)
 | .agg xs,H=>by simp only [aG];exact iz xs H
 | .aB xs,H=>by simp only [aG];exact iz xs H
 | .undef,H=> .refl _
 | .int _ _,H=> .refl _
 | .bool _,H=> .refl _
 | .str _,H=> .refl _
 | .nil,H=> .refl _
 | .e0,H=> .refl _
 | .fz _,H=> .refl _
 | .ref _ _ _ _,H=> .refl _
 | .ptr _ _ _ _,H=> .refl _
 | .fe _ _,H=> .refl _
 | .fn _ _,H=> .refl _
 | .cf _,H=> .refl _
 | .dr,H=> .refl _
theorem iz: ∀(ys:List AV) (H:J),fq H (aF ys H).2
 |[],H=> .refl _
 |y::ys,H=>by simp only [aF];exact (pe y H).trans (iz ys _)
end
structure GH (G:J) (φ :af) (H H1:J):Prop where
 ext:aZ H1 G
 none: ∀id,H.bs.length≤id→id<H1.bs.length→ φ id=none
theorem jP (H:J) (sz:Nat) (fx:Bool) (el:List AV):(H.new sz fx el).bs.length=H.bs.length+1:=by simp [J.new]
theorem GH.fst {G:J} {φ :af} {H H1 H2:J} (h:GH G φ H H2) (k:fq H1 H2):GH G φ H H1:=⟨k.1.trans h.ext,fun id h1 h2=>h.none id h1 (Nat.lt_of_lt_of_le h2 k.2)⟩
section bn
variable {w:World}
structure MG (w:World) (L:J) (φL:af) (AL:ah) (G:J) (φ :af) (AH:ah) (L1:J) (φ1:af) (lo hi:Nat):Prop where
 less:bu L L1
 bn:bW w L1 (aA φL L1) AL G φ1 AH
 oh: ∀c,Ow φ1 c→Ow φ c∨(Ow φL c∧ ¬Ow (aA φL L1) c)
 gP: ∀c,Ow φ c→Ow φ1 c
 bX: ∀id loc,φ id=some loc→ φ1 id=some loc
 new: ∀id loc,φ1 id=some loc→ φ id=some loc∨(lo≤id∧id<hi)
 le:lo≤hi
theorem MG.eh {L:J} {φL:af} {AL:ah} {G:J} {φ :af} {AH:ah} {L1:J} {φ1:af} {lo hi:Nat} (m:MG w L φL AL G φ AH L1 φ1 lo hi):bH w G φ AH w G φ1 AH:=
 ⟨fun _c _arr _T fr hc hn=>⟨⟨fr,hc⟩,hn⟩,Nat.le_refl _,fun id b hb _=>⟨b,hb,rfl,rfl,rfl,rfl,fun loc h=>m.bX id loc h⟩,fun _ _=>rfl⟩
theorem MG.refl {L:J} {φL:af} {AL:ah} {G:J} {φ :af} {AH:ah} (h:bW w L φL AL G φ AH) (lo:Nat):MG w L φL AL G φ AH L φ lo lo:=
 ⟨.refl _,⟨dX h.sl (.refl _),h.sh,fun c hc=>h.b8 c (bG hc),fun c hc=>h.ei c (bG hc)⟩,fun _c hc=> .inl hc,fun _c hc=>hc,fun _ _ h=>h,fun _ _ h=> .inl h,Nat.le_refl _⟩
theorem MG.trans {L L1 L2:J} {φL:af} {AL:ah} {G:J} {φ φ1 a8:af} {AH:ah} {lo mi hi:Nat} (h:MG w L φL AL G φ AH L1 φ1 lo mi) (k:MG w L1 (aA φL L1) AL G φ1 AH L2 a8 mi hi):MG w L φL AL G φ AH L2 a8 lo hi:=by
 have hr:=fN (φ := φL) k.less;refine ⟨h.less.trans k.less,by rw [←hr];exact k.bn,fun c hc=> ?_,fun c hc=>k.gP c (h.gP c hc),fun id loc hl=>k.bX id loc (h.bX id loc hl),fun id loc hl=> ?_,Nat.le_trans h.le k.le⟩
 ·rcases k.oh c hc with h1|⟨h1,h2⟩
  ·rcases h.oh c h1 with h3|⟨h3,h4⟩
   ·exact .inl h3
   ·refine .inr ⟨h3,fun h5=>h4 ?_⟩;rw [←hr] at h5;exact bG h5
  ·rw [hr] at h2;exact .inr ⟨bG h1,h2⟩
 ·have h1:=h.le;have h2:=k.le;rcases k.new id loc hl with h3|⟨h3,h4⟩
  ·rcases h.new id loc h3 with h5|⟨h5,h6⟩
   ·exact .inl h5
   ·exact .inr ⟨h5,by omega⟩
  ·exact .inr ⟨by omega,h4⟩
theorem GH.snd {L L1:J} {φL:af} {AL:ah} {G:J} {φ φ1:af} {AH:ah} {H H1 H2:J} (h:GH G φ H H2) (m:MG w L φL AL G φ AH L1 φ1 H.bs.length H1.bs.length):GH G φ1 H1 H2:=by
 refine ⟨h.ext,fun id h1 h2=> ?_⟩;cases hp: φ1 id with
 |none=>rfl
 |some loc=>
  have hle:=m.le;rcases m.new id loc hp with h3|⟨_,h3⟩
  ·rw [h.none id (by omega) h2] at h3;simp at h3
  ·omega
theorem rD {L L1:J} {φL:af} {AL:ah} {G:J} {φ φ1:af} {AH:ah} {lo hi:Nat} (m:MG w L φL AL G φ AH L1 φ1 lo hi) {ad sz:Nat} {fx:Bool} {el:List AV} {loc:Loc} (hg:G.get hi=some ⟨ad,sz,fx,el⟩) (bM:ad<G.st) (gS: φ hi=none)
 (dU: ∀(i:Nat) (x:AV),el[i]? =some x→x.cells.length=sz) (hv:loc= .aO→el=[])
 (ej: ∀c b0,loc= .at_ c b0→Ow φL c∧ ¬Ow (aA φL L1) c∧ ¬Ow φ1 c∧AH c∧ ∃arr T fr,w.heap[c]? =some (.cells arr T fr)∧(∀j,j<arr.size→ ¬(fr.1≤j∧j<fr.2))∧b0+el.length*sz≤arr.size∧
  ∀(i:Nat) (x:AV) (j:Nat) (y:AV) (v:Value),el[i]? =some x→x.cells[j]? =some y→arr[b0+i*sz+j]? =some v→R w G φ1 AH y v∧v.oneCell' =true):
 MG w L φL AL G φ AH L1 (fun i=>if i=hi then some loc else φ1 i) lo (hi+1):=by
 have fk:=m.bn.sh;have hle:=m.le;have bq: φ1 hi=none:=by
  cases hp: φ1 hi with
  |none=>rfl
  |some l=>
   rcases m.new hi l hp with h|⟨_,h⟩
   ·rw [gS] at h;simp at h
   ·omega
 have aT:bH w G φ1 AH w G (fun i=>if i=hi then some loc else φ1 i) AH:=by
  refine ⟨fun c a t fr hc hn=>⟨⟨fr,hc⟩,hn⟩,Nat.le_refl _,fun id b hb aw=>⟨b,hb,rfl,rfl,rfl,rfl,fun l hl=> ?_⟩,fun _ _=>rfl⟩;rw [if_neg (by rintro rfl;rw [bq] at hl;simp at hl)];exact hl
 have dF: ∀c,Ow (fun i=>if i=hi then some loc else φ1 i) c→Ow φ1 c∨ ∃b0,loc= .at_ c b0:=by
  rintro c ⟨i,b,h⟩;try simp only at h
  split at h
  ·simp only [Option.some.injEq] at h;exact .inr ⟨b,h⟩
  ·exact .inl ⟨i,b,h⟩
 refine ⟨m.less,⟨m.bn.sl,⟨fun i i' c b b' h1 h2=> ?_,fun c hc=> ?_,fk.b4,fun i l hl=> ?_⟩,fun c hc ho=> ?_,m.bn.ei⟩,fun c hc=> ?_,fun c hc=> ?_,fun id l hl=> ?_,fun id l hl=> ?_,by omega⟩
 ·try simp only at h1 h2
  split at h1
  ·rename_i hi;split at h2
   ·rename_i eE;omega
   ·simp only [Option.some.injEq] at h1;exact absurd ⟨i',b',h2⟩ (ej c b h1).2.2.1
  ·split at h2
   ·simp only [Option.some.injEq] at h2;exact absurd ⟨i,b,h1⟩ (ej c b' h2).2.2.1
   ·exact fk.inj _ _ _ _ _ h1 h2
 ·rcases dF c hc with h|⟨b0,h⟩
  ·exact fk.own c h
  ·exact (ej c b0 h).2.2.2.1
 ·try simp only at hl
  split at hl
  ·rename_i hi;subst hi;simp only [Option.some.injEq] at hl;subst hl;refine ⟨_,hg,bM,dU,hv,fun c b0 he=> ?_⟩;obtain ⟨_,_,_,_,arr,T,fr,k1,k2,k3,k4⟩:=ej c b0 he;exact ⟨arr,T,fr,k1,k2,k3,fun j x q y v bC hy cm=>⟨(k4 j x q y v bC hy cm).1.mono aT,(k4 j x q y v bC hy cm).2⟩⟩
  ·obtain ⟨bb,hb,ag⟩:=fk.ap i l hl;refine ⟨bb,hb,ag.ad,ag.sized,ag.aO,fun c b0 he=> ?_⟩;obtain ⟨arr,T,fr,k1,k2,k3,k4⟩:=ag.here c b0 he;exact ⟨arr,T,fr,k1,k2,k3,fun j x q y v bC hy cm=>⟨(k4 j x q y v bC hy cm).1.mono aT,(k4 j x q y v bC hy cm).2⟩⟩
 ·rcases dF c ho with h|⟨b0,h⟩
  ·exact m.bn.b8 c hc h
  ·exact (ej c b0 h).2.1 hc
 ·rcases dF c hc with h|⟨b0,h⟩
  ·exact m.oh c h
  ·exact .inr ⟨(ej c b0 h).1,(ej c b0 h).2.1⟩
 ·obtain ⟨i,b,h⟩:=m.gP c hc
  exact ⟨i,b,by show (if i=hi then some loc else φ1 i)=_;rw [if_neg (by rintro rfl;rw [bq] at h;simp at h)];exact h⟩
 ·have:=m.bX id l hl;rw [if_neg (by rintro rfl;rw [bq] at this;simp at this)];exact this
 ·try simp only at hl
  split at hl
  ·rename_i hi;subst hi;exact .inr ⟨hle,Nat.lt_succ_self _⟩
  ·rcases m.new id l hl with h|⟨h1,h2⟩
   ·exact .inl h
   ·exact .inr ⟨h1,by omega⟩
set_option maxRecDepth 4000
theorem rE {es:List Sh} (hE: ∀(x:AV) (vs:List Value) (L:J) (φL:af) (AL:ah) (H G:J) (φ :af) (AH:ah) (y:AV) (L1:J) (a:AV) (H1:J),bW w L φL AL G φ AH→GH G φ H H1→x.cells.length=vs.length→
 (∀(j:Nat) (c:AV) (u:Value),x.cells[j]? =some c→vs[j]? =some u→R w L φL AL c u)→aY es x L=some (y,L1)→aG y H=(a,H1)→fO AL AH y→
 ∃ φ1,MG w L φL AL G φ AH L1 φ1 H.bs.length H1.bs.length∧a.cells.length=x.cells.length∧ ∀(j:Nat) (c:AV) (u:Value),a.cells[j]? =some c→vs[j]? =some u→R w G φ1 AH c u):
 ∀(xs:List AV) (g:Nat→Nat→Value) (L:J) (φL:af) (AL:ah) (H G:J) (φ :af) (AH:ah) (ys:List AV) (L1:J) (as:List AV) (H1:J),bW w L φL AL G φ AH→GH G φ H H1→
  (∀(i:Nat) (x:AV) (j:Nat) (c:AV),xs[i]? =some x→x.cells[j]? =some c→R w L φL AL c (g i j))→di (aY es) xs L=some (ys,L1)→aF ys H=(as,H1)→dL AL AH ys→
  ∃ φ1,MG w L φL AL G φ AH L1 φ1 H.bs.length H1.bs.length∧as.length=xs.length∧(∀(i:Nat) (x a:AV),xs[i]? =some x→as[i]? =some a→a.cells.length=x.cells.length)∧
   ∀(i:Nat) (a:AV) (j:Nat) (c:AV),as[i]? =some a→a.cells[j]? =some c→R w G φ1 AH c (g i j)
 |[],g,L,φL,AL,H,G,φ,AH,ys,L1,as,H1,hd,hh,_,ht,hw,_=>by
  simp only [di,Option.some.injEq,Prod.mk.injEq] at ht;obtain ⟨rfl,rfl⟩:=ht;simp only [aF,Prod.mk.injEq] at hw;obtain ⟨rfl,rfl⟩:=hw;exact ⟨φ,.refl hd _,rfl,by simp,by simp⟩
 |x::xs,g,L,φL,AL,H,G,φ,AH,ys,L1,as,H1,hd,hh,hr,ht,hw,hk=>by
  simp only [di] at ht;split at ht
  ·rename_i y L' h1
   split at ht
   ·rename_i aS c7 h2
    simp only [Option.some.injEq,Prod.mk.injEq] at ht;obtain ⟨rfl,rfl⟩:=ht;obtain ⟨k1,k2⟩:=hk.cons;simp only [aF,Prod.mk.injEq] at hw;obtain ⟨rfl,rfl⟩:=hw
    let vs:List Value:=(List.range x.cells.length).map (g 0)
    obtain ⟨φ1,m1,l1,r1⟩:=hE x vs L φL AL H G φ AH y L' _ _ hd (hh.fst (iz _ _)) (by simp [vs]) (fun j c u hj hu=>by
     have dK:j<x.cells.length:=(List.getElem?_eq_some_iff.1 hj).1;have:vs[j]? =some (g 0 j):=by simp [vs,dK]
     rw [this] at hu;simp only [Option.some.injEq] at hu;subst hu;exact hr 0 x j c rfl hj) h1 rfl k1
    obtain ⟨a8,m2,l2,s2,r2⟩:=rE hE xs (fun i j=>g (i+1) j) L' (aA φL L') AL _ G φ1 AH aS c7 _ _ m1.bn (hh.snd m1) (fun i x' j c hi hj=>(hr (i+1) x' j c hi hj).mono (cY m1.less)) h2 rfl k2
    refine ⟨a8,m1.trans m2,by simp [l2],fun i x' a hx ha=> ?_,fun i a j c ha hc=> ?_⟩
    ·cases i with
     |zero=>simp at hx ha;subst hx;subst ha;exact l1
     |succ i=>exact s2 i x' a hx ha
    ·cases i with
     |zero=>
      simp only [List.getElem?_cons_zero,Option.some.injEq] at ha;subst ha;have hj:j<x.cells.length:=by rw [←l1];exact (List.getElem?_eq_some_iff.1 hc).1
      exact (r1 j c (g 0 j) hc (by simp [vs,hj])).mono m2.eh
     |succ i=>exact r2 i a j c ha hc
   ·simp at ht
  ·simp at ht
theorem rF {L:J} {φL:af} {AL:ah} {G:J} {φ :af} {AH:ah} (hd:bW w L φL AL G φ AH) {id ad:Nat} {b:bE} (hb:L.ap id ad=some b) {off n:Nat} (hle:off+n≤b.el.length) {sz:Nat} (hs:b.sz=sz) {loc:Loc} (aW: φL id=some loc)
 {L1:J} {as:List AV} {lo hi:Nat} {g:Nat→Nat→Value} {φ1:af} (hg: ∀c b0 arr T fr,loc= .at_ c b0→w.heap[c]? =some (.cells arr T fr)→ ∀(i j:Nat) (v:Value),i<n→j<sz→arr[b0+(off+i)*sz+j]? =some v→g i j=v)
 (m:MG w (L.del id) (aA φL (L.del id)) AL G φ AH L1 φ1 lo hi) (hl:as.length=n) (dU: ∀(i:Nat) (a:AV),as[i]? =some a→a.cells.length=sz)
 (hr: ∀(i:Nat) (a:AV) (j:Nat) (c:AV),as[i]? =some a→a.cells[j]? =some c→R w G φ1 AH c (g i j)) {gV:Nat} (fx:Bool) (g_:G.get hi=some ⟨gV,sz,fx,as⟩) (bM:gV<G.st) (gS: φ hi=none) (loc' :Loc) (gQ:loc' = .aO∧n=0∨ ∃c b0,loc= .at_ c b0∧loc' = .at_ c (b0+off*sz)):
 MG w L φL AL G φ AH L1 (fun i=>if i=hi then some loc' else φ1 i) lo (hi+1):=by
 have ol:=(J.bp hb).1;have om:=(bu.del L id).trans m.less;have gR:aA (aA φL (L.del id)) L1=aA φL L1:=fN m.less;have m' :MG w L φL AL G φ AH L1 φ1 lo hi:=by
  refine ⟨om,by have:=m.bn;rwa [gR] at this,fun c hc=> ?_,m.gP,m.bX,m.new,m.le⟩
  rcases m.oh c hc with h|⟨h1,h2⟩
  ·exact .inl h
  ·rw [gR] at h2;exact .inr ⟨bG h1,h2⟩
 refine rD m' g_ bM gS dU (fun hv=> ?_) (fun c b1 he=> ?_)
 ·rcases gQ with ⟨_,h0⟩|⟨c,b0,_,h2⟩
  ·exact List.eq_nil_of_length_eq_zero (by omega)
  ·rw [h2] at hv;simp at hv
 ·rcases gQ with ⟨h1,_⟩|⟨c',b0,h1,h2⟩
  ·rw [h1] at he;simp at he
  ·rw [h2] at he;simp only [Loc.at_.injEq] at he;obtain ⟨rfl,rfl⟩:=he;subst h1;have iZ:Ow φL c' :=⟨id,b0,aW⟩
   have oo: ¬Ow (aA φL L1) c' :=by
    rintro ⟨i,bb,hi⟩;obtain ⟨fm,bk,aV⟩:=de hi;have:=hd.sl.inj _ _ _ _ _ fm aW;subst this;have:=m.less.get _ _ aV;rw [J.iu,if_pos rfl] at this;simp at this
   refine ⟨iZ,oo,fun ho=> ?_,hd.ei _ iZ,?_⟩
   ·rcases m.oh c' ho with h|⟨⟨i,bb,hi⟩,_⟩
    ·exact hd.b8 c' iZ h
    ·obtain ⟨fm,bk,aV⟩:=de hi;have:=hd.sl.inj _ _ _ _ _ fm aW;subst this;rw [J.iu,if_pos rfl] at aV;simp at aV
   ·obtain ⟨bk,aV,ag⟩:=hd.sl.ap id _ aW;rw [ol] at aV;simp only [Option.some.injEq] at aV;subst aV;obtain ⟨arr,T,fr,k1,k2,k3,k4⟩:=ag.here c' b0 rfl
    have hmul:off*sz+n*sz≤b.el.length*sz:=by rw [←Nat.add_mul];exact Nat.mul_le_mul_right _ hle
    refine ⟨arr,T,fr,k1,k2,by rw [hl];rw [hs] at k3;omega,fun i a j c v ha hc hv=> ?_⟩
    have hi:i<n:=by rw [←hl];exact (List.getElem?_eq_some_iff.1 ha).1
    have hj:j<sz:=by rw [←dU i a ha];exact (List.getElem?_eq_some_iff.1 hc).1
    have e:b0+off*sz+i*sz+j=b0+(off+i)*sz+j:=by rw [Nat.add_mul];omega
    rw [e] at hv;have oq:=hg c' b0 arr T fr rfl k1 i j v hi hj hv
    refine ⟨by rw [←oq];exact hr i a j c ha hc,?_⟩
    have cj:off+i<b.el.length:=by omega
    have hx:=List.getElem?_eq_getElem cj;have ck:=ag.sized _ _ hx;exact (k4 (off+i) _ j _ v hx (List.getElem?_eq_getElem (by omega)) (by rw [hs];exact hv)).2
mutual
theorem mq (sh:Sh) (x:AV) (v:Value) (L:J) (φL:af) (AL:ah) (H G:J) (φ :af) (AH:ah) (y:AV) (L1:J) (a:AV) (H1:J) (hd:bW w L φL AL G φ AH) (hh:GH G φ H H1) (hx:R w L φL AL x v)
 (ht:aP sh x L=some (y,L1)) (hw:aG y H=(a,H1)) (hk:fO AL AH y): ∃ φ1,MG w L φL AL G φ AH L1 φ1 H.bs.length H1.bs.length∧R w G φ1 AH a v∧(x≠ .undef→a.cells=[a])∧(x= .undef→a= .undef):=by
 cases sh with
 |sc=>
  simp only [aP] at ht;split at ht
  ·rename_i hp;simp only [Option.some.injEq,Prod.mk.injEq] at ht;obtain ⟨rfl,rfl⟩:=ht;rw [qH hp] at hw;simp only [Prod.mk.injEq] at hw;obtain ⟨rfl,rfl⟩:=hw;exact ⟨φ,.refl hd _,qG hp hx,fun hu=>cells_one hu (by rintro cs rfl;simp [du] at hp),fun h=>h⟩
  ·simp at ht
 |sl es=>
  have kJ: ∀{v0:Option Addr},v= .slice v0 0 0→aG (.own es.length []) H=(a,H1)→L1=L→ ∃ φ1,MG w L φL AL G φ AH L1 φ1 H.bs.length H1.bs.length∧R w G φ1 AH a v∧a.cells=[a]:=by
   intro v0 hv hw hL;subst hL;simp only [aG,aF,Prod.mk.injEq] at hw;obtain ⟨rfl,rfl⟩:=hw;have g_:=hh.ext.1 _ _ (J.dT H es.length false []);have bM:H.st<G.st:=Nat.lt_of_lt_of_le (Nat.lt_succ_self _) hh.ext.2;have m:=rD (MG.refl hd H.bs.length) g_ bM (hh.none _ (Nat.le_refl _) (by rw [jP];exact Nat.lt_succ_self _)) (loc:= .aO) (by simp) (fun _=>rfl) (by simp)
   rw [←jP H es.length false []] at m;refine ⟨_,m,?_,rfl⟩;refine .ref _ _ _ _ _ bM ⟨_,_,hv⟩ fun b hb=> ?_;have:=jL g_ hb;subst this;exact ⟨.aO,v0,0,by simp,hv,by simp,Nat.le_refl _,by simp,rfl,fun _=>rfl⟩
  cases x with
  |nil=>
   simp only [aP,Option.some.injEq,Prod.mk.injEq] at ht;obtain ⟨rfl,rfl⟩:=ht;obtain ⟨φ1,h1,h2,h3⟩:=kJ hx.c6 hw rfl;exact ⟨φ1,h1,h2,fun _=>h3,fun h=>by simp at h⟩
  |e0=>
   simp only [aP,Option.some.injEq,Prod.mk.injEq] at ht;obtain ⟨rfl,rfl⟩:=ht;obtain ⟨a0,kK⟩:=hx.eB;obtain ⟨φ1,h1,h2,h3⟩:=kJ kK hw rfl;exact ⟨φ1,h1,h2,fun _=>h3,fun h=>by simp at h⟩
  |fz xs=>
   simp only [aP,Option.some.injEq,Prod.mk.injEq] at ht;obtain ⟨rfl,rfl⟩:=ht;simp only [aG,Prod.mk.injEq] at hw;obtain ⟨rfl,rfl⟩:=hw;rcases hk with hk|hk
   ·exact ⟨φ,.refl hd _,.fr _ _ (hx.dw.shrink hk),fun _=>rfl,fun h=>by simp at h⟩
   ·simp [cB] at hk
  |ref id ad off len=>
   simp only [aP] at ht;split at ht
   ·rename_i b hb;split at ht
    ·rename_i hc;obtain ⟨c1,c2,c3⟩:=hc;split at ht
     ·rename_i ys L' hm
      simp only [Option.some.injEq,Prod.mk.injEq] at ht;obtain ⟨rfl,rfl⟩:=ht;simp only [aG,Prod.mk.injEq] at hw;obtain ⟨rfl,rfl⟩:=hw;have hg:=(J.bp hb).1;obtain ⟨bM,_,hr⟩:=hx.dE;obtain ⟨loc,a0,cap,q1,rfl,q3,q4,q5,q6⟩:=(hr b hb).out;obtain ⟨bk,aV,ag⟩:=hd.sl.ap id _ q1;rw [hg] at aV;simp only [Option.some.injEq] at aV;subst aV;have bD:dL AL AH ys:=by
       rcases hk with h|h
       ·exact .inl h
       ·exact .inr (by simpa [cB] using h)
      have cN:=bu.del L id;have bY:bW w (L.del id) (aA φL (L.del id)) AL G φ AH:=⟨dX hd.sl cN,hd.sh,fun c hc=>hd.b8 c (bG hc),fun c hc=>hd.ei c (bG hc)⟩
      have bm:(aE b.el off len).length=len:=by simp [aE];omega
      have fP: ∀(i:Nat) (x:AV),(aE b.el off len)[i]? =some x→b.el[off+i]? =some x:=by
       intro i x hi;simp only [aE,List.getElem?_take,List.getElem?_drop] at hi;split at hi
       ·exact hi
       ·simp at hi
      let g:Nat→Nat→Value:=match loc with
       | .aO=>fun _ _=>undef
       | .at_ c b0=>fun i j=>match w.heap[c]? with
        |some (.cells arr _ _)=>arr.getD (b0+(off+i)*es.length+j) undef
        |_=>undef
      have dW: ∀(i:Nat) (x:AV) (j:Nat) (c:AV),(aE b.el off len)[i]? =some x→x.cells[j]? =some c→R w (L.del id) (aA φL (L.del id)) AL c (g i j):=by
       intro i x j c hi hj;have bC:=fP i x hi
       have cc:i<len:=by rw [←bm];exact (List.getElem?_eq_some_iff.1 hi).1
       cases loc with
       |aO=>have:=ag.aO rfl;rw [this] at bC;simp at bC
       |at_ c0 b0=>
        obtain ⟨arr,T,fr,k1,k2,k3,k4⟩:=ag.here c0 b0 rfl;have dK:j<b.sz:=by rw [←ag.sized _ _ bC];exact (List.getElem?_eq_some_iff.1 hj).1
        have hle:=cG (n:=b.sz) (show off+i<b.el.length by omega)
        have aw:b0+(off+i)*b.sz+j<arr.size:=by omega
        have:g i j=arr[b0+(off+i)*b.sz+j]:=by
         simp only [g,k1,←c1,Array.getD_eq_getD_getElem?,Array.getElem?_eq_getElem aw,Option.getD_some]
        rw [this];exact ((k4 _ _ _ _ _ bC hj (Array.getElem?_eq_getElem aw)).1).mono (cY cN)
      obtain ⟨φ1,m,l1,s1,r1⟩:=rE (w:=w) (es:=es) (fun x vs L φL AL H G φ AH y L1 a H1=>rG es x vs L φL AL H G φ AH y L1 a H1) _ g _ _ _ _ _ _ _ _ _ _ _ bY (hh.fst (.new _ _ _ _)) dW hm rfl bD
      rw [bm] at l1;have kL: ∀(i:Nat) (a:AV),(aF ys H).1[i]? =some a→a.cells.length=b.sz:=by
       intro i a ha;have cc:i<(aE b.el off len).length:=by rw [bm,←l1];exact (List.getElem?_eq_some_iff.1 ha).1
       have iv:=List.getElem?_eq_getElem cc;rw [s1 i _ a iv ha];exact ag.sized _ _ (fP i _ iv)
      have ou: ∀c b0 arr T fr,loc= .at_ c b0→w.heap[c]? =some (.cells arr T fr)→ ∀(i j:Nat) (v:Value),i<len→j<b.sz→arr[b0+(off+i)*b.sz+j]? =some v→g i j=v:=by
       intro c b0 arr T fr hl hh i j v _ _ hv;subst hl;simp only [g,hh,←c1,Array.getD_eq_getD_getElem?,hv,Option.getD_some]
      let loc' :Loc:=match loc with
       | .aO=> .aO
       | .at_ c b0=>if cap=0 then .aO else .at_ c (b0+off*b.sz)
      have gQ:loc' = .aO∧len=0∨ ∃c b0,loc= .at_ c b0∧loc' = .at_ c (b0+off*b.sz):=by
       cases loc with
       |aO=>left;refine ⟨rfl,?_⟩;have:=ag.aO rfl;rw [this] at q3;simp at q3;omega
       |at_ c b0=>
        by_cases ek:cap=0
        ·left;exact ⟨by simp [loc',ek],by omega⟩
        ·right;exact ⟨c,b0,rfl,by simp [loc',ek]⟩
      have g_:=hh.ext.1 _ _ (J.dT (aF ys H).2 es.length false (aF ys H).1);have bM:(aF ys H).2.st<G.st:=Nat.lt_of_lt_of_le (Nat.lt_succ_self _) hh.ext.2;have M:=rF hd hb c2 rfl q1 ou m l1 kL r1 false (by rw [c1];exact g_) bM (hh.none _ (iz ys H).2 (by rw [jP];exact Nat.lt_succ_self _)) loc' gQ
      rw [←jP (aF ys H).2 es.length false (aF ys H).1] at M;refine ⟨_,M,?_,fun _=>rfl,fun h=>by simp at h⟩
      refine .ref _ _ _ _ _ bM ⟨a0,cap,by rw [l1]⟩ fun b' ax=> ?_
      have:=jL g_ ax;subst this;refine ⟨loc',a0,cap,by simp,by rw [l1],by simp,by omega,by simp only;omega,?_⟩
      cases loc with
      |aO=>
       simp only at q6;have cX:len=0:=by have:=ag.aO rfl;rw [this] at q3;simp at q3;omega
       refine ⟨List.eq_nil_of_length_eq_zero (by rw [l1,cX]),fun _=> ?_⟩
       rcases c3 with c3|c3
       ·exact q6.2 c3
       ·omega
      |at_ c b0=>
       simp only at q6;by_cases ek:cap=0
       ·simp only [loc',ek,if_true];exact ⟨List.eq_nil_of_length_eq_zero (by omega),fun _=>by first|trivial|omega|rfl⟩
       ·simp only [loc',ek,if_false];rcases q6 with q6|⟨h1,h2⟩
        ·exact absurd q6 ek
        ·refine Or.inr ⟨by rw [h1];simp,?_⟩
         rw [c1] at h2⊢;have:(off+cap)*es.length=off*es.length+cap*es.length:=Nat.add_mul _ _ _;simp only [Nat.zero_add];omega
     ·simp at ht
    ·simp at ht
   ·simp at ht
  |_=>simp [aP] at ht
 |pt es=>
  cases x with
  |fe z o=>
   simp only [aP,Option.some.injEq,Prod.mk.injEq] at ht;obtain ⟨rfl,rfl⟩:=ht;simp only [aG,Prod.mk.injEq] at hw;obtain ⟨rfl,rfl⟩:=hw;rcases hk with hk|hk
   ·exact ⟨φ,.refl hd _,.fr _ _ (hx.eA.shrink hk),fun _=>rfl,fun h=>by simp at h⟩
   ·simp [cB] at hk
  |ptr id ad idx off=>
   rcases idx with _|idx
   rotate_left
   ·simp [aP] at ht
   rcases off with _|off
   rotate_left
   ·simp [aP] at ht
   simp only [aP] at ht;split at ht
   ·rename_i ov sz oz z hb;split at ht
    ·rename_i y' L' hm
     simp only [Option.some.injEq,Prod.mk.injEq] at ht;obtain ⟨rfl,rfl⟩:=ht;simp only [aG,Prod.mk.injEq] at hw;obtain ⟨rfl,rfl⟩:=hw;have hg:=(J.bp hb).1;obtain ⟨bM,_,hr⟩:=hx.fg;obtain ⟨c,b0,q1,rfl⟩:=hr _ hb;obtain ⟨bk,aV,ag⟩:=hd.sl.ap id _ q1;rw [hg] at aV;simp only [Option.some.injEq] at aV;subst aV;obtain ⟨arr,T,fr,k1,k2,k3,k4⟩:=ag.here c b0 rfl;have bD:fO AL AH y' :=by
      rcases hk with h|h
      ·exact .inl h
      ·exact .inr (by simpa [cB] using h)
     have cN:=bu.del L id;have bY:bW w (L.del id) (aA φL (L.del id)) AL G φ AH:=⟨dX hd.sl cN,hd.sh,fun c hc=>hd.b8 c (bG hc),fun c hc=>hd.ei c (bG hc)⟩
     have cp:z.cells.length=sz:=ag.sized 0 z rfl;simp only [List.length_singleton,Nat.one_mul] at k3
     let vs:List Value:=(arr.extract b0 (b0+sz)).toList
     have dy:vs.length=sz:=by simp [vs];omega
     have fQ: ∀j u,vs[j]? =some u→arr[b0+j]? =some u:=by
      intro j u hu;simp only [vs,Array.getElem?_toList,Array.getElem?_extract] at hu;split at hu
      ·exact hu
      ·simp at hu
     obtain ⟨φ1,m,l1,r1⟩:=rG es z vs _ _ _ _ _ _ _ _ _ _ _ bY (hh.fst (.new _ _ _ _)) (by rw [dy,cp]) (fun j c' u hj hu=>((k4 0 z j c' u rfl hj (by simpa using fQ j u hu)).1).mono (cY cN)) hm rfl bD
     have g_:=hh.ext.1 _ _ (J.dT (aG y' H).2 sz false [(aG y' H).1])
     have bM:(aG y' H).2.st<G.st:=Nat.lt_of_lt_of_le (Nat.lt_succ_self _) hh.ext.2
     have M:=rF (as:=[(aG y' H).1]) (n:=1) (off:=0) (sz:=sz) (loc' := .at_ c b0) (g:=fun i j=>vs.getD j undef) hd hb (by simp) rfl q1 (fun c' oA arr' T' eJ hl hh i j v hi hj hv=>by
      simp only [Loc.at_.injEq] at hl;obtain ⟨rfl,rfl⟩:=hl;rw [k1] at hh;simp only [Option.some.injEq,Obj.cells.injEq] at hh;obtain ⟨rfl,_,_⟩:=hh;have i_:i=0:=by omega
      subst i_;simp only [Nat.zero_mul,Nat.add_zero] at hv;have:vs[j]? =some v:=by
       simp only [vs,Array.getElem?_toList,Array.getElem?_extract];rw [if_pos (by omega)];exact hv
      simp [List.getD,this]) m rfl (fun i a ha=>by
      cases i with
      |zero=>simp at ha;subst ha;rw [l1,cp]
      |succ i=>simp at ha) (fun i a j c' ha hc=>by
      cases i with
      |zero=>
       simp at ha;subst ha;have hj:j<vs.length:=by rw [dy,←cp,←l1];exact (List.getElem?_eq_some_iff.1 hc).1
       have:=r1 j c' vs[j] hc (List.getElem?_eq_getElem hj)
       simpa [List.getD,hj] using this
      |succ i=>simp at ha) false g_ bM (hh.none _ (pe y' H).2 (by rw [jP];exact Nat.lt_succ_self _)) (.inr ⟨c,b0,rfl,by simp⟩)
     rw [←jP (aG y' H).2 sz false [(aG y' H).1]] at M
     refine ⟨_,M,?_,fun _=>rfl,fun h=>by simp at h⟩
     refine .ptr _ _ _ _ _ bM ⟨_,rfl⟩ fun b' ax=>⟨c,b0,by simp,?_⟩
     simp
    ·simp at ht
   ·simp at ht
  |_=>simp [aP] at ht
 termination_by (SizeOf.sizeOf sh,0)
theorem rG (es:List Sh) (x:AV) (vs:List Value) (L:J) (φL:af) (AL:ah) (H G:J) (φ :af) (AH:ah) (y:AV) (L1:J) (a:AV) (H1:J) (hd:bW w L φL AL G φ AH) (hh:GH G φ H H1) (hl:x.cells.length=vs.length)
 (hx: ∀(j:Nat) (c:AV) (u:Value),x.cells[j]? =some c→vs[j]? =some u→R w L φL AL c u) (ht:aY es x L=some (y,L1)) (hw:aG y H=(a,H1)) (hk:fO AL AH y):
 ∃ φ1,MG w L φL AL G φ AH L1 φ1 H.bs.length H1.bs.length∧a.cells.length=x.cells.length∧ ∀(j:Nat) (c:AV) (u:Value),a.cells[j]? =some c→vs[j]? =some u→R w G φ1 AH c u:=by
 by_cases bN: ∃cs,x= .agg cs
 ·obtain ⟨cs,rfl⟩:=bN;have cI: ∃aU,ct es cs L=some (aU,L1)∧y= .agg aU:=by
   match es,ht with
   |[],ht=>
    simp only [aY] at ht;split at ht
    ·rename_i aU L' hc
     simp only [Option.some.injEq,Prod.mk.injEq] at ht;obtain ⟨rfl,rfl⟩:=ht;exact ⟨aU,hc,rfl⟩
    ·simp at ht
   |[e],ht=>
    simp only [aY] at ht;split at ht
    ·rename_i aU L' hc
     simp only [Option.some.injEq,Prod.mk.injEq] at ht;obtain ⟨rfl,rfl⟩:=ht;exact ⟨aU,hc,rfl⟩
    ·simp at ht
   |e::e' ::es,ht=>
    simp only [aY] at ht;split at ht
    ·rename_i aU L' hc
     simp only [Option.some.injEq,Prod.mk.injEq] at ht;obtain ⟨rfl,rfl⟩:=ht;exact ⟨aU,hc,rfl⟩
    ·simp at ht
  obtain ⟨aU,hc,rfl⟩:=cI;simp only [aG,Prod.mk.injEq] at hw;obtain ⟨rfl,rfl⟩:=hw;have bD:dL AL AH aU:=by
   rcases hk with h|h
   ·exact .inl h
   ·exact .inr (by simpa [cB] using h)
  exact pf es cs vs L φL AL H G φ AH aU L1 _ _ hd hh hl hx hc rfl bD
 ·have dp: ∀cs,x≠ .agg cs:=fun cs h=>bN ⟨cs,h⟩
  match es,ht with
  |[e],ht=>
   have cI:aP e x L=some (y,L1):=by
    cases x<;>first|(simpa only [aY] using ht)|exact absurd rfl (dp _)
   by_cases hu:x= .undef
   ·subst hu;have fF:vs=[]:=List.eq_nil_of_length_eq_zero (by simpa [AV.cells] using hl.symm)
    subst fF;obtain ⟨φ1,m,_,_,h4⟩:=mq e .undef undef L φL AL H G φ AH y L1 a H1 hd hh (.fr _ _ (.undef _)) cI hw hk
    exact ⟨φ1,m,by rw [h4 rfl],by simp⟩
   ·have en:=cells_one hu dp;rw [en] at hl;obtain ⟨v,rfl⟩: ∃v,vs=[v]:=by
     match vs,hl with
     |[v],_=>exact ⟨v,rfl⟩
    obtain ⟨φ1,m,h2,h3,_⟩:=mq e x v L φL AL H G φ AH y L1 a H1 hd hh (hx 0 x v (by rw [en];rfl) rfl) cI hw hk
    refine ⟨φ1,m,by rw [h3 hu,en];rfl,fun j c u hj aK=> ?_⟩
    rw [h3 hu] at hj;cases j with
    |zero=>simp at hj aK;subst hj;subst aK;exact h2
    |succ j=>simp at hj
  |[],ht=>cases x<;>first|(simp [aY] at ht;done)|exact absurd rfl (dp _)
  |_::_::_,ht=>cases x<;>first|(simp [aY] at ht;done)|exact absurd rfl (dp _)
 termination_by (SizeOf.sizeOf es,1)
theorem pf (es:List Sh) (cs:List AV) (vs:List Value) (L:J) (φL:af) (AL:ah) (H G:J) (φ :af) (AH:ah) (ys:List AV) (L1:J) (as:List AV) (H1:J) (hd:bW w L φL AL G φ AH) (hh:GH G φ H H1) (hl:cs.length=vs.length)
 (hx: ∀(j:Nat) (c:AV) (u:Value),cs[j]? =some c→vs[j]? =some u→R w L φL AL c u) (ht:ct es cs L=some (ys,L1)) (hw:aF ys H=(as,H1)) (hk:dL AL AH ys):
 ∃ φ1,MG w L φL AL G φ AH L1 φ1 H.bs.length H1.bs.length∧as.length=cs.length∧ ∀(j:Nat) (c:AV) (u:Value),as[j]? =some c→vs[j]? =some u→R w G φ1 AH c u:=by
 match es,cs,ht with
 |[],[],ht=>
  simp only [ct,Option.some.injEq,Prod.mk.injEq] at ht;obtain ⟨rfl,rfl⟩:=ht;simp only [aF,Prod.mk.injEq] at hw;obtain ⟨rfl,rfl⟩:=hw;exact ⟨φ,.refl hd _,rfl,by simp⟩
 |e::es,x::cs,ht=>
  simp only [ct] at ht;split at ht
  ·rename_i y L' h1
   split at ht
   ·rename_i aS c7 h2
    simp only [Option.some.injEq,Prod.mk.injEq] at ht;obtain ⟨rfl,rfl⟩:=ht;simp only [aF,Prod.mk.injEq] at hw;obtain ⟨rfl,rfl⟩:=hw;obtain ⟨k1,k2⟩:=hk.cons
    match vs,hl with
    |v::vs,hl=>
     obtain ⟨φ1,m1,r1,_,_⟩:=mq e x v L φL AL H G φ AH y L' _ _ hd (hh.fst (iz _ _)) (hx 0 x v rfl rfl) h1 rfl k1
     obtain ⟨a8,m2,l2,r2⟩:=pf es cs vs L' (aA φL L') AL _ G φ1 AH aS c7 _ _ m1.bn (hh.snd m1) (by simpa using hl) (fun j c u hj hu=>(hx (j+1) c u hj hu).mono (cY m1.less)) h2 rfl k2
     refine ⟨a8,m1.trans m2,by simp [l2],fun j c u hj hu=> ?_⟩
     cases j with
     |zero=>simp at hj hu;subst hj;subst hu;exact r1.mono m2.eh
     |succ j=>exact r2 j c u hj hu
   ·simp at ht
  ·simp at ht
 |[],_::_,ht=>simp [ct] at ht
 |_::_,[],ht=>simp [ct] at ht
 termination_by (SizeOf.sizeOf es,0)
end
end bn
end Go.VS
namespace Go.VS
section bn
variable {w:World} {AL AH:ah}
theorem yJ {es:List Sh} {x:AV} {v:Value} {L:J} {φL:af} {H G:J} {φ :af} {y:AV} {L1:J} {a:AV} {H1:J} (hd:bW w L φL AL G φ AH) (hh:GH G φ H H1) (hx:R w L φL AL x v)
 (ht:aY es x L=some (y,L1)) (hw:aG y H=(a,H1)) (hk:fO AL AH y): ∃ φ1,MG w L φL AL G φ AH L1 φ1 H.bs.length H1.bs.length∧R w G φ1 AH a v:=by
 by_cases bN: ∃cs,x= .agg cs
 ·obtain ⟨cs,rfl⟩:=bN;obtain ⟨aU,hc,rfl⟩:=kM ht;simp only [aG,Prod.mk.injEq] at hw;obtain ⟨rfl,rfl⟩:=hw;have bD:dL AL AH aU:=by
   rcases hk with h|h
   ·exact .inl h
   ·exact .inr (by simpa [cB] using h)
  obtain ⟨vs,rfl,hl,ho,hp⟩:=hx.fG;obtain ⟨φ1,m,l1,r1⟩:=pf es cs vs.toList L φL AL H G φ AH aU L1 _ _ hd hh (by simpa using hl) (fun j c u hj hu=>hp j c u hj (by simpa using hu)) hc rfl bD
  exact ⟨φ1,m,.agg _ _ (by rw [l1,hl]) ho fun i x v hx hv=>r1 i x v hx (by simpa using hv)⟩
 ·obtain ⟨e,rfl,cI⟩:=ja (fun cs h=>bN ⟨cs,h⟩) ht;obtain ⟨φ1,m,r,_⟩:=mq e x v L φL AL H G φ AH y L1 a H1 hd hh hx cI hw hk
  exact ⟨φ1,m,r⟩
theorem rH: ∀(sh:List (List Sh)) (rs:List AV) (us:List Value) (L:J) (φL:af) (H G:J) (φ :af) (ys:List AV) (L1:J),bW w L φL AL G φ AH→GH G φ H (aF ys H).2→rs.length=us.length→
 (∀(i:Nat) (x:AV) (u:Value),rs[i]? =some x→us[i]? =some u→R w L φL AL x u)→db sh rs L=some (ys,L1)→dL AL AH ys→
 ∃ φ1,MG w L φL AL G φ AH L1 φ1 H.bs.length (aF ys H).2.bs.length∧(aF ys H).1.length=us.length∧ ∀(i:Nat) (x:AV) (u:Value),(aF ys H).1[i]? =some x→us[i]? =some u→R w G φ1 AH x u
 |sh,[],us,L,φL,H,G,φ,ys,L1,hd,hh,hl,hr,ht,hk=>by
  simp only [db,Option.some.injEq,Prod.mk.injEq] at ht;obtain ⟨rfl,rfl⟩:=ht;exact ⟨φ,.refl hd _,hl,by simp [aF]⟩
 |sh,x::rs,u::us,L,φL,H,G,φ,ys,L1,hd,hh,hl,hr,ht,hk=>by
  simp only [db] at ht;split at ht
  rotate_left
  ·simp at ht
  rename_i y L' h1
  split at ht
  rotate_left
  ·simp at ht
  rename_i aS c7 h2
  simp only [Option.some.injEq,Prod.mk.injEq] at ht;obtain ⟨rfl,rfl⟩:=ht;obtain ⟨k1,k2⟩:=hk.cons;obtain ⟨φ1,m1,r1⟩:=yJ (y:=y) (H:=H) hd (hh.fst (H1:=(aG y H).2) (iz aS (aG y H).2)) (hr 0 x u rfl rfl) h1 rfl k1
  obtain ⟨a8,m2,l2,r2⟩:=rH sh.tail rs us L' (aA φL L') (aG y H).2 G φ1 aS c7 m1.bn (hh.snd m1) (by simpa using hl) (fun i x u hx hu=>(hr (i+1) x u hx hu).mono (cY m1.less)) h2 k2
  refine ⟨a8,m1.trans m2,by simp [aF,l2],fun i x' u' hx hu=> ?_⟩
  cases i with
  |zero=>simp [aF] at hx hu;subst hx;subst hu;exact r1.mono m2.eh
  |succ i=>simp only [aF,List.getElem?_cons_succ] at hx hu;exact r2 i x' u' hx hu
 |sh,x::rs,[],L,φL,H,G,φ,ys,L1,hd,hh,hl,hr,ht,hk=>by simp at hl
end bn
theorem mr {H G:J} (h:aZ H G): ∀(n:Nat) (x y:AV),aX n H x=some y→aX n G x=some y
 |0,x,y,hs=>by simp [aX] at hs
 |n+1,x,y,hs=>by
  have hm: ∀(xs ys:List AV),xs.mapM (aX n H)=some ys→xs.mapM (aX n G)=some ys:=by
   intro xs;induction xs with
   |nil=>intro ys h;simpa using h
   |cons z xs ih=>
    intro ys hy;simp only [List.mapM_cons,Option.bind_eq_bind,Option.bind_eq_some_iff,Option.pure_def,Option.some.injEq] at hy⊢;obtain ⟨a,h1,b,h2,h3⟩:=hy;exact ⟨a,mr h n z a h1,b,ih b h2,h3⟩
  cases x with
  |agg cs=>
   simp only [aX,Option.map_eq_some_iff] at hs⊢;obtain ⟨ys,h1,h2⟩:=hs;exact ⟨ys,hm _ _ h1,h2⟩
  |fn f cs=>
   simp only [aX,Option.map_eq_some_iff] at hs⊢;obtain ⟨ys,h1,h2⟩:=hs;exact ⟨ys,hm _ _ h1,h2⟩
  |ref id ad off len=>
   simp only [aX] at hs⊢;split at hs
   ·rename_i b hb;rw [h.ap hb];simp only;split at hs
    ·rename_i hle;rw [if_pos hle];simp only [Option.map_eq_some_iff] at hs⊢;obtain ⟨ys,h1,h2⟩:=hs;exact ⟨ys,hm _ _ h1,h2⟩
    ·simp at hs
   ·simp at hs
  |ptr id ad idx off=>
   simp only [aX] at hs⊢;split at hs
   ·rename_i b hb;rw [h.ap hb];simp only;split at hs
    ·rename_i z hz;simp only [Option.map_eq_some_iff] at hs⊢;obtain ⟨y',h1,h2⟩:=hs;exact ⟨y',mr h n z y' h1,h2⟩
    ·simp at hs
   ·simp at hs
  |_=>first|(simpa only [aX] using hs)|(simp [aX] at hs;done)
theorem jQ {H G:J} (h:aZ H G): ∀(ms:List Mode) (as ys:List AV) (b:Bool),b_ ms as H=some (ys,b)→b_ ms as G=some (ys,b)
 |ms,[],ys,b,hp=>by cases ms<;>simpa only [b_] using hp
 |[],a::as,ys,b,hp=>by
  simp only [b_] at hp⊢;split at hp
  ·rename_i y hy;split at hp
   ·rename_i aS b' cq
    rw [mr h 8 a y hy,jQ h [] as aS b' cq]
    exact hp
   ·simp at hp
  ·simp at hp
 |m::ms,a::as,ys,b,hp=>by
  have other:(match b_ ms as H with|some (ys,b)=>some (a::ys,b)|none=>none)=some (ys,b)→(match b_ ms as G with|some (ys,b)=>some (a::ys,b)|none=>none)=some (ys,b):=by
   intro hp;split at hp
   ·rename_i aS b' cq
    rw [jQ h ms as aS b' cq]
    exact hp
   ·simp at hp
  cases m with
  |val=>
   simp only [b_] at hp⊢;split at hp
   ·rename_i y hy;split at hp
    ·rename_i aS b' cq
     rw [mr h 8 a y hy,jQ h ms as aS b' cq]
     exact hp
    ·simp at hp
   ·simp at hp
  |eG=>
   simp only [b_] at hp⊢;split at hp
   ·rename_i aS b' cq
    rw [jQ h ms as aS b' cq]
    exact hp
   ·simp at hp
  |io=>
   simp only [b_] at hp⊢;split at hp
   ·rename_i aS b' cq
    rw [jQ h ms as aS b' cq]
    exact hp
   ·simp at hp
def yK (w:World) (G:J) (φ :af) (A:ah) (H H' :J) (x:AV) (e:Ending) (w' :World):Prop:=
 match e with
 | .returned v' => ∃ak A',Out w G φ A w' G ak A' ∧R w' G ak A' x v' ∧ ∀id loc,ak id=some loc→ φ id=some loc∨(H.bs.length≤id∧id<H'.bs.length)
 |_=>False
theorem yL {P:Program} {C:aI} {X:bz} (hX: ∀f ys H K,X f ys H K→cz P f ys H K) {w:World} {G:J} {φ :af} {A:ah} (ae:St w G φ A) {H H' :J} (hg:aZ H G) (hh:GH G φ H H') {f:FuncId} {as:List AV} {us:Array Value} (hl:as.length=us.size)
 (hr: ∀(i:Nat) (x:AV) (u:Value),as[i]? =some x→us[i]? =some u→R w G φ A x u) {th:Bool} {x:AV} (h:dj X C f as th H (fun v1 H1=>v1=x∧H1=H')):jc P f∧Calls P f us w (yK w G φ A H H' x):=by
 unfold dj at h;split at h
 ·exact h.elim
 rename_i ys bT hy;obtain ⟨y,kQ,gT,hp⟩:=h;have hm:mf []:=fun m hm=>by simp at hm
 have oU:bW w G φ A ⟨0,[]⟩ (fun _=>none) A:=by
  refine ⟨ae,⟨fun i i' c b b' h=>by simp at h,fun c hc=> ?_,ae.b4,fun id loc h=>by simp at h⟩,fun c _ hc=> ?_,ae.own⟩
  ·obtain ⟨i,b,h⟩:=hc;simp at h
  ·obtain ⟨i,b,h⟩:=hc;simp at h
 have oV:ca [] ys ⟨0,[]⟩=(ys,⟨0,[]⟩):=oT _ _ _ hy _;obtain ⟨az,m,cr,dM⟩:=l_ as [] [] us.toList G φ as G ys bT ⟨0,[]⟩ (fun _=>none) ys ⟨0,[]⟩ oU (by simpa using hl) (fun i x u hx hu=>hr i x u hx (by simpa using hu)) (oR _ _ _ _ hm) (jQ hg _ _ _ _ hy) oV
 have bm: ∀c,¬Ow az c:=fun c hc=>by
  rcases m.oh c hc with ⟨i,b,h⟩|⟨h1,h2⟩
  ·simp at h
  ·rw [jM ae] at h2;exact h2 h1
 let A0:ah:=if bT=true then Ow az else A
 have jd: ∀c,A0 c→A c:=by
  intro c hc;simp only [A0] at hc;split at hc
  ·exact absurd hc (bm c)
  ·exact hc
 have oW:bT=true→ ∀c,A0 c→fp (aA φ G) A c:=by
  intro aw c hc;simp only [A0,aw,if_true] at hc;exact absurd hc (bm c)
 have cP:St w ⟨0,[]⟩ az A0:=m.bn.sh.shrink jd (fun c hc=>absurd hc (bm c));have eR:ys.length=us.size:=by simpa using cr.1
 refine ⟨(hX _ _ _ _ kQ).1,((hX _ _ _ _ kQ).2 w A0 az us cP eR (fun i x u hx hu=>cr.2 A0 jd oW i x u hx (by simpa using hu))).mono fun e w' he=> ?_⟩
 cases e with
 |panicked c=>exact he.elim
 |outgrown=>exact he.elim
 |returned v' =>
 obtain ⟨x0,L,ak,A',ho,oX,rs,gq,L2,rfl,kR,rfl⟩:=he;obtain ⟨cx,rfl,gX,gR⟩:=rh oX
 let AH:ah:=if bT=true then fun c=>A c∨(A' c∧w.heap.size≤c) else A'
 have je: ∀c,Ow ak c→w.heap.size≤c:=fun c hc=>(ho.post.own c hc).resolve_left (bm c)
 have ha:oK w A az w' ak AH:=by
  refine ⟨fun c hc hn=> ?_,fun c hc=> ?_,fun c hc=> ?_,fun c arr T fr hc hn=> ?_⟩
  ·simp only [AH];split
   ·exact .inl hc
   ·rename_i aw;refine ho.bJ c ?_ hn;simp only [A0,aw];exact hc
  ·simp only [AH];split
   ·exact .inr ⟨ho.st.own c hc,je c hc⟩
   ·exact ho.st.own c hc
  ·simp only [AH] at hc;split at hc
   ·rcases hc with h|⟨h,_⟩
    ·exact Nat.lt_of_lt_of_le (ae.b4 c h) ho.post.size
    ·exact ho.st.b4 c h
   ·exact ho.st.b4 c hc
  ·obtain ⟨h1,h2⟩:=ho.bV.fz c arr T fr hc (fun h=>hn (jd c h));refine ⟨h1,?_⟩;simp only [AH];split
   ·rintro (h|⟨_,h⟩)
    ·exact hn h
    ·have:c<w.heap.size:=by
      rcases Nat.lt_or_ge c w.heap.size with h' |h'
      ·exact h'
      ·rw [Array.getElem?_eq_none h'] at hc;simp at hc
     omega
   ·exact h2
 obtain ⟨D,E⟩:=qX (ls:=[]) (Lm:=L) ae m (by rw [hl,eR]) dM ho ha (by simp [fb])
 rw [oS _ _ _ _ hm,jM ae] at D E;have oY:dL A' AH gq:=by
  cases aw:bT with
  |false=>exact .inl fun c h=>by simpa [AH,aw] using h
  |true=>
   rcases gT with h|h
   ·rw [aw] at h;simp at h
   ·rw [rf] at h;exact .inr h
 have jf: ∀(i:Nat) (x:AV) (u:Value),rs[i]? =some x→cx[i]? =some u→R w' L (aA ak L) A' x u:=fun i x u hx hu=>by
  rw [jM ho.st];exact gR i x u hx hu
 have fh: ∀{cQ:af},(∀c,Ow cQ c→Ow φ c∨Ow ak c)→fc w φ w' cQ:=fun hq=>
  ⟨ho.post.os,ho.post.tape,ho.post.output,ho.post.size,fun c hc _=>ho.post.kept c hc (bm c),ho.post.a7,fun c hc=>by
   rcases hq c hc with h|h
   ·exact .inl h
   ·exact .inr (je c h)⟩
 have jg: ∀c,A c→ ¬Ow φ c→AH c:=fun c hc _=>ha.own c hc (bm c);have cH: ∀c,Ow φ c→a7 w' c=a7 w c:=fun c hc=>ho.post.a7 c (Ow.lt ae hc)
 cases fM:(th||bT) with
 |true=>
  rw [fM] at hp;simp only [if_true,ra] at hp;obtain ⟨rfl,rfl⟩:=hp;obtain ⟨cQ,m3,l3,r3⟩:=rH _ rs cx L _ H G φ gq L2 D hh gX jf kR oY
  refine ⟨cQ,AH,⟨m3.bn.sh,fh fun c hc=> ?_,E.trans m3.eh cH,jg⟩,oQ l3 r3,m3.new⟩;rcases m3.oh c hc with h|⟨h,_⟩
  ·exact .inl h
  ·exact .inr (bG h)
 |false=>
  rw [fM] at hp;simp only [Bool.false_eq_true,if_false,rb] at hp;obtain ⟨rfl,rfl⟩:=hp;simp only [Bool.or_eq_false_iff] at fM;have oZ:AH=A' :=by simp [AH,fM.2]
  rw [oZ] at D E jg
  let A2:ah:=gone (aA ak L) A' L2
  obtain ⟨l3,r3⟩:=oP (A' :=A2) _ rs cx L (aA ak L) gq L2 D.sl gX jf kR (fun c h=>h)
  have o0: ∀c,Ow φ c→A2 c:=fun c hc=>⟨D.sh.own c hc,fun h=>absurd hc (D.b8 c h)⟩;have o7:bH w G φ A w' G φ A2:=⟨fun c arr T fr hc hn=>⟨(E.fz c arr T fr hc hn).1,fun h2=>(E.fz c arr T fr hc hn).2 h2.1⟩,E.st,E.ids,E.sz⟩
  refine ⟨φ,A2,⟨D.sh.shrink (fun c h=>h.1) o0,fh fun c hc=> .inl hc,o7,fun c hc hn=>⟨jg c hc hn,fun h=> ?_⟩⟩,.fr _ _ (q_ l3 r3),fun id loc h=> .inl h⟩;have:=je c (bG h)
  have:=ae.b4 c hc;omega
end Go.VS
namespace Go.VS
def yM (H H1:J):Prop:= ∀id b,H1.get id=some b→b.ad<H.st→H.get id=some b
def QG (H H1:J):Prop:=fq H H1∧yM H H1
theorem QG.refl (H:J):QG H H:=⟨.refl _,fun _ _ h _=>h⟩
theorem QG.trans {H H1 H2:J} (h:QG H H1) (k:QG H1 H2):QG H H2:=
 ⟨h.1.trans k.1,fun id b hb hv=>h.2 id b (k.2 id b hb (Nat.lt_of_lt_of_le hv h.1.1.2)) hv⟩
theorem QG.of {H H' :J} (h:H' =H∨ ∃sz fx el,H' =H.new sz fx el):QG H H' :=by
 obtain ⟨h1,h2,h3⟩:=J.iX h;exact ⟨⟨h1,h3⟩,h2⟩
theorem QG.new (H:J) (sz:Nat) (fx:Bool) (el:List AV):QG H (H.new sz fx el):= .of (.inr ⟨_,_,_,rfl⟩)
mutual
theorem pg: ∀(y:AV) (H:J),QG H (aG y H).2
 | .own sz xs,H=>by simp only [aG];exact (mu xs H).trans (.new _ _ _ _)
 | .dh sz x,H=>by simp only [aG];exact (pg x H).trans (.new _ _ _ _)
 | .agg xs,H=>by simp only [aG];exact mu xs H
 | .aB xs,H=>by simp only [aG];exact mu xs H
 | .undef,H=> .refl _
 | .int _ _,H=> .refl _
 | .bool _,H=> .refl _
 | .str _,H=> .refl _
 | .nil,H=> .refl _
 | .e0,H=> .refl _
 | .fz _,H=> .refl _
 | .ref _ _ _ _,H=> .refl _
 | .ptr _ _ _ _,H=> .refl _
 | .fe _ _,H=> .refl _
 | .fn _ _,H=> .refl _
 | .cf _,H=> .refl _
 | .dr,H=> .refl _
theorem mu: ∀(ys:List AV) (H:J),QG H (aF ys H).2
 |[],H=> .refl _
 |y::ys,H=>by simp only [aF];exact (pg y H).trans (mu ys _)
end
section ops
variable {P:Program} {E:aM} (hE: ∀t ti,E t=some ti→aQ P t ti)
variable {w:World} {G:J} {φ :af} {A:ah}
theorem yN {b:Builtin} {tys:Array TypeId} {args:List AV} {H H' :J} {z:AV} (hq:eY b args=true) (h:dt E b tys args H=some (z,H')):QG H H' :=by
 have yO: ∀{te:TI} {s x:AV},s= .nil∨s= .e0→ea te s x H=some (z,H')→QG H H' :=by
  intro te s x hs h;refine .of ?_;rcases hs with rfl|rfl;all_goals
   simp only [ea] at h;repeat' split at h
   all_goals first
    |(simp at h;done)
    |(simp only [Option.some.injEq,Prod.mk.injEq] at h;first|exact .inl h.2.symm|exact .inr ⟨_,_,_,h.2.symm⟩)
 unfold dt at h;split at h
 ·repeat' split at h
  all_goals first
   |(simp at h;done)
   |(simp only [Option.some.injEq,Prod.mk.injEq] at h;rw [←h.2];exact .refl _)
 ·rename_i s x;have hs:s= .nil∨s= .e0:=by
   cases s<;>first|exact .inl rfl|exact .inr rfl|(simp [eY] at hq)
  split at h
  ·split at h
   ·split at h
    ·split at h
     ·unfold kc at h;refine .of ?_;repeat' split at h
      all_goals first
       |(simp at h;done)
       |(simp only [Option.some.injEq,Prod.mk.injEq] at h;first|exact .inl h.2.symm|exact .inr ⟨_,_,_,h.2.symm⟩)
     ·simp at h
    ·exact yO hs h
   ·simp at h
  ·simp at h
 ·simp [eY] at hq
 ·simp [eY] at hq
 ·split at h
  ·simp only [Option.some.injEq,Prod.mk.injEq] at h;rw [←h.2];exact .refl _
  ·simp at h
 ·split at h
  ·simp only [Option.some.injEq,Prod.mk.injEq] at h;rw [←h.2];exact .refl _
  ·simp at h
 ·split at h
  ·split at h
   ·simp only [Option.some.injEq,Prod.mk.injEq] at h;rw [←h.2];exact .refl _
   ·simp at h
  ·simp at h
 ·simp at h
include hE in
theorem yP (ae:St w G φ A) {H H' :J} (hX:aZ H G) (rI:aZ H' G) (bq:H.bs.length<H'.bs.length→ φ H.bs.length=none) {b:Builtin} {tys:Array TypeId} {ty:TypeId} {consts:Array Bool} {args:List AV} {vs:Array Value} {z:AV} (hq:eY b args=true) (hl:args.length=vs.size)
 (aR: ∀(i:Nat) (a:AV) (u:Value),args[i]? =some a→vs[i]? =some u→R w G φ A a u) (h:dt E b tys args H=some (z,H')):
 bd w G φ A H H' ((builtin b tys ty consts vs).run P w) z:=by
 unfold dt at h;split at h
 ·rename_i x;obtain ⟨a,rfl⟩: ∃a,vs= #[a]:=by
   have h1:vs.size=1:=hl.symm;exact ⟨vs[0],by apply Array.ext;simp [h1];intro i h1 h2;simp at h2;subst h2;rfl⟩
  have hx:=aR 0 x a rfl rfl;split at h
  ·rename_i ti n ht hn;obtain ⟨t,h0,ht⟩:=Option.bind_eq_some_iff.1 ht;have key: ∀{q:AV×J},some q=some (z,H')→q=(AV.int .i64 n,H)→((∃e,ti.au= .sl e∧ ∀s,x≠ .str s)∨(ti.au= .str∧ ∃s,x= .str s))→bd w G φ A H H' ((builtin .len tys ty consts #[a]).run P w) z:=by
    intro q hq oi hu;subst oi;simp only [Option.some.injEq,Prod.mk.injEq] at hq;obtain ⟨rfl,rfl⟩:=hq;have:=qE (tys:=tys) (ty:=ty) hE h0 hx hX hn ht hu;exact bd.val ae (by simp [builtin,this]) (.fr _ _ (.int _ _))
   split at h
   ·rename_i s hu;exact key h rfl (.inr ⟨hu,s,rfl⟩)
   ·simp at h
   ·rename_i e hu aN;exact key h rfl (.inl ⟨e,hu,fun s hs=>aN s hs⟩)
   ·simp at h
  ·simp at h
 ·rename_i s x;obtain ⟨a,b,rfl⟩: ∃a b,vs= #[a,b]:=by
   have h1:vs.size=2:=hl.symm;exact ⟨vs[0],vs[1],by apply Array.ext;simp [h1];intro i h1 h2;simp at h2;rcases i with _|_|i;rfl;rfl;omega⟩
  have hs:=aR 0 s a rfl rfl;have hx:=aR 1 x b rfl rfl;have ec:s= .nil∨s= .e0:=by
   cases s<;>first|exact .inl rfl|exact .inr rfl|(simp [eY] at hq)
  split at h
  ·rename_i t h0;split at h
   ·rename_i te tx bg cy;obtain ⟨t2,h1,cy⟩:=Option.bind_eq_some_iff.1 cy;split at h
    ·rename_i k hit;split at h
     ·exact qv hE ae rI bq h0 h1 bg cy hit hs hx h
     ·simp at h
    ·rename_i aN;exact n1 hE ae hX rI bq h0 h1 bg cy (fun k hk=>aN k hk) hs hx ec h
   ·simp at h
  ·simp at h
 ·simp [eY] at hq
 ·simp [eY] at hq
 ·split at h
  ·rename_i v hv;simp only [Option.some.injEq,Prod.mk.injEq] at h;obtain ⟨rfl,rfl⟩:=h;cases args with
   |nil=>simp [jw] at hv
   |cons x rest=>
    obtain ⟨a,us,dq⟩: ∃a us,vs.toList=a::us:=by
     cases eR:vs.toList with
     |nil=>have:=congrArg List.length eR;simp at this;simp [this] at hl
     |cons a us=>exact ⟨a,us,rfl⟩
    have hlen:rest.length=us.length:=by have:=congrArg List.length dq;simp at this;simp at hl;omega
    have bw: ∀(i:Nat) (u:Value),(a::us)[i]? =some u→vs[i]? =some u:=fun i u hu=>by rw [←dq] at hu;simpa using hu
    obtain ⟨u,hu,hz⟩:=kI (P:=P) (op:=Builtin.min2) (f:=fun a b=>match a,b with| .int k x,.int _ y=>some (.int k (if y<x then y else x))|_,_=>none) (fun a b x y z ha hb hf=>by
     split at hf
     ·have e1:=ha.cw;have e2:=hb.cw;subst e1;subst e2;simp only [Option.some.injEq] at hf;subst hf;exact ⟨_,by simp [Builtin.min2],.fr _ _ (.int _ _)⟩
     ·simp at hf) rest us x a v hlen (fun i p q hp hq=>aR (i+1) p q hp (bw (i+1) q hq)) (aR 0 x a rfl (bw 0 a rfl)) hv
    exact bd.val ae (by simp [builtin,Builtin.min_,dq,hu]) hz
  ·simp at h
 ·split at h
  ·rename_i v hv;simp only [Option.some.injEq,Prod.mk.injEq] at h;obtain ⟨rfl,rfl⟩:=h;cases args with
   |nil=>simp [jx] at hv
   |cons x rest=>
    obtain ⟨a,us,dq⟩: ∃a us,vs.toList=a::us:=by
     cases eR:vs.toList with
     |nil=>have:=congrArg List.length eR;simp at this;simp [this] at hl
     |cons a us=>exact ⟨a,us,rfl⟩
    have hlen:rest.length=us.length:=by have:=congrArg List.length dq;simp at this;simp at hl;omega
    have bw: ∀(i:Nat) (u:Value),(a::us)[i]? =some u→vs[i]? =some u:=fun i u hu=>by rw [←dq] at hu;simpa using hu
    obtain ⟨u,hu,hz⟩:=kI (P:=P) (op:=Builtin.max2) (f:=fun a b=>match a,b with| .int k x,.int _ y=>some (.int k (if y>x then y else x))|_,_=>none) (fun a b x y z ha hb hf=>by
     split at hf
     ·have e1:=ha.cw;have e2:=hb.cw;subst e1;subst e2;simp only [Option.some.injEq] at hf;subst hf;exact ⟨_,by simp [Builtin.max2],.fr _ _ (.int _ _)⟩
     ·simp at hf) rest us x a v hlen (fun i p q hp hq=>aR (i+1) p q hp (bw (i+1) q hq)) (aR 0 x a rfl (bw 0 a rfl)) hv
    exact bd.val ae (by simp [builtin,Builtin.max_,dq,hu]) hz
  ·simp at h
 ·obtain ⟨a,rfl⟩: ∃a,vs= #[a]:=by
   have h1:vs.size=1:=hl.symm;exact ⟨vs[0],by apply Array.ext;simp [h1];intro i h1 h2;simp at h2;subst h2;rfl⟩
  have hx:=(aR 0 .nil a rfl rfl).c6;subst hx;split at h
  ·rename_i ti ht;obtain ⟨t,h0,ht⟩:=Option.bind_eq_some_iff.1 ht;split at h
   ·rename_i e hu;simp only [Option.some.injEq,Prod.mk.injEq] at h;obtain ⟨rfl,rfl⟩:=h;have hc:(Builtin.cap_ tys ty #[.slice none 0 0]).run P w= .ok (.int .i64 0) w:=by
     unfold Builtin.cap_;simp only [h0,List.getElem?_toArray,List.getElem?_cons_zero,Sem.run_bind,(hE _ _ ht).sl w hu,Result.andThen_ok];rfl
    exact bd.val ae (by simp [builtin,hc]) (.fr _ _ (.int _ _))
   ·simp at h
  ·simp at h
 ·simp at h
end ops
section step
variable {P:Program} {C:aI} {X:bz} {w:World} {G:J} {φ :af} {A:ah}
theorem bd.upon {H H' :J} {r:Result Next} {x:AV} (h:bd w G φ A H H' r x) {o:Oper} {a:Act} {next:Act→World→Prop} {Q:Exit→Act→World→Prop}
 (hn: ∀v w' ak A',Out w G φ A w' G ak A' →R w' G ak A' x v→(∀id loc,ak id=some loc→ φ id=some loc∨(H.bs.length≤id∧id<H'.bs.length))→next (a.put o.dst v) w'):o.upon P a next Q r:=by
 obtain ⟨n,v,w',ak,A',rfl,hv,hr,ho,hi⟩:=h;rcases hv with rfl|⟨rfl,rfl⟩
 ·exact hn v w' ak A' ho hr hi
 ·exact hn _ w' ak A' ho hr hi
theorem kW (hE: ∀t ti,C.E t=some ti→aQ P t ti) (hX: ∀f ys H K,X f ys H K→cz P f ys H K) (ae:St w G φ A) {o:Oper} {s:aj} {a:Act} (hs: ∀x∈o.op.operands,R w G φ A (ev s x) (a.eval x)) {th:Bool} {H H' :J} {x:AV} (hg:aZ H G) (hh:GH G φ H H')
 (h:wpOp X C true th o s H (fun v1 H1=>v1=x∧H1=H')) {next:Act→World→Prop} {Q:Exit→Act→World→Prop}
 (hn: ∀v w' ak A',Out w G φ A w' G ak A' →R w' G ak A' x v→(∀id loc,ak id=some loc→ φ id=some loc∨(H.bs.length≤id∧id<H'.bs.length))→next (a.put o.dst v) w'):o.wp P a w next Q:=by
 have bq:H.bs.length<H'.bs.length→ φ H.bs.length=none:=fun aw=>hh.none _ (Nat.le_refl _) aw;have kS:dD o.op=true→(match aL C.E o.op s H with|some (v,H1)=>v=x∧H1=H' |none=>False)→o.wp P a w next Q:=by
  intro hq jh;split at jh
  ·rename_i v H1 he;obtain ⟨rfl,rfl⟩:=jh;exact (n4 hE ae hg hh.ext bq hq hs he).upon hn
  ·exact jh.elim
 unfold wpOp at h;split at h
 ·rename_i b args tys bB;obtain ⟨hq,h⟩:=h;have hq:=hq rfl;split at h
  ·rename_i v H1 he;obtain ⟨rfl,rfl⟩:=h;obtain ⟨consts,cL⟩:=rj (P:=P) (w:=w) (ρ :=a.eval) bB;have:=yP hE ae hg hh.ext bq (ty:=o.type) (consts:=consts) (vs:=args.map a.eval) hq (by simp) (fun i x u hx hu=>by
    simp only [List.getElem?_map,Option.map_eq_some_iff] at hx;obtain ⟨y,hy,rfl⟩:=hx;simp only [Array.getElem?_map,Option.map_eq_some_iff] at hu;obtain ⟨y',eg,rfl⟩:=hu;have:y' =y:=by simp at hy;rw [hy] at eg;simpa using eg.symm
    subst this;exact hs y' (by rw [bB];simp only [Op.operands,Call.operands];simp [Array.mem_of_getElem? eg])) he
   rw [←cL] at this;exact this.upon hn
  ·exact h.elim
 ·rename_i y args tys bB;split at h
  ·rename_i g bR cE;simp only [if_true] at h;have hx:=hs y (by rw [bB];simp [Op.operands,Call.operands])
   rw [cE] at hx;obtain ⟨vs,hv,hl,hp⟩:=hx.kh;have hc:=yL hX ae hg hh (us:=args.map a.eval ++ vs) (by simp [hl]) (fun i y u hy hu=>by
    rcases Nat.lt_or_ge i args.size with hi|hi
    ·rw [List.getElem?_append_left (by simpa using hi)] at hy
     rw [Array.getElem?_append_left (by simpa using hi)] at hu
     simp only [List.getElem?_map,Option.map_eq_some_iff] at hy;obtain ⟨z,hz,rfl⟩:=hy;simp only [Array.getElem?_map,Option.map_eq_some_iff] at hu;obtain ⟨z',dH,rfl⟩:=hu;have:z' =z:=by simp at hz;rw [hz] at dH;simpa using dH.symm
     subst this;exact hs z' (by rw [bB];simp only [Op.operands,Call.operands];simp [Array.mem_of_getElem? dH])
    ·rw [List.getElem?_append_right (by simpa using hi)] at hy
     rw [Array.getElem?_append_right (by simpa using hi)] at hu
     exact hp _ y u (by simpa using hy) (by simpa using hu)) h
   unfold Oper.wp;rw [ri bB hv hc.1,Oper.upon_enter];refine hc.2.mono fun e w' he=> ?_
   cases e with
   |returned v' =>
    obtain ⟨ak,A',h1,h2,h3⟩:=he;exact hn v' w' ak A' h1 h2 h3
   |panicked c=>exact he.elim
   |outgrown=>exact he.elim
  ·exact h.elim
 ·exact kS (h.1 rfl) h.2
theorem yQ {o:Oper} {s:aj} {th:Bool} {H H' :J} {x:AV} (h:wpOp X C true th o s H (fun v1 H1=>v1=x∧H1=H')):QG H H' :=by
 have kS:dD o.op=true→(match aL C.E o.op s H with|some (v,H1)=>v=x∧H1=H' |none=>False)→QG H H' :=by
  intro hq jh;split at jh
  ·rename_i v H1 he;obtain ⟨rfl,rfl⟩:=jh;exact .of (qF hq he)
  ·exact jh.elim
 unfold wpOp at h;split at h
 ·obtain ⟨hq,h⟩:=h;split at h
  ·rename_i v H1 he;obtain ⟨rfl,rfl⟩:=h;exact yN (hq rfl) he
  ·exact h.elim
 ·split at h
  ·rename_i g bR cE;simp only [if_true] at h;unfold dj at h;split at h
   ·exact h.elim
   obtain ⟨y,_,_,hp⟩:=h;split at hp
   ·obtain ⟨_,rfl⟩:=hp;exact pg _ _
   ·obtain ⟨_,rfl⟩:=hp;exact .refl _
  ·exact h.elim
 ·exact kS (h.1 rfl) h.2
end step
end Go.VS
namespace Go.VS
section tr
variable {C:aI} {X:bz}
theorem kX (df:Exact X) {q th:Bool} {o:Oper} {s:aj} {H:J} {K:AV→J→Prop} (h:wpOp X C q th o s H K): ∃v H',wpOp X C q th o s H (fun v1 H1=>v1=v∧H1=H')∧K v H' :=by
 unfold wpOp at h⊢;split at h
 ·rename_i b args tys bB;obtain ⟨hq,h⟩:=h;split at h
  ·rename_i v H' he
   refine ⟨v,H',?_,h⟩;first
    |exact ⟨hq,rfl,rfl⟩
    |(simp only [bB];exact ⟨hq,trivial,trivial⟩)
    |(simp only [bB,he];exact ⟨hq,trivial,trivial⟩)
  ·exact h.elim
 ·rename_i x args tys bB;split at h
  ·rename_i g bR hg;have hQ:dj X C g (args.toList.map (ev s) ++ bR) th H K→ ∃v H',dj X C g (args.toList.map (ev s) ++ bR) th H (fun v1 H1=>v1=v∧H1=H')∧K v H' :=by
    intro h;unfold dj at h⊢;split at h
    ·exact h.elim
    rename_i ys bT hy;obtain ⟨y,h1,h2,h3⟩:=h;split at h3
    ·rename_i ht;refine ⟨_,_,⟨y,h1,h2,?_⟩,h3⟩;simp only [ht,if_true];exact ⟨trivial,trivial⟩
    ·rename_i ht;refine ⟨_,_,⟨y,h1,h2,?_⟩,h3⟩;simp only [ht];exact ⟨trivial,trivial⟩
   have key: ∃v H',(if q then dj X C g (args.toList.map (ev s) ++ bR) th H (fun v1 H1=>v1=v∧H1=H') else X g (args.toList.map (ev s) ++ bR) H (fun v1 H1=>v1=v∧H1=H')∨dj X C g (args.toList.map (ev s) ++ bR) th H (fun v1 H1=>v1=v∧H1=H'))∧K v H' :=by
    cases q with
    |false=>
     simp only [Bool.false_eq_true,if_false] at h⊢;rcases h with h|h
     ·obtain ⟨v,H',h1,h2⟩:=df _ _ _ _ h;exact ⟨v,H',.inl h1,h2⟩
     ·obtain ⟨v,H',h1,h2⟩:=hQ h;exact ⟨v,H',.inr h1,h2⟩
    |true=>
     simp only [if_true] at h⊢;exact hQ h
   obtain ⟨v,H',k1,k2⟩:=key;refine ⟨v,H',?_,k2⟩;first
    |exact k1
    |(simp only [bB,hg];exact k1)
  ·exact h.elim
 ·rename_i op lO A9;obtain ⟨hq,h⟩:=h;split at h
  ·rename_i v H' he
   refine ⟨v,H',?_,h⟩;exact ⟨hq,rfl,rfl⟩
  ·exact h.elim
theorem mv (C:aI) (ops:Array Oper) (s:aj) (H:J) (K:Prop): ∀(l:List Nat),eZ C ops s H K l→(∀j∈l,jz C ops s H j)∧K
 |[],h=>⟨by simp,h⟩
 |j::js,h=>by
  obtain ⟨h1,h2⟩:=h;obtain ⟨k1,k2⟩:=mv C ops s H K js h2;refine ⟨fun i hi=> ?_,k2⟩;rcases List.mem_cons.1 hi with rfl|hi
  ·exact h1
  ·exact k1 i hi
structure Tr (X:bz) (C:aI) (ops:Array Oper) (q:Nat→Bool) (late:Nat→List Nat) (th:List Nat) (K:aj→J→Prop) (l:List Oper) (k:Nat) (s:Nat→aj) (H:Nat→J) (v:Nat→AV) (act:Nat→Bool):Prop where
 step: ∀i o,l[i]? =some o→s (i+1)=bf (s i) o.dst (v i)∧dl ops o (s i)=some (act i)∧(act i=true→wpOp X C (q (k+i)) (th.contains (k+i)) o (s i) (H i) (fun v1 H1=>v1=v i∧H1=H (i+1)))∧
  (act i=false→v i= .aB []∧H (i+1)=H i)∧ ∀j∈late (k+i),jz C ops (s (i+1)) (H (i+1)) j
 fin:K (s l.length) (H l.length)
theorem rJ (df:Exact X) {ops:Array Oper} {q:Nat→Bool} {late:Nat→List Nat} {th:List Nat} {K:aj→J→Prop}: ∀(l:List Oper) (k:Nat) (s0:aj) (H0:J),cV X C ops q late th K l k s0 H0→
 ∃s H v act,s 0=s0∧H 0=H0∧Tr X C ops q late th K l k s H v act
 |[],k,s0,H0,h=>⟨fun _=>s0,fun _=>H0,fun _=> .undef,fun _=>true,rfl,rfl,⟨by simp,h⟩⟩
 |o::l,k,s0,H0,h=>by
  have key: ∃v0 H1 a0,dl ops o s0=some a0∧(a0=true→wpOp X C (q k) (th.contains k) o s0 H0 (fun v1 H' =>v1=v0∧H' =H1))∧(a0=false→v0= .aB []∧H1=H0)∧(∀j∈late k,jz C ops (bf s0 o.dst v0) H1 j)∧
   cV X C ops q late th K l (k+1) (bf s0 o.dst v0) H1:=by
   simp only [cV] at h;cases hg:o.guard with
   |none=>
    rw [hg] at h;obtain ⟨v,H',h1,h2⟩:=kX df h;obtain ⟨k1,k2⟩:=mv _ _ _ _ _ _ h2;exact ⟨v,H',true,by simp [dl,hg],fun _=>h1,fun h=>by simp at h,k1,k2⟩
   |some p=>
    rw [hg] at h;obtain ⟨v,H',h1,h2⟩:=h;obtain ⟨k1,k2⟩:=mv _ _ _ _ _ _ h2;split at h1
    ·rename_i b hb;cases b with
     |true=>exact ⟨v,H',true,hb,fun _=>by simpa using h1,fun h=>by simp at h,k1,k2⟩
     |false=>exact ⟨v,H',false,hb,fun h=>by simp at h,fun _=>by simpa using h1,k1,k2⟩
    ·exact h1.elim
  obtain ⟨v0,H1,a0,g1,g2,g3,g4,g5⟩:=key;obtain ⟨s,H,v,act,e1,e2,t⟩:=rJ df l (k+1) _ _ g5;refine ⟨fun i=>match i with|0=>s0|i+1=>s i,fun i=>match i with|0=>H0|i+1=>H i,fun i=>match i with|0=>v0|i+1=>v i,fun i=>match i with|0=>a0|i+1=>act i,rfl,rfl,⟨fun i o' hi=> ?_,t.fin⟩⟩
  cases i with
  |zero=>
   simp only [List.getElem?_cons_zero,Option.some.injEq] at hi;subst hi;simp only [Nat.add_zero,e1,e2];exact ⟨trivial,g1,g2,g3,g4⟩
  |succ i=>
   have:=t.step i o' (by simpa using hi)
   rw [show k+1+i=k+(i+1) by omega] at this
   exact this
end tr
theorem rK (bs:Edge→Bool) (acc:List Nat) (j:Nat): ∀(l:List Edge) (m0:Nat),(l.foldl (fun m e=>if bs e then m|||2^e.on|||acc.getD e.on 0 else m) m0).testBit j=true→m0.testBit j=true∨ ∃e∈l,bs e=true∧(e.on=j∨(acc.getD e.on 0).testBit j=true)
 |[],m0,h=> .inl h
 |e::l,m0,h=>by
  simp only [List.foldl_cons] at h;rcases rK bs acc j l _ h with h|⟨e',h1,h2⟩
  ·split at h
   ·rename_i hb;simp only [Nat.testBit_or,Nat.testBit_two_pow,Bool.or_eq_true,decide_eq_true_eq] at h;rcases h with (h|h)|h
    ·exact .inl h
    ·exact .inr ⟨e,by simp,hb,.inl h⟩
    ·exact .inr ⟨e,by simp,hb,.inr h⟩
   ·exact .inl h
  ·exact .inr ⟨e',by simp [h1],h2⟩
theorem rL: ∀(os:List Oper) (acc:List Nat),(gd os acc).length=acc.length+os.length∧(∀i,i<acc.length→(gd os acc).getD i 0=acc.getD i 0)∧
 ∀i o,os[i]? =some o→ ∀j,((gd os acc).getD (acc.length+i) 0).testBit j=true→ ∃e∈o.after.toList,Region.binds .any e=true∧(e.on=j∨(e.on<acc.length+i∧((gd os acc).getD e.on 0).testBit j=true))
 |[],acc=>⟨by simp [gd],by simp [gd],by simp⟩
 |o::os,acc=>by
  obtain ⟨h1,h2,h3⟩:=rL os (acc ++ [o.after.toList.foldl (fun m e=>if Region.binds .any e then m|||2^e.on|||acc.getD e.on 0 else m) 0]);simp only [gd];have hold: ∀i,i<acc.length→(gd os (acc ++ [o.after.toList.foldl (fun m e=>if Region.binds .any e then m|||2^e.on|||acc.getD e.on 0 else m) 0])).getD i 0=acc.getD i 0:=by
   intro i hi;rw [h2 i (by simp;omega)]
   simp [List.getD,List.getElem?_append_left hi]
  refine ⟨by rw [h1];simp;omega,hold,fun i o' ho j hj=> ?_⟩
  cases i with
  |zero=>
   simp only [List.getElem?_cons_zero,Option.some.injEq] at ho;subst ho;rw [Nat.add_zero,h2 _ (by simp)] at hj
   simp only [List.getD,List.getElem?_append_right (Nat.le_refl _),Nat.sub_self,List.getElem?_cons_zero,Option.getD_some] at hj;rcases rK (Region.binds .any) acc j _ _ hj with h|⟨e,q1,q2,q3⟩
   ·simp at h
   ·refine ⟨e,q1,q2,?_⟩;rcases q3 with q3|q3
    ·exact .inl q3
    ·have aw:e.on<acc.length:=by
      rcases Nat.lt_or_ge e.on acc.length with h|h
      ·exact h
      ·rw [List.getD,List.getElem?_eq_none h] at q3;simp at q3
     exact .inr ⟨by omega,by rw [hold _ aw];exact q3⟩
  |succ i=>
   simp only [List.length_append,List.length_singleton] at h3;have:=h3 i o' (by simpa using ho) j (by rw [show acc.length+1+i=acc.length+(i+1) by omega];exact hj)
   obtain ⟨e,q1,q2,q3⟩:=this;refine ⟨e,q1,q2,?_⟩;rcases q3 with q3|⟨q3,q4⟩
   ·exact .inl q3
   ·exact .inr ⟨by omega,q4⟩
def rM (ops:Array Oper) (L:Nat→Prop):Prop:= ∀i o,ops[i]? =some o→L i→ ∀e∈o.after,Region.binds .any e=true→L e.on
theorem mw {ops:Array Oper} {L:Nat→Prop} (hs:rM ops L) (aw: ∀i o,ops[i]? =some o→ ∀e∈o.after,Region.binds .any e=true→e.on<i):
 ∀(i:Nat) (o:Oper),ops[i]? =some o→(∀e∈o.after,Region.binds .any e=true→L e.on)→ ∀j,((e8 ops.toList).getD i 0).testBit j=true→L j:=by
 intro i;induction i using Nat.strongRecOn with
 |_ i ih=>
  intro o ho ha j hj;have:=(rL ops.toList []).2.2 i o (by simpa using ho) j (by simpa [e8] using hj)
  obtain ⟨e,q1,q2,q3⟩:=this;have rN:=ha e (by simpa using q1) q2
  rcases q3 with rfl|⟨_,q4⟩
  ·exact rN
  ·have yR:=aw i o ho e (by simpa using q1) q2
   have hi:i<ops.size:=(Array.getElem?_eq_some_iff.1 ho).1;have rO:=Array.getElem?_eq_getElem (xs:=ops) (show e.on<ops.size by omega)
   exact ih e.on yR _ rO (hs e.on _ rO rN) j q4
end Go.VS
