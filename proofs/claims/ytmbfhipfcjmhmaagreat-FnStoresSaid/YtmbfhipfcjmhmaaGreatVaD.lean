import Derived.Test.YtmbfhipfcjmhmaaGreatVaC
import Derived.StillTail
namespace Go.VS
def B0 (H H1:J):Prop:= ∀id b,H1.get id=some b→b.ad<H.st→H.get id=some b
def QG (H H1:J):Prop:=gw H H1∧B0 H H1
theorem QG.refl (H:J):QG H H:=⟨.refl _,fun _ _ h _=>h⟩
theorem QG.trans {H H1 H2:J} (h:QG H H1) (k:QG H1 H2):QG H H2:=
 ⟨h.1.trans k.1,fun id b hb hv=>h.2 id b (k.2 id b hb (Nat.lt_of_lt_of_le hv h.1.1.2)) hv⟩
theorem QG.of {H H' :J} (h:H' =H∨ ∃sz fx el,H' =H.new sz fx el):QG H H' :=by
 obtain ⟨h1,h2,h3⟩:=J.jD h;exact ⟨⟨h1,h3⟩,h2⟩
theorem QG.new (H:J) (sz:Nat) (fx:Bool) (el:List AV):QG H (H.new sz fx el):= .of (.inr ⟨_,_,_,rfl⟩)
mutual
theorem rv: ∀(y:AV) (H:J),QG H (aL y H).2
 | .own sz xs,H=>by simp only [aL];exact (oj xs H).trans (.new _ _ _ _)
 | .dQ sz x,H=>by simp only [aL];exact (rv x H).trans (.new _ _ _ _)
 | .agg xs,H=>by simp only [aL];exact oj xs H
 | .aD xs,H=>by simp only [aL];exact oj xs H
 | .undef,H=> .refl _
 | .int _ _,H=> .refl _
 | .bool _,H=> .refl _
 | .str _,H=> .refl _
 | .nil,H=> .refl _
 | .e0,H=> .refl _
 | .fz _,H=> .refl _
 | .ref _ _ _ _,H=> .refl _
 | .ptr _ _ _ _,H=> .refl _
 | .fe _ _,H=> .refl _
 | .fn _ _,H=> .refl _
 | .cB _,H=> .refl _
 | .eb,H=> .refl _
theorem oj: ∀(ys:List AV) (H:J),QG H (aM ys H).2
 |[],H=> .refl _
 |y::ys,H=>by simp only [aM];exact (rv y H).trans (oj ys _)
end
section ops
variable {P:Program} {E:aK} (hE: ∀t ti,E t=some ti→aU P t ti)
variable {w:World} {G:J} {φ :ag} {A:aj}
theorem B1 {b:Builtin} {tys:Array TypeId} {args:List AV} {H H' :J} {z:AV} (hq:fW b args=true) (h:cS E b tys args H=some (z,H')):QG H H' :=by
 have B2: ∀{te:TI} {s x:AV},s= .nil∨s= .e0→ec te s x H=some (z,H')→QG H H' :=by
  intro te s x hs h;refine .of ?_;rcases hs with rfl|rfl;all_goals
   simp only [ec] at h;repeat' split at h
   all_goals first
    |(simp at h;done)
    |(simp only [Option.some.injEq,Prod.mk.injEq] at h;first|exact .inl h.2.symm|exact .inr ⟨_,_,_,h.2.symm⟩)
 unfold cS at h;split at h
 ·repeat' split at h
  all_goals first
   |(simp at h;done)
   |(simp only [Option.some.injEq,Prod.mk.injEq] at h;rw [←h.2];exact .refl _)
 ·rename_i s x;have hs:s= .nil∨s= .e0:=by
   cases s<;>first|exact .inl rfl|exact .inr rfl|(simp [fW] at hq)
  split at h
  ·split at h
   ·split at h
    ·split at h
     ·unfold lR at h;refine .of ?_;repeat' split at h
      all_goals first
       |(simp at h;done)
       |(simp only [Option.some.injEq,Prod.mk.injEq] at h;first|exact .inl h.2.symm|exact .inr ⟨_,_,_,h.2.symm⟩)
     ·simp at h
    ·exact B2 hs h
   ·simp at h
  ·simp at h
 ·simp [fW] at hq
 ·simp [fW] at hq
 ·split at h
  ·simp only [Option.some.injEq,Prod.mk.injEq] at h;rw [←h.2];exact .refl _
  ·simp at h
 ·split at h
  ·simp only [Option.some.injEq,Prod.mk.injEq] at h;rw [←h.2];exact .refl _
  ·simp at h
 ·split at h
  ·split at h
   ·simp only [Option.some.injEq,Prod.mk.injEq] at h;rw [←h.2];exact .refl _
   ·simp at h
  ·simp at h
 ·simp at h
include hE in
theorem B3 (ae:St w G φ A) {H H' :J} (hX:bg H G) (uT:bg H' G) (bB:H.bs.length<H'.bs.length→ φ H.bs.length=none) {b:Builtin} {tys:Array TypeId} {ty:TypeId} {consts:Array Bool} {args:List AV} {vs:Array Value} {z:AV} (hq:fW b args=true) (hl:args.length=vs.size)
 (aW: ∀(i:Nat) (a:AV) (u:Value),args[i]? =some a→vs[i]? =some u→R w G φ A a u) (h:cS E b tys args H=some (z,H')):
 bn w G φ A H H' ((builtin b tys ty consts vs).run P w) z:=by
 unfold cS at h;split at h
 ·rename_i x;obtain ⟨a,rfl⟩: ∃a,vs= #[a]:=by
   have h1:vs.size=1:=hl.symm;exact ⟨vs[0],by apply Array.ext;simp [h1];intro i h1 h2;simp at h2;subst h2;rfl⟩
  have hx:=aW 0 x a rfl rfl;split at h
  ·rename_i ti n ht hn;obtain ⟨t,h0,ht⟩:=Option.bind_eq_some_iff.1 ht;have key: ∀{q:AV×J},some q=some (z,H')→q=(AV.int .i64 n,H)→((∃e,ti.aw= .sl e∧ ∀s,x≠ .str s)∨(ti.aw= .str∧ ∃s,x= .str s))→bn w G φ A H H' ((builtin .len tys ty consts #[a]).run P w) z:=by
    intro q hq qi hu;subst qi;simp only [Option.some.injEq,Prod.mk.injEq] at hq;obtain ⟨rfl,rfl⟩:=hq;have:=tC (tys:=tys) (ty:=ty) hE h0 hx hX hn ht hu;exact bn.val ae (by simp [builtin,this]) (.fr _ _ (.int _ _))
   split at h
   ·rename_i s hu;exact key h rfl (.inr ⟨hu,s,rfl⟩)
   ·simp at h
   ·rename_i e hu aI;exact key h rfl (.inl ⟨e,hu,fun s hs=>aI s hs⟩)
   ·simp at h
  ·simp at h
 ·rename_i s x;obtain ⟨a,b,rfl⟩: ∃a b,vs= #[a,b]:=by
   have h1:vs.size=2:=hl.symm;exact ⟨vs[0],vs[1],by apply Array.ext;simp [h1];intro i h1 h2;simp at h2;rcases i with _|_|i;rfl;rfl;omega⟩
  have hs:=aW 0 s a rfl rfl;have hx:=aW 1 x b rfl rfl;have e9:s= .nil∨s= .e0:=by
   cases s<;>first|exact .inl rfl|exact .inr rfl|(simp [fW] at hq)
  split at h
  ·rename_i t h0;split at h
   ·rename_i te tx bz cV;obtain ⟨t2,h1,cV⟩:=Option.bind_eq_some_iff.1 cV;split at h
    ·rename_i k hit;split at h
     ·exact tc hE ae uT bB h0 h1 bz cV hit hs hx h
     ·simp at h
    ·rename_i aI;exact p8 hE ae hX uT bB h0 h1 bz cV (fun k hk=>aI k hk) hs hx e9 h
   ·simp at h
  ·simp at h
 ·simp [fW] at hq
 ·simp [fW] at hq
 ·split at h
  ·rename_i v hv;simp only [Option.some.injEq,Prod.mk.injEq] at h;obtain ⟨rfl,rfl⟩:=h;cases args with
   |nil=>simp [kT] at hv
   |cons x rest=>
    obtain ⟨a,us,ea⟩: ∃a us,vs.toList=a::us:=by
     cases cQ:vs.toList with
     |nil=>have:=congrArg List.length cQ;simp at this;simp [this] at hl
     |cons a us=>exact ⟨a,us,rfl⟩
    have hlen:rest.length=us.length:=by have:=congrArg List.length ea;simp at this;simp at hl;omega
    have bp: ∀(i:Nat) (u:Value),(a::us)[i]? =some u→vs[i]? =some u:=fun i u hu=>by rw [←ea] at hu;simpa using hu
    obtain ⟨u,hu,hz⟩:=mm (P:=P) (op:=Builtin.min2) (f:=fun a b=>match a,b with| .int k x,.int _ y=>some (.int k (if y<x then y else x))|_,_=>none) (fun a b x y z ha hb hf=>by
     split at hf
     ·have e1:=ha.ct;have e2:=hb.ct;subst e1;subst e2;simp only [Option.some.injEq] at hf;subst hf;exact ⟨_,by simp [Builtin.min2],.fr _ _ (.int _ _)⟩
     ·simp at hf) rest us x a v hlen (fun i p q hp hq=>aW (i+1) p q hp (bp (i+1) q hq)) (aW 0 x a rfl (bp 0 a rfl)) hv
    exact bn.val ae (by simp [builtin,Builtin.min_,ea,hu]) hz
  ·simp at h
 ·split at h
  ·rename_i v hv;simp only [Option.some.injEq,Prod.mk.injEq] at h;obtain ⟨rfl,rfl⟩:=h;cases args with
   |nil=>simp [kU] at hv
   |cons x rest=>
    obtain ⟨a,us,ea⟩: ∃a us,vs.toList=a::us:=by
     cases cQ:vs.toList with
     |nil=>have:=congrArg List.length cQ;simp at this;simp [this] at hl
     |cons a us=>exact ⟨a,us,rfl⟩
    have hlen:rest.length=us.length:=by have:=congrArg List.length ea;simp at this;simp at hl;omega
    have bp: ∀(i:Nat) (u:Value),(a::us)[i]? =some u→vs[i]? =some u:=fun i u hu=>by rw [←ea] at hu;simpa using hu
    obtain ⟨u,hu,hz⟩:=mm (P:=P) (op:=Builtin.max2) (f:=fun a b=>match a,b with| .int k x,.int _ y=>some (.int k (if y>x then y else x))|_,_=>none) (fun a b x y z ha hb hf=>by
     split at hf
     ·have e1:=ha.ct;have e2:=hb.ct;subst e1;subst e2;simp only [Option.some.injEq] at hf;subst hf;exact ⟨_,by simp [Builtin.max2],.fr _ _ (.int _ _)⟩
     ·simp at hf) rest us x a v hlen (fun i p q hp hq=>aW (i+1) p q hp (bp (i+1) q hq)) (aW 0 x a rfl (bp 0 a rfl)) hv
    exact bn.val ae (by simp [builtin,Builtin.max_,ea,hu]) hz
  ·simp at h
 ·obtain ⟨a,rfl⟩: ∃a,vs= #[a]:=by
   have h1:vs.size=1:=hl.symm;exact ⟨vs[0],by apply Array.ext;simp [h1];intro i h1 h2;simp at h2;subst h2;rfl⟩
  have hx:=(aW 0 .nil a rfl rfl).du;subst hx;split at h
  ·rename_i ti ht;obtain ⟨t,h0,ht⟩:=Option.bind_eq_some_iff.1 ht;split at h
   ·rename_i e hu;simp only [Option.some.injEq,Prod.mk.injEq] at h;obtain ⟨rfl,rfl⟩:=h;have hc:(Builtin.cap_ tys ty #[.slice none 0 0]).run P w= .ok (.int .i64 0) w:=by
     unfold Builtin.cap_;simp only [h0,List.getElem?_toArray,List.getElem?_cons_zero,Sem.run_bind,(hE _ _ ht).sl w hu,Result.andThen_ok];rfl
    exact bn.val ae (by simp [builtin,hc]) (.fr _ _ (.int _ _))
   ·simp at h
  ·simp at h
 ·simp at h
end ops
section step
variable {P:Program} {C:aJ} {X:bK} {w:World} {G:J} {φ :ag} {A:aj}
theorem bn.upon {H H' :J} {r:Result Next} {x:AV} (h:bn w G φ A H H' r x) {o:Oper} {a:Act} {next:Act→World→Prop} {Q:Exit→Act→World→Prop}
 (hn: ∀v w' ak A',Out w G φ A w' G ak A' →R w' G ak A' x v→(∀id loc,ak id=some loc→ φ id=some loc∨(H.bs.length≤id∧id<H'.bs.length))→next (a.put o.dst v) w'):o.upon P a next Q r:=by
 obtain ⟨n,v,w',ak,A',rfl,hv,hr,ho,hi⟩:=h;rcases hv with rfl|⟨rfl,rfl⟩
 ·exact hn v w' ak A' ho hr hi
 ·exact hn _ w' ak A' ho hr hi
theorem lz (hE: ∀t ti,C.E t=some ti→aU P t ti) (hX: ∀f ys H K,X f ys H K→b_ P f ys H K) (ae:St w G φ A) {o:Oper} {s:ah} {a:Act} (hs: ∀x∈o.op.operands,R w G φ A (ev s x) (a.eval x)) {th:Bool} {H H' :J} {x:AV} (hg:bg H G) (hh:GH G φ H H')
 (h:wpOp X C true th o s H (fun v1 H1=>v1=x∧H1=H')) {next:Act→World→Prop} {Q:Exit→Act→World→Prop}
 (hn: ∀v w' ak A',Out w G φ A w' G ak A' →R w' G ak A' x v→(∀id loc,ak id=some loc→ φ id=some loc∨(H.bs.length≤id∧id<H'.bs.length))→next (a.put o.dst v) w'):o.wp P a w next Q:=by
 have bB:H.bs.length<H'.bs.length→ φ H.bs.length=none:=fun az=>hh.none _ (Nat.le_refl _) az;have mz:et o.op=true→(match aQ C.E o.op s H with|some (v,H1)=>v=x∧H1=H' |none=>False)→o.wp P a w next Q:=by
  intro hq bZ;split at bZ
  ·rename_i v H1 he;obtain ⟨rfl,rfl⟩:=bZ;exact (tp hE ae hg hh.ext bB hq hs he).upon hn
  ·exact bZ.elim
 unfold wpOp at h;split at h
 ·rename_i b args tys bC;obtain ⟨hq,h⟩:=h;have hq:=hq rfl;split at h
  ·rename_i v H1 he;obtain ⟨rfl,rfl⟩:=h;obtain ⟨consts,cU⟩:=ug (P:=P) (w:=w) (ρ :=a.eval) bC;have:=B3 hE ae hg hh.ext bB (ty:=o.type) (consts:=consts) (vs:=args.map a.eval) hq (by simp) (fun i x u hx hu=>by
    simp only [List.getElem?_map,Option.map_eq_some_iff] at hx;obtain ⟨y,hy,rfl⟩:=hx;simp only [Array.getElem?_map,Option.map_eq_some_iff] at hu;obtain ⟨y',fg,rfl⟩:=hu;have:y' =y:=by simp at hy;rw [hy] at fg;simpa using fg.symm
    subst this;exact hs y' (by rw [bC];simp only [Op.operands,Call.operands];simp [Array.mem_of_getElem? fg])) he
   rw [←cU] at this;exact this.upon hn
  ·exact h.elim
 ·rename_i y args tys bC;split at h
  ·rename_i g bP cu;simp only [if_true] at h;have hx:=hs y (by rw [bC];simp [Op.operands,Call.operands])
   rw [cu] at hx;obtain ⟨vs,hv,hl,hp⟩:=hx.lX;have hc:=BZ hX ae hg hh (us:=args.map a.eval ++ vs) (by simp [hl]) (fun i y u hy hu=>by
    rcases Nat.lt_or_ge i args.size with hi|hi
    ·rw [List.getElem?_append_left (by simpa using hi)] at hy
     rw [Array.getElem?_append_left (by simpa using hi)] at hu
     simp only [List.getElem?_map,Option.map_eq_some_iff] at hy;obtain ⟨z,hz,rfl⟩:=hy;simp only [Array.getElem?_map,Option.map_eq_some_iff] at hu;obtain ⟨z',eC,rfl⟩:=hu;have:z' =z:=by simp at hz;rw [hz] at eC;simpa using eC.symm
     subst this;exact hs z' (by rw [bC];simp only [Op.operands,Call.operands];simp [Array.mem_of_getElem? eC])
    ·rw [List.getElem?_append_right (by simpa using hi)] at hy
     rw [Array.getElem?_append_right (by simpa using hi)] at hu
     exact hp _ y u (by simpa using hy) (by simpa using hu)) h
   unfold Oper.wp;rw [uf bC hv hc.1,Oper.upon_enter];refine hc.2.mono fun e w' he=> ?_
   cases e with
   |returned v' =>
    obtain ⟨ak,A',h1,h2,h3⟩:=he;exact hn v' w' ak A' h1 h2 h3
   |panicked c=>exact he.elim
   |outgrown=>exact he.elim
  ·exact h.elim
 ·exact mz (h.1 rfl) h.2
theorem B4 {o:Oper} {s:ah} {th:Bool} {H H' :J} {x:AV} (h:wpOp X C true th o s H (fun v1 H1=>v1=x∧H1=H')):QG H H' :=by
 have mz:et o.op=true→(match aQ C.E o.op s H with|some (v,H1)=>v=x∧H1=H' |none=>False)→QG H H' :=by
  intro hq bZ;split at bZ
  ·rename_i v H1 he;obtain ⟨rfl,rfl⟩:=bZ;exact .of (tD hq he)
  ·exact bZ.elim
 unfold wpOp at h;split at h
 ·obtain ⟨hq,h⟩:=h;split at h
  ·rename_i v H1 he;obtain ⟨rfl,rfl⟩:=h;exact B1 (hq rfl) he
  ·exact h.elim
 ·split at h
  ·rename_i g bP cu;simp only [if_true] at h;unfold dU at h;split at h
   ·exact h.elim
   obtain ⟨y,_,_,hp⟩:=h;split at hp
   ·obtain ⟨_,rfl⟩:=hp;exact rv _ _
   ·obtain ⟨_,rfl⟩:=hp;exact .refl _
  ·exact h.elim
 ·exact mz (h.1 rfl) h.2
end step
end Go.VS
namespace Go.VS
section tr
variable {C:aJ} {X:bK}
theorem mG (dM:Exact X) {q th:Bool} {o:Oper} {s:ah} {H:J} {K:AV→J→Prop} (h:wpOp X C q th o s H K): ∃v H',wpOp X C q th o s H (fun v1 H1=>v1=v∧H1=H')∧K v H' :=by
 unfold wpOp at h⊢;split at h
 ·rename_i b args tys bC;obtain ⟨hq,h⟩:=h;split at h
  ·rename_i v H' he
   refine ⟨v,H',?_,h⟩;first
    |exact ⟨hq,rfl,rfl⟩
    |(simp only [bC];exact ⟨hq,trivial,trivial⟩)
    |(simp only [bC,he];exact ⟨hq,trivial,trivial⟩)
  ·exact h.elim
 ·rename_i x args tys bC;split at h
  ·rename_i g bP hg;have hQ:dU X C g (args.toList.map (ev s) ++ bP) th H K→ ∃v H',dU X C g (args.toList.map (ev s) ++ bP) th H (fun v1 H1=>v1=v∧H1=H')∧K v H' :=by
    intro h;unfold dU at h⊢;split at h
    ·exact h.elim
    rename_i ys b6 hy;obtain ⟨y,h1,h2,h3⟩:=h;split at h3
    ·rename_i ht;refine ⟨_,_,⟨y,h1,h2,?_⟩,h3⟩;simp only [ht,if_true];exact ⟨trivial,trivial⟩
    ·rename_i ht;refine ⟨_,_,⟨y,h1,h2,?_⟩,h3⟩;simp only [ht];exact ⟨trivial,trivial⟩
   have key: ∃v H',(if q then dU X C g (args.toList.map (ev s) ++ bP) th H (fun v1 H1=>v1=v∧H1=H') else X g (args.toList.map (ev s) ++ bP) H (fun v1 H1=>v1=v∧H1=H')∨dU X C g (args.toList.map (ev s) ++ bP) th H (fun v1 H1=>v1=v∧H1=H'))∧K v H' :=by
    cases q with
    |false=>
     simp only [Bool.false_eq_true,if_false] at h⊢;rcases h with h|h
     ·obtain ⟨v,H',h1,h2⟩:=dM _ _ _ _ h;exact ⟨v,H',.inl h1,h2⟩
     ·obtain ⟨v,H',h1,h2⟩:=hQ h;exact ⟨v,H',.inr h1,h2⟩
    |true=>
     simp only [if_true] at h⊢;exact hQ h
   obtain ⟨v,H',k1,k2⟩:=key;refine ⟨v,H',?_,k2⟩;first
    |exact k1
    |(simp only [bC,hg];exact k1)
  ·exact h.elim
 ·rename_i op nA Eh;obtain ⟨hq,h⟩:=h;split at h
  ·rename_i v H' he
   refine ⟨v,H',?_,h⟩;exact ⟨hq,rfl,rfl⟩
  ·exact h.elim
theorem ol (C:aJ) (ops:Array Oper) (s:ah) (H:J) (K:Prop): ∀(l:List Nat),fX C ops s H K l→(∀j∈l,kX C ops s H j)∧K
 |[],h=>⟨by simp,h⟩
 |j::js,h=>by
  obtain ⟨h1,h2⟩:=h;obtain ⟨k1,k2⟩:=ol C ops s H K js h2;refine ⟨fun i hi=> ?_,k2⟩;rcases List.mem_cons.1 hi with rfl|hi
  ·exact h1
  ·exact k1 i hi
structure Tr (X:bK) (C:aJ) (ops:Array Oper) (q:Nat→Bool) (late:Nat→List Nat) (th:List Nat) (K:ah→J→Prop) (l:List Oper) (k:Nat) (s:Nat→ah) (H:Nat→J) (v:Nat→AV) (act:Nat→Bool):Prop where
 step: ∀i o,l[i]? =some o→s (i+1)=bw (s i) o.dst (v i)∧dV ops o (s i)=some (act i)∧(act i=true→wpOp X C (q (k+i)) (th.contains (k+i)) o (s i) (H i) (fun v1 H1=>v1=v i∧H1=H (i+1)))∧
  (act i=false→v i= .aD []∧H (i+1)=H i)∧ ∀j∈late (k+i),kX C ops (s (i+1)) (H (i+1)) j
 fin:K (s l.length) (H l.length)
theorem uU (dM:Exact X) {ops:Array Oper} {q:Nat→Bool} {late:Nat→List Nat} {th:List Nat} {K:ah→J→Prop}: ∀(l:List Oper) (k:Nat) (s0:ah) (H0:J),dt X C ops q late th K l k s0 H0→
 ∃s H v act,s 0=s0∧H 0=H0∧Tr X C ops q late th K l k s H v act
 |[],k,s0,H0,h=>⟨fun _=>s0,fun _=>H0,fun _=> .undef,fun _=>true,rfl,rfl,⟨by simp,h⟩⟩
 |o::l,k,s0,H0,h=>by
  have key: ∃v0 H1 a0,dV ops o s0=some a0∧(a0=true→wpOp X C (q k) (th.contains k) o s0 H0 (fun v1 H' =>v1=v0∧H' =H1))∧(a0=false→v0= .aD []∧H1=H0)∧(∀j∈late k,kX C ops (bw s0 o.dst v0) H1 j)∧
   dt X C ops q late th K l (k+1) (bw s0 o.dst v0) H1:=by
   simp only [dt] at h;cases hg:o.guard with
   |none=>
    rw [hg] at h;obtain ⟨v,H',h1,h2⟩:=mG dM h;obtain ⟨k1,k2⟩:=ol _ _ _ _ _ _ h2;exact ⟨v,H',true,by simp [dV,hg],fun _=>h1,fun h=>by simp at h,k1,k2⟩
   |some p=>
    rw [hg] at h;obtain ⟨v,H',h1,h2⟩:=h;obtain ⟨k1,k2⟩:=ol _ _ _ _ _ _ h2;split at h1
    ·rename_i b hb;cases b with
     |true=>exact ⟨v,H',true,hb,fun _=>by simpa using h1,fun h=>by simp at h,k1,k2⟩
     |false=>exact ⟨v,H',false,hb,fun h=>by simp at h,fun _=>by simpa using h1,k1,k2⟩
    ·exact h1.elim
  obtain ⟨v0,H1,a0,g1,g2,g3,g4,g5⟩:=key;obtain ⟨s,H,v,act,e1,e2,t⟩:=uU dM l (k+1) _ _ g5;refine ⟨fun i=>match i with|0=>s0|i+1=>s i,fun i=>match i with|0=>H0|i+1=>H i,fun i=>match i with|0=>v0|i+1=>v i,fun i=>match i with|0=>a0|i+1=>act i,rfl,rfl,⟨fun i o' hi=> ?_,t.fin⟩⟩
  cases i with
  |zero=>
   simp only [List.getElem?_cons_zero,Option.some.injEq] at hi;subst hi;simp only [Nat.add_zero,e1,e2];exact ⟨trivial,g1,g2,g3,g4⟩
  |succ i=>
   have:=t.step i o' (by simpa using hi)
   rw [show k+1+i=k+(i+1) by omega] at this
   exact this
end tr
theorem uV (bs:Edge→Bool) (acc:List Nat) (j:Nat): ∀(l:List Edge) (m0:Nat),(l.foldl (fun m e=>if bs e then m|||2^e.on|||acc.getD e.on 0 else m) m0).testBit j=true→m0.testBit j=true∨ ∃e∈l,bs e=true∧(e.on=j∨(acc.getD e.on 0).testBit j=true)
 |[],m0,h=> .inl h
 |e::l,m0,h=>by
  simp only [List.foldl_cons] at h;rcases uV bs acc j l _ h with h|⟨e',h1,h2⟩
  ·split at h
   ·rename_i hb;simp only [Nat.testBit_or,Nat.testBit_two_pow,Bool.or_eq_true,decide_eq_true_eq] at h;rcases h with (h|h)|h
    ·exact .inl h
    ·exact .inr ⟨e,by simp,hb,.inl h⟩
    ·exact .inr ⟨e,by simp,hb,.inr h⟩
   ·exact .inl h
  ·exact .inr ⟨e',by simp [h1],h2⟩
theorem uW: ∀(os:List Oper) (acc:List Nat),(ia os acc).length=acc.length+os.length∧(∀i,i<acc.length→(ia os acc).getD i 0=acc.getD i 0)∧
 ∀i o,os[i]? =some o→ ∀j,((ia os acc).getD (acc.length+i) 0).testBit j=true→ ∃e∈o.after.toList,Region.binds .any e=true∧(e.on=j∨(e.on<acc.length+i∧((ia os acc).getD e.on 0).testBit j=true))
 |[],acc=>⟨by simp [ia],by simp [ia],by simp⟩
 |o::os,acc=>by
  obtain ⟨h1,h2,h3⟩:=uW os (acc ++ [o.after.toList.foldl (fun m e=>if Region.binds .any e then m|||2^e.on|||acc.getD e.on 0 else m) 0]);simp only [ia];have hold: ∀i,i<acc.length→(ia os (acc ++ [o.after.toList.foldl (fun m e=>if Region.binds .any e then m|||2^e.on|||acc.getD e.on 0 else m) 0])).getD i 0=acc.getD i 0:=by
   intro i hi;rw [h2 i (by simp;omega)]
   simp [List.getD,List.getElem?_append_left hi]
  refine ⟨by rw [h1];simp;omega,hold,fun i o' ho j hj=> ?_⟩
  cases i with
  |zero=>
   simp only [List.getElem?_cons_zero,Option.some.injEq] at ho;subst ho;rw [Nat.add_zero,h2 _ (by simp)] at hj
   simp only [List.getD,List.getElem?_append_right (Nat.le_refl _),Nat.sub_self,List.getElem?_cons_zero,Option.getD_some] at hj;rcases uV (Region.binds .any) acc j _ _ hj with h|⟨e,q1,q2,q3⟩
   ·simp at h
   ·refine ⟨e,q1,q2,?_⟩;rcases q3 with q3|q3
    ·exact .inl q3
    ·have az:e.on<acc.length:=by
      rcases Nat.lt_or_ge e.on acc.length with h|h
      ·exact h
      ·rw [List.getD,List.getElem?_eq_none h] at q3;simp at q3
     exact .inr ⟨by omega,by rw [hold _ az];exact q3⟩
  |succ i=>
   simp only [List.length_append,List.length_singleton] at h3;have:=h3 i o' (by simpa using ho) j (by rw [show acc.length+1+i=acc.length+(i+1) by omega];exact hj)
   obtain ⟨e,q1,q2,q3⟩:=this;refine ⟨e,q1,q2,?_⟩;rcases q3 with q3|⟨q3,q4⟩
   ·exact .inl q3
   ·exact .inr ⟨by omega,q4⟩
def uX (ops:Array Oper) (L:Nat→Prop):Prop:= ∀i o,ops[i]? =some o→L i→ ∀e∈o.after,Region.binds .any e=true→L e.on
theorem om {ops:Array Oper} {L:Nat→Prop} (hs:uX ops L) (az: ∀i o,ops[i]? =some o→ ∀e∈o.after,Region.binds .any e=true→e.on<i):
 ∀(i:Nat) (o:Oper),ops[i]? =some o→(∀e∈o.after,Region.binds .any e=true→L e.on)→ ∀j,((fY ops.toList).getD i 0).testBit j=true→L j:=by
 intro i;induction i using Nat.strongRecOn with
 |_ i ih=>
  intro o ho ha j hj;have:=(uW ops.toList []).2.2 i o (by simpa using ho) j (by simpa [fY] using hj)
  obtain ⟨e,q1,q2,q3⟩:=this;have uY:=ha e (by simpa using q1) q2
  rcases q3 with rfl|⟨_,q4⟩
  ·exact uY
  ·have B5:=az i o ho e (by simpa using q1) q2
   have hi:i<ops.size:=(Array.getElem?_eq_some_iff.1 ho).1;have uZ:=Array.getElem?_eq_getElem (xs:=ops) (show e.on<ops.size by omega)
   exact ih e.on B5 _ uZ (hs e.on _ uZ uY) j q4
end Go.VS
namespace Go.VS
structure je (ops:Array Oper) (aG:List Nat):Prop where
 back: ∀(i:Nat) (o:Oper),ops[i]? =some o→ ∀e∈o.after,Region.binds .any e=true→e.on<i
 iB: ∀(i j:Nat) (o p:Oper) (d:Tmp),i≠j→ops[i]? =some o→ops[j]? =some p→p.dst=some d→o.dst≠some d
 ord: ∀(i j:Nat) (o p:Oper) (d:Tmp),i≠j→ops[i]? =some o→ops[j]? =some p→p.dst=some d→d∈Oper.looksAt ops o→((fY ops.toList).getD (max i j) 0).testBit (min i j)=true
 after: ∀(i j:Nat) (o p:Oper),ops[i]? =some o→ops[j]? =some p→i∈aG→i<j→((fY ops.toList).getD j 0).testBit i=true∨(j∉aG∧p.guard=none∧j8 p.op=true∧ ∃d,p.dst=some d)
 late: ∀(i j:Nat) (o p:Oper),ops[i]? =some o→ops[j]? =some p→i∈aG→j<i→((fY ops.toList).getD i 0).testBit j=false→j∉aG∧p.guard=none∧iN p.op=true∧(∃d,p.dst=some d)∧
  ∀(k:Nat) (r:Oper) (d:Tmp),ops[k]? =some r→r.dst=some d→j≤k→d∉Oper.looksAt ops p
theorem B6 {ops:Array Oper} {aG:List Nat} (h:jv ops aG=true):je ops aG:=by
 have lt: ∀{i:Nat} {o:Oper},ops[i]? =some o→i<ops.toList.length:=fun h=>by have:=(Array.getElem?_eq_some_iff.1 h).1;simpa using this
 have tl: ∀{i:Nat} {o:Oper},ops[i]? =some o→ops.toList[i]? =some o:=fun h=>by simpa using h
 have one: ∀(i:Nat) (o:Oper),ops[i]? =some o→(∀e∈o.after,Region.binds .any e=true→e.on<i)∧ ∀(j:Nat) (p:Oper),ops[j]? =some p→i≠j→
  (∀d,p.dst=some d→o.dst≠some d∧(d∈Oper.looksAt ops o→((fY ops.toList).getD (max i j) 0).testBit (min i j)=true))∧
  (i∈aG→i<j→((fY ops.toList).getD j 0).testBit i=true∨(j∉aG∧p.guard=none∧j8 p.op=true∧ ∃d,p.dst=some d))∧
  (i∈aG→j<i→((fY ops.toList).getD i 0).testBit j=false→j∉aG∧p.guard=none∧iN p.op=true∧(∃d,p.dst=some d)∧ ∀(k:Nat) (r:Oper) (d:Tmp),ops[k]? =some r→r.dst=some d→j≤k→d∉Oper.looksAt ops p):=by
  intro i o ho;simp only [jv,List.all_eq_true,List.mem_range] at h;have hi:=h i (lt ho);rw [tl ho] at hi;simp only [Bool.and_eq_true,Array.all_eq_true_iff_forall_mem,List.all_eq_true,List.mem_range,Bool.or_eq_true,Bool.not_eq_true',decide_eq_true_eq] at hi;obtain ⟨ha,hb⟩:=hi;refine ⟨fun e he ry=>(ha e he).resolve_left (by simp [ry]),fun j p hp ku=> ?_⟩
  have hj:=hb j (lt hp);rw [tl hp] at hj;simp only [Bool.or_eq_true,beq_iff_eq,Bool.and_eq_true,Bool.not_eq_true'] at hj;rcases hj with hj|⟨⟨dN,gi⟩,lA⟩
  ·exact absurd hj ku
  refine ⟨fun d hd=> ?_,fun hl az=> ?_,fun hl az ry=> ?_⟩
  ·rw [hd] at dN;simp only [Bool.and_eq_true,bne_iff_ne,ne_eq,Bool.or_eq_true,Bool.not_eq_true'] at dN;exact ⟨dN.1,fun hm=>dN.2.resolve_left (by simp [hm])⟩
  ·rcases gi with (gi|gi)|⟨⟨⟨q1,q2⟩,q3⟩,q4⟩
   ·simp [hl,az] at gi
   ·exact .inl gi
   ·exact .inr ⟨by simpa using q1,by simpa using q2,q3,Option.isSome_iff_exists.1 q4⟩
  ·rcases lA with (lA|lA)|⟨⟨⟨⟨q1,q2⟩,q3⟩,q4⟩,q5⟩
   ·simp [hl,az] at lA
   ·rw [ry] at lA;simp at lA
   ·refine ⟨by simpa using q1,by simpa using q2,q3,Option.isSome_iff_exists.1 q4,fun k r d hk hr B7 hm=> ?_⟩
    simp only [List.all_eq_true,List.mem_range] at q5;have:=q5 k (lt hk);rw [tl hk] at this;simp only [hr] at this;simp [B7,hm] at this
 exact ⟨fun i o ho=>(one i o ho).1,fun i j o p d ku ho hp hd=>(((one i o ho).2 j p hp ku).1 d hd).1,fun i j o p d ku ho hp hd=>(((one i o ho).2 j p hp ku).1 d hd).2,
  fun i j o p ho hp hl az=>((one i o ho).2 j p hp (by omega)).2.1 hl az,fun i j o p ho hp hl az=>((one i o ho).2 j p hp (by omega)).2.2 hl az⟩
theorem rz (aG:List Nat) (n:Nat): ∀(m b:Nat),m=n-b→b≤n→ ∃c,b≤c∧c≤n∧(c=n∨c∈aG)∧ ∀i,b≤i→i<c→i∉aG
 |0,b,hm,hb=>⟨b,Nat.le_refl _,hb,.inl (by omega),fun i h1 h2=>by omega⟩
 |m+1,b,hm,hb=>by
  by_cases h:b∈aG
  ·exact ⟨b,Nat.le_refl _,hb,.inr h,fun i h1 h2=>by omega⟩
  ·obtain ⟨c,h1,h2,h3,h4⟩:=rz aG n m (b+1) (by omega) (by omega)
   refine ⟨c,by omega,h2,h3,fun i k1 k2=> ?_⟩
   by_cases hi:i=b
   ·subst hi;exact h
   ·exact h4 i (by omega) k2
section draw
variable {P:Program} {C:aJ} {X:bK} {ops:Array Oper} {aG:List Nat} {th:List Nat} {K:ah→J→Prop} {s:Nat→ah} {H:Nat→J} {v:Nat→AV} {act:Nat→Bool}
abbrev jK (X:bK) (C:aJ) (ops:Array Oper) (aG:List Nat) (th:List Nat) (K:ah→J→Prop) (s:Nat→ah) (H:Nat→J) (v:Nat→AV) (act:Nat→Bool):Prop:=
 Tr X C ops (fun i=> !aG.contains i) (gF ops aG) th K ops.toList 0 s H v act
theorem jf (t:jK X C ops aG th K s H v act): ∀(m i:Nat),i+m≤ops.size→(∀k,i≤k→k<i+m→k∉aG)→QG (H i) (H (i+m))
 |0,i,_,_=> .refl _
 |m+1,i,hn,hl=>by
  have h1:=jf t m i (by omega) (fun k h1 h2=>hl k h1 (by omega))
  have ho:=Array.getElem?_eq_getElem (xs:=ops) (show i+m<ops.size by omega)
  obtain ⟨_,_,h3,h4,_⟩:=t.step (i+m) _ (by rw [Array.getElem?_toList];exact ho)
  refine h1.trans ?_;cases ha:act (i+m) with
  |true=>
   have:=h3 ha;have iC:(!aG.contains (0+(i+m)))=true:=by simp only [Nat.zero_add];simpa using hl (i+m) (by omega) (by omega)
   rw [iC] at this;exact B4 this
  |false=>have:=(h4 ha).2;rw [show i+(m+1)=i+m+1 by omega,this];exact .refl _
theorem oo (dk:je ops aG) (t:jK X C ops aG th K s H v act): ∀(i:Nat),i≤ops.size→(s i).length=(s 0).length∧ ∀x,x<(s 0).length→
 (∀k o,k<i→ops[k]? =some o→o.dst=some x→(s i).getD x .undef=v k)∧((∀k o,k<i→ops[k]? =some o→o.dst≠some x)→(s i).getD x .undef=(s 0).getD x .undef)
 |0,_=>⟨rfl,fun x hx=>⟨fun k o h=>by omega,fun _=>rfl⟩⟩
 |i+1,hi=>by
  obtain ⟨h1,h2⟩:=oo dk t i (by omega)
  have ho:=Array.getElem?_eq_getElem (xs:=ops) (show i<ops.size by omega)
  obtain ⟨hs,_⟩:=t.step i _ (by rw [Array.getElem?_toList];exact ho)
  have hlen:(s (i+1)).length=(s 0).length:=by
   rw [hs];unfold bw;split
   ·simpa using h1
   ·exact h1
  refine ⟨hlen,fun x hx=>⟨fun k o hk af hd=> ?_,fun eT=> ?_⟩⟩
  ·rw [hs];by_cases b4:k=i
   ·subst b4;rw [ho] at af;simp only [Option.some.injEq] at af;subst af;rw [hd];simp only [bw];rw [←h1] at hx;simp [List.getD,hx]
   ·have aI:=dk.iB i k _ o x (fun h=>b4 h.symm) ho af hd;have:=(h2 x hx).1 k o (by omega) af hd
    rw [←this];unfold bw;split
    ·rename_i d cf;have:d≠x:=fun h=>aI (by rw [cf,h])
     simp [List.getD,List.getElem?_set_ne this]
    ·rfl
  ·rw [hs];have aI:=eT i _ (Nat.lt_succ_self _) ho;rw [←(h2 x hx).2 (fun k o hk af=>eT k o (by omega) af)]
   unfold bw;split
   ·rename_i d cf;have:d≠x:=fun h=>aI (by rw [cf,h])
    simp [List.getD,List.getElem?_set_ne this]
   ·rfl
structure rA (C:aJ) (o:Op) (sz:Nat) (el:List AV) (x:Nat→Nat→AV) (u:Nat→Value):Prop where
 ev: ∀(X:bK) (q th:Bool) (o' :Oper) (s:ah) (H:J) (K:AV→J→Prop),o'.op=o→wpOp X C q th o' s H K→K (x H.bs.length H.st) (H.new sz false el)
 B8: ∀(i:Nat) (y:AV),el[i]? =some y→y.cells.length=sz
 rel: ∀(w:World) (G:J) (φ :ag) (A:aj) (id ad c:Nat),G.get id=some ⟨ad,sz,false,el⟩→ad<G.st→ φ id=some (.at_ c 0)→el.length*sz≤aR w c→R w G φ A (x id ad) (u c)
def oq (el:List AV) (sz:Nat) (arr:Array Value):Prop:=el.length*sz≤arr.size∧
 ∀(i:Nat) (x:AV) (j:Nat) (y:AV) (v:Value),el[i]? =some x→x.cells[j]? =some y→arr[i*sz+j]? =some v→(∀(w:World) (G:J) (φ :ag) (A:aj),R w G φ A y v)∧v.oneCell' =true
theorem B9 {P:Program} {C:aJ} (hE: ∀t ti,C.E t=some ti→aU P t ti) {X:bK} {q th:Bool} {o:Oper} {s:ah} {H:J} {K:AV→J→Prop} (he:j8 o.op=true) (h:wpOp X C q th o s H K):
 ∃sz el x u,rA C o.op sz el x u∧ ∀(a:Act) (w:World),∃arr T,(execOp a.eval o).run P w= .ok (.value (u w.heap.size)) (w.alloc (.cells arr T))∧oq el sz arr:=by
 obtain ⟨dst,op,ty,pos,after,guard⟩:=o;simp only at he⊢;cases op with
 |alloc tt=>
  unfold wpOp at h;simp only [aQ] at h;cases kr:C.E tt with
  |none=>rw [kr] at h;exact h.2.elim
  |some ti=>
   rw [kr] at h;cases hz:eL ti with
   |none=>simp only [hz] at h;exact h.2.elim
   |some z=>
    have cK:z.cells.length=ti.sz:=by
     obtain ⟨zv,e1,e2,e3,e4,_,e5⟩:=kb (hE _ _ kr) hz default;rw [e3,e4]
    refine ⟨ti.sz,[z],fun id ad=> .ptr id ad 0 0,fun c=> .pointer (some ⟨c,0,none⟩),⟨fun X q th o' s H K ho h=> ?_,fun i y hy=> ?_,fun w G φ A id ad c _ hv aV _=>pH hv aV⟩,fun a w=> ?_⟩
    ·obtain ⟨dst,op,ty,pos,after,guard⟩:=o';simp only at ho;subst ho;unfold wpOp at h;simp only [aQ,kr,hz] at h;exact h.2
    ·cases i with
     |zero=>simp at hy;subst hy;exact cK
     |succ i=>simp at hy
    ·obtain ⟨zv,e1,e2,e3,e4,_,e5⟩:=kb (hE _ _ kr) hz w;refine ⟨zv.cells,tt,?_,by simp [e2],fun i x j y v hx hy hv=> ?_⟩
     ·show ((do pure (.value (←Instr.alloc tt true (.tuple #[]))):Sem Next).run P w)=_
      simp [Instr.alloc,e1,newVar,newRow]
     ·cases i with
      |zero=>
       simp only [List.getElem?_cons_zero,Option.some.injEq,Nat.zero_mul,Nat.zero_add] at hx hv;subst hx;rw [e3] at hy;have hh:=fun (w:World) (A:aj)=>e5 w A j y v hy hv;exact ⟨fun w G φ A=> .fr _ _ (hh w A).1,(hh w (fun _=>False)).2⟩
      |succ i=>simp at hx
 |buildSlice t n ps=>
  simp only [j8,Bool.and_eq_true,bne_iff_ne,ne_eq,List.all_eq_true] at he;obtain ⟨hn,hc⟩:=he;have mD: ∀(s s' :ah),(ps.toList.map fun p=>(p.1,ev s p.2))=ps.toList.map fun p=>(p.1,ev s' p.2):=fun s s' =>List.map_congr_left fun p hp=>by
   have:=hc p hp;cases hq:p.2 with
   |const v=>rfl
   |tmp x=>rw [hq] at this;simp [lV] at this
   |global x=>rfl
   |func x=>rfl
  unfold wpOp at h;simp only [aQ,if_neg hn] at h;cases bz:cD C.E t with
  |none=>rw [bz] at h;exact h.2.elim
  |some te=>
   rw [bz] at h;obtain ⟨ti,e,ht,hu,cF⟩:=kd bz;cases hz:eL te with
   |none=>simp only [hz] at h;exact h.2.elim
   |some zA=>
    simp only [hz] at h;by_cases hcnd:n*te.sz≤1000000∧te.sz≠0
    ·rw [if_pos hcnd] at h;cases bG:jr te.sz (List.replicate n zA) (ps.toList.map fun p=>(p.1,ev s p.2)) with
     |none=>rw [bG] at h;exact h.2.elim
     |some el=>
      have parts: ∀(ρ :Operand→Value),(∀v,ρ (.const v)=v)→ ∀(w:World) (G:J) (φ :ag) (A:aj),∀p∈ps.toList,R w G φ A (ev s p.2) (ρ p.2):=fun ρ aW w G φ A p hp=>by
       have:=hc p hp;cases hq:p.2 with
       |const v=>rw [aW];exact .fr _ _ (FR.ofValue w A v)
       |tmp x=>rw [hq] at this;simp [lV] at this
       |global x=>rw [hq] at this;simp [lV] at this
       |func x=>rw [hq] at this;simp [lV] at this
      have fill: ∀(ρ :Operand→Value),(∀v,ρ (.const v)=v)→ ∀(w0:World),∃(zv:Value) (cj:Array Value),(zeroValue e).run P w0= .ok zv w0∧Instr.fill (fun i=>some (i*te.sz,te.sz)) ((Array.range (n*te.sz)).map (fun k=>zv.cells[k % zv.cells.size]!)) ((ps.map fun (i,x)=>(i,ρ x)).toList)=some cj∧cj.size=el.length*te.sz∧el.length=n∧
       (∀(i:Nat) (x:AV),el[i]? =some x→x.cells.length=te.sz)∧oq el te.sz cj:=fun ρ aW w0=>by
       obtain ⟨zv,z1,z2,z3,z4,_,z5⟩:=kb (hE _ _ cF) hz w0;have go: ∀(w:World) (G:J) (φ :ag) (A:aj),_:=fun w G φ A=>pU (w:=w) (G:=G) (φ := φ) (A:=A) hcnd.2 _ _ (List.replicate n zA) ((Array.range (n*te.sz)).map (fun k=>zv.cells[k % zv.cells.size]!)) _ (nx (_E:=C.E) (parts ρ aW w G φ A)).1 (nx (_E:=C.E) (parts ρ aW w G φ A)).2
        (by simp) (fun i x hx=>by
         simp only [List.getElem?_replicate] at hx;split at hx
         ·simp only [Option.some.injEq] at hx;subst hx;rw [z3,z4]
         ·simp at hx)
        (fun i x j y v hx hy hv=>by
         simp only [List.getElem?_replicate] at hx;split at hx
         ·rename_i hi;simp only [Option.some.injEq] at hx;subst hx;rw [z3] at hy;have hj:j<te.sz:=by rw [←z4];exact (List.getElem?_eq_some_iff.1 hy).1
          have:=z5 w A j y v hy (l9 z2 hi hj hv);exact ⟨.fr _ _ this.1,this.2⟩
         ·simp at hx) bG
       obtain ⟨cj,f1,f2,f3,f4,f5⟩:=go w0 ⟨0,[]⟩ (fun _=>none) (fun _=>False);refine ⟨zv,cj,z1,f1,f2,by rw [f3];simp,f4,by rw [f2];exact Nat.le_refl _,fun i x j y v hx hy hv=>⟨fun w G φ A=> ?_,(f5 i x j y v hx hy hv).2⟩⟩
       obtain ⟨Ei,g1,_,_,_,g5⟩:=go w G φ A;rw [f1] at g1;simp only [Option.some.injEq] at g1;subst g1;exact (g5 i x j y v hx hy hv).1
      obtain ⟨_,_,_,_,_,hlen,B_,_⟩:=fill (fun o=>match o with| .const v=>v|_=>undef) (fun _=>rfl) default
      refine ⟨te.sz,el,fun id ad=> .ref id ad 0 n,fun c=> .slice (some ⟨c,0,none⟩) n n,⟨fun X q th o' s' H K ho h=> ?_,B_,fun w G φ A id ad c hg hv aV hb=> ?_⟩,fun a w=> ?_⟩
      ·obtain ⟨dst,op,ty,pos,after,guard⟩:=o';simp only at ho;subst ho;unfold wpOp at h;simp only [aQ,if_neg hn,bz,hz,if_pos hcnd,mD s' s,bG] at h
       exact h.2
      ·exact ka hg hv aV (by simp [hlen]) (Nat.le_refl _) (by simp [hlen]) (by rw [←hlen];exact hb)
      ·obtain ⟨zv,cj,z1,f1,f2,_,_,mH⟩:=fill a.eval (fun _=>rfl) w;have jA:=(hE _ _ ht).sl w hu;have aI: ¬(n*te.sz=0):=by
        intro h0;rcases Nat.mul_eq_zero.1 h0 with h0|h0<;>omega
       have pW: ¬(n*te.sz>2^24):=by omega
       refine ⟨cj,e,?_,mH⟩;show ((do pure (.value (←Instr.buildSlice t n (ps.map fun (i,x)=>(i,a.eval x)))):Sem Next).run P w)=_
       simp only [Instr.buildSlice,Sem.run_bind,jA,Result.andThen_ok,(hE _ _ cF).sizeOf,pW,aI,if_false,z1,f1,Sem.run_pure,newRow,run_newObj,World.alloc_eq]
    ·rw [if_neg hcnd] at h;exact h.2.elim
 |_=>simp [j8] at he
structure ou (w0 w:World) (φ :ag) (A:aj) (el:List AV) (sz n:Nat):Prop where
 old:w0.heap.size≤n
 lt:n<w.heap.size
 av:A n
 ow: ¬Ow φ n
 here: ∃arr T fr,w.heap[n]? =some (.cells arr T fr)∧(∀j,j<arr.size+pad sz→ ¬(fr.1≤j∧j<fr.2))∧oq el sz arr
theorem ou.mono {w0 w w' :World} {G G' :J} {φ ak:ag} {A A' :aj} {el:List AV} {sz n:Nat} (h:ou w0 w φ A el sz n) (o:Out w G φ A w' G' ak A'):ou w0 w' ak A' el sz n:=by
 refine ⟨h.old,Nat.lt_of_lt_of_le h.lt o.post.size,o.keep n h.av h.ow,fun hw=> ?_,?_⟩
 ·rcases o.post.own n hw with k|k
  ·exact h.ow k
  ·have:=h.lt;omega
 ·rw [o.post.kept n h.lt h.ow];exact h.here
def kx (C:aJ) (ops:Array Oper) (aG:List Nat) (w0 w:World) (φ :ag) (A:aj) (a:Act) (j n:Nat):Prop:=
 j∉aG∧ ∃(o:Oper) (d:Tmp) (sz:Nat) (el:List AV) (x:Nat→Nat→AV) (uv:Nat→Value),ops[j]? =some o∧o.guard=none∧o.dst=some d∧rA C o.op sz el x uv∧ou w0 w φ A el sz n∧
  ∀u,a.tmps[d]? =some u→u=uv n
theorem kx.mono {C:aJ} {ops:Array Oper} {aG:List Nat} {w0 w w' :World} {G G' :J} {φ ak:ag} {A A' :aj} {a a' :Act} {j n:Nat} (h:kx C ops aG w0 w φ A a j n) (o:Out w G φ A w' G' ak A')
 (ht: ∀(r:Oper) (d:Tmp),ops[j]? =some r→r.dst=some d→a'.tmps[d]? =a.tmps[d]?):kx C ops aG w0 w' ak A' a' j n:=by
 obtain ⟨h0,r,d,sz,el,x,uv,h1,h2,h4,h5,h7,h8⟩:=h;exact ⟨h0,r,d,sz,el,x,uv,h1,h2,h4,h5,h7.mono o,fun u hu=>h8 u (by rw [←ht r d h1 h4];exact hu)⟩
structure Inv (C:aJ) (ops:Array Oper) (aG:List Nat) (s:Nat→ah) (H:Nat→J) (v:Nat→AV) (w0:World) (aE:ag) (A0:aj) (listed:Array Bool) (a:Act) (w:World) (b c:Nat) (φ :ag) (A:aj) (pn:Nat→Nat):Prop where
 size:listed.size=ops.size
 shut:uX ops (fun i=>listed.getD i false=true)
 bc:b≤c
 cn:c≤ops.size
 cl:c=ops.size∨c∈aG
 jg: ∀i,b≤i→i<c→i∉aG
 jL: ∀i,i∈aG→i<ops.size→(listed.getD i false=true↔i<b)
 base:b=0∨(b-1∈aG∧0<b)
 out:Out w0 (H 0) aE A0 w (H c) φ A
 none: ∀i,b≤i→i<c→listed.getD i false=false→ ∀id,(H i).bs.length≤id→id<(H (i+1)).bs.length→ φ id=none
 fA:a.defers=[]
 len:(s 0).length=a.tmps.size
 wr: ∀(k:Nat) (o:Oper) (d:Tmp) (u:Value),ops[k]? =some o→o.dst=some d→listed.getD k false=true→k<c→a.tmps[d]? =some u→R w (H c) φ A (v k) u
 early: ∀(k:Nat),c≤k→listed.getD k false=true→kx C ops aG w0 w φ A a k (pn k)
 ov: ∀(j k:Nat),c≤j→c≤k→listed.getD j false=true→listed.getD k false=true→pn j=pn k→j=k
 un: ∀(x:Tmp) (u:Value),(∀(k:Nat) (o:Oper),ops[k]? =some o→o.dst=some x→listed.getD k false=false)→a.tmps[x]? =some u→R w (H c) φ A ((s 0).getD x .undef) u
theorem oz {listed:Array Bool} {i:Nat} (hi:i<listed.size) (k:Nat):(listed.setIfInBounds i true).getD k false=true↔(k=i∨listed.getD k false=true):=by
 by_cases hk:k=i
 ·subst hk;simp [hi]
 ·rw [getD_set_ne false (fun h=>hk h.symm)];simp [hk]
variable {w0:World} {aE:ag} {A0:aj} {listed:Array Bool} {a:Act} {w:World} {b c:Nat} {φ :ag} {A:aj} {pn:Nat→Nat}
theorem Inv.look (inv:Inv C ops aG s H v w0 aE A0 listed a w b c φ A pn) (dk:je ops aG) (t:jK X C ops aG th K s H v act) {i:Nat} {o:Oper} (gU:i≤c) (ho:ops[i]? =some o) (hu:listed.getD i false=false) (ha: ∀e∈o.after,Region.binds .any e=true→listed.getD e.on false=true)
 {m:Nat} (hm:m≤ops.size) (u3:i≤m) (jM:m=i∨ ∀(k:Nat) (r:Oper) (d:Tmp),ops[k]? =some r→r.dst=some d→i≤k→d∉Oper.looksAt ops o) {x:Tmp} (hx:x∈Oper.looksAt ops o):R w (H c) φ A (ev (s m) (.tmp x)) (a.eval (.tmp x)):=by
 obtain ⟨hl,hg⟩:=oo dk t m hm;simp only [ev,Act.eval];by_cases az:x<(s 0).length
 ·have uE:x<a.tmps.size:=by rw [←inv.len];exact az
  have aO:=Array.getElem?_eq_getElem uE
  rw [Array.getD_eq_getD_getElem?,aO,Option.getD_some];by_cases hw: ∃(k:Nat) (r:Oper),ops[k]? =some r∧r.dst=some x
  ·obtain ⟨k,r,hk,hr⟩:=hw;rcases Nat.lt_trichotomy k i with b4|b4|b4
   ·have hb:=dk.ord i k o r x (by omega) ho hk hr hx
    rw [show max i k=i by omega,show min i k=k by omega] at hb
    have bT:=om inv.shut dk.back i o ho ha k hb;rw [(hg x az).1 k r (by omega) hk hr]
    exact inv.wr k r x _ hk hr bT (by omega) aO
   ·subst b4;rw [ho] at hk;simp only [Option.some.injEq] at hk;subst hk;rcases jM with rfl|jM
    ·rw [(hg x az).2 (fun k' o' bR fl=>dk.iB k' m o' o x (by omega) fl ho hr)]
     refine inv.un x _ (fun k' o' fl cf=> ?_) aO
     by_cases mI:k' =m
     ·subst mI;exact hu
     ·exact absurd cf (dk.iB k' m o' o x mI fl ho hr)
    ·exact absurd hx (jM k o x ho hr (Nat.le_refl _))
   ·rcases jM with rfl|jM
    ·have hb:=dk.ord m k o r x (by omega) ho hk hr hx
     rw [show max m k=k by omega,show min m k=m by omega] at hb
     have Ca:listed.getD k false=false:=by
      cases hq:listed.getD k false with
      |false=>rfl
      |true=>
       have:=om inv.shut dk.back k r hk (inv.shut k r hk hq) m hb;rw [hu] at this;simp at this
     rw [(hg x az).2 (fun k' o' bR fl=>dk.iB k' k o' r x (by omega) fl hk hr)]
     refine inv.un x _ (fun k' o' fl cf=> ?_) aO
     by_cases mI:k' =k
     ·subst mI;exact Ca
     ·exact absurd cf (dk.iB k' k o' r x mI fl hk hr)
    ·exact absurd hx (jM k r x hk hr (by omega))
  ·rw [(hg x az).2 (fun k' o' _ fl cf=>hw ⟨k',o',fl,cf⟩)]
   exact inv.un x _ (fun k' o' fl cf=>absurd ⟨k',o',fl,cf⟩ hw) aO
 ·have:(s m).getD x .undef= .undef:=by simp [List.getD,List.getElem?_eq_none (show (s m).length≤x by rw [hl];exact Nat.le_of_not_lt az)]
  rw [this];exact .fr _ _ (.undef _)
theorem Inv.rB (inv:Inv C ops aG s H v w0 aE A0 listed a w b c φ A pn) (dk:je ops aG) (t:jK X C ops aG th K s H v act) {i:Nat} {o:Oper} (gU:i≤c) (ho:ops[i]? =some o) (hu:listed.getD i false=false) (ha: ∀e∈o.after,Region.binds .any e=true→listed.getD e.on false=true)
 {m:Nat} (hm:m≤ops.size) (u3:i≤m) (jM:m=i∨ ∀(k:Nat) (r:Oper) (d:Tmp),ops[k]? =some r→r.dst=some d→i≤k→d∉Oper.looksAt ops o): ∀y∈o.op.operands,R w (H c) φ A (ev (s m) y) (a.eval y):=by
 intro y hy;cases y with
 |tmp x=>
  refine inv.look dk t gU ho hu ha hm u3 jM ?_;unfold Oper.looksAt;refine List.mem_append.2 (.inl (List.mem_filterMap.2 ⟨.tmp x,by simpa using hy,rfl⟩))
 |const v=>exact .fr _ _ (FR.ofValue w A v)
 |global g=>exact .fr _ _ (.undef _)
 |func f=>exact .fr _ _ (.fn f [] #[] rfl (by simp))
theorem Inv.lz (inv:Inv C ops aG s H v w0 aE A0 listed a w b c φ A pn) (dp:St w0 (H 0) aE A0) (dk:je ops aG) (t:jK X C ops aG th K s H v act) {i:Nat} {o:Oper} (gU:i<c) (ho:ops[i]? =some o) (hl:i∉aG) (ha: ∀e∈o.after,Region.binds .any e=true→listed.getD e.on false=true)
 {u:Value} {w' :World} {φ1:ag} {A1:aj} (bq:Out w (H c) φ A w' (H c) φ1 A1) (hr: ∀d,o.dst=some d→d<a.tmps.size→R w' (H c) φ1 A1 (v i) u)
 (bB: ∀id loc,φ1 id=some loc→ φ id=some loc∨(b≤i∧i<c∧(H i).bs.length≤id∧id<(H (i+1)).bs.length)):Inv C ops aG s H v w0 aE A0 (listed.setIfInBounds i true) (a.put o.dst u) w' b c φ1 A1 pn:=by
 have hi:i<ops.size:=(Array.getElem?_eq_some_iff.1 ho).1;have aC:i<listed.size:=by rw [inv.size];exact hi
 have bV:=oz aC;have ky: ∀k,(listed.setIfInBounds i true).getD k false=false→k≠i∧listed.getD k false=false:=fun k hk=>by
  have:=(not_congr (bV k)).1 (by rw [hk];simp)
  refine ⟨fun h=>this (.inl h),?_⟩;cases hq:listed.getD k false with
  |false=>rfl
  |true=>exact absurd (.inr hq) this
 refine ⟨by simp [inv.size],fun k r hk bT e he hb=> ?_,inv.bc,inv.cn,inv.cl,inv.jg,fun k hk jN=> ?_,inv.base,inv.out.trans dp bq,fun k h1 h2 h3 id h4 h5=> ?_,?_,?_,fun k r d u' hk b5 bT eP aO=> ?_,fun k kz bT=> ?_,fun j k hj hk jO bT hp=>inv.ov j k hj hk (((bV j).1 jO).resolve_left (by omega)) (((bV k).1 bT).resolve_left (by omega)) hp,fun x u' eT aO=> ?_⟩
 ·rcases (bV k).1 bT with rfl|bT
  ·rw [ho] at hk;simp only [Option.some.injEq] at hk;subst hk;exact (bV _).2 (.inr (ha e he hb))
  ·exact (bV _).2 (.inr (inv.shut k r hk bT e he hb))
 ·rw [bV,←inv.jL k hk jN];constructor
  ·rintro (rfl|h)
   ·exact absurd hk hl
   ·exact h
  ·exact .inr
 ·obtain ⟨b4,bT⟩:=ky k h3;have mJ:=inv.cn;cases hq: φ1 id with
  |none=>rfl
  |some loc=>
   rcases bB id loc hq with h|⟨h6,h7,h8,h9⟩
   ·rw [inv.none k h1 h2 bT id h4 h5] at h;simp at h
   ·exfalso;rcases Nat.lt_or_ge k i with az|Cb
    ·have:=(jf t (i-(k+1)) (k+1) (by omega) (fun j j1 j2=>inv.jg j (by omega) (by omega))).1.2
     rw [show k+1+(i-(k+1))=i by omega] at this
     omega
    ·have:=(jf t (k-(i+1)) (i+1) (by omega) (fun j j1 j2=>inv.jg j (by omega) (by omega))).1.2
     rw [show i+1+(k-(i+1))=k by omega] at this
     omega
 ·cases hd:o.dst<;>simp [Act.put,inv.fA]
 ·cases hd:o.dst<;>simp [Act.put,inv.len]
 ·by_cases b4:k=i
  ·subst b4;rw [ho] at hk;simp only [Option.some.injEq] at hk;subst hk;rw [b5] at aO;simp only [Act.put,Array.getElem?_setIfInBounds] at aO;simp only [if_true] at aO;split at aO
   ·rename_i az;simp only [Option.some.injEq] at aO;subst aO;exact hr d b5 az
   ·simp at aO
  ·have bT:=((bV k).1 bT).resolve_left b4;have aI:o.dst≠some d:=dk.iB i k o r d (fun h=>b4 h.symm) ho hk b5;have:a.tmps[d]? =some u' :=by
    cases hd:o.dst with
    |none=>rw [hd] at aO;exact aO
    |some d' =>
     rw [hd] at aO;simp only [Act.put,Array.getElem?_setIfInBounds] at aO;rw [if_neg (by rintro rfl;exact aI hd)] at aO
     exact aO
   exact (inv.wr k r d u' hk b5 bT eP this).mono bq.bF
 ·have b4:k≠i:=by omega
  refine (inv.early k kz (((bV k).1 bT).resolve_left b4)).mono bq fun r d hk b5=> ?_
  have aI:o.dst≠some d:=dk.iB i k o r d (fun h=>b4 h.symm) ho hk b5;cases hd:o.dst with
  |none=>rfl
  |some d' =>
   simp only [Act.put,Array.getElem?_setIfInBounds];rw [if_neg (by rintro rfl;exact aI hd)]
 ·have aI:o.dst≠some x:=fun hd=>by have:=eT i o ho hd;have h2:=(bV i).2 (.inl rfl);rw [this] at h2;simp at h2
  have:a.tmps[x]? =some u' :=by
   cases hd:o.dst with
   |none=>rw [hd] at aO;exact aO
   |some d' =>
    rw [hd] at aO;simp only [Act.put,Array.getElem?_setIfInBounds] at aO;rw [if_neg (by rintro rfl;exact aI hd)] at aO
    exact aO
  exact (inv.un x u' (fun k r hk b5=>(ky k (eT k r hk b5)).2) this).mono bq.bF
theorem Cc {w:World} {G:J} {φ :ag} {A:aj} (ae:St w G φ A) (o:Obj):Out w G φ A (w.alloc o) G φ (fun c=>A c∨c=w.heap.size):=by
 have aS:bM w G φ A (w.alloc o) G φ (fun c=>A c∨c=w.heap.size):=⟨fun c a t fr hc hn=>⟨⟨fr,by rw [heap_alloc_old w _ (ew hc)];exact hc⟩,fun h=>by have:=ew hc;rcases h with h|h;exact hn h;omega⟩,Nat.le_refl _,
  fun i b' au _=>⟨b',au,rfl,rfl,rfl,rfl,fun loc hl=>hl⟩,fun c hc=>by unfold aR;rw [heap_alloc_old w _ (Ow.lt ae hc)]⟩
 refine ⟨⟨ae.inj,fun c hc=> .inl (ae.own c hc),fun c hc=> ?_,fun i loc hl=> ?_⟩,
  ⟨rfl,rfl,rfl,by simp,fun c hc _=>heap_alloc_old w _ hc,fun c hc=>by unfold aR;rw [heap_alloc_old w _ hc],fun c hc=> .inl hc⟩,aS,fun c hc _=> .inl hc⟩
 ·simp only [World.size_alloc];rcases hc with h|h
  ·have:=ae.b7 c h;omega
  ·omega
 obtain ⟨b',cu,au⟩:=ae.ap i loc hl;refine ⟨b',cu,au.ad,au.sized,au.aP,fun c b0 h=> ?_⟩;obtain ⟨a,t,fr,h1,h2,h3,h4⟩:=au.here c b0 h;exact ⟨a,t,fr,by rw [heap_alloc_old w _ (ew h1)];exact h1,h2,h3,fun i x j y v hx hy hv=>⟨(h4 i x j y v hx hy hv).1.mono aS,(h4 i x j y v hx hy hv).2⟩⟩
theorem Inv.Cd (inv:Inv C ops aG s H v w0 aE A0 listed a w b c φ A pn) (dp:St w0 (H 0) aE A0) (dk:je ops aG) {i:Nat} {o:Oper} (Ej:c≤i) (ho:ops[i]? =some o) (Ek:listed.getD i false=false) (hl:i∉aG) (hg:o.guard=Option.none) {d:Tmp} (hd:o.dst=some d)
 {sz:Nat} {el:List AV} {x:Nat→Nat→AV} {uv:Nat→Value} (bC:rA C o.op sz el x uv) (ha: ∀e∈o.after,Region.binds .any e=true→listed.getD e.on false=true) {arr:Array Value} {T:TypeId} (mH:oq el sz arr):
 Inv C ops aG s H v w0 aE A0 (listed.setIfInBounds i true) (a.put o.dst (uv w.heap.size)) (w.alloc (.cells arr T)) b c φ (fun k=>A k∨k=w.heap.size) (fun k=>if k=i then w.heap.size else pn k):=by
 have hi:i<ops.size:=(Array.getElem?_eq_some_iff.1 ho).1;have Ce:i<listed.size:=by rw [inv.size];exact hi
 have bV:=oz Ce;have bq:=Cc inv.out.st (.cells arr T);have ky: ∀k,(listed.setIfInBounds i true).getD k false=false→k≠i∧listed.getD k false=false:=fun k hk=>by
  have:=(not_congr (bV k)).1 (by rw [hk];simp)
  refine ⟨fun h=>this (.inl h),?_⟩;cases hq:listed.getD k false with
  |false=>rfl
  |true=>exact absurd (.inr hq) this
 have lB: ∀(x:Tmp),o.dst≠some x→(a.put o.dst (uv w.heap.size)).tmps[x]? =a.tmps[x]? :=fun x aI=>by
  rw [hd] at aI⊢;simp only [Act.put,Array.getElem?_setIfInBounds];rw [if_neg (by rintro rfl;exact aI rfl)]
 refine ⟨by simp [inv.size],fun k r hk bT e he hb=> ?_,inv.bc,inv.cn,inv.cl,inv.jg,fun k hk jN=> ?_,inv.base,inv.out.trans dp bq,fun k h1 h2 h3 id h4 h5=>inv.none k h1 h2 (ky k h3).2 id h4 h5,?_,?_,fun k r d' u' hk b5 bT eP aO=> ?_,fun k kz bT=> ?_,fun j k hj hk jO bT hp=> ?_,fun x u' eT aO=> ?_⟩
 ·rcases (bV k).1 bT with rfl|bT
  ·rw [ho] at hk;simp only [Option.some.injEq] at hk;subst hk;exact (bV _).2 (.inr (ha e he hb))
  ·exact (bV _).2 (.inr (inv.shut k r hk bT e he hb))
 ·rw [bV,←inv.jL k hk jN];constructor
  ·rintro (rfl|h)
   ·exact absurd hk hl
   ·exact h
  ·exact .inr
 ·rw [hd];simp [Act.put,inv.fA]
 ·rw [hd];simp [Act.put,inv.len]
 ·have b4:k≠i:=by omega
  have aI:o.dst≠some d' :=dk.iB i k o r d' (fun h=>b4 h.symm) ho hk b5
  rw [lB d' aI] at aO
  exact (inv.wr k r d' u' hk b5 (((bV k).1 bT).resolve_left b4) eP aO).mono bq.bF
 ·by_cases b4:k=i
  ·subst b4;simp only [if_true];refine ⟨hl,o,d,sz,el,x,uv,ho,hg,hd,bC,⟨inv.out.post.size,by simp,.inr rfl,fun h=>by have:=Ow.lt inv.out.st h;omega,arr,T,(0,0),heap_alloc_new w _,fun j _ h=>absurd h.2 (Nat.not_lt_zero j),mH⟩,fun u hu=> ?_⟩
   rw [hd] at hu;simp only [Act.put,Array.getElem?_setIfInBounds,if_true] at hu;split at hu
   ·simpa using hu.symm
   ·simp at hu
  ·simp only [if_neg b4];exact (inv.early k kz (((bV k).1 bT).resolve_left b4)).mono bq fun r d' hk b5=>lB d' (dk.iB i k o r d' (fun h=>b4 h.symm) ho hk b5)
 ·have one: ∀k,c≤k→(listed.setIfInBounds i true).getD k false=true→k≠i→pn k≠w.heap.size:=fun k kz bT b4 he=>by
   obtain ⟨_,_,_,_,_,_,_,_,_,_,_,hp,_⟩:=inv.early k kz (((bV k).1 bT).resolve_left b4);have:=hp.lt;omega
  by_cases lC:j=i
  ·by_cases b4:k=i
   ·rw [lC,b4]
   ·simp only [lC,if_true,if_neg b4] at hp;exact absurd hp.symm (one k hk bT b4)
  ·by_cases b4:k=i
   ·simp only [b4,if_true,if_neg lC] at hp;exact absurd hp (one j hj jO lC)
   ·simp only [if_neg lC,if_neg b4] at hp;exact inv.ov j k hj hk (((bV j).1 jO).resolve_left lC) (((bV k).1 bT).resolve_left b4) hp
 ·have aI:o.dst≠some x:=fun hd=>by have:=eT i o ho hd;have h2:=(bV i).2 (.inl rfl);rw [this] at h2;simp at h2
  rw [lB x aI] at aO;exact (inv.un x u' (fun k r hk b5=>(ky k (eT k r hk b5)).2) aO).mono bq.bF
theorem fill (t:jK X C ops aG th K s H v act) (dp:St w0 (H 0) aE A0) {lst:Nat→Prop} {lo hi:Nat} (hq: ∀j,lo≤j→j≤hi→QG (H j) (H hi)) (hlen: ∀j k,lo≤j→j≤k→k≤hi→(H j).bs.length≤(H k).bs.length)
 (hinj: ∀j k,lo≤j→lo≤k→lst j→lst k→pn j=pn k→j=k) (bq:Out w0 (H 0) aE A0 w (H hi) φ A) (hE: ∀j,lo≤j→lst j→kx C ops aG w0 w φ A a j (pn j)) (iW: ∀id,(H lo).bs.length≤id→ φ id=none):
 ∀m,lo≤m→m≤hi→ ∃bf,Out w0 (H 0) aE A0 w (H hi) bf A∧bM w (H hi) φ A w (H hi) bf A∧(∀j,lo≤j→j<m→lst j→ ∀(o:Oper) (d:Tmp) (u:Value),ops[j]? =some o→o.dst=some d→a.tmps[d]? =some u→R w (H hi) bf A (v j) u)∧
  (∀id loc,bf id=some loc→ φ id=some loc∨ ∃j,lo≤j∧j<m∧lst j∧(H j).bs.length≤id∧id<(H (j+1)).bs.length)∧(∀j,m≤j→lst j→kx C ops aG w0 w bf A a j (pn j)):=by
 intro m hm;obtain ⟨k,rfl⟩:=Nat.exists_eq_add_of_le hm;clear hm;induction k with
 |zero=>exact fun _=>⟨φ,bq,.refl _ _ _ _,fun j h1 h2=>by omega,fun id loc h=> .inl h,hE⟩
 |succ k ih=>
  intro u4;obtain ⟨bf,k1,k2,k3,k4,k5⟩:=ih (by omega)
  rw [show lo+(k+1)=lo+k+1 by omega] at u4⊢
  have hm:lo≤lo+k:=Nat.le_add_right _ _;generalize lo+k=m at hm u4 k3 k4 k5⊢;by_cases hL:lst m
  ·obtain ⟨iC,o,d,sz,el,x,uv,e1,e2,e4,e5,hp,hu⟩:=k5 m (Nat.le_refl _) hL;obtain ⟨_,s2,s3,_,_⟩:=t.step m o (by rw [Array.getElem?_toList];exact e1)
   have fR:act m=true:=by
    simp only [dV,e2,Option.some.injEq] at s2;exact s2.symm
   have hw:=s3 fR;obtain ⟨hv,hH⟩:v m=x (H m).bs.length (H m).st∧H (m+1)=(H m).new sz false el:=by
    have:=e5.ev _ _ _ _ _ _ _ rfl hw;exact ⟨this.1.symm,this.2.symm⟩
   have cx:=hq (m+1) (by omega) (by omega)
   have hb:(H hi).get (H m).bs.length=some ⟨(H m).st,sz,false,el⟩:=by
    refine cx.1.1.1 _ _ ?_;rw [hH];simp [J.get,J.new]
   have bN:(H m).st<(H hi).st:=by
    have:=cx.1.1.2;rw [hH] at this;exact this
   have aV:bf (H m).bs.length=none:=by
    cases hc:bf (H m).bs.length with
    |none=>rfl
    |some loc=>
     exfalso;rcases k4 _ _ hc with h|⟨j,h1,h2,_,_,h4⟩
     ·rw [iW _ (hlen lo m (Nat.le_refl _) hm (by omega))] at h;simp at h
     ·have:=hlen (j+1) m (by omega) (by omega) (by omega)
      omega
   obtain ⟨arr,T,fr,h1,h2,h3,h5⟩:=hp.here
   let cX:ag:=fun i=>if i=(H m).bs.length then some (.at_ (pn m) 0) else bf i
   have ez: ∀c,Ow cX c→Ow bf c∨c=pn m:=by
    rintro c ⟨i,b0,h⟩;simp only [cX] at h;split at h
    ·simp only [Option.some.injEq,Loc.at_.injEq] at h;exact .inr h.1.symm
    ·exact .inl ⟨i,b0,h⟩
   have aS:bM w (H hi) bf A w (H hi) cX A:=by
    refine ⟨fun c a t fr hc hn=>⟨⟨fr,hc⟩,hn⟩,Nat.le_refl _,fun i b' au _=>⟨b',au,rfl,rfl,rfl,rfl,fun loc hl=> ?_⟩,fun _ _=>rfl⟩
    simp only [cX];split
    ·rename_i h;subst h;rw [aV] at hl;simp at hl
    ·exact hl
   have mK:St w (H hi) cX A:=by
    refine ⟨fun i i' c b0 b1 h1 h2=> ?_,fun c hc=> ?_,k1.st.b7,fun i loc hl=> ?_⟩
    ·simp only [cX] at h1 h2;split at h1
     ·rename_i dK;split at h2
      ·rename_i El;omega
      ·simp only [Option.some.injEq,Loc.at_.injEq] at h1;exact absurd ⟨i',b1,by rw [h1.1];exact h2⟩ hp.ow
     ·split at h2
      ·simp only [Option.some.injEq,Loc.at_.injEq] at h2;exact absurd ⟨i,b0,by rw [h2.1];exact h1⟩ hp.ow
      ·exact k1.st.inj i i' c b0 b1 h1 h2
    ·rcases ez c hc with h|h
     ·exact k1.st.own c h
     ·rw [h];exact hp.av
    ·simp only [cX] at hl;split at hl
     ·rename_i dK;subst dK;simp only [Option.some.injEq] at hl;subst hl;refine ⟨_,hb,bN,e5.B8,by simp,fun c b0 h=> ?_⟩
      simp only [Loc.at_.injEq] at h;obtain ⟨rfl,rfl⟩:=h;refine ⟨arr,T,fr,h1,h2,by rw [Nat.zero_add];exact h3,fun i x j y v hx hy hv=> ?_⟩
      rw [Nat.zero_add] at hv;obtain ⟨g1,g2⟩:=h5 i x j y v hx hy hv;exact ⟨g1 _ _ _ _,g2⟩
     ·obtain ⟨b',cu,au⟩:=k1.st.ap i loc hl;refine ⟨b',cu,au.ad,au.sized,au.aP,fun c b0 h=> ?_⟩;obtain ⟨a,t,fr,h1,h2,h3,h4⟩:=au.here c b0 h;exact ⟨a,t,fr,h1,h2,h3,fun i x j y v hx hy hv=>⟨(h4 i x j y v hx hy hv).1.mono aS,(h4 i x j y v hx hy hv).2⟩⟩
   have Cf:Out w0 (H 0) aE A0 w (H hi) cX A:=by
    refine ⟨mK,⟨k1.post.os,k1.post.tape,k1.post.output,k1.post.size,k1.post.kept,k1.post.aR,fun c hc=> ?_⟩,k1.bF.trans aS (fun c hc=>k1.post.aR c (Ow.lt dp hc)),k1.keep⟩;rcases ez c hc with h|h
    ·exact k1.post.own c h
    ·right;rw [h];exact hp.old
   refine ⟨cX,Cf,k2.trans aS (fun _ _=>rfl),fun j j1 j2 j3 o' d' u' q1 q2 q3=> ?_,fun id loc h=> ?_,fun j j1 j2=> ?_⟩
   ·by_cases rC:j=m
    ·subst rC;rw [e1] at q1;simp only [Option.some.injEq] at q1;subst q1;rw [e4] at q2;simp only [Option.some.injEq] at q2;subst q2;rw [hu u' q3,hv]
     exact e5.rel _ _ _ _ _ _ _ hb bN (by simp [cX]) (by unfold aR;rw [h1];exact h3)
    ·exact (k3 j j1 (by omega) j3 o' d' u' q1 q2 q3).mono aS
   ·simp only [cX] at h;split at h
    ·rename_i br;refine .inr ⟨m,hm,Nat.lt_succ_self _,hL,by omega,?_⟩
     rw [hH];simp [J.new];omega
    ·rcases k4 id loc h with h|⟨j,q1,q2,q3⟩
     ·exact .inl h
     ·exact .inr ⟨j,q1,by omega,q3⟩
   ·obtain ⟨g0,r,d',Cg,il,x',Ch,g1,g2,g4,g5,g7,g8⟩:=k5 j (by omega) j2
    refine ⟨g0,r,d',Cg,il,x',Ch,g1,g2,g4,g5,⟨g7.old,g7.lt,g7.av,fun h=> ?_,g7.here⟩,g8⟩;rcases ez _ h with h|h
    ·exact g7.ow h
    ·have:=hinj j m (by omega) hm j2 hL h
     omega
  ·refine ⟨bf,k1,k2,fun j j1 j2 j3=> ?_,fun id loc h=> ?_,fun j j1 j2=>k5 j (by omega) j2⟩
   ·by_cases rC:j=m
    ·subst rC;exact absurd j3 hL
    ·exact k3 j j1 (by omega) j3
   ·rcases k4 id loc h with h|⟨j,q1,q2,q3⟩
    ·exact .inl h
    ·exact .inr ⟨j,q1,by omega,q3⟩
end draw
end Go.VS
namespace Go.VS
section draw
variable {P:Program} {C:aJ} {X:bK} {ops:Array Oper} {aG:List Nat} {th:List Nat} {K:ah→J→Prop} {s:Nat→ah} {H:Nat→J} {v:Nat→AV} {act:Nat→Bool}
variable {w0:World} {aE:ag} {A0:aj} {listed:Array Bool} {a:Act} {w:World} {b c:Nat} {φ :ag} {A:aj} {pn:Nat→Nat}
theorem Inv.Ci (inv:Inv C ops aG s H v w0 aE A0 listed a w b c φ A pn) (dk:je ops aG) {i:Nat} {o:Oper} (ho:ops[i]? =some o) (ha: ∀e∈o.after,Region.binds .any e=true→listed.getD e.on false=true):i≤c∨(i∉aG∧o.guard=Option.none∧j8 o.op=true∧ ∃d,o.dst=some d):=by
 rcases Nat.lt_or_ge c i with h|h
 ·have hi:i<ops.size:=(Array.getElem?_eq_some_iff.1 ho).1;rcases inv.cl with hc|hc
  ·omega
  ·have Cj:=Array.getElem?_eq_getElem (xs:=ops) (show c<ops.size by omega)
   rcases dk.after c i _ o Cj ho hc h with hb|hb
   ·exfalso;have hL:=om inv.shut dk.back i o ho ha c hb;have:=(inv.jL c hc (by omega)).1 hL
    have:=inv.bc;omega
   ·exact .inr hb
 ·exact .inl h
theorem Inv.u5 (inv:Inv C ops aG s H v w0 aE A0 listed a w b c φ A pn) (dp:St w0 (H 0) aE A0) (dk:je ops aG) (t:jK X C ops aG th K s H v act) {o:Oper} (ho:ops[c]? =some o) (hl:c∈aG) (ha: ∀e∈o.after,Region.binds .any e=true→listed.getD e.on false=true)
 {u:Value} {w' :World} {φ1:ag} {A1:aj} (bq:Out w (H c) φ A w' (H (c+1)) φ1 A1) (hr:R w' (H (c+1)) φ1 A1 (v c) u): ∃c' bf,Inv C ops aG s H v w0 aE A0 (listed.setIfInBounds c true) (a.put o.dst u) w' (c+1) c' bf A1 pn:=by
 have hi:c<ops.size:=(Array.getElem?_eq_some_iff.1 ho).1;have aC:c<listed.size:=by rw [inv.size];exact hi
 have bV:=oz aC;have Ck:=inv.bc;have Em:listed.getD c false=false:=by
  cases hq:listed.getD c false with
  |false=>rfl
  |true=>have:=(inv.jL c hl hi).1 hq;omega
 have ky: ∀k,(listed.setIfInBounds c true).getD k false=false→k≠c∧listed.getD k false=false:=fun k hk=>by
  have:=(not_congr (bV k)).1 (by rw [hk];simp)
  refine ⟨fun h=>this (.inl h),?_⟩;cases hq:listed.getD k false with
  |false=>rfl
  |true=>exact absurd (.inr hq) this
 have lB: ∀(k:Nat) (r:Oper) (d:Tmp),k≠c→ops[k]? =some r→r.dst=some d→(a.put o.dst u).tmps[d]? =a.tmps[d]? :=fun k r d eP hk b5=>by
  have aI:o.dst≠some d:=dk.iB c k o r d (fun h=>eP h.symm) ho hk b5;cases hd:o.dst with
  |none=>rfl
  |some d' =>
   simp only [Act.put,Array.getElem?_setIfInBounds];rw [if_neg (by rintro rfl;exact aI hd)]
 obtain ⟨c',k1,k2,k3,k4⟩:=rz aG ops.size (ops.size-(c+1)) (c+1) rfl (by omega)
 have hQ: ∀j k,c+1≤j→j≤k→k≤c' →QG (H j) (H k):=fun j k h1 h2 h3=>by
  have:=jf t (k-j) j (by omega) (fun i i1 i2=>k4 i (by omega) (by omega))
  rwa [show j+(k-j)=k by omega] at this
 have iD:=hQ (c+1) c' (Nat.le_refl _) k1 (Nat.le_refl _)
 have hlen: ∀j k,c+1≤j→j≤k→k≤c' →(H j).bs.length≤(H k).bs.length:=fun j k h1 h2 h3=>(hQ j k h1 h2 h3).1.2
 have hex:=jE bq.st iD.1.1 iD.2;have aS:=bq.bF.trans hex.bF (fun k hk=>by rw [(bq.post.trans hex.post).aR k (Ow.lt inv.out.st hk)])
 have hE: ∀j,c+1≤j→(listed.setIfInBounds c true).getD j false=true→kx C ops aG w0 w' φ1 A1 (a.put o.dst u) j (pn j):=fun j hj hL=>
  (inv.early j (by omega) (((bV j).1 hL).resolve_left (by omega))).mono bq fun r d hk b5=>lB j r d (by omega) hk b5
 obtain ⟨bf,o2,rD,r2,m2,e2⟩:=fill (lst:=fun j=>(listed.setIfInBounds c true).getD j false=true) t dp (fun j h1 h2=>hQ j c' h1 h2 (Nat.le_refl _)) hlen
  (fun j k hj hk jO bT hp=>inv.ov j k (by omega) (by omega) (((bV j).1 jO).resolve_left (by omega)) (((bV k).1 bT).resolve_left (by omega)) hp) ((inv.out.trans dp bq).trans dp hex) hE (fun id h=>bq.st.new h) c' k1 (Nat.le_refl _)
 refine ⟨c',bf,by simp [inv.size],fun k r hk bT e he hb=> ?_,k1,k2,k3,k4,fun k hk jN=> ?_,.inr ⟨by simpa using hl,Nat.succ_pos _⟩,o2,fun k h1 h2 h3 id h4 h5=> ?_,?_,?_,fun k r d u' hk b5 bT Cl aO=> ?_,fun k kz bT=>e2 k kz bT,
  fun j k hj hk jO bT hp=>inv.ov j k (by omega) (by omega) (((bV j).1 jO).resolve_left (by omega)) (((bV k).1 bT).resolve_left (by omega)) hp,fun x u' eT aO=> ?_⟩
 ·by_cases eP:k=c
  ·subst eP;rw [ho] at hk;simp only [Option.some.injEq] at hk;subst hk;exact (bV _).2 (.inr (ha e he hb))
  ·exact (bV _).2 (.inr (inv.shut k r hk (((bV k).1 bT).resolve_left eP) e he hb))
 ·rw [bV,inv.jL k hk jN];constructor
  ·rintro (h|h)<;>omega
  ·intro h;by_cases eP:k=c
   ·exact .inl eP
   ·right;rcases Nat.lt_or_ge k b with h' |h'
    ·exact h'
    ·exact absurd hk (inv.jg k h' (by omega))
 ·cases hp:bf id with
  |none=>rfl
  |some loc=>
   exfalso;rcases m2 id loc hp with h|⟨j,j1,j2,j3,j4,j5⟩
   ·rw [bq.st.new (Nat.le_trans (hlen (c+1) k (Nat.le_refl _) h1 (by omega)) h4)] at h;simp at h
   ·have:j=k:=by
     rcases Nat.lt_trichotomy j k with h|h|h
     ·have:=hlen (j+1) k (by omega) (by omega) (by omega);omega
     ·exact h
     ·have:=hlen (k+1) j (by omega) (by omega) (by omega);omega
    subst this;rw [h3] at j3;simp at j3
 ·cases hd:o.dst<;>simp [Act.put,inv.fA]
 ·cases hd:o.dst<;>simp [Act.put,inv.len]
 ·by_cases b4:k=c
  ·subst b4;rw [ho] at hk;simp only [Option.some.injEq] at hk;subst hk;rw [b5] at aO;simp only [Act.put,Array.getElem?_setIfInBounds] at aO;simp only [if_true] at aO;split at aO
   ·rename_i az;simp only [Option.some.injEq] at aO;subst aO;exact (hr.mono hex.bF).mono rD
   ·simp at aO
  ·rcases Nat.lt_or_ge k c with az|Cb
   ·rw [lB k r d b4 hk b5] at aO;exact ((inv.wr k r d u' hk b5 (((bV k).1 bT).resolve_left b4) az aO).mono aS).mono rD
   ·exact r2 k (by omega) Cl bT r d u' hk b5 aO
 ·have aI:o.dst≠some x:=fun hd=>by have:=eT c o ho hd;have h2:=(bV c).2 (.inl rfl);rw [this] at h2;simp at h2
  have:a.tmps[x]? =some u' :=by
   cases hd:o.dst with
   |none=>rw [hd] at aO;exact aO
   |some d' =>
    rw [hd] at aO;simp only [Act.put,Array.getElem?_setIfInBounds] at aO;rw [if_neg (by rintro rfl;exact aI hd)] at aO
    exact aO
  exact ((inv.un x u' (fun k r hk b5=>(ky k (eT k r hk b5)).2) this).mono aS).mono rD
theorem Cm {op:Op} (h:iN op=true) (hc: ∀c,op≠ .call c):et op=true:=by
 cases op<;>first|rfl|exact absurd rfl (hc _)|(simp [iN] at h)
theorem Cn {X:bK} {C:aJ} {th:Bool} {o:Oper} {s:ah} {H H' :J} {x:AV} (hl:iN o.op=true) (h:fJ C.E o.op s H=some (x,H')):wpOp X C true th o s H (fun v1 H1=>v1=x∧H1=H'):=by
 unfold wpOp;split
 ·rename_i b args tys bC;rw [bC] at hl h;cases b<;>first|(simp [iN] at hl;done)|skip
  simp only [fJ] at h;rw [h];exact ⟨fun _=>rfl,rfl,rfl⟩
 ·rename_i y args tys bC;rw [bC] at hl;simp [iN] at hl
 ·rename_i h1 h2;have hc: ∀c,o.op≠ .call c:=by
   rintro ⟨Co,args,tys⟩ bC;rw [bC] at hl;cases Co with
   |builtin b=>exact h1 _ _ _ bC
   |value f=>exact h2 _ _ _ bC
   |_=>simp [iN] at hl
  have he:fJ C.E o.op s H=aQ C.E o.op s H:=by
   revert hc;generalize o.op=op;intro hc;cases op<;>first|rfl|exact absurd rfl (hc _)
  rw [he] at h;rw [h];exact ⟨fun _=>Cm hl hc,rfl,rfl⟩
def left (ops:Array Oper) (listed:Array Bool):Nat:=((List.range ops.size).filter fun k=> !listed.getD k false).length
theorem Cp {ops:Array Oper} {listed:Array Bool} {i:Nat} (hs:listed.size=ops.size) (hi:i<ops.size) (hu:listed.getD i false=false):left ops (listed.setIfInBounds i true)<left ops listed:=by
 have bV:=oz (listed:=listed) (i:=i) (by omega)
 have he:((List.range ops.size).filter fun k=> !(listed.setIfInBounds i true).getD k false)=(((List.range ops.size).filter fun k=> !listed.getD k false).filter fun k=> !(listed.setIfInBounds i true).getD k false):=by
  rw [List.filter_filter];refine List.filter_congr fun k _=> ?_;cases hq:(listed.setIfInBounds i true).getD k false with
  |true=>simp
  |false=>
   have:listed.getD k false=false:=by
    cases oA:listed.getD k false with
    |false=>rfl
    |true=>rw [(bV k).2 (.inr oA)] at hq;simp at hq
   simp only [this,Bool.not_false,Bool.and_self]
 unfold left;rw [he];refine List.length_filter_lt_length_iff_exists.2 ⟨i,List.mem_filter.2 ⟨List.mem_range.2 hi,by rw [hu];rfl⟩,?_⟩
 rw [(bV i).2 (.inl rfl)];simp
theorem Cq (hE: ∀t ti,C.E t=some ti→aU P t ti) (hX: ∀f ys H K,X f ys H K→b_ P f ys H K) (dk:je ops aG) (t:jK X C ops aG th K s H v act) (dp:St w0 (H 0) aE A0) {Q:Exit→Act→World→Prop}
 (hq: ∀s' H' ak A' a' w',Out w0 (H 0) aE A0 w' H' ak A' →SF w' H' ak A' s' a' →K s' H' →Q .normal a' w'):
 ∀(fuel:Nat) (listed:Array Bool) (a:Act) (w:World) (b c:Nat) (φ :ag) (A:aj) (pn:Nat→Nat),Inv C ops aG s H v w0 aE A0 listed a w b c φ A pn→left ops listed≤fuel→wpAny P .any ops Q fuel listed a w:=by
 have done: ∀(listed:Array Bool) (a:Act) (w:World) (b c:Nat) (φ :ag) (A:aj) (pn:Nat→Nat),Inv C ops aG s H v w0 aE A0 listed a w b c φ A pn→Region.ready .any ops listed=[]→Q .normal a w:=by
  intro listed a w b c φ A pn inv hr;have all: ∀k,k<ops.size→listed.getD k false=true:=by
   intro k;induction k using Nat.strongRecOn with
   |_ k ih=>
    intro hk;cases hq:listed.getD k false with
    |true=>rfl
    |false=>
     exfalso;have ho:=Array.getElem?_eq_getElem (xs:=ops) hk;have:k∈Region.ready .any ops listed:=mem_ready.2 ⟨getD_in (by rw [inv.size];exact hk) hq,_,ho,fun e he hb=>by
      have az:=dk.back k _ ho e he hb;exact ih e.on az (by omega)⟩
     rw [hr] at this;cases this
  have mJ:c=ops.size:=by
   rcases inv.cl with h|h
   ·exact h
   ·rcases Nat.lt_or_ge c ops.size with h' |h'
    ·have:=(inv.jL c h h').1 (all c h');have:=inv.bc;omega
    ·have:=inv.cn;omega
  obtain ⟨hl,hg⟩:=oo dk t ops.size (Nat.le_refl _);have u6:=t.fin;rw [Array.length_toList] at u6;have bq:=inv.out;rw [mJ] at bq;refine hq (s ops.size) (H ops.size) φ A a w bq ⟨by rw [hl,inv.len],fun x y u hx hu=> ?_,inv.fA⟩ u6
  have ca:x<(s 0).length:=by rw [←hl];exact (List.getElem?_eq_some_iff.1 hx).1
  have hy:(s ops.size).getD x .undef=y:=by simp [List.getD,hx]
  by_cases hw: ∃(k:Nat) (r:Oper),ops[k]? =some r∧r.dst=some x
  ·obtain ⟨k,r,hk,hr⟩:=hw;have u7:k<ops.size:=(Array.getElem?_eq_some_iff.1 hk).1;rw [(hg x ca).1 k r u7 hk hr] at hy;subst hy;have:=inv.wr k r x u hk hr (all k u7) (by omega) hu
   rw [mJ] at this;exact this
  ·rw [(hg x ca).2 (fun k' o' _ fl cf=>hw ⟨k',o',fl,cf⟩)] at hy
   subst hy;have:=inv.un x u (fun k' o' fl cf=>absurd ⟨k',o',fl,cf⟩ hw) hu
   rw [mJ] at this;exact this
 intro fuel;induction fuel with
 |zero=>
  intro listed a w b c φ A pn inv hle;have hr:Region.ready .any ops listed=[]:=by
   cases hq:Region.ready .any ops listed with
   |nil=>rfl
   |cons i rs=>
    exfalso;have hm:i∈Region.ready .any ops listed:=by rw [hq];simp
    obtain ⟨hu,o,ho,_⟩:=mem_ready.1 hm;have hi:i<ops.size:=(Array.getElem?_eq_some_iff.1 ho).1;have:i∈((List.range ops.size).filter fun k=> !listed.getD k false):=List.mem_filter.2 ⟨List.mem_range.2 hi,by rw [getD_both hu];rfl⟩
    have:=List.length_pos_of_mem this;unfold left at hle;omega
  exact ⟨hr,done listed a w b c φ A pn inv hr⟩
 |succ fuel ih=>
  intro listed a w b c φ A pn inv hle;refine ⟨done listed a w b c φ A pn inv,fun i hi=> ?_⟩;obtain ⟨jA,o,ho,ha⟩:=mem_ready.1 hi;have hu:=getD_both jA;have cH:i<ops.size:=(Array.getElem?_eq_some_iff.1 ho).1;have En:=Cp inv.size cH hu;have kC:=inv.Ci dk ho ha;obtain ⟨st1,st2,oB,u9,Eo⟩:=t.step i o (by rw [Array.getElem?_toList];exact ho)
  rw [Nat.zero_add] at oB;by_cases u_:i≤c
  case neg=>
   obtain ⟨iC,hg,he,d,hd⟩:=kC.resolve_left u_;have fR:act i=true:=by
    simp only [dV,hg,Option.some.injEq] at st2;exact st2.symm
   obtain ⟨sz,el,x,uv,bC,cU⟩:=B9 hE he (oB fR);obtain ⟨arr,T,cU,mH⟩:=cU a w;unfold Go.wpOp;rw [ho];simp only;have hw:Region.wanted o (yielded ops a.tmps)=true:=by simp [Region.wanted,hg]
   rw [if_pos hw];refine .inl ?_;show o.upon P a _ Q _;rw [cU];exact ih _ _ _ _ _ _ _ _ (inv.Cd dp dk (by omega) ho hu iC hg hd bC ha mH) (by omega)
  replace kC:=u_;unfold Go.wpOp;rw [ho];simp only;by_cases gV:i∈aG
  ·
   have gU:i=c:=by
    rcases Nat.lt_or_ge i c with h|h
    ·exfalso;have hb: ¬i<b:=fun h=>by have:=(inv.jL i gV cH).2 h;rw [hu] at this;simp at this
     exact inv.jg i (by omega) h gV
    ·omega
   subst gU;have bC:=inv.rB dk t kC ho hu ha (m:=i) (by omega) (Nat.le_refl _) (.inl rfl)
   have hw:=q9 (H:=H i) (φ := φ) (A:=A) (w:=w) (s:=s i) (a:=a) (fun j want x hg hx=>inv.look dk t kC ho hu ha (m:=i) (by omega) (Nat.le_refl _) (.inl rfl) (by
    unfold Oper.looksAt;refine List.mem_append.2 (.inr ?_);rw [hg];simp only;rw [hx];simp)) st2
   cases fR:act i with
   |true=>
    rw [fR] at hw;rw [if_pos hw];have h3:=oB fR;rw [show (!aG.contains i)=false by simpa using gV] at h3
    refine .inl (nX hE hX inv.out.st bC h3 fun x u w' H' ak A' k1 k2 k3=> ?_)
    obtain ⟨rfl,rfl⟩:=k3;obtain ⟨c',bf,rE⟩:=inv.u5 dp dk t ho gV ha k1 k2;exact ih _ _ _ _ _ _ _ _ rE (by omega)
   |false=>
    rw [fR] at hw;rw [if_neg (by rw [hw];simp)]
    obtain ⟨h4,h5⟩:=u9 fR;obtain ⟨c',bf,rE⟩:=inv.u5 dp dk t ho gV ha (u:=undef) (w' :=w) (φ1:= φ) (A1:=A) (by rw [h5];exact .refl inv.out.st) (by rw [h4];exact .fr _ _ (.aD [] #[] rfl (by simp)))
    exact ih _ _ _ _ _ _ _ _ rE (by omega)
  ·have gU:i<c:=by
    rcases Nat.lt_or_ge i c with h|h
    ·exact h
    ·have:i=c:=by omega
     subst this;rcases inv.cl with h' |h'
     ·omega
     ·exact absurd h' gV
   have mJ:=inv.cn;rcases Nat.lt_or_ge i b with oC|oC
   ·
    obtain ⟨jb,cP⟩:b-1∈aG∧0<b:=by
     rcases inv.base with h|h
     ·omega
     ·exact h
    have Ck:=inv.bc;have oD:=Array.getElem?_eq_getElem (xs:=ops) (show b-1<ops.size by omega)
    have Cr:=(inv.jL (b-1) jb (by omega)).2 (by omega)
    have va:i<b-1:=by
     rcases Nat.lt_or_ge i (b-1) with h|h
     ·exact h
     ·have:i=b-1:=by omega
      subst this;exact absurd jb gV
    have vd:((fY ops.toList).getD (b-1) 0).testBit i=false:=by
     cases hq:((fY ops.toList).getD (b-1) 0).testBit i with
     |false=>rfl
     |true=>
      have:=om inv.shut dk.back (b-1) _ oD (inv.shut (b-1) _ oD Cr) i hq;rw [hu] at this;simp at this
    obtain ⟨_,hg,dI,⟨d,hd⟩,Cs⟩:=dk.late (b-1) i _ o oD ho jb va vd
    obtain ⟨_,_,_,_,ve⟩:=t.step (b-1) _ (by rw [Array.getElem?_toList];exact oD)
    rw [Nat.zero_add,show b-1+1=b by omega] at ve
    have oE:=ve i (by
     unfold gF;rw [if_pos (by simpa using jb)]
     exact List.mem_filter.2 ⟨List.mem_range.2 va,by rw [vd];rfl⟩)
    unfold kX at oE;rw [ho] at oE;simp only [hd] at oE;have bC:=inv.rB dk t kC ho hu ha (m:=b) (by omega) (by omega) (.inr Cs)
    have iD:=jf t (c-b) b (by omega) (fun k h1 h2=>inv.jg k h1 (by omega))
    rw [show b+(c-b)=c by omega] at iD
    have hw:Region.wanted o (yielded ops a.tmps)=true:=by simp [Region.wanted,hg]
    rw [if_pos hw];refine .inl (VS.lz (th:=false) hE hX inv.out.st bC iD.1.1 ⟨iD.1.1,fun id h1 h2=>absurd h2 (Nat.not_lt.2 h1)⟩ (Cn dI oE) fun u w' ak A' k1 k2 k3=> ?_)
    refine ih _ _ _ _ _ _ _ _ (inv.lz dp dk t gU ho gV ha k1 (fun d' cf az=> ?_) (fun id loc h=> ?_)) (by omega)
    ·rw [hd] at cf;simp only [Option.some.injEq] at cf;subst cf;rw [←((oo dk t b (by omega)).2 d (by rw [inv.len];exact az)).1 i o oC ho hd]
     exact k2
    ·rcases k3 id loc h with h|⟨h1,h2⟩
     ·exact .inl h
     ·omega
   ·
    have bC:=inv.rB dk t kC ho hu ha (m:=i) (by omega) (Nat.le_refl _) (.inl rfl)
    have hw:=q9 (H:=H c) (φ := φ) (A:=A) (w:=w) (s:=s i) (a:=a) (fun j want x hg hx=>inv.look dk t kC ho hu ha (m:=i) (by omega) (Nat.le_refl _) (.inl rfl) (by
     unfold Oper.looksAt;refine List.mem_append.2 (.inr ?_);rw [hg];simp only;rw [hx];simp)) st2
    cases fR:act i with
    |true=>
     rw [fR] at hw;rw [if_pos hw];have h3:=oB fR;have iC:(!aG.contains i)=true:=by simpa using gV
     rw [iC] at h3;have fP:=jf t (c-i) i (by omega) (fun k h1 h2=>inv.jg k (by omega) (by omega))
     rw [show i+(c-i)=c by omega] at fP
     have oA:=jf t (c-(i+1)) (i+1) (by omega) (fun k h1 h2=>inv.jg k (by omega) (by omega))
     rw [show i+1+(c-(i+1))=c by omega] at oA
     refine .inl (VS.lz hE hX inv.out.st bC fP.1.1 ⟨oA.1.1,fun id h1 h2=>inv.none i oC gU hu id h1 h2⟩ h3 fun u w' ak A' k1 k2 k3=> ?_)
     refine ih _ _ _ _ _ _ _ _ (inv.lz dp dk t gU ho gV ha k1 (fun d' _ _=>k2) (fun id loc h=> ?_)) (by omega)
     rcases k3 id loc h with h|h
     ·exact .inl h
     ·exact .inr ⟨oC,gU,h⟩
    |false=>
     rw [fR] at hw;rw [if_neg (by rw [hw];simp)]
     obtain ⟨h4,h5⟩:=u9 fR;refine ih _ _ _ _ _ _ _ _ (inv.lz dp dk t gU ho gV ha (.refl inv.out.st) (fun d' _ _=>by rw [h4];exact .fr _ _ (.aD [] #[] rfl (by simp))) (fun id loc h=> .inl h)) (by omega)
theorem vf (dM:Exact X) (_hm:P.follows .mixedOrders=true) (hE: ∀t ti,C.E t=some ti→aU P t ti) (hX: ∀f ys H K,X f ys H K→b_ P f ys H K):mB P C X:=by
 intro ops aG th s0 H0 K Q w φ A a hd h ae hs hq;have dk:=B6 hd;obtain ⟨s,H,v,act,rfl,rfl,t⟩:=uU dM ops.toList 0 s0 H0 h;have aS:bM w (H 0) φ A {w with drawn:=w.drawn+1} (H 0) φ A:=⟨fun c arr T fr hc hn=>⟨⟨fr,hc⟩,hn⟩,Nat.le_refl _,fun id b h _=>⟨b,h,rfl,rfl,rfl,rfl,fun _ h=>h⟩,fun _ _=>rfl⟩;have kD:St {w with drawn:=w.drawn+1} (H 0) φ A:=by
  refine ⟨ae.inj,ae.own,ae.b7,fun id loc hl=> ?_⟩;obtain ⟨b,hb,af⟩:=ae.ap id loc hl;refine ⟨b,hb,af.ad,af.sized,af.aP,fun c b0 he=> ?_⟩;obtain ⟨arr,T,fr,k1,k2,k3,k4⟩:=af.here c b0 he;exact ⟨arr,T,fr,k1,k2,k3,fun i x j y v hx hy hv=>⟨(k4 i x j y v hx hy hv).1.mono aS,(k4 i x j y v hx hy hv).2⟩⟩
 have vg:Out w (H 0) φ A {w with drawn:=w.drawn+1} (H 0) φ A:=⟨kD,⟨rfl,rfl,rfl,Nat.le_refl _,fun _ _ _=>rfl,fun _ _=>rfl,fun _ h=> .inl h⟩,aS,fun _ h _=>h⟩;obtain ⟨c,k1,k2,k3,k4⟩:=rz aG ops.size (ops.size-0) 0 rfl (Nat.zero_le _);have iD:=jf t c 0 (by omega) (fun k h1 h2=>k4 k h1 (by omega))
 rw [Nat.zero_add] at iD;have hex:=jE kD iD.1.1 iD.2;refine Cq hE hX dk t ae hq ops.size _ a _ 0 c φ A (fun _=>0) ⟨by simp,fun i o ho hl=>by have dw:(Array.replicate ops.size false).getD i false=true:=hl;rw [getD_replicate_false] at dw;simp at dw,k1,k2,k3,k4,fun i _ _=>by rw [getD_replicate_false];simp,.inl rfl,vg.trans ae hex,fun i _ _ _ id h4 h5=> ?_,hs.fA,hs.len,fun k o d u _ _ hl=>by rw [getD_replicate_false] at hl;simp at hl,fun k _ hl=>by rw [getD_replicate_false] at hl;simp at hl,fun j k _ _ hl=>by rw [getD_replicate_false] at hl;simp at hl,fun x u _ hu=> ?_⟩ ?_
 ·refine ae.new ?_;rename_i h1 h2 h3;have:=(jf t i 0 (by omega) (fun k h1 h2=>k4 k h1 (by omega))).1.2
  rw [Nat.zero_add] at this;omega
 ·have hx:=(hs.mono (vg.bF.trans hex.bF (fun _ _=>rfl))).ev (.tmp x);simp only [ev,Act.eval] at hx;rw [Array.getD_eq_getD_getElem?,hu] at hx;exact hx
 ·unfold left;exact Nat.le_trans (List.length_filter_le _ _) (by simp)
end draw
end Go.VS
namespace Go.VS
section mono
variable {X X' :bK} {C:aJ} (hX: ∀f ys H (K K' :AV→J→Prop),(∀v H,K v H→K' v H)→X f ys H K→X' f ys H K')
include hX
theorem vh {f:FuncId} {args:List AV} {th:Bool} {H:J} {K K' :AV→J→Prop} (hK: ∀v H,K v H→K' v H) (h:dU X C f args th H K):dU X' C f args th H K' :=by
 unfold dU at h⊢;split at h
 ·exact h.elim
 rename_i ys b6 hy;obtain ⟨y,h1,h2,h3⟩:=h;refine ⟨y,hX _ _ _ _ _ (fun _ _ h=>h) h1,h2,?_⟩;split at h3
 ·rename_i ht;rw [if_pos ht];exact hK _ _ h3
 ·rename_i ht;rw [if_neg ht];exact hK _ _ h3
theorem jh {q th:Bool} {o:Oper} {s:ah} {H:J} {K K' :AV→J→Prop} (hK: ∀v H,K v H→K' v H) (h:wpOp X C q th o s H K):wpOp X' C q th o s H K' :=by
 unfold wpOp at h⊢;split at h
 ·obtain ⟨hq,h⟩:=h;refine ⟨hq,?_⟩;split at h
  ·exact hK _ _ h
  ·exact h.elim
 ·split at h
  ·cases q with
   |true=>exact vh hX hK h
   |false=>
    rcases h with h|h
    ·exact .inl (hX _ _ _ _ _ hK h)
    ·exact .inr (vh hX hK h)
  ·exact h.elim
 ·obtain ⟨hq,h⟩:=h;refine ⟨hq,?_⟩;split at h
  ·exact hK _ _ h
  ·exact h.elim
omit hX in
theorem mL {ops:Array Oper} {s:ah} {H:J} {K K' :Prop} (hK:K→K'): ∀(l:List Nat),fX C ops s H K l→fX C ops s H K' l
 |[],h=>hK h
 |_j::js,h=>⟨h.1,mL hK js h.2⟩
theorem oF {ops:Array Oper} {q:Nat→Bool} {late:Nat→List Nat} {th:List Nat} {K K' :ah→J→Prop} (hK: ∀s H,K s H→K' s H): ∀(l:List Oper) (i:Nat) (s:ah) (H:J),dt X C ops q late th K l i s H→dt X' C ops q late th K' l i s H
 |[],i,s,H,h=>hK s H h
 |o::rest,i,s,H,h=>by
  simp only [dt] at h⊢;cases hg:o.guard with
  |none=>
   rw [hg] at h;exact jh hX (fun v H' hv=>mL (oF hK rest (i+1) _ _) _ hv) h
  |some p=>
   rw [hg] at h;obtain ⟨v,H',h1,h2⟩:=h;refine ⟨v,H',?_,mL (oF hK rest (i+1) _ _) _ h2⟩;split at h1
   ·split at h1
    ·rename_i hb;simp only [hb,if_true];exact jh hX (fun _ _ h=>h) h1
    ·rename_i hb;simp only [hb];exact h1
   ·exact h1.elim
theorem oG {ops:Array Oper} {th:List Nat} {fz:List (Nat×List (List Nat×List Sh))} {K K' :ah→J→Prop} (hK: ∀s H,K s H→K' s H): ∀(l:List Oper) (i:Nat) (s:ah) (H:J),c7 X C ops th fz K l i s H→c7 X' C ops th fz K' l i s H
 |[],i,s,H,h=>hK s H h
 |o::rest,i,s,H,h=>by
  simp only [c7] at h⊢;obtain ⟨s1,H1,hf,h⟩:=h;refine ⟨s1,H1,hf,?_⟩;cases hg:o.guard with
  |none=>
   rw [hg] at h;exact jh hX (fun v H' hv=>oG hK rest (i+1) _ _ hv) h
  |some p=>
   rw [hg] at h;obtain ⟨v,H',h1,h2⟩:=h;refine ⟨v,H',?_,oG hK rest (i+1) _ _ h2⟩;split at h1
   ·split at h1
    ·rename_i hb;simp only [hb,if_true];exact jh hX (fun _ _ h=>h) h1
    ·rename_i hb;simp only [hb];exact h1
   ·exact h1.elim
theorem dO: ∀(c:AC) (s:ah) (H:J) (K K' :Ex→ah→J→Prop),(∀e s H,K e s H→K' e s H)→aH X C c s H K→aH X' C c s H K' :=by
 intro c;induction c with
 |skip=>intro s H K K' hK h;exact hK _ _ _ h
 |ret=>intro s H K K' hK h;exact hK _ _ _ h
 |exit id=>intro s H K K' hK h;exact hK _ _ _ h
 |seq a b gW fQ=>
  intro s H K K' hK h
  simp only [aH] at h⊢;refine gW s H _ _ (fun e s' H' h=> ?_) h
  cases e with
  |normal=>exact fQ s' H' K K' hK h
  |exit id=>exact hK _ _ _ h
  |ret=>exact hK _ _ _ h
 |cond c a b gW fQ=>
  intro s H K K' hK h
  simp only [aH] at h⊢;split at h
  ·split at h
   ·rename_i hb;simp only [hb,if_true];exact gW s H K K' hK h
   ·rename_i hb;simp only [hb];exact fQ s H K K' hK h
  ·exact h.elim
 |block id keep a ih=>
  intro s H K K' hK h
  simp only [aH] at h⊢;refine ih s H _ _ (fun e s' H' h=> ?_) h
  cases e with
  |normal=>exact hK _ _ _ h
  |ret=>exact hK _ _ _ h
  |exit j=>
   simp only at h⊢;split at h
   ·rename_i hj;rw [if_pos hj];exact hK _ _ _ h
   ·rename_i hj;rw [if_neg hj];exact hK _ _ _ h
 |loop sp a ih=>
  intro s H K K' hK h
  simp only [aH] at h⊢;intro Y hY;refine h Y fun s' H' hB=>hY s' H' (ih s' H' _ _ (fun e s2 H2 h=> ?_) hB)
  cases e with
  |normal=>exact h
  |exit id=>exact hK _ _ _ h
  |ret=>exact hK _ _ _ h
 |kV x T t u sp a ih=>
  intro s H K K' hK h
  simp only [aH] at h⊢;split at h
  ·refine ⟨h.1,h.2.1,fun Y hY=>h.2.2 Y fun n s' H' hB=>hY n s' H' (ih _ H' _ _ (fun e s2 H2 h=> ?_) hB)⟩
   cases e with
   |normal=>exact h
   |exit id=>exact hK _ _ _ h
   |ret=>exact hK _ _ _ h
  ·exact h
 |region id ops draw aG th fz=>
  intro s H K K' hK h
  cases draw with
  |true=>
   simp only [aH] at h⊢;exact ⟨h.1,oF hX (fun s H h=>hK _ s H h) _ _ _ _ h.2⟩
  |false=>
   simp only [aH] at h⊢;exact oG hX (fun s H h=>hK _ s H h) _ _ _ _ h
 |gB l kp=>
  intro s H K K' hK h
  simp only [aH] at h⊢;split at h
  ·exact hK _ _ _ h
  ·exact h
 |bad=>intro s H K K' hK h;exact h
end mono
def Up (X:bK):Prop:= ∀f ys H (K K' :AV→J→Prop),(∀v H,K v H→K' v H)→X f ys H K→X f ys H K'
theorem j6.round {X:bK} (hU:Up X) {C:aJ} {c:AC} {f:Nat→ah→ah} {lU:Nat→Nat} {next:ah→J→ah×J} {K:Ex→ah→J→Prop} {n:Nat} {s:ah} {H:J}
 (h:aH X C c (f n s) H (fun e s' H' =>match e with
  | .normal=>j6 (fun n s H K=>aH X C c (f n s) H K) lU next K (lU n) (next s' H').1 (next s' H').2
  |e=>K e s' H')):j6 (fun n s H K=>aH X C c (f n s) H K) lU next K n s H:=by
 intro Y hY;refine hY n s H (dO hU c _ H _ _ (fun e s' H' h=> ?_) h)
 cases e with
 |normal=>exact h Y hY
 |exit id=>exact h
 |ret=>exact h
theorem j0.round {X:bK} (hU:Up X) {C:aJ} {c:AC} {next:ah→J→ah×J} {K:Ex→ah→J→Prop} {s:ah} {H:J}
 (h:aH X C c s H (fun e s' H' =>match e with
  | .normal=>j0 (aH X C c) next K (next s' H').1 (next s' H').2
  |e=>K e s' H')):j0 (aH X C c) next K s H:=by
 intro Y hY;refine hY s H (dO hU c s H _ _ (fun e s' H' h=> ?_) h)
 cases e with
 |normal=>exact h Y hY
 |exit id=>exact h
 |ret=>exact h
theorem vi {X:bK} {C:aJ} (hU:Up X) (dM:Exact X) {ops:Array Oper} {q:Nat→Bool} {late:Nat→List Nat} {th:List Nat} {K:ah→J→Prop}: ∀(l:List Oper) (i:Nat) (s:ah) (H:J),dt X C ops q late th K l i s H→ ∃s' H',dt X C ops q late th (fun s1 H1=>s1=s' ∧H1=H') l i s H∧K s' H'
 |[],i,s,H,h=>⟨s,H,⟨rfl,rfl⟩,h⟩
 |o::rest,i,s,H,h=>by
  have vj: ∀(ls:List Nat) (s1:ah) (H1:J),fX C ops s1 H1 (dt X C ops q late th K rest (i+1) s1 H1) ls→ ∃s' H',fX C ops s1 H1 (dt X C ops q late th (fun s1 H1=>s1=s' ∧H1=H') rest (i+1) s1 H1) ls∧K s' H' :=by
   intro ls s1 H1 h;obtain ⟨h1,h2⟩:=ol _ _ _ _ _ _ h;obtain ⟨s',H',h3,h4⟩:=vi hU dM rest (i+1) s1 H1 h2;refine ⟨s',H',?_,h4⟩;clear h h2 h4;induction ls with
   |nil=>exact h3
   |cons j js ih=>exact ⟨h1 j (by simp),ih fun k hk=>h1 k (by simp [hk])⟩
  simp only [dt] at h⊢;cases hg:o.guard with
  |none=>
   rw [hg] at h;simp only at h⊢;obtain ⟨v,H1,h1,h2⟩:=mG dM h;obtain ⟨s',H',h3,h4⟩:=vj _ _ _ h2;exact ⟨s',H',jh hU (fun v1 H2 e=>by obtain ⟨rfl,rfl⟩:=e;exact h3) h1,h4⟩
  |some p=>
   rw [hg] at h;simp only at h⊢;obtain ⟨v,H1,h1,h2⟩:=h;obtain ⟨s',H',h3,h4⟩:=vj _ _ _ h2;exact ⟨s',H',⟨v,H1,h1,h3⟩,h4⟩
theorem rF {X:bK} {C:aJ} (hU:Up X) (dM:Exact X) {ops:Array Oper} {th:List Nat} {fz:List (Nat×List (List Nat×List Sh))} {K:ah→J→Prop}: ∀(l:List Oper) (i:Nat) (s:ah) (H:J),c7 X C ops th fz K l i s H→ ∃s' H',c7 X C ops th fz (fun s1 H1=>s1=s' ∧H1=H') l i s H∧K s' H'
 |[],i,s,H,h=>⟨s,H,⟨rfl,rfl⟩,h⟩
 |o::rest,i,s,H,h=>by
  simp only [c7] at h⊢;obtain ⟨s0,H0,hf,h⟩:=h;cases hg:o.guard with
  |none=>
   rw [hg] at h;simp only at h⊢;obtain ⟨v,H1,h1,h2⟩:=mG dM h;obtain ⟨s',H',h3,h4⟩:=rF hU dM rest (i+1) _ _ h2;exact ⟨s',H',⟨s0,H0,hf,jh hU (fun v1 H2 e=>by obtain ⟨rfl,rfl⟩:=e;exact h3) h1⟩,h4⟩
  |some p=>
   rw [hg] at h;simp only at h⊢;obtain ⟨v,H1,h1,h2⟩:=h;obtain ⟨s',H',h3,h4⟩:=rF hU dM rest (i+1) _ _ h2;exact ⟨s',H',⟨s0,H0,hf,v,H1,h1,h3⟩,h4⟩
theorem Ct {X:bK} {C:aJ} (hU:Up X) (dM:Exact X): ∀(c:AC) (s:ah) (H:J) (K:Ex→ah→J→Prop),aH X C c s H K→ ∃e s' H',aH X C c s H (fun e1 s1 H1=>e1=e∧s1=s' ∧H1=H')∧K e s' H' :=by
 intro c;induction c with
 |skip=>intro s H K h;exact ⟨_,_,_,⟨rfl,rfl,rfl⟩,h⟩
 |ret=>intro s H K h;exact ⟨_,_,_,⟨rfl,rfl,rfl⟩,h⟩
 |exit id=>intro s H K h;exact ⟨_,_,_,⟨rfl,rfl,rfl⟩,h⟩
 |seq a b gW fQ=>
  intro s H K h;simp only [aH] at h⊢;obtain ⟨e,s1,H1,h1,h2⟩:=gW s H _ h;cases e with
  |normal=>
   obtain ⟨e,s2,H2,h3,h4⟩:=fQ s1 H1 K h2;exact ⟨e,s2,H2,dO hU a s H _ _ (fun e1 s' H' q=>by obtain ⟨rfl,rfl,rfl⟩:=q;exact h3) h1,h4⟩
  |exit id=>exact ⟨.exit id,s1,H1,dO hU a s H _ _ (fun e1 s' H' q=>by obtain ⟨rfl,rfl,rfl⟩:=q;exact ⟨rfl,rfl,rfl⟩) h1,h2⟩
  |ret=>exact ⟨.ret,s1,H1,dO hU a s H _ _ (fun e1 s' H' q=>by obtain ⟨rfl,rfl,rfl⟩:=q;exact ⟨rfl,rfl,rfl⟩) h1,h2⟩
 |cond c a b gW fQ=>
  intro s H K h;simp only [aH] at h⊢;split at h
  ·split at h
   ·rename_i hb;simp only [hb,if_true];exact gW s H K h
   ·rename_i hb;simp only [hb];exact fQ s H K h
  ·exact h.elim
 |block id keep a ih=>
  intro s H K h;simp only [aH] at h⊢;obtain ⟨e,s1,H1,h1,h2⟩:=ih s H _ h;cases e with
  |normal=>exact ⟨.normal,eZ keep s1,H1,dO hU a s H _ _ (fun e1 s' H' q=>by obtain ⟨rfl,rfl,rfl⟩:=q;exact ⟨rfl,rfl,rfl⟩) h1,h2⟩
  |ret=>exact ⟨.ret,s1,H1,dO hU a s H _ _ (fun e1 s' H' q=>by obtain ⟨rfl,rfl,rfl⟩:=q;exact ⟨rfl,rfl,rfl⟩) h1,h2⟩
  |exit j=>
   simp only at h2;split at h2
   ·rename_i hj;exact ⟨.normal,eZ keep s1,H1,dO hU a s H _ _ (fun e1 s' H' q=>by obtain ⟨rfl,rfl,rfl⟩:=q;simp [hj]) h1,h2⟩
   ·rename_i hj;exact ⟨.exit j,s1,H1,dO hU a s H _ _ (fun e1 s' H' q=>by obtain ⟨rfl,rfl,rfl⟩:=q;simp [hj]) h1,h2⟩
 |loop sp a ih=>
  intro s H K h;simp only [aH] at h⊢;refine h (fun s1 H1=> ∃e s' H',j0 (aH X C a) (fq sp H.bs.length) (fun e1 s2 H2=>e1=e∧s2=s' ∧H2=H') s1 H1∧K e s' H') fun s1 H1 hB=> ?_
  obtain ⟨e,s2,H2,h1,h2⟩:=ih s1 H1 _ hB;cases e with
  |normal=>
   obtain ⟨e,s',H',h3,h4⟩:=h2;exact ⟨e,s',H',.round hU (dO hU a s1 H1 _ _ (fun e1 s' H' q=>by obtain ⟨rfl,rfl,rfl⟩:=q;exact h3) h1),h4⟩
  |exit id=>exact ⟨_,_,_,.round hU (dO hU a s1 H1 _ _ (fun e1 s' H' q=>by obtain ⟨rfl,rfl,rfl⟩:=q;exact ⟨rfl,rfl,rfl⟩) h1),h2⟩
  |ret=>exact ⟨_,_,_,.round hU (dO hU a s1 H1 _ _ (fun e1 s' H' q=>by obtain ⟨rfl,rfl,rfl⟩:=q;exact ⟨rfl,rfl,rfl⟩) h1),h2⟩
 |kV x T t u sp a ih=>
  intro s H K h;simp only [aH] at h⊢;split at h
  ·rename_i ti l _ _;obtain ⟨h0,ji,h⟩:=h;have:=h (fun n s1 H1=> ∃e s' H',j6 (fun n s H K=>aH X C a (s.set u (eM l n)) H K) (j7 l) (fq sp H.bs.length) (fun e1 s2 H2=>e1=e∧s2=s' ∧H2=H') n s1 H1∧K e s' H') fun n s1 H1 hB=>by
    obtain ⟨e,s2,H2,h1,h2⟩:=ih _ H1 _ hB;cases e with
    |normal=>
     obtain ⟨e,s',H',h3,h4⟩:=h2;exact ⟨e,s',H',.round hU (f:=fun n s=>s.set u (eM l n)) (dO hU a _ H1 _ _ (fun e1 s' H' q=>by obtain ⟨rfl,rfl,rfl⟩:=q;exact h3) h1),h4⟩
    |exit id=>exact ⟨_,_,_,.round hU (f:=fun n s=>s.set u (eM l n)) (dO hU a _ H1 _ _ (fun e1 s' H' q=>by obtain ⟨rfl,rfl,rfl⟩:=q;exact ⟨rfl,rfl,rfl⟩) h1),h2⟩
    |ret=>exact ⟨_,_,_,.round hU (f:=fun n s=>s.set u (eM l n)) (dO hU a _ H1 _ _ (fun e1 s' H' q=>by obtain ⟨rfl,rfl,rfl⟩:=q;exact ⟨rfl,rfl,rfl⟩) h1),h2⟩
   obtain ⟨e,s',H',h1,h2⟩:=this;exact ⟨e,s',H',⟨h0,ji,h1⟩,h2⟩
  ·exact h.elim
 |region id ops draw aG th fz=>
  intro s H K h;cases draw with
  |true=>
   simp only [aH] at h⊢;obtain ⟨s',H',h1,h2⟩:=vi hU dM _ _ _ _ h.2;exact ⟨.normal,s',H',⟨h.1,oF hU (fun s H q=>⟨rfl,q⟩) _ _ _ _ h1⟩,h2⟩
  |false=>
   simp only [aH] at h⊢;obtain ⟨s',H',h1,h2⟩:=rF hU dM _ _ _ _ h;exact ⟨.normal,s',H',oG hU (fun s H q=>⟨rfl,q⟩) _ _ _ _ h1,h2⟩
 |gB l kp=>
  intro s H K h;simp only [aH] at h⊢;split at h
  ·rename_i s' H' he;exact ⟨_,_,_,⟨rfl,rfl,rfl⟩,h⟩
  ·exact h.elim
 |bad=>intro s H K h;exact h.elim
theorem fu.mono {E:aK} {res:List ResultVar} {K K' :AV→J→Prop} (hK: ∀v H,K v H→K' v H): ∀e s H,fu E res K e s H→fu E res K' e s H
 | .normal,_,_,⟨rs,h1,h2⟩=>⟨rs,h1,hK _ _ h2⟩
 | .ret,_,_,⟨rs,h1,h2⟩=>⟨rs,h1,hK _ _ h2⟩
 | .exit _,_,_,h=>h
theorem fu.exact {E:aK} {res:List ResultVar} {K:AV→J→Prop}: ∀e s H,fu E res K e s H→ ∃v H',fu E res (fun v1 H1=>v1=v∧H1=H') e s H∧K v H'
 | .normal,_,_,⟨rs,h1,h2⟩=>⟨_,_,⟨rs,h1,rfl,rfl⟩,h2⟩
 | .ret,_,_,⟨rs,h1,h2⟩=>⟨_,_,⟨rs,h1,rfl,rfl⟩,h2⟩
 | .exit _,_,_,h=>h.elim
theorem vk {X:bK} {C:aJ} (hU:Up X) (dM:Exact X) {f:FuncId} {ys:List AV} {H:J} {K:AV→J→Prop} (h:Body X C f ys H K): ∃v H',Body X C f ys H (fun v1 H1=>v1=v∧H1=H')∧K v H' :=by
 unfold Body at h⊢;split at h
 ·exact h.elim
 ·rename_i fn l4;split at h
  ·exact h.elim
  ·rename_i c hc;obtain ⟨e,s',H',h1,h2⟩:=Ct hU dM _ _ _ _ h;obtain ⟨v,H2,h3,h4⟩:=fu.exact _ _ _ h2;refine ⟨v,H2,?_,h4⟩;exact dO hU _ _ _ _ _ (fun e1 s1 H1 q=>by obtain ⟨rfl,rfl,rfl⟩:=q;exact h3) h1
theorem Body.mono {X X' :bK} {C:aJ} (hX: ∀f ys H (K K' :AV→J→Prop),(∀v H,K v H→K' v H)→X f ys H K→X' f ys H K') {f:FuncId} {ys:List AV} {H:J} {K K' :AV→J→Prop} (hK: ∀v H,K v H→K' v H) (h:Body X C f ys H K):Body X' C f ys H K' :=by
 unfold Body at h⊢;split at h
 ·exact h.elim
 ·rename_i fn l4;split at h
  ·exact h.elim
  ·rename_i c hc;exact dO hX _ _ _ _ _ (fu.mono hK) h
def oH (C:aJ):Prop:=Up C.ext
theorem aq.up {C:aJ} (hE:oH C):Up (aq C):=by
 intro f ys H K K' hK h
 refine h (fun f ys H K=> ∀K',(∀v H,K v H→K' v H)→aq C f ys H K') ⟨fun f ys H K h K' hK X hX=>hX.1 _ _ _ _ (hE _ _ _ _ _ hK h),fun f ys H K h K' hK X hX=> ?_⟩ K' hK
 refine hX.2 _ _ _ _ (Body.mono (fun f ys H K K2 Cu h=> ?_) hK h);exact h K2 Cu X hX
theorem aq.intro {C:aJ} (hE:oH C) {f:FuncId} {ys:List AV} {H:J} {K:AV→J→Prop} (h:Body (aq C) C f ys H K):aq C f ys H K:=by
 intro X hX;refine hX.2 _ _ _ _ (Body.mono (fun f ys H K K' hK hc=> ?_) (fun _ _ h=>h) h)
 exact aq.up hE _ _ _ _ _ hK hc X hX
theorem aq.exact {C:aJ} (hE:oH C) (hX:Exact C.ext):Exact (aq C):=by
 intro f ys H K h;refine h (fun f ys H K=> ∃v H',aq C f ys H (fun v1 H1=>v1=v∧H1=H')∧K v H') ⟨fun f ys H K h=> ?_,fun f ys H K h=> ?_⟩
 ·obtain ⟨v,H',h1,h2⟩:=hX _ _ _ _ h;exact ⟨v,H',fun X hX=>hX.1 _ _ _ _ h1,h2⟩
 ·obtain ⟨v,H',h1,h2⟩:=vk (X:=fun f ys H K=> ∃v H',aq C f ys H (fun v1 H1=>v1=v∧H1=H')∧K v H') (fun f ys H K K' hK ⟨v,H',h1,h2⟩=>⟨v,H',h1,hK _ _ h2⟩) (fun f ys H K ⟨v,H',h1,h2⟩=>⟨v,H',⟨v,H',h1,rfl,rfl⟩,h2⟩) h
  refine ⟨v,H',aq.intro hE (Body.mono (fun f ys H K K' hK ⟨v,H',h1,h2⟩=> ?_) (fun _ _ h=>h) h1),h2⟩
  exact aq.up hE _ _ _ _ _ (fun v1 H1 q=>by obtain ⟨rfl,rfl⟩:=q;exact hK _ _ h2) h1
theorem aq.ext {C:aJ} {f:FuncId} {ys:List AV} {H:J} {K:AV→J→Prop} (h:C.ext f ys H K):aq C f ys H K:=fun _ hX=>hX.1 _ _ _ _ h
theorem Ep {P:Program} {C:aJ} (hm:P.follows .mixedOrders=true) (hE: ∀t ti,C.E t=some ti→aU P t ti) (hC: ∀f fn,C.code f=some fn→P.funcs[f]? =some fn∧(fn.name== "runtime.NumGoroutine")=false∧pw (C.fU f) fn=true)
 (Cv: ∀f ys H K,C.ext f ys H K→ ∃v H',b_ P f ys H (fun v1 H1=>v1=v∧H1=H')∧K v H')
 {f:FuncId} {ys:List AV} {H:J} {K:AV→J→Prop} (h:aq C f ys H K):b_ P f ys H K:=by
 have hY: ∃v H',b_ P f ys H (fun v1 H1=>v1=v∧H1=H')∧K v H' :=by
  let Y:bK:=fun f ys H K=> ∃v H',b_ P f ys H (fun v1 H1=>v1=v∧H1=H')∧K v H'
  have vl:Exact Y:=fun f ys H K ⟨v,H',h1,h2⟩=>⟨v,H',⟨v,H',h1,rfl,rfl⟩,h2⟩;have Cw:Up Y:=fun f ys H K K' hK ⟨v,H',h1,h2⟩=>⟨v,H',h1,hK _ _ h2⟩
  have vm: ∀f ys H K,Y f ys H K→b_ P f ys H K:=fun f ys H K ⟨v,H',h1,h2⟩=>h1.mono fun v1 H1 q=>by obtain ⟨rfl,rfl⟩:=q;exact h2
  refine h Y ⟨Cv,fun f ys H K hb=> ?_⟩;obtain ⟨v,H',h1,h2⟩:=vk Cw vl hb;exact ⟨v,H',BW hm hE hC vm (vf vl hm hE vm) h1,h2⟩
 obtain ⟨v,H',h1,h2⟩:=hY;exact h1.mono fun v1 H1 q=>by obtain ⟨rfl,rfl⟩:=q;exact h2
end Go.VS
namespace Go.VS
structure Good (C:aJ):Prop where
 up:oH C
 exact:Exact C.ext
def mM (C:aJ) (b:AC) (K:Ex→ah→J→Prop):Ex→ah→J→Prop
 | .normal,s,H=>aH (aq C) C b s H K
 | .exit i,s,H=>K (.exit i) s H
 | .ret,s,H=>K .ret s H
def kE (id:Nat) (keep:Option (List Nat)) (K:Ex→ah→J→Prop):Ex→ah→J→Prop
 | .normal,s,H=>K .normal (eZ keep s) H
 | .exit j,s,H=>if j=id then K .normal (eZ keep s) H else K (.exit j) s H
 | .ret,s,H=>K .ret s H
def vn (C:aJ) (v:AV) (a b:AC) (s:ah) (H:J) (K:Ex→ah→J→Prop):Prop:=
 match v with
 | .bool t=>if t then aH (aq C) C a s H K else aH (aq C) C b s H K
 |_=>False
section
variable {C:aJ} {K K1:Ex→ah→J→Prop} {s:ah} {H:J}
theorem Er {a b:AC} (h: ∀K1,K1=mM C b K→aH (aq C) C a s H K1):aH (aq C) C (.seq a b) s H K:=by
 have:=h _ rfl;have e:mM C b K=(fun e s' H' =>match e with| .normal=>aH (aq C) C b s' H' K|e=>K e s' H'):=by
  funext e s H;cases e<;>rfl
 rw [e] at this;exact this
theorem Es {id:Nat} {kp:Option (List Nat)} {a:AC} (h: ∀K1,K1=kE id kp K→aH (aq C) C a s H K1):aH (aq C) C (.block id kp a) s H K:=by
 have:=h _ rfl;have e:kE id kp K=(fun e s' H' =>match e with
  | .exit j=>if j=id then K .normal (eZ kp s') H' else K (.exit j) s' H'
  | .normal=>K .normal (eZ kp s') H'
  | .ret=>K .ret s' H'):=by funext e s H;cases e<;>rfl
 rw [e] at this;exact this
theorem Et (h:K .normal s H):aH (aq C) C .skip s H K:=h
theorem Eu (h:K .ret s H):aH (aq C) C .ret s H K:=h
theorem Ev {id:Nat} (h:K (.exit id) s H):aH (aq C) C (.exit id) s H K:=h
theorem Ew {c:Operand} {a b:AC} (h:vn C (ev s c) a b s H K):aH (aq C) C (.cond c a b) s H K:=h
theorem Cx {l:List (List Nat×List Sh)} {kp:Option (List Nat)} {s' :ah} {H' :J} (he:de l s H=some (s',H')) (h:K .normal (eZ kp s') H'):aH (aq C) C (.gB l kp) s H K:=by
 simp only [aH,he];exact h
theorem Ey {kp:List Nat} (h:K .normal (eu kp s) H):aH (aq C) C (.gB [] (some kp)) s H K:=h
theorem Ez {b:AC} (hK:K1=mM C b K) (h:aH (aq C) C b s H K):K1 .normal s H:=by rw [hK];exact h
theorem EA {b:AC} (hK:K1=mM C b K) (h:K .ret s H):K1 .ret s H:=by rw [hK];exact h
theorem EB {b:AC} {i:Nat} (hK:K1=mM C b K) (h:K (.exit i) s H):K1 (.exit i) s H:=by rw [hK];exact h
theorem EC {id:Nat} {kp:Option (List Nat)} (hK:K1=kE id kp K) (h:K .normal (eZ kp s) H):K1 .normal s H:=by rw [hK];exact h
theorem ED {id:Nat} (hK:K1=kE id none K) (h:K .normal s H):K1 .normal s H:=by rw [hK];exact h
theorem EE {id:Nat} {kp:Option (List Nat)} (hK:K1=kE id kp K) (h:K .normal (eZ kp s) H):K1 (.exit id) s H:=by rw [hK];simp only [kE,if_true];exact h
theorem EF {id:Nat} {kp:Option (List Nat)} (hK:K1=kE id kp K) (h:K .ret s H):K1 .ret s H:=by rw [hK];exact h
theorem EG {E:aK} {res:List ResultVar} {P:AV→J→Prop} {rs:List AV} (hK:K1=fu E res P) (hr:ef E s H res=some rs) (h:P (ci rs) H):K1 .ret s H:=by rw [hK];exact ⟨rs,hr,h⟩
theorem EH {E:aK} {a:Tmp} {P:AV→J→Prop} (hK:K1=fu E [.tmp a] P) {x:AV} (hx:s.getD a .undef=x) (h:P x H):K1 .ret s H:=by
 rw [hK];exact ⟨[s.getD a .undef],rfl,by rw [hx];exact h⟩
theorem EI {E:aK} {a b:Tmp} {P:AV→J→Prop} (hK:K1=fu E [.tmp a,.tmp b] P) {x y:AV} (hx:s.getD a .undef=x) (hy:s.getD b .undef=y) (h:P (.aD [x,y]) H):K1 .ret s H:=by
 rw [hK];exact ⟨[s.getD a .undef,s.getD b .undef],rfl,by rw [hx,hy];exact h⟩
theorem EJ {E:aK} {a b c:Tmp} {P:AV→J→Prop} (hK:K1=fu E [.tmp a,.tmp b,.tmp c] P) {x y z:AV} (hx:s.getD a .undef=x) (hy:s.getD b .undef=y) (hz:s.getD c .undef=z) (h:P (.aD [x,y,z]) H):K1 .ret s H:=by
 rw [hK];exact ⟨[s.getD a .undef,s.getD b .undef,s.getD c .undef],rfl,by rw [hx,hy,hz];exact h⟩
theorem EK {α :Type} {c:Bool} {x y:Option α} {r: α} {a b:AC} (h:(bif c then x else y)=some r) (ht:c=true→x=some r→aH (aq C) C a s H K) (hf:c=false→y=some r→aH (aq C) C b s H K):vn C (.bool c) a b s H K:=by
 cases c with
 |true=>exact ht rfl h
 |false=>exact hf rfl h
theorem Cy {a:AC} (h:aH (aq C) C a s H K1) (hK: ∀e s H,K1 e s H→K e s H) (gC:Good C):aH (aq C) C a s H K:=dO (aq.up gC.up) a s H _ _ hK h
end
structure GO where
 d:Option Tmp
 op:Op
 g:Option (Option Tmp×Bool)
 late:List (Op×Option Tmp)
 th:Bool
 q:Bool
def lk:List Oper→Nat→Option Tmp
 |[],_=>none
 |o::_,0=>o.dst
 |_::os,n+1=>lk os n
def bh (X:bK) (C:aJ) (q hZ:Bool) (op:Op) (s:ah) (H:J) (K:AV→J→Prop):Prop:=wpOp X C q hZ ⟨none,op,0,"",#[],none⟩ s H K
theorem vo (X:bK) (C:aJ) (q hZ:Bool) (o:Oper) (s:ah) (H:J) (K:AV→J→Prop):wpOp X C q hZ o s H K=bh X C q hZ o.op s H K:=by
 cases o;rfl
def eH (C:aJ) (s:ah) (H:J) (K:Prop):List (Op×Option Tmp)→Prop
 |[]=>K
 |(op,d)::js=>(∃t,d=some t∧fJ C.E op s H=some (s.getD t .undef,H))∧eH C s H K js
def i_ (g:Option (Option Tmp×Bool)) (s:ah) (a b:Prop):Prop:=
 match g with
 |none=>a
 |some (none,_)=>False
 |some (some t,want)=>match s.getD t .undef with
  | .bool c=>if c=want then a else b
  | .aD _=>b
  |_=>False
def eU (C:aJ) (K:ah→J→Prop):List GO→ah→J→Prop
 |[],s,H=>K s H
 |o::rest,s,H=>i_ o.g s (bh (aq C) C o.q o.th o.op s H fun v H' =>eH C (bw s o.d v) H' (eU C K rest (bw s o.d v) H') o.late)
  (eH C (bw s o.d (.aD [])) H (eU C K rest (bw s o.d (.aD [])) H) o.late)
def lD (ops:List Oper) (j:Nat):Op×Option Tmp:=match ops[j]? with|some o=>(o.op,o.dst)|none=>(.move (.tmp 0),none)
def eI (all:List Oper) (q:Nat→Bool) (late:Nat→List Nat) (th:List Nat):List Oper→Nat→List GO
 |[],_=>[]
 |o::rest,i=>⟨o.dst,o.op,o.guard.map fun p=>(lk all p.1,p.2),(late i).map (lD all),th.contains i,q i⟩::eI all q late th rest (i+1)
theorem rG: ∀(l:List Oper) (j:Nat),lk l j=(l[j]?).bind (·.dst)
 |[],j=>by simp [lk]
 |o::os,0=>by simp [lk]
 |o::os,j+1=>by simp [lk,rG os j]
theorem rH {C:aJ} {ops:Array Oper} {s:ah} {H:J} {K:Prop}: ∀(l:List Nat),eH C s H K (l.map (lD ops.toList))→fX C ops s H K l
 |[],h=>h
 |j::js,h=>by
  simp only [List.map_cons,eH] at h;refine ⟨?_,rH js h.2⟩;unfold kX;have h1:=h.1;unfold lD at h1;rw [Array.getElem?_toList] at h1;cases ho:ops[j]? with
  |none=>rw [ho] at h1;simp at h1
  |some o=>
   rw [ho] at h1;obtain ⟨t,ht,he⟩:=h1;simp only at ht he⊢;rw [ht];exact he
theorem oI {C:aJ} (gC:Good C) {ops:Array Oper} {q:Nat→Bool} {late:Nat→List Nat} {th:List Nat} {K:ah→J→Prop}: ∀(l:List Oper) (i:Nat) (s:ah) (H:J),eU C K (eI ops.toList q late th l i) s H→dt (aq C) C ops q late th K l i s H
 |[],i,s,H,h=>h
 |o::rest,i,s,H,h=>by
  simp only [eI,eU] at h;have yes:(bh (aq C) C (q i) (th.contains i) o.op s H fun v H' =>eH C (bw s o.dst v) H' (eU C K (eI ops.toList q late th rest (i+1)) (bw s o.dst v) H') ((late i).map (lD ops.toList)))→
   wpOp (aq C) C (q i) (th.contains i) o s H fun v H' =>fX C ops (bw s o.dst v) H' (dt (aq C) C ops q late th K rest (i+1) (bw s o.dst v) H') (late i):=by
   intro h;rw [←vo] at h;refine jh (aq.up gC.up) (fun v H' h=> ?_) h
   exact mL (oI gC rest (i+1) _ _) _ (rH _ h)
  simp only [dt];cases hg:o.guard with
  |none=>
   rw [hg] at h;simp only [Option.map_none,i_] at h⊢;exact yes h
  |some p=>
   obtain ⟨j,want⟩:=p;rw [hg] at h;simp only [Option.map_some,rG,Array.getElem?_toList] at h⊢;cases hd:(ops[j]?).bind (·.dst) with
   |none=>rw [hd] at h;exact h.elim
   |some t=>
    rw [hd] at h;simp only [i_] at h;have no:(eH C (bw s o.dst (.aD [])) H (eU C K (eI ops.toList q late th rest (i+1)) (bw s o.dst (.aD [])) H) ((late i).map (lD ops.toList)))→dV ops o s=some false→ ∃v H',(match dV ops o s with
     |some b=>if b then wpOp (aq C) C (q i) (th.contains i) o s H (fun v1 H1=>v1=v∧H1=H') else v= .aD []∧H' =H
     |none=>False)∧fX C ops (bw s o.dst v) H' (dt (aq C) C ops q late th K rest (i+1) (bw s o.dst v) H') (late i):=by
     intro h hb;refine ⟨.aD [],H,?_,mL (oI gC rest (i+1) _ _) _ (rH _ h)⟩;rw [hb];simp
    split at h
    ·rename_i c hc;have mN:dV ops o s=some (c==want):=by
      unfold dV;rw [hg];simp only [hd,hc]
     split at h
     ·rename_i kF;obtain ⟨v,H',h1,h2⟩:=mG (aq.exact gC.up gC.exact) (yes h);refine ⟨v,H',?_,h2⟩;rw [mN,kF];simp only [beq_self_eq_true,if_true];exact h1
     ·rename_i kF;exact no h (by rw [mN];simpa using kF)
    ·rename_i hc;exact no h (by unfold dV;rw [hg];simp only [hd,hc])
    ·exact h.elim
section
variable {C:aJ} {K K1:Ex→ah→J→Prop} {s:ah} {H:J}
def jP (K:Ex→ah→J→Prop):ah→J→Prop:=fun s H=>K .normal s H
theorem EL (gC:Good C) {id:Nat} {ops:List Oper} {ls th:List Nat} (h:eU C (jP K) (eI ops (fun _=>false) (fun _=>[]) th ops 0) s H):aH (aq C) C (.region id ops.toArray false ls th []) s H K:=by
 have h2:=oI gC (ops:=ops.toArray) (q:=fun _=>false) (late:=fun _=>[]) (th:=th) ops 0 s H h;have key: ∀(l:List Oper) (i:Nat) (s:ah) (H:J),dt (aq C) C ops.toArray (fun _=>false) (fun _=>[]) th (jP K) l i s H→c7 (aq C) C ops.toArray th [] (jP K) l i s H:=by
  intro l;induction l with
  |nil=>intro i s H h;exact h
  |cons o rest ih=>
   intro i s H h;simp only [dt,fX] at h;simp only [c7];refine ⟨s,H,rfl,?_⟩;cases hg:o.guard with
   |none=>
    rw [hg] at h;exact jh (aq.up gC.up) (fun v H' hv=>ih (i+1) _ _ hv) h
   |some p=>
    rw [hg] at h;obtain ⟨v,H',h1,h2⟩:=h;exact ⟨v,H',h1,ih (i+1) _ _ h2⟩
 exact key _ _ _ _ h2
def gX (C:aJ) (fz:List (Nat×List (List Nat×List Sh))) (K:ah→J→Prop):List GO→Nat→ah→J→Prop
 |[],_,s,H=>K s H
 |o::rest,i,s0,H0=> ∃s H,de ((fz.lookup i).getD []) s0 H0=some (s,H)∧
  i_ o.g s (bh (aq C) C o.q o.th o.op s H fun v H' =>gX C fz K rest (i+1) (bw s o.d v) H') (gX C fz K rest (i+1) (bw s o.d (.aD [])) H)
theorem rI (gC:Good C) {ops:Array Oper} {th:List Nat} {fz:List (Nat×List (List Nat×List Sh))} {K:ah→J→Prop}: ∀(l:List Oper) (i:Nat) (s:ah) (H:J),gX C fz K (eI ops.toList (fun _=>false) (fun _=>[]) th l i) i s H→c7 (aq C) C ops th fz K l i s H
 |[],i,s,H,h=>h
 |o::rest,i,s0,H0,h=>by
  simp only [eI,gX] at h;obtain ⟨s,H,hf,h⟩:=h;simp only [c7];refine ⟨s,H,hf,?_⟩;have yes:(bh (aq C) C false (th.contains i) o.op s H fun v H' =>gX C fz K (eI ops.toList (fun _=>false) (fun _=>[]) th rest (i+1)) (i+1) (bw s o.dst v) H')→
   wpOp (aq C) C false (th.contains i) o s H fun v H' =>c7 (aq C) C ops th fz K rest (i+1) (bw s o.dst v) H' :=by
   intro h;rw [←vo] at h;exact jh (aq.up gC.up) (fun v H' h=>rI gC rest (i+1) _ _ h) h
  cases hg:o.guard with
  |none=>
   rw [hg] at h;simp only [Option.map_none,i_] at h⊢;exact yes h
  |some p=>
   obtain ⟨j,want⟩:=p;rw [hg] at h;simp only [Option.map_some,rG,Array.getElem?_toList] at h⊢;cases hd:(ops[j]?).bind (·.dst) with
   |none=>rw [hd] at h;exact h.elim
   |some t=>
    rw [hd] at h;simp only [i_] at h;have no:gX C fz K (eI ops.toList (fun _=>false) (fun _=>[]) th rest (i+1)) (i+1) (bw s o.dst (.aD [])) H→dV ops o s=some false→ ∃v H',(match dV ops o s with
     |some b=>if b then wpOp (aq C) C false (th.contains i) o s H (fun v1 H1=>v1=v∧H1=H') else v= .aD []∧H' =H
     |none=>False)∧c7 (aq C) C ops th fz K rest (i+1) (bw s o.dst v) H' :=by
     intro h hb;refine ⟨.aD [],H,?_,rI gC rest (i+1) _ _ h⟩;rw [hb];simp
    split at h
    ·rename_i c hc;have mN:dV ops o s=some (c==want):=by
      unfold dV;rw [hg];simp only [hd,hc]
     split at h
     ·rename_i kF;obtain ⟨v,H',h1,h2⟩:=mG (aq.exact gC.up gC.exact) (yes h);refine ⟨v,H',?_,h2⟩;rw [mN,kF];simp only [beq_self_eq_true,if_true];exact h1
     ·rename_i kF;exact no h (by rw [mN];simpa using kF)
    ·rename_i hc;exact no h (by unfold dV;rw [hg];simp only [hd,hc])
    ·exact h.elim
theorem EM (gC:Good C) {id:Nat} {ops:List Oper} {ls th:List Nat} {fz:List (Nat×List (List Nat×List Sh))} (h:gX C fz (jP K) (eI ops (fun _=>false) (fun _=>[]) th ops 0) 0 s H):aH (aq C) C (.region id ops.toArray false ls th fz) s H K:=
 rI gC (ops:=ops.toArray) ops 0 s H h
theorem vp (gC:Good C) {id:Nat} {ops:List Oper} {ls th:List Nat} {fz:List (Nat×List (List Nat×List Sh))} (hd:jv ops.toArray ls=true) (h:eU C (jP K) (eI ops (fun i=> !ls.contains i) (gF ops.toArray ls) th ops 0) s H):aH (aq C) C (.region id ops.toArray true ls th fz) s H K:=by
 have:=oI gC (ops:=ops.toArray) (q:=fun i=> !ls.contains i) (late:=gF ops.toArray ls) (th:=th) ops 0 s H h;exact ⟨hd,this⟩
theorem Cz (ops:Array Oper):gF ops []=fun _=>[]:=by funext i;rfl
theorem EN (gC:Good C) {id:Nat} {ops:List Oper} {th:List Nat} {fz:List (Nat×List (List Nat×List Sh))} (hd:jv ops.toArray []=true) (h:eU C (jP K) (eI ops (fun _=>true) (fun _=>[]) th ops 0) s H):aH (aq C) C (.region id ops.toArray true [] th fz) s H K:=
 vp gC hd (by rw [Cz];exact h)
end
theorem EO {C:aJ} (gC:Good C) {f:FuncId} {fn:Func} {c:Code} {res:List ResultVar} {n:Nat} (hc:C.code f=some fn) (hb:fn.body=some c) (hr:fn.results=res.toArray) (hn:fn.ntmps=n) {ys:List AV} {H:J} {P:AV→J→Prop}
 (h: ∀K0,K0=fu C.E res P→aH (aq C) C (cN (C.fU f) 0 c) (ys ++ List.replicate (n-ys.length) .undef) H K0):aq C f ys H P:=by
 refine aq.intro gC.up ?_;unfold Body;rw [hc];simp only [hb,hr,hn];exact h _ rfl
end Go.VS
namespace Go.VS
def cI (v:Option AV) (H:J) (K:AV→J→Prop):Prop:=match v with|some v=>K v H|none=>False
def dq (r:Option (AV×J)) (K:AV→J→Prop):Prop:=match r with|some (v,H)=>K v H|none=>False
section
variable {C:aJ} {q th:Bool} {s:ah} {H:J} {K:AV→J→Prop}
theorem dy (op:Op) (h:et op=true):bh (aq C) C q th op s H K=dq (aQ C.E op s H) K:=by
 have: ∀c,op≠ .call c:=by rintro c rfl;simp [et] at h
 unfold bh wpOp;split
 ·rename_i bC;exact absurd bC (this _)
 ·rename_i bC;exact absurd bC (this _)
 ·simp only [h,implies_true,true_and];rfl
theorem vq (op:Op) (h: ∀c,op≠ .call c):bh (aq C) C false th op s H K=dq (aQ C.E op s H) K:=by
 unfold bh wpOp;split
 ·rename_i bC;exact absurd bC (h _)
 ·rename_i bC;exact absurd bC (h _)
 ·simp only [Bool.false_eq_true,false_implies,true_and];rfl
theorem vr (K:ah→J→Prop):eU C K [] s H=K s H:=rfl
def iE (v:AV) (w:Bool) (a b:Prop):Prop:=match v with| .bool c=>if c=w then a else b| .aD _=>b|_=>False
theorem vt (a b:Prop):iE (.bool true) true a b=a:=by simp [iE]
theorem vu (a b:Prop):iE (.bool false) false a b=a:=by simp [iE]
theorem vv (a b:Prop):iE (.bool true) false a b=b:=by simp [iE]
theorem vw (a b:Prop):iE (.bool false) true a b=b:=by simp [iE]
theorem vx (K:Prop):eH C s H K []=K:=rfl
theorem vy (K:Prop) (op:Op) (t:Tmp) (js:List (Op×Option Tmp)):eH C s H K ((op,some t)::js)=(fJ C.E op s H=some (s.getD t .undef,H)∧eH C s H K js):=by
 simp [eH]
theorem vz (t:Tmp) (v:AV):bw s (some t) v=s.set t v:=rfl
theorem vA (v:AV):bw s none v=s:=rfl
theorem vB (t:Tmp):ev s (.tmp t)=s.getD t .undef:=rfl
theorem vC (v:Value):ev s (.const v)=ofValue v:=rfl
theorem vD (f:FuncId):ev s (.func f)= .fn f []:=rfl
theorem vE (k:IntKind) (n:Int):ofValue (.int k n)= .int k n:=rfl
theorem vF (b:Bool):ofValue (.bool b)= .bool b:=rfl
theorem vG:ofValue (.slice none 0 0)= .nil:=rfl
theorem vH:ofValue .nilIface= .cB false:=rfl
theorem vI:ofValue (.pointer none)= .eb:=rfl
theorem vJ (b:ByteArray):ofValue (.string b)= .str b.data.toList:=rfl
theorem vK (v:AV):cI (some v) H K=K v H:=rfl
theorem vL (x:Operand):bh (aq C) C q th (.move x) s H K=K (ev s x) H:=by rw [dy _ rfl];rfl
theorem vM (x:Operand):bh (aq C) C q th (.assign x) s H K=K (ev s x) H:=by rw [dy _ rfl];rfl
theorem vN (b:BinOp) (t:TypeId) (x:Operand) (c:Value) (w:TypeId):bh (aq C) C q th (.binOp b t x (.const c) w) s H K=cI (aN C.E b t (ev s x) (ofValue c)) H K:=by
 rw [dy _ rfl];simp only [aQ,show ev s (.const c)=ofValue c from rfl];generalize aN C.E b t (ev s x) (ofValue c)=r;cases r<;>rfl
def lE (E:aK) (b:BinOp) (t:TypeId) (x y:AV) (H:J) (K:AV→J→Prop):Prop:=match y with| .cB _=>False|y=>cI (aN E b t x y) H K
theorem vO (b:BinOp) (t:TypeId) (x:Operand) (n:Tmp) (w:TypeId):bh (aq C) C q th (.binOp b t x (.tmp n) w) s H K=lE C.E b t (ev s x) (ev s (.tmp n)) H K:=by
 rw [dy _ rfl];simp only [aQ];generalize ev s (.tmp n)=y;unfold lE;cases y
 all_goals (first|rfl|(simp only;generalize aN C.E b t (ev s x) _=r;cases r<;>rfl))
theorem vP (E:aK) (b:BinOp) (t:TypeId) (x:AV) (k:IntKind) (n:Int):lE E b t x (.int k n) H K=cI (aN E b t x (.int k n)) H K:=rfl
theorem vQ (E:aK) (b:BinOp) (t:TypeId) (x:AV) (n:Bool):lE E b t x (.bool n) H K=cI (aN E b t x (.bool n)) H K:=rfl
theorem vR (E:aK) (b:BinOp) (t:TypeId) (x:AV) (n:List UInt8):lE E b t x (.str n) H K=cI (aN E b t x (.str n)) H K:=rfl
theorem vS (E:aK) (b:BinOp) (t:TypeId) (x:AV) (n:List AV):lE E b t x (.agg n) H K=cI (aN E b t x (.agg n)) H K:=rfl
variable (E:aK) (t:TypeId) (k:IntKind) (a b:Int) (c d:Bool) (u v:List UInt8)
theorem vU:aN E .add t (.int k a) (.int k b)=some (.int k (k.wrap (a+b))):=by simp [aN,dG]
theorem vV:aN E .sub t (.int k a) (.int k b)=some (.int k (k.wrap (a-b))):=by simp [aN,dG]
theorem vW:aN E .mul t (.int k a) (.int k b)=some (.int k (k.wrap (a*b))):=by simp [aN,dG]
theorem CA:aN E .and t (.int k a) (.int k b)=some (.int k (k.wrap (BitVec.ofInt k.bits a&&&BitVec.ofInt k.bits b).toNat)):=by simp [aN,dG]
theorem CB:aN E .or t (.int k a) (.int k b)=some (.int k (k.wrap (BitVec.ofInt k.bits a|||BitVec.ofInt k.bits b).toNat)):=by simp [aN,dG]
theorem CC:aN E .xor t (.int k a) (.int k b)=some (.int k (k.wrap (BitVec.ofInt k.bits a^^^BitVec.ofInt k.bits b).toNat)):=by simp [aN,dG]
theorem vX:aN E .eql t (.int k a) (.int k b)=some (.bool (a==b)):=by simp [aN,dG]
theorem vY:aN E .neq t (.int k a) (.int k b)=some (.bool (a !=b)):=by simp [aN,dG]
theorem vZ:aN E .lss t (.int k a) (.int k b)=some (.bool (decide (a<b))):=by simp [aN,dG]
theorem v7:aN E .leq t (.int k a) (.int k b)=some (.bool (decide (a≤b))):=by simp [aN,dG]
theorem v8:aN E .gtr t (.int k a) (.int k b)=some (.bool (decide (b<a))):=by simp [aN,dG]
theorem v_:aN E .geq t (.int k a) (.int k b)=some (.bool (decide (b≤a))):=by simp [aN,dG]
def dv (k:IntKind) (a b:Int):Option Int:=if b=0 then none else some (k.wrap (a.tdiv b))
def md (a b:Int):Option Int:=if b=0 then none else some (a.tmod b)
theorem wa:aN E .quo t (.int k a) (.int k b)=(dv k a b).map (.int k):=by simp [aN,dG,dv];split<;>rfl
theorem wb:aN E .rem t (.int k a) (.int k b)=(md a b).map (.int k):=by simp [aN,dG,md];split<;>rfl
theorem EP (h:(b==0)=false):md a b=some (a.tmod b):=by simp at h;simp [md,h]
def sl (k:IntKind) (a b:Int):Option Int:=if b<0 then none else some (k.wrap (a*2^(min b.toNat k.bits)))
def sr (k:IntKind) (a b:Int):Option Int:=if b<0 then none else some (a.fdiv (2^(min b.toNat k.bits)))
theorem wc (j:IntKind):aN E .shl t (.int k a) (.int j b)=(sl k a b).map (.int k):=by simp [aN,sl];split<;>rfl
theorem wg (j:IntKind):aN E .shr t (.int k a) (.int j b)=(sr k a b).map (.int k):=by simp [aN,sr];split<;>rfl
theorem wh:aN E .eql t (.str u) (.str v)=some (.bool (u==v)):=by simp [aN,jY]
theorem wi:aN E .neq t (.str u) (.str v)=some (.bool (!(u==v))):=by simp [aN,jY]
def cat (u v:List UInt8):Option (List UInt8):=if u.length+v.length≤2^45 then some (u ++ v) else none
theorem wj:aN E .add t (.str u) (.str v)=(cat u v).map .str:=by simp only [aN,jY,cat];split<;>rfl
theorem EQ {ti:TI} (h:E t=some ti) (hu:ti.aw= .bl):aN E .eql t (.bool c) (.bool d)=some (.bool (c==d)):=by simp [aN,h,hu]
theorem ER {ti:TI} (h:E t=some ti) (hu:ti.aw= .bl):aN E .neq t (.bool c) (.bool d)=some (.bool (!(c==d))):=by simp [aN,h,hu]
def mO (ti:Option TI) (r:Option Bool) (neg:Bool):Option AV:=match ti with|some ti=>if ti.agg then (match r with|some b=>some (.bool (if neg then !b else b))|none=>none) else none|none=>none
theorem wk (xs ys:List AV):aN E .eql t (.agg xs) (.agg ys)=mO (E t) (eo E 8 t xs ys) false:=by
 simp only [aN,mO];cases E t<;>rfl
theorem wl (xs ys:List AV):aN E .neq t (.agg xs) (.agg ys)=mO (E t) (eo E 8 t xs ys) true:=by
 simp only [aN,mO];cases E t<;>rfl
def jj (ti:Option TI) (x y:AV) (neg:Bool):Option AV:=match ti with|some ti=>(match isNil ti.aw x y with|some b=>some (.bool (if neg then !b else b))|none=>none)|none=>none
theorem wm:aN E .eql t .nil .nil=jj (E t) .nil .nil false:=by simp only [aN,jj];cases E t<;>rfl
theorem wo:aN E .neq t .nil .nil=jj (E t) .nil .nil true:=by simp only [aN,jj];cases E t<;>rfl
theorem wq (x:Bool):aN E .eql t (.cB x) (.cB false)=jj (E t) (.cB x) (.cB false) false:=by simp only [aN,jj];cases E t<;>rfl
theorem wu (x:Bool):aN E .neq t (.cB x) (.cB false)=jj (E t) (.cB x) (.cB false) true:=by simp only [aN,jj];cases E t<;>rfl
theorem w_num {α :Type} {o:Option Int} {f:Int→Option α} {r: α} (h:o.bind f=some r) (hk: ∀n,o=some n→f n=some r→K (.int k n) H):cI (o.map (.int k)) H K:=by
 cases o with
 |none=>simp at h
 |some n=>exact hk n rfl h
theorem wv (op:UnOp) (x:Operand):bh (aq C) C q th (.unOp op t x) s H K=cI (jZ op (ev s x)) H K:=by
 rw [dy _ rfl];simp only [aQ];generalize jZ op (ev s x)=r;cases r<;>rfl
theorem ww:jZ .not (.bool c)=some (.bool !c):=rfl
theorem wx:jZ .neg (.int k a)=some (.int k (k.wrap (0-a))):=rfl
def oJ (c:AV) (x y:AV) (H:J) (K:AV→J→Prop):Prop:=match c with| .bool t=>K (if t then x else y) H|_=>False
theorem wy (x y z:Operand):bh (aq C) C q th (.pick x y z) s H K=oJ (ev s x) (ev s y) (ev s z) H K:=by
 rw [dy _ rfl];simp only [aQ];generalize ev s x=r;cases r<;>rfl
theorem wz (x y:AV):oJ (.bool true) x y H K=K x H:=rfl
theorem wA (x y:AV):oJ (.bool false) x y H K=K y H:=rfl
theorem wB (p:Bool):oJ (.bool p) (.bool c) (.bool d) H K=K (.bool (if p then c else d)) H:=by cases p<;>rfl
def jQ (x:AV) (i:Nat) (H:J) (K:AV→J→Prop):Prop:=match x with| .aD vs=>cI vs[i]? H K|_=>False
theorem wC (x:Operand) (i:Nat):bh (aq C) C q th (.extract x i) s H K=jQ (ev s x) i H K:=by
 rw [dy _ rfl];simp only [aQ,jQ];generalize ev s x=r;cases r<;>first|rfl|(simp only;rename_i vs;cases vs[i]? <;>rfl)
theorem wD (vs:List AV) (i:Nat):jQ (.aD vs) i H K=cI vs[i]? H K:=rfl
def oK (ti:TI) (x:Option AV) (off:Nat) (H:J) (K:AV→J→Prop):Prop:=match x with|some y=>cI (bY ti y off) H K|none=>False
def oL (ti:TI) (b:Option bu) (idx off:Nat) (H:J) (K:AV→J→Prop):Prop:=match b with|some b=>oK ti b.el[idx]? off H K|none=>False
def oM (ti:Option TI) (x:AV) (H:J) (K:AV→J→Prop):Prop:=
 match ti with
 |some ti=>match x with
  | .fe y off=>cI (bY ti y off) H K
  | .ptr id ad idx off=>oL ti (H.ap id ad) idx off H K
  |_=>False
 |none=>False
theorem o_load (x:Operand):bh (aq C) C q th (.load t x) s H K=oM (C.E t) (ev s x) H K:=by
 rw [dy _ rfl];simp only [aQ,oM];cases C.E t with
 |none=>rfl
 |some ti=>
  simp only;generalize ev s x=r;cases r<;>first|rfl|skip
  ·rename_i id ad idx off;simp only [oL];cases H.ap id ad with
   |none=>rfl
   |some b=>
    simp only [oK];cases b.el[idx]? with
    |none=>rfl
    |some y=>simp only;generalize bY ti y off=z;cases z<;>rfl
  ·rename_i y off;simp only;generalize bY ti y off=z;cases z<;>rfl
theorem wE (ti:TI) (y:AV) (off:Nat):oM (some ti) (.fe y off) H K=cI (bY ti y off) H K:=rfl
theorem wF (ti:TI) (id ad idx off:Nat):oM (some ti) (.ptr id ad idx off) H K=oL ti (H.ap id ad) idx off H K:=rfl
theorem wG (ti:TI) (b:bu) (idx off:Nat):oL ti (some b) idx off H K=oK ti b.el[idx]? off H K:=rfl
theorem wH (ti:TI) (y:AV) (off:Nat):oK ti (some y) off H K=cI (bY ti y off) H K:=rfl
def mP (E:aK) (t:TypeId) (f:Nat):Option (Nat×TI):=match E t with
 |some ti=>match ti.aw with
  | .st fs=>match fs[f]? with
   |some (o,ft)=>match E ft with
    |some tf=>some (o,tf)
    |none=>none
   |none=>none
  |_=>none
 |none=>none
def jR (p:Option (Nat×TI)) (x:AV) (H:J) (K:AV→J→Prop):Prop:=match p with
 |some (o,tf)=>if tf.sz=0 then False else match x with
  | .ptr id ad idx off=>match H.ap id ad with
   |some _=>K (.ptr id ad idx (off+o)) H
   |none=>False
  | .fe y off=>K (.fe y (off+o)) H
  |_=>False
 |none=>False
theorem wI (x:Operand) (f:Nat):bh (aq C) C q th (.fieldAddr t x f) s H K=jR (mP C.E t f) (ev s x) H K:=by
 rw [dy _ rfl];simp only [aQ,jR,mP];cases C.E t with
 |none=>rfl
 |some ti=>
  simp only;cases ti.aw<;>try rfl
  rename_i fs;simp only;cases fs[f]? with
  |none=>rfl
  |some p=>
   obtain ⟨o,ft⟩:=p;simp only;cases C.E ft with
   |none=>rfl
   |some tf=>
    simp only;split
    ·rfl
    ·generalize ev s x=r;cases r<;>try rfl
     rename_i id ad idx off;simp only;cases H.ap id ad<;>rfl
theorem CD (o:Nat) (tf:TI) (h:(tf.sz==0)=false) (y:AV) (off:Nat):jR (some (o,tf)) (.fe y off) H K=K (.fe y (off+o)) H:=by
 simp at h;simp [jR,h]
theorem CE (o:Nat) (tf:TI) (h:(tf.sz==0)=false) (id ad idx off:Nat):jR (some (o,tf)) (.ptr id ad idx off) H K=(match H.ap id ad with|some _=>K (.ptr id ad idx (off+o)) H|none=>False):=by
 simp at h;simp [jR,h]
def rJ (p:Option (Nat×TI)) (x:AV) (H:J) (K:AV→J→Prop):Prop:=match x with
 | .agg cs=>(match p with|some (o,tf)=>cI (bY tf (.agg cs) o) H K|none=>False)
 |_=>False
theorem wJ (x:Operand) (f:Nat):bh (aq C) C q th (.field t x f) s H K=rJ (mP C.E t f) (ev s x) H K:=by
 rw [dy _ rfl];simp only [aQ,rJ,mP];cases C.E t with
 |none=>simp only;generalize ev s x=r;cases r<;>rfl
 |some ti=>
  simp only;generalize ev s x=r;cases r
  case agg cs=>
   simp only;cases ti.aw<;>try rfl
   rename_i fs;simp only;cases fs[f]? with
   |none=>rfl
   |some p=>
    obtain ⟨o,ft⟩:=p;simp only;cases C.E ft with
    |none=>rfl
    |some tf=>simp only;generalize bY tf (.agg cs) o=z;cases z<;>rfl
  all_goals rfl
theorem wK (o:Nat) (tf:TI) (cs:List AV):rJ (some (o,tf)) (.agg cs) H K=cI (bY tf (.agg cs) o) H K:=rfl
theorem wL (x:Operand):bh (aq C) C q th (.call {callee:= .builtin .len,args:= #[x],argTypes:= #[t]}) s H K=dq (cS C.E .len #[t] [ev s x] H) K:=by
 unfold bh wpOp;simp only [fW,implies_true,true_and];rfl
def eV (ti:Option TI) (x:AV) (n:Option Nat) (H:J) (K:AV→J→Prop):Prop:=match ti,n with
 |some ti,some n=>match ti.aw,x with
  | .str,.str _=>K (.int .i64 n) H
  | .sl _,.str _=>False
  | .sl _,_=>K (.int .i64 n) H
  |_,_=>False
 |_,_=>False
theorem wM (E:aK) (t:TypeId) (x:AV):dq (cS E .len #[t] [x] H) K=eV (E t) x (lenOf H x) H K:=by
 simp only [cS,eV];have:(#[t]:Array TypeId)[0]?.bind E=E t:=rfl;rw [this];cases E t with
 |none=>rfl
 |some ti=>
  obtain ⟨sz,agg,z,oN,aw,eq⟩:=ti;cases lenOf H x with
  |none=>rfl
  |some n=>cases aw<;>cases x<;>rfl
theorem wN (xs:Array Operand) (tys:Array TypeId):bh (aq C) C q th (.call {callee:= .builtin .min,args:=xs,argTypes:=tys}) s H K=cI (kT (xs.toList.map (ev s))) H K:=by
 unfold bh wpOp;simp only [fW,implies_true,true_and,cS];generalize kT _=r;cases r<;>rfl
theorem wO (xs:Array Operand) (tys:Array TypeId):bh (aq C) C q th (.call {callee:= .builtin .max,args:=xs,argTypes:=tys}) s H K=cI (kU (xs.toList.map (ev s))) H K:=by
 unfold bh wpOp;simp only [fW,implies_true,true_and,cS];generalize kU _=r;cases r<;>rfl
theorem min2:kT [.int k a,.int k b]=some (.int k (if b<a then b else a)):=rfl
theorem max2:kU [.int k a,.int k b]=some (.int k (if b>a then b else a)):=rfl
end
end Go.VS
namespace Go.VS
structure It where
 v:AV
 sz:Nat
 el:List AV
def bW:AV→Option Nat
 | .ref id _ _ _=>some id
 | .ptr id _ _ _=>some id
 |_=>none
def iF (H:J) (it:It):Prop:=bD it.sz it.el=true∧match it.v with
 | .nil=>it.el=[]
 | .e0=>it.el=[]
 | .ref id ad off len=>len=it.el.length∧ ∃b,H.ap id ad=some b∧b.sz=it.sz∧b.fix=false∧off+len≤b.el.length∧aB b.el off len=it.el
 | .ptr id ad idx off=>idx=0∧off=0∧it.el.length=1∧H.ap id ad=some ⟨ad,it.sz,false,it.el⟩
 |_=>False
structure aA (H:J) (L:List It):Prop where
 ok: ∀(i:Nat) (it:It),L[i]? =some it→iF H it
 ck: ∀(i j:Nat) (a b:It) (id:Nat),L[i]? =some a→L[j]? =some b→bW a.v=some id→bW b.v=some id→i=j
theorem iF.lt {H:J} {it:It} (h:iF H it) {id:Nat} (hi:bW it.v=some id):id<H.bs.length:=by
 obtain ⟨_,h⟩:=h;cases hv:it.v with
 |ref i ad off len=>
  rw [hv] at h hi;simp only [bW,Option.some.injEq] at hi;subst hi;obtain ⟨_,b,hb,_⟩:=h;exact J.gb (J.bd hb).1
 |ptr i ad ix off=>
  rw [hv] at h hi;simp only [bW,Option.some.injEq] at hi;subst hi;obtain ⟨_,_,_,hb⟩:=h;exact J.gb (J.bd hb).1
 |_=>rw [hv] at hi;simp [bW] at hi
theorem iF.frame {H H' :J} {it:It} (h:iF H it) (hk: ∀id ad,bW it.v=some id→H'.ap id ad=H.ap id ad):iF H' it:=by
 obtain ⟨h0,h⟩:=h;refine ⟨h0,?_⟩;cases hv:it.v with
 |ref i ad off len=>
  rw [hv] at h hk;obtain ⟨h1,b,hb,h2⟩:=h;exact ⟨h1,b,by rw [hk i ad rfl];exact hb,h2⟩
 |ptr i ad ix off=>
  rw [hv] at h hk;obtain ⟨h1,h2,h3,hb⟩:=h;exact ⟨h1,h2,h3,by rw [hk i ad rfl];exact hb⟩
 |_=>rw [hv] at h;exact h
theorem aA.tl {H:J} {a:It} {L:List It} (h:aA H (a::L)):aA H L:=
 ⟨fun i it hi=>h.ok (i+1) it hi,fun i j x y id h1 h2 h3 h4=>by have:=h.ck (i+1) (j+1) x y id h1 h2 h3 h4;omega⟩
theorem aA.nil (H:J):aA H []:=⟨by simp,by simp⟩
theorem aA.aZ {H H' :J} {L:List It} (h:aA H L) {j:Nat} {it it' :It} (hj:L[j]? =some it) {i:Nat} (hi:bW it.v=some i) (hk: ∀id ad,id≠i→id<H.bs.length→H'.ap id ad=H.ap id ad) (hn:iF H' it') (br: ∀k,bW it'.v=some k→k=i):aA H' (L.set j it'):=by
 have az:j<L.length:=(List.getElem?_eq_some_iff.1 hj).1;refine ⟨fun k a bR=> ?_,fun k l a b id h1 h2 h3 h4=> ?_⟩
 ·rw [List.getElem?_set] at bR;split at bR
  ·simp only [Option.some.injEq] at bR;subst bR;exact hn
  ·rename_i aI;have ho:=h.ok k a bR;refine ho.frame fun id ad wP=>hk id ad (fun e=> ?_) (ho.lt wP)
   subst e;exact aI (h.ck j k it a id hj bR hi wP)
 ·rw [List.getElem?_set] at h1 h2;split at h1
  ·rename_i e1;subst e1;simp only [Option.some.injEq] at h1;subst h1;split at h2
   ·rename_i e2;exact e2
   ·have:=br id h3;subst this;exact h.ck j l it b id hj h2 hi h4
  ·split at h2
   ·rename_i e2;subst e2;simp only [Option.some.injEq] at h2;subst h2;have:=br id h4;subst this;exact h.ck k j a it id h1 hj h3 hi
   ·exact h.ck k l a b id h1 h2 h3 h4
theorem aA.new {H H' :J} {L:List It} (h:aA H L) (hk: ∀id ad,id<H.bs.length→H'.ap id ad=H.ap id ad) {it:It} (hn:iF H' it) (br: ∀k,bW it.v=some k→H.bs.length≤k):aA H' (it::L):=by
 refine ⟨fun k a bR=> ?_,fun k l a b id h1 h2 h3 h4=> ?_⟩
 ·cases k with
  |zero=>simp at bR;subst bR;exact hn
  |succ k=>have ho:=h.ok k a (by simpa using bR);exact ho.frame fun id ad hi=>hk id ad (ho.lt hi)
 ·cases k with
  |zero=>
   simp at h1;subst h1;cases l with
   |zero=>rfl
   |succ l=>
    have:=(h.ok l b (by simpa using h2)).lt h4
    have:=br id h3;omega
  |succ k=>
   cases l with
   |zero=>
    simp at h2;subst h2;have:=(h.ok k a (by simpa using h1)).lt h3
    have:=br id h4;omega
   |succ l=>have:=h.ck k l a b id (by simpa using h1) (by simpa using h2) h3 h4;omega
theorem aA.wQ {H H' :J} {L:List It} (h:aA H L) (hk: ∀id ad,id<H.bs.length→H'.ap id ad=H.ap id ad) {j:Nat} {it' :It} (hn:iF H' it') (br: ∀k,bW it'.v=some k→H.bs.length≤k):aA H' (L.set j it'):=by
 refine ⟨fun k a bR=> ?_,fun k l a b id h1 h2 h3 h4=> ?_⟩
 ·rw [List.getElem?_set] at bR;split at bR
  ·split at bR
   ·simp only [Option.some.injEq] at bR;subst bR;exact hn
   ·simp at bR
  ·have ho:=h.ok k a bR;exact ho.frame fun id ad hi=>hk id ad (ho.lt hi)
 ·rw [List.getElem?_set] at h1 h2;split at h1
  ·rename_i e1;subst e1;split at h1
   ·simp only [Option.some.injEq] at h1;subst h1;split at h2
    ·rename_i e2;exact e2
    ·have:=(h.ok l b h2).lt h4;have:=br id h3;omega
   ·simp at h1
  ·split at h2
   ·rename_i e2;subst e2;split at h2
    ·simp only [Option.some.injEq] at h2;subst h2;have:=(h.ok k a h1).lt h3;have:=br id h4;omega
    ·simp at h2
   ·exact h.ck k l a b id h1 h2 h3 h4
theorem oO {H:J} {sz:Nat} {fx:Bool} {el:List AV} {id ad:Nat} (h:id<H.bs.length):(H.new sz fx el).ap id ad=H.ap id ad:=by
 simp only [J.ap,J.new,List.getElem?_append_left h]
theorem oP {H:J} {sz:Nat} {fx:Bool} {el:List AV}:(H.new sz fx el).ap H.bs.length H.st=some ⟨H.st,sz,fx,el⟩:=by
 simp [J.ap,J.new]
theorem jS {H:J} {i id ad:Nat} {b:bu} (h:id≠i):(H.aZ i b).ap id ad=H.ap id ad:=by
 have h' : ¬i=id:=fun e=>h e.symm
 simp only [J.ap,J.aZ,List.getElem?_set,if_neg h']
theorem jk {H:J} {id:Nat} {b:bu} (h:id<H.bs.length):(H.aZ id b).ap id b.ad=some b:=by
 simp [J.ap,J.aZ,h]
section
variable {C:aJ} {th:Bool} {s:ah} {H:J} {K:AV→J→Prop} {L:List It}
theorem aA.kG (hS:aA H L) {sz n:Nat} {el all:List AV} (he:all.take n=el) (hn:n=el.length) (aC:bD sz el=true):aA (H.new sz false all) (⟨.ref H.bs.length H.st 0 n,sz,el⟩::L):=by
 refine hS.new (fun id ad h=>oO h) ⟨aC,hn,_,oP,rfl,rfl,?_,by simpa [aB] using he⟩ (fun k hk=>by simp [bW] at hk;omega)
 have:=congrArg List.length he;simp at this;simp only;omega
theorem aA.newVar (hS:aA H L) {sz:Nat} {a:AV} (aC:a.cells.length=sz):aA (H.new sz false [a]) (⟨.ptr H.bs.length H.st 0 0,sz,[a]⟩::L):=
 hS.new (fun id ad h=>oO h) ⟨by simp [bD,aC],rfl,rfl,rfl,oP⟩ (fun k hk=>by simp [bW] at hk;omega)
theorem aA.var (hS:aA H L) (j:Nat) {id ad sz:Nat} {a:AV} (hj:L[j]? =some ⟨.ptr id ad 0 0,sz,[a]⟩):H.ap id ad=some ⟨ad,sz,false,[a]⟩:=(hS.ok j _ hj).2.2.2.2
theorem ES {t:TypeId} {x:Operand} {ti:TI} {a:AV} (hS:aA H L) (ht:C.E t=some ti) (hx:ev s x=a) (h1:a.cells.length=ti.sz) (h2:en a=true)
 (h: ∀id ad H',aA H' (⟨.ptr id ad 0 0,ti.sz,[a]⟩::L)→K (.ptr id ad 0 0) H') {q:Bool}:bh (aq C) C q th (.box t x) s H K:=by
 rw [dy _ rfl];simp only [aQ,ht,hx,h1,h2,and_self,if_true,dq];exact h _ _ _ (hS.newVar h1)
theorem rK {ti:TI} {z:AV} (h:eL ti=some z):z.cells.length=ti.sz:=by
 unfold eL at h;split at h
 ·rename_i hc;rcases l6 h with ⟨_,rfl⟩|⟨_,hz⟩
  ·exact hc.2
  ·have:db z=true:=by have:=hc.1;rw [hz] at this;simpa using this
   have hl:=hc.2;rw [hz] at hl;cases z<;>first|exact hl|simp [db] at this
 ·simp at h
theorem CF {ti:TI} {z:AV} (h:iM ti=some z):z.cells.length=ti.sz:=by
 unfold iM at h;split at h
 ·rename_i z0 kc;simp only [Option.some.injEq] at h;subst h;split
  ·rw [l_,List.length_map];exact rK kc
  ·exact rK kc
 ·simp at h
theorem ET {t:TypeId} {ti:TI} {z:AV} (hS:aA H L) (ht:C.E t=some ti) (hz:eL ti=some z)
 (h: ∀id ad H',aA H' (⟨.ptr id ad 0 0,ti.sz,[z]⟩::L)→K (.ptr id ad 0 0) H') {q:Bool}:bh (aq C) C q th (.alloc t) s H K:=by
 rw [dy _ rfl];simp only [aQ,ht,hz,dq];exact h _ _ _ (hS.newVar (rK hz))
theorem EU {t:TypeId} {x v:Operand} {ti:TI} {id ad sz o:Nat} {y y' a:AV} (j:Nat) (hS:aA H L) (hj:L[j]? =some ⟨.ptr id ad 0 0,sz,[y]⟩) (ht:C.E t=some ti) (hx:ev s x= .ptr id ad 0 o) (hv:ev s v=a)
 (h1:a.cells.length=ti.sz) (h2:en a=true) (hw:hG y o a=some y') (h3:y'.cells.length=sz) (h: ∀H',aA H' (L.set j ⟨.ptr id ad 0 0,sz,[y']⟩)→K (.aD []) H'):bh (aq C) C false th (.store t x v) s H K:=by
 rw [vq _ (by simp)]
 have hb:=hS.var j hj;simp only [aQ,ht,hx,hv,hb,List.getElem?_cons_zero,h1,h2,and_self,if_true,hw,List.set_cons_zero,dq];refine h _ (hS.aZ hj rfl (fun e8 fD aI _=>jS aI) ⟨by simp [bD,h3],rfl,rfl,rfl,?_⟩ (fun k hk=>by simpa [bW] using hk.symm))
 exact jk ((hS.ok j _ hj).lt rfl)
end
def idx {α :Type} (l:List α) (i:Int):Option α :=if 0≤i then l[i.toNat]? else none
theorem lF {α :Type} {l:List α} {i:Int} {x: α} (h:idx l i=some x):0≤i∧i<l.length∧l[i.toNat]? =some x:=by
 unfold idx at h;split at h
 ·rename_i h0;have:=(List.getElem?_eq_some_iff.1 h).1;exact ⟨h0,by omega,h⟩
 ·simp at h
def EV (E:aK) (t:TypeId):Option TI:=match E t with
 |some ti=>match ti.aw with| .sl e=>E e|_=>none
 |none=>none
section
variable {C:aJ} {q th:Bool} {s:ah} {H:J} {K:AV→J→Prop} {L:List It}
def mQ (l:List UInt8) (n:Int) (H:J) (K:AV→J→Prop):Prop:=match idx l n with|some b=>K (.int .u8 b.toNat) H|none=>False
def oQ (E:aK) (ti:Option TI) (x i:AV) (H:J) (K:AV→J→Prop):Prop:=match ti,i with
 |some ti,.int _ n=>match ti.aw,x with
  | .str,.str l=>mQ l n H K
  | .ar m e,.agg cs=>match E e with
   |some te=>if 0≤n∧n<m then cI (bY te (.agg cs) (n.toNat*te.sz)) H K else False
   |none=>False
  |_,_=>False
 |_,_=>False
theorem wR (t:TypeId) (x i:Operand):bh (aq C) C q th (.index t x i) s H K=oQ C.E (C.E t) (ev s x) (ev s i) H K:=by
 rw [dy _ rfl];simp only [aQ,oQ];generalize ev s i=n;generalize ev s x=a;cases C.E t with
 |none=>rfl
 |some ti=>
  cases n
  case int k n=>
   simp only;cases ti.aw<;>cases a<;>try rfl
   ·rename_i m e cs;simp only;cases C.E e with
    |none=>rfl
    |some te=>
     simp only;split
     ·generalize bY te (.agg cs) (n.toNat*te.sz)=z;cases z<;>rfl
     ·rfl
   ·rename_i l;simp only [mQ,idx];split
    ·cases l[n.toNat]? <;>rfl
    ·rfl
  all_goals rfl
def mR:UD→Bool
 | .str=>true
 |_=>false
theorem wS:mR .str=true:=rfl
def kH:UD→Bool
 | .sl _=>true
 |_=>false
theorem wT (e:TypeId):kH (.sl e)=true:=rfl
theorem wU (E:aK) (ti:TI) (hu:mR ti.aw=true) (l:List UInt8) (k:IntKind) (n:Int):oQ E (some ti) (.str l) (.int k n) H K=mQ l n H K:=by
 cases h:ti.aw<;>rw [h] at hu<;>simp [mR] at hu
 simp only [oQ,h]
theorem EW {α :Type} {l:List UInt8} {n:Int} {f:UInt8→Option α} {r: α} (h:(idx l n).bind f=some r) (hk: ∀b,idx l n=some b→f b=some r→K (.int .u8 b.toNat) H):mQ l n H K:=by
 unfold mQ;cases hi:idx l n with
 |none=>rw [hi] at h;simp at h
 |some b=>rw [hi] at h;exact hk b hi h
def mS (E:aK) (t:TypeId) (x i:AV) (H:J) (K:AV→J→Prop):Prop:=dq (match E t,i with
 |some ti,.int _ n=>match ti.aw with
  | .sl e=>match E e with
   |some te=>match x with
    | .fz xs=>if 0≤n then match xs[n.toNat]? with
     |some y=>if y.cells.length=te.sz then some (.fe y 0,H) else none
     |none=>none
     else none
    | .ref id ad off len=>match H.ap id ad with
     |some b=>if b.sz=te.sz∧0≤n∧n<len∧off+len≤b.el.length then some (.ptr id ad (off+n.toNat) 0,H) else none
     |none=>none
    |_=>none
   |none=>none
  | .ar m e=>match E e with
   |some te=>if 0≤n∧n<m then match x with
    | .ptr id ad idx off=>match H.ap id ad with
     |some _=>some (.ptr id ad idx (off+n.toNat*te.sz),H)
     |none=>none
    | .fe y off=>some (.fe y (off+n.toNat*te.sz),H)
    |_=>none
    else none
   |none=>none
  |_=>none
 |_,_=>none) K
theorem wV (t:TypeId) (x i:Operand):bh (aq C) C q th (.indexAddr t x i) s H K=mS C.E t (ev s x) (ev s i) H K:=by
 rw [dy _ rfl];rfl
theorem EX {α β :Type} {E:aK} {t:TypeId} {ti te:TI} {e:TypeId} (ht:E t=some ti) (hu:ti.aw= .sl e) (he:E e=some te) {l:List α} {c: α →AV} (hc: ∀x,(c x).cells.length=te.sz) {k:IntKind} {n:Int} {f: α →Option β} {r: β} (h:(idx l n).bind f=some r)
 (hk: ∀x,idx l n=some x→f x=some r→K (.fe (c x) 0) H):mS E t (.fz (l.map c)) (.int k n) H K:=by
 cases hi:idx l n with
 |none=>rw [hi] at h;simp at h
 |some x=>
  rw [hi] at h;obtain ⟨h0,_,h1⟩:=lF hi;simp only [mS,ht,hu,he,h0,if_true,List.getElem?_map,h1,Option.map_some,hc,dq];exact hk x hi h
theorem EY {α β :Type} {E:aK} {t:TypeId} {ti te:TI} {e:TypeId} (j:Nat) (hS:aA H L) {v:AV} {l:List α} {c: α →AV} {sz:Nat} (hj:L[j]? =some ⟨v,sz,l.map c⟩) (ht:E t=some ti) (hu:ti.aw= .sl e) (he:E e=some te) (aC:sz=te.sz) {k:IntKind} {n:Int} {f: α →Option β} {r: β}
 (h:(idx l n).bind f=some r) (hk: ∀x id ad off,idx l n=some x→f x=some r→v= .ref id ad off l.length→K (.ptr id ad (off+n.toNat) 0) H) (hp: ∀id ad,v≠ .ptr id ad 0 0):mS E t v (.int k n) H K:=by
 cases hi:idx l n with
 |none=>rw [hi] at h;simp at h
 |some x=>
  rw [hi] at h;obtain ⟨h0,h2,h1⟩:=lF hi;have af:=(hS.ok j _ hj).2;simp only at af;have aI:l.map c≠[]:=by intro e;rw [List.map_eq_nil_iff] at e;subst e;simp at h1
  split at af
  ·exact absurd af aI
  ·exact absurd af aI
  ·rename_i id ad off len;obtain ⟨h3,b,hb,h4,_,h5,h6⟩:=af;simp only [List.length_map] at h3;subst h3;simp only [mS,ht,hu,he,hb];rw [if_pos ⟨by rw [h4,aC],h0,h2,h5⟩]
   exact hk x id ad off hi h rfl
  ·rename_i id ad ix off;obtain ⟨rfl,rfl,_⟩:=af;exact absurd rfl (hp id ad)
  ·exact af.elim
theorem aA.elem {α :Type} (hS:aA H L) (j:Nat) {id ad off n sz:Nat} {v:AV} {l:List α} {c: α →AV} (hj:L[j]? =some ⟨v,sz,l.map c⟩) (hv:v= .ref id ad off n) {i:Int} {x: α} (hx:idx l i=some x): ∃b,H.ap id ad=some b∧b.el[off+i.toNat]? =some (c x):=by
 obtain ⟨h0,h2,h1⟩:=lF hx;subst hv;obtain ⟨_,h3,b,hb,h4,_,h5,h6⟩:=hS.ok j _ hj;refine ⟨b,hb,?_⟩;simp only at h3 h6;have:=congrArg (·[i.toNat]?) h6;simp only [List.getElem?_map,h1,Option.map_some,aB] at this;rw [←this,List.getElem?_take,List.getElem?_drop,if_pos (by simp at h3;omega)]
theorem EZ {α :Type} {t:TypeId} {x w:Operand} {ti:TI} {id ad off n sz o:Nat} {v a:AV} {l:List α} {c: α →AV} {i:Int} {y y' : α} (j:Nat) (hS:aA H L) (hj:L[j]? =some ⟨v,sz,l.map c⟩) (hv:v= .ref id ad off n) (hi:idx l i=some y) (ht:C.E t=some ti) (hx:ev s x= .ptr id ad (off+i.toNat) o) (hw:ev s w=a)
 (h1:a.cells.length=ti.sz) (h2:en a=true) (hr:hG (c y) o a=some (c y')) (h3:(c y').cells.length=sz) (h: ∀H',aA H' (L.set j ⟨v,sz,(l.set i.toNat y').map c⟩)→K (.aD []) H'):bh (aq C) C false th (.store t x w) s H K:=by
 rw [vq _ (by simp)]
 obtain ⟨b,hb,he⟩:=hS.elem j hj hv hi;simp only [aQ,ht,hx,hw,hb,he,h1,h2,and_self,if_true,hr,dq];subst hv;obtain ⟨k0,k1,b',au,k2,k3,k4,k5⟩:=hS.ok j _ hj;rw [hb] at au;simp only [Option.some.injEq] at au;subst au;simp only at k1 k5;obtain ⟨i0,i1,i2⟩:=lF hi;have bN:=(J.bd hb).2;refine h _ (hS.aZ hj rfl (fun e8 fD aI _=>jS aI) ⟨?_,by simpa using k1,{b with el:=b.el.set (off+i.toNat) (c y')},?_,k2,k3,by simpa using k4,?_⟩ (fun k hk=>by simpa [bW] using hk.symm))
 ·simp only [bD,List.all_eq_true,List.mem_map] at k0⊢;rintro z ⟨z',hz,rfl⟩;rcases List.mem_or_eq_of_mem_set hz with h' |rfl
  ·exact k0 _ ⟨z',h',rfl⟩
  ·simpa using h3
 ·have:=jk (b:={b with el:=b.el.set (off+i.toNat) (c y')}) ((hS.ok j _ hj).lt rfl);simpa only [bN] using this
 ·simp only [aB,List.map_set] at k5⊢;rw [←k5,List.drop_set,if_neg (by omega),List.take_set]
  congr 1;omega
end
end Go.VS
namespace Go.VS
structure bj (v:AV):Prop where
 ok:v= .nil∨v= .e0∨ ∃id ad off len,v= .ref id ad off len
theorem fE (id ad off len:Nat):bj (.ref id ad off len):=⟨.inr (.inr ⟨id,ad,off,len,rfl⟩)⟩
theorem rL:bj .nil:=⟨.inl rfl⟩
theorem oR:bj .e0:=⟨.inr (.inl rfl)⟩
theorem bj.ne {v:AV} (h:bj v) (id ad:Nat):v≠ .ptr id ad 0 0:=by
 rcases h.ok with rfl|rfl|⟨_,_,_,_,rfl⟩<;>simp
theorem bj.cells {v:AV} (h:bj v):v.cells=[v]:=by
 rcases h.ok with rfl|rfl|⟨_,_,_,_,rfl⟩<;>rfl
theorem bj.sw {v:AV} (h:bj v):db v=true:=by
 rcases h.ok with rfl|rfl|⟨_,_,_,_,rfl⟩<;>rfl
theorem bj.E0 {v:AV} (h:bj v):en v=true:=by
 rcases h.ok with rfl|rfl|⟨_,_,_,_,rfl⟩<;>rfl
theorem bj.rd {v:AV} (h:bj v) (z:List AV) (b:Nat) (w:UD) (e:Bool):bY ⟨1,false,z,b,w,e⟩ v 0=some v:=by
 rcases h.ok with rfl|rfl|⟨_,_,_,_,rfl⟩<;>rfl
theorem bj.same {v:AV} (h:bj v):fZ v v=true:=by
 rcases h.ok with rfl|rfl|⟨_,_,_,_,rfl⟩<;>simp [fZ]
theorem bj.wr {v:AV} (h:bj v) (cs:List AV) (o:Nat) (ho:o<cs.length):hG (.agg cs) o v=some (.agg (cs.set o v)):=by
 simp only [hG,h.cells,List.length_cons,List.length_nil];rw [if_pos (by omega)]
 simp only [splice,List.length_cons,List.length_nil,List.append_assoc,List.cons_append,List.nil_append,Option.some.injEq,AV.agg.injEq];rw [List.set_eq_take_append_cons_drop,if_pos ho]
section
variable {C:aJ} {q th:Bool} {s:ah} {H:J} {K:AV→J→Prop} {L:List It}
theorem aA.len (hS:aA H L) (j:Nat) {v:AV} {sz:Nat} {el:List AV} (hj:L[j]? =some ⟨v,sz,el⟩) (hp:bj v):lenOf H v=some el.length:=by
 have af:=(hS.ok j _ hj).2;simp only at af;split at af
 ·subst af;rfl
 ·subst af;rfl
 ·rename_i id ad off len;obtain ⟨h3,b,hb,_⟩:=af;simp only [lenOf,h3]
 ·rename_i id ad ix off;obtain ⟨rfl,rfl,_⟩:=af;exact absurd rfl (hp.ne id ad)
 ·exact af.elim
theorem aA.jl (hS:aA H L) (j:Nat) {v:AV} {sz:Nat} {el:List AV} (hj:L[j]? =some ⟨v,sz,el⟩) (hp:bj v):cC H v=some el:=by
 have af:=(hS.ok j _ hj).2;simp only at af;split at af
 ·subst af;rfl
 ·subst af;rfl
 ·rename_i id ad off len;obtain ⟨h3,b,hb,_,_,h5,h6⟩:=af;simp only [cC,hb,h5,if_true,h6]
 ·rename_i id ad ix off;obtain ⟨rfl,rfl,_⟩:=af;exact absurd rfl (hp.ne id ad)
 ·exact af.elim
theorem aA.CG (hS:aA H L) (j:Nat) {v:AV} {sz:Nat} {el:List AV} (hj:L[j]? =some ⟨v,sz,el⟩) (l:List UInt8):v≠ .str l:=by
 rintro rfl;exact (hS.ok j _ hj).2
theorem E1 (j:Nat) (hS:aA H L) {v:AV} {sz:Nat} {el:List AV} (hj:L[j]? =some ⟨v,sz,el⟩) (hp:bj v) {ti:TI} {e:TypeId} (hu:ti.aw= .sl e) (h:K (.int .i64 el.length) H):eV (some ti) v (lenOf H v) H K:=by
 rw [hS.len j hj hp];have hn:=hS.CG j hj;simp only [eV,hu];cases v with
 |str l=>exact absurd rfl (hn l)
 |_=>exact h
theorem wW (xs:List AV):lenOf H (.fz xs)=some xs.length:=rfl
theorem wX (l:List UInt8):lenOf H (.str l)=some l.length:=rfl
theorem wY:lenOf H .nil=some 0:=rfl
theorem wZ:lenOf H .e0=some 0:=rfl
theorem CH (ti:TI) {e:TypeId} (hu:ti.aw= .sl e) (xs:List AV) (n:Nat):eV (some ti) (.fz xs) (some n) H K=K (.int .i64 n) H:=by simp [eV,hu]
theorem CI (ti:TI) {e:TypeId} (hu:ti.aw= .sl e) (n:Nat):eV (some ti) .nil (some n) H K=K (.int .i64 n) H:=by simp [eV,hu]
theorem CJ (ti:TI) {e:TypeId} (hu:ti.aw= .sl e) (n:Nat):eV (some ti) .e0 (some n) H K=K (.int .i64 n) H:=by simp [eV,hu]
theorem CK (ti:TI) (hu:ti.aw= .str) (l:List UInt8) (n:Nat):eV (some ti) (.str l) (some n) H K=K (.int .i64 n) H:=by simp [eV,hu]
theorem CL {α β :Type} {t:TypeId} {x y:Operand} {te:TI} {z:AV} {n:Int} {c: α →AV} {d: α} {f:List α →Option β} {r: β} (hS:aA H L) (ht:cD C.E t=some te) (hx:ev s x= .int .i64 n) (hy:ev s y= .int .i64 n) (hz:iM te=some z) (hd:c d=z) (h0:te.sz≠0)
 (hh:(if 0≤n∧roomy n.toNat te.bytes then some (List.replicate n.toNat d) else none:Option (List α)).bind f=some r)
 (h: ∀v H',bj v→0≤n→roomy n.toNat te.bytes=true→f (List.replicate n.toNat d)=some r→aA H' (⟨v,te.sz,(List.replicate n.toNat d).map c⟩::L)→K v H'):bh (aq C) C q th (.makeSlice t x y) s H K:=by
 rw [dy _ rfl];split at hh
 ·rename_i hc;simp only [aQ,ht,hx,hy,hz];rw [if_pos ⟨hc.1,Int.le_refl _,hc.2,h0⟩];refine h _ _ (fE ..) hc.1 hc.2 hh (hS.kG (by simp [hd]) (by simp) ?_)
  simp only [bD,List.map_replicate,List.all_replicate,hd,CF hz];simp
 ·simp at hh
theorem E2 {t:TypeId} {ps:Array (Nat×Operand)} {te:TI} (ht:cD C.E t=some te) (hp:ps.size=0) (h:K .e0 H):bh (aq C) C q th (.buildSlice t 0 ps) s H K:=by
 rw [dy _ rfl];simp only [aQ,ht,hp,if_true];exact h
theorem E3 {t:TypeId} {n:Nat} {ps:Array (Nat×Operand)} {te:TI} {z:AV} {el:List AV} (hS:aA H L) (ht:cD C.E t=some te) (hz:eL te=some z) (hn:(n==0)=false) (hb:(decide (n*te.sz≤1000000)&&te.sz !=0)=true)
 (he:jr te.sz (List.replicate n z) (ps.toList.map fun p=>(p.1,ev s p.2))=some el) (hl:el.length=n) (aC:bD te.sz el=true) (h: ∀v H',bj v→aA H' (⟨v,te.sz,el⟩::L)→K v H'):bh (aq C) C q th (.buildSlice t n ps) s H K:=by
 rw [dy _ rfl];simp at hn hb;simp only [aQ,ht,if_neg hn,hz];rw [if_pos hb];simp only [he];exact h _ _ (fE ..) (hS.kG (by rw [←hl];simp) hl.symm aC)
theorem w7 {sz:Nat} {a b:List AV} (ha:bD sz a=true) (hb:bD sz b=true):bD sz (a ++ b)=true:=by
 unfold bD at*;rw [List.all_append,ha,hb];rfl
theorem w8 (hS:aA H L) (j:Nat) {te:TI} {v x:AV} {el xs:List AV} (hj:L[j]? =some ⟨v,te.sz,el⟩) (hp:bj v) (hx:cC H x=some xs) (aC:bD te.sz xs=true) (h0:te.sz≠0) (hr:roomy (el.length+xs.length) te.bytes=true):
 ∃v' H',ec te v x H=some (v',H')∧bj v' ∧aA H' (L.set j ⟨v',te.sz,el ++ xs⟩):=by
 have af:=hS.ok j _ hj;obtain ⟨k0,af⟩:=af;have fO: ∀it:It,L[j]? =some it→L.set j it=L:=fun it h=>List.ext_getElem? fun k=>by
  rw [List.getElem?_set];split
  ·rename_i e;subst e;have:=(List.getElem?_eq_some_iff.1 h).1;simp only [this,if_true];exact h.symm
  ·rfl
 simp only [ec,hx,aC,Bool.not_true,if_neg h0];simp only at af k0;split at af
 ·subst af;by_cases hn:xs.length=0
  ·have:xs=[]:=List.eq_nil_of_length_eq_zero hn;subst this;refine ⟨.nil,H,by simp,rL,?_⟩
   rw [List.append_nil,fO _ hj];exact hS
  ·have b5:roomy xs.length te.bytes=true:=by simpa using hr
   refine ⟨.ref H.bs.length H.st 0 xs.length,H.new te.sz false xs,by simp [hn,b5],fE ..,?_⟩
   exact hS.wQ (fun id ad h=>oO h) ⟨by simpa using aC,by simp,_,oP,rfl,rfl,by simp,by simp [aB]⟩ (fun k hk=>by simp [bW] at hk;omega)
 ·subst af;by_cases hn:xs.length=0
  ·have:xs=[]:=List.eq_nil_of_length_eq_zero hn;subst this;refine ⟨.e0,H,by simp,oR,?_⟩
   rw [List.append_nil,fO _ hj];exact hS
  ·have b5:roomy xs.length te.bytes=true:=by simpa using hr
   refine ⟨.ref H.bs.length H.st 0 xs.length,H.new te.sz false xs,by simp [hn,b5],fE ..,?_⟩
   exact hS.wQ (fun id ad h=>oO h) ⟨by simpa using aC,by simp,_,oP,rfl,rfl,by simp,by simp [aB]⟩ (fun k hk=>by simp [bW] at hk;omega)
 ·rename_i id ad off len;obtain ⟨k1,b,hb,k2,k3,k4,k5⟩:=af;have az:=(hS.ok j _ hj).lt rfl;have bN:=(J.bd hb).2;subst k1;by_cases cH:off+el.length+xs.length≤b.el.length
  ·refine ⟨.ref id ad off (el.length+xs.length),H.aZ id {b with el:=splice b.el (off+el.length) xs},by simp [hb,k2,cH],fE ..,?_⟩
   refine hS.aZ hj rfl (fun e8 fD aI _=>jS aI) ⟨w7 k0 aC,by simp,{b with el:=splice b.el (off+el.length) xs},?_,k2,k3,?_,?_⟩ (fun k hk=>by simpa [bW] using hk.symm)
   ·have:=jk (b:={b with el:=splice b.el (off+el.length) xs}) az;simpa only [bN] using this
   ·simp only [j9 _ _ _ cH];omega
   ·simp only [aB] at k5⊢;have e1:(splice b.el (off+el.length) xs).drop off=el ++ (xs ++ b.el.drop (off+el.length+xs.length)):=by
     unfold splice;rw [List.append_assoc,List.drop_append_of_le_length (by simp;omega)]
     congr 1;rw [List.drop_take];have:off+el.length-off=el.length:=by omega
     rw [this,k5]
    rw [e1,←List.append_assoc,List.take_append_of_le_length (by simp),List.take_of_length_le (by simp)]
  ·refine ⟨.ref id H.st 0 (el.length+xs.length),⟨H.st+1,H.bs.set id (some ⟨H.st,b.sz,false,aB b.el off el.length ++ xs⟩)⟩,by simp [hb,k2,cH,k3,k4,hr],fE ..,?_⟩
   refine hS.aZ hj rfl (fun e8 fD aI _=> ?_) ⟨w7 k0 aC,by simp,⟨H.st,te.sz,false,el ++ xs⟩,?_,rfl,rfl,by simp,by simp only [aB,List.drop_zero];exact List.take_of_length_le (by simp)⟩ (fun k hk=>by simpa [bW] using hk.symm)
   ·have h' : ¬id=e8:=fun e=>aI e.symm
    simp only [J.ap,List.getElem?_set,if_neg h']
   ·simp only [J.ap,List.getElem?_set,az,if_true,k2,aB] at k5⊢;rw [k5]
 ·rename_i id ad ix off;obtain ⟨rfl,rfl,_⟩:=af;exact absurd rfl (hp.ne id ad)
 ·exact af.elim
def app {α :Type} (oN:Nat) (l m:List α):Option (List α):=if roomy (l.length+m.length) oN then some (l ++ m) else none
theorem w9 (a b:Operand) (t u:TypeId):bh (aq C) C false th (.call {callee:= .builtin .append,args:= #[a,b],argTypes:= #[t,u]}) s H K=dq (cS C.E .append #[t,u] [ev s a,ev s b] H) K:=by
 unfold bh wpOp;simp only [Bool.false_eq_true,false_implies,true_and];rfl
theorem CM {α β :Type} {E:aK} {t u:TypeId} {te tu:TI} {e:TypeId} {v x:AV} {l m:List α} {c: α →AV} {f:List α →Option β} {r: β} (j:Nat) (hS:aA H L) (hj:L[j]? =some ⟨v,te.sz,l.map c⟩) (hp:bj v) (ht:cD E t=some te) (hu:E u=some tu) (hi:tu.aw= .sl e)
 (hx:cC H x=some (m.map c)) (aC:bD te.sz (m.map c)=true) (h0:(te.sz==0)=false) (hh:(app te.bytes l m).bind f=some r) (h: ∀v' H',bj v' →app te.bytes l m=some (l ++ m)→f (l ++ m)=some r→aA H' (L.set j ⟨v',te.sz,(l ++ m).map c⟩)→K v' H'):
 dq (cS E .append #[t,u] [v,x] H) K:=by
 cases hr:app te.bytes l m with
 |none=>rw [hr] at hh;simp at hh
 |some lm=>
  have b5:=hr
  unfold app at hr;split at hr
  ·rename_i gj;simp only [Option.some.injEq] at hr;subst hr;rw [b5] at hh;obtain ⟨v',H',h1,h2,h3⟩:=w8 hS j hj hp hx aC (by simpa using h0) (by simpa using gj)
   have e1:(#[t,u]:Array TypeId)[0]? =some t:=rfl;have e2:((#[t,u]:Array TypeId)[1]?).bind E=E u:=rfl;simp only [cS,e1,e2,ht,hu,hi,h1,dq];exact h v' H' h2 b5 hh (by rw [List.map_append];exact h3)
  ·simp at hr
def kI (C:aJ) (q th:Bool) (f:AV) (args:List AV) (H:J) (K:AV→J→Prop):Prop:=
 match f with
 | .fn g bP=>if q then dU (aq C) C g (args ++ bP) th H K else aq C g (args ++ bP) H K∨dU (aq C) C g (args ++ bP) th H K
 |_=>False
theorem w_ (f:Operand) (args:Array Operand) (tys:Array TypeId):bh (aq C) C q th (.call {callee:= .value f,args,argTypes:=tys}) s H K=kI C q th (ev s f) (args.toList.map (ev s)) H K:=rfl
theorem E4 {α β :Type} {g:FuncId} {bP args:List AV} {o:Option α} {f: α →Option β} {r: β} (h:o.bind f=some r) (hk: ∀x,o=some x→f x=some r→aq C g (args ++ bP) H K):kI C false th (.fn g bP) args H K:=by
 cases ho:o with
 |none=>rw [ho] at h;simp at h
 |some x=>rw [ho] at h;exact .inl (hk x ho h)
end
inductive LR (σ ρ :Type) where
 |next (x: σ)
 |done (r: ρ)
def iter {σ ρ :Type} (f: σ →Option (LR σ ρ)):Nat→ σ →Option ρ
 |0,_=>none
 |n+1,x=>(f x).bind fun y=>match y with| .next x' =>iter f n x' | .done r=>some r
open Classical in
noncomputable def fF {σ ρ :Type} (f: σ →Option (LR σ ρ)) (x: σ):Option ρ :=if h: ∃n,(iter f n x).isSome then iter f h.choose x else none
theorem rM {σ ρ :Type} {f: σ →Option (LR σ ρ)}: ∀{n m:Nat} {x: σ} {r: ρ},iter f n x=some r→n≤m→iter f m x=some r
 |0,_,_,_,h,_=>by simp [iter] at h
 |n+1,0,_,_,_,h=>by omega
 |n+1,m+1,x,r,h,hle=>by
  simp only [iter] at h⊢;cases hf:f x with
  |none=>rw [hf] at h;simp at h
  |some y=>
   rw [hf] at h;cases y with
   |next x' =>exact rM (m:=m) h (by omega)
   |done r' =>exact h
theorem mT {σ ρ :Type} {f: σ →Option (LR σ ρ)} {x: σ} {r: ρ}:fF f x=some r↔ ∃n,iter f n x=some r:=by
 unfold fF;constructor
 ·intro h;split at h
  ·exact ⟨_,h⟩
  ·simp at h
 ·rintro ⟨n,h⟩;have hex: ∃n,(iter f n x).isSome:=⟨n,by simp [h]⟩
  rw [dif_pos hex];cases hc:iter f hex.choose x with
  |none=>have:=hex.choose_spec;rw [hc] at this;simp at this
  |some r' =>
   have h1:=rM hc (Nat.le_max_left hex.choose n);have h2:=rM h (Nat.le_max_right hex.choose n);rw [h1] at h2;exact h2
theorem rN {σ ρ :Type} (f: σ →Option (LR σ ρ)) (x: σ):fF f x=(f x).bind fun y=>match y with| .next x' =>fF f x' | .done r=>some r:=by
 refine Option.ext fun r=> ?_;rw [mT];constructor
 ·rintro ⟨n,h⟩;cases n with
  |zero=>simp [iter] at h
  |succ n=>
   simp only [iter] at h;cases hf:f x with
   |none=>rw [hf] at h;simp at h
   |some y=>
    rw [hf] at h;cases y with
    |next x' =>exact mT.2 ⟨n,h⟩
    |done r' =>exact h
 ·intro h;cases hf:f x with
  |none=>rw [hf] at h;simp at h
  |some y=>
   rw [hf] at h;cases y with
   |next x' =>obtain ⟨n,hn⟩:=mT.1 h;exact ⟨n+1,by simp only [iter,hf];exact hn⟩
   |done r' =>exact ⟨1,by simp only [iter,hf];exact h⟩
def oS {σ ρ :Type} (keep:List Nat) (Inv: σ →ah→J→Prop) (y:LR σ ρ) (K:Ex→ah→J→Prop):Ex→ah→J→Prop
 | .normal,s,H=> ∃x',y= .next x' ∧Inv x' (eu keep s) H
 | .exit i,s,H=>K (.exit i) s H
 | .ret,s,H=>K .ret s H
section
variable {C:aJ} {K K1:Ex→ah→J→Prop} {s:ah} {H:J}
theorem E5 {σ ρ :Type} (gC:Good C) {f: σ →Option (LR σ ρ)} {x: σ} {r: ρ} {keep:List Nat} {a:AC} (hw:fF f x=some r) (Inv: σ →ah→J→Prop) (h0:Inv x (eu keep s) H)
 (hb: ∀x y s H,f x=some y→(∀r',y= .done r' →r' =r)→Inv x s H→ ∀K1,K1=oS keep Inv y K→aH (aq C) C a s H K1):aH (aq C) C (.loop ⟨keep,false⟩ a) s H K:=by
 obtain ⟨n,hn⟩:=mT.1 hw;have key: ∀(n:Nat) (x: σ) (s:ah) (H:J),iter f n x=some r→Inv x s H→ ∀m,j0 (aH (aq C) C a) (fq ⟨keep,false⟩ m) K s H:=by
  intro n;induction n with
  |zero=>intro x s H h;simp [iter] at h
  |succ n ih=>
   intro x s H h hi m;simp only [iter] at h;cases hf:f x with
   |none=>rw [hf] at h;simp at h
   |some y=>
    rw [hf] at h;simp only [Option.bind_some] at h;refine j0.round (aq.up gC.up) (dO (aq.up gC.up) _ _ _ _ _ (fun e s' H' he=> ?_) (hb x y s H hf (fun r' e=>by subst e;simpa using h) hi _ rfl))
    cases e with
    |normal=>
     obtain ⟨x',rfl,fL⟩:=he;exact ih x' _ _ h fL m
    |exit i=>exact he
    |ret=>exact he
 exact key n x _ _ hn h0 _
theorem E6 {σ ρ :Type} {keep:List Nat} {Inv: σ →ah→J→Prop} {y:LR σ ρ} {x' : σ} (hK:K1=oS keep Inv y K) (hy:some (LR.next x')=some y) (hi:Inv x' (eu keep s) H):K1 .normal s H:=by
 rw [hK];exact ⟨x',(Option.some.inj hy).symm,hi⟩
theorem E7 {σ ρ :Type} {keep:List Nat} {Inv: σ →ah→J→Prop} {y:LR σ ρ} {i:Nat} (hK:K1=oS keep Inv y K) (h:K (.exit i) s H):K1 (.exit i) s H:=by rw [hK];exact h
theorem E8 {σ ρ :Type} {keep:List Nat} {Inv: σ →ah→J→Prop} {y:LR σ ρ} (hK:K1=oS keep Inv y K) (h:K .ret s H):K1 .ret s H:=by rw [hK];exact h
def rO (Q:ah→J→Prop) (K:Ex→ah→J→Prop):Ex→ah→J→Prop
 | .normal,s,H=>Q s H
 | .exit i,s,H=>K (.exit i) s H
 | .ret,s,H=>K .ret s H
theorem E9 (gC:Good C) {a:AC} (Q:ah→J→Prop) (h: ∀K1,K1=rO Q K→aH (aq C) C a s H K1) (hq: ∀s H,Q s H→K .normal s H):aH (aq C) C a s H K:=by
 refine Cy (h _ rfl) (fun e s H he=> ?_) gC;cases e with
 |normal=>exact hq s H he
 |exit i=>exact he
 |ret=>exact he
theorem E_ {Q:ah→J→Prop} (hK:K1=rO Q K) (h:Q s H):K1 .normal s H:=by rw [hK];exact h
theorem Fa {Q:ah→J→Prop} (hK:K1=rO Q K) (h:K .ret s H):K1 .ret s H:=by rw [hK];exact h
end
end Go.VS
