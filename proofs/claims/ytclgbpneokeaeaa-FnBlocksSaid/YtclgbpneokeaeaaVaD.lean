import Derived.Test.YtclgbpneokeaeaaVaC
import Derived.StillTail
namespace Go.VS
section tr
variable {C:aK} {X:bq}
theorem lM (du:Exact X) {q th:Bool} {o:Oper} {s:ah} {H:J} {K:AV→J→Prop} (h:wpOp X C q th o s H K): ∃v H',wpOp X C q th o s H (fun v1 H1=>v1=v∧H1=H')∧K v H' :=by
 unfold wpOp at h⊢;split at h
 ·rename_i b args tys bd;obtain ⟨hq,h⟩:=h;split at h
  ·rename_i v H' he
   refine ⟨v,H',?_,h⟩;first
    |exact ⟨hq,rfl,rfl⟩
    |(simp only [bd];exact ⟨hq,trivial,trivial⟩)
    |(simp only [bd,he];exact ⟨hq,trivial,trivial⟩)
  ·exact h.elim
 ·rename_i x args tys bd;split at h
  ·rename_i g bO hg;have hQ:dB X C g (args.toList.map (ev s) ++ bO) th H K→ ∃v H',dB X C g (args.toList.map (ev s) ++ bO) th H (fun v1 H1=>v1=v∧H1=H')∧K v H' :=by
    intro h;unfold dB at h⊢;split at h
    ·exact h.elim
    rename_i ys bX hy;obtain ⟨y,h1,h2,h3⟩:=h;split at h3
    ·rename_i ht;refine ⟨_,_,⟨y,h1,h2,?_⟩,h3⟩;simp only [ht,if_true];exact ⟨trivial,trivial⟩
    ·rename_i ht;refine ⟨_,_,⟨y,h1,h2,?_⟩,h3⟩;simp only [ht];exact ⟨trivial,trivial⟩
   have key: ∃v H',(if q then dB X C g (args.toList.map (ev s) ++ bO) th H (fun v1 H1=>v1=v∧H1=H') else X g (args.toList.map (ev s) ++ bO) H (fun v1 H1=>v1=v∧H1=H')∨dB X C g (args.toList.map (ev s) ++ bO) th H (fun v1 H1=>v1=v∧H1=H'))∧K v H' :=by
    cases q with
    |false=>
     simp only [Bool.false_eq_true,if_false] at h⊢;rcases h with h|h
     ·obtain ⟨v,H',h1,h2⟩:=du _ _ _ _ h;exact ⟨v,H',.inl h1,h2⟩
     ·obtain ⟨v,H',h1,h2⟩:=hQ h;exact ⟨v,H',.inr h1,h2⟩
    |true=>
     simp only [if_true] at h⊢;exact hQ h
   obtain ⟨v,H',k1,k2⟩:=key;refine ⟨v,H',?_,k2⟩;first
    |exact k1
    |(simp only [bd,hg];exact k1)
  ·exact h.elim
 ·rename_i op mB CQ;obtain ⟨hq,h⟩:=h;split at h
  ·rename_i v H' he
   refine ⟨v,H',?_,h⟩;exact ⟨hq,rfl,rfl⟩
  ·exact h.elim
theorem nt (C:aK) (ops:Array Oper) (s:ah) (H:J) (K:Prop): ∀(l:List Nat),fw C ops s H K l→(∀j∈l,j6 C ops s H j)∧K
 |[],h=>⟨by simp,h⟩
 |j::js,h=>by
  obtain ⟨h1,h2⟩:=h;obtain ⟨k1,k2⟩:=nt C ops s H K js h2;refine ⟨fun i hi=> ?_,k2⟩;rcases List.mem_cons.1 hi with rfl|hi
  ·exact h1
  ·exact k1 i hi
structure Tr (X:bq) (C:aK) (ops:Array Oper) (q:Nat→Bool) (late:Nat→List Nat) (th:List Nat) (K:ah→J→Prop) (l:List Oper) (k:Nat) (s:Nat→ah) (H:Nat→J) (v:Nat→AV) (act:Nat→Bool):Prop where
 step: ∀i o,l[i]? =some o→s (i+1)=bn (s i) o.dst (v i)∧dC ops o (s i)=some (act i)∧(act i=true→wpOp X C (q (k+i)) (th.contains (k+i)) o (s i) (H i) (fun v1 H1=>v1=v i∧H1=H (i+1)))∧
  (act i=false→v i= .aA []∧H (i+1)=H i)∧ ∀j∈late (k+i),j6 C ops (s (i+1)) (H (i+1)) j
 fin:K (s l.length) (H l.length)
theorem tp (du:Exact X) {ops:Array Oper} {q:Nat→Bool} {late:Nat→List Nat} {th:List Nat} {K:ah→J→Prop}: ∀(l:List Oper) (k:Nat) (s0:ah) (H0:J),c8 X C ops q late th K l k s0 H0→
 ∃s H v act,s 0=s0∧H 0=H0∧Tr X C ops q late th K l k s H v act
 |[],k,s0,H0,h=>⟨fun _=>s0,fun _=>H0,fun _=> .undef,fun _=>true,rfl,rfl,⟨by simp,h⟩⟩
 |o::l,k,s0,H0,h=>by
  have key: ∃v0 H1 a0,dC ops o s0=some a0∧(a0=true→wpOp X C (q k) (th.contains k) o s0 H0 (fun v1 H' =>v1=v0∧H' =H1))∧(a0=false→v0= .aA []∧H1=H0)∧(∀j∈late k,j6 C ops (bn s0 o.dst v0) H1 j)∧
   c8 X C ops q late th K l (k+1) (bn s0 o.dst v0) H1:=by
   simp only [c8] at h;cases hg:o.guard with
   |none=>
    rw [hg] at h;obtain ⟨v,H',h1,h2⟩:=lM du h;obtain ⟨k1,k2⟩:=nt _ _ _ _ _ _ h2;exact ⟨v,H',true,by simp [dC,hg],fun _=>h1,fun h=>by simp at h,k1,k2⟩
   |some p=>
    rw [hg] at h;obtain ⟨v,H',h1,h2⟩:=h;obtain ⟨k1,k2⟩:=nt _ _ _ _ _ _ h2;split at h1
    ·rename_i b hb;cases b with
     |true=>exact ⟨v,H',true,hb,fun _=>by simpa using h1,fun h=>by simp at h,k1,k2⟩
     |false=>exact ⟨v,H',false,hb,fun h=>by simp at h,fun _=>by simpa using h1,k1,k2⟩
    ·exact h1.elim
  obtain ⟨v0,H1,a0,g1,g2,g3,g4,g5⟩:=key;obtain ⟨s,H,v,act,e1,e2,t⟩:=tp du l (k+1) _ _ g5;refine ⟨fun i=>match i with|0=>s0|i+1=>s i,fun i=>match i with|0=>H0|i+1=>H i,fun i=>match i with|0=>v0|i+1=>v i,fun i=>match i with|0=>a0|i+1=>act i,rfl,rfl,⟨fun i o' hi=> ?_,t.fin⟩⟩
  cases i with
  |zero=>
   simp only [List.getElem?_cons_zero,Option.some.injEq] at hi;subst hi;simp only [Nat.add_zero,e1,e2];exact ⟨trivial,g1,g2,g3,g4⟩
  |succ i=>
   have:=t.step i o' (by simpa using hi)
   rw [show k+1+i=k+(i+1) by omega] at this
   exact this
end tr
theorem tq (bs:Edge→Bool) (acc:List Nat) (j:Nat): ∀(l:List Edge) (m0:Nat),(l.foldl (fun m e=>if bs e then m|||2^e.on|||acc.getD e.on 0 else m) m0).testBit j=true→m0.testBit j=true∨ ∃e∈l,bs e=true∧(e.on=j∨(acc.getD e.on 0).testBit j=true)
 |[],m0,h=> .inl h
 |e::l,m0,h=>by
  simp only [List.foldl_cons] at h;rcases tq bs acc j l _ h with h|⟨e',h1,h2⟩
  ·split at h
   ·rename_i hb;simp only [Nat.testBit_or,Nat.testBit_two_pow,Bool.or_eq_true,decide_eq_true_eq] at h;rcases h with (h|h)|h
    ·exact .inl h
    ·exact .inr ⟨e,by simp,hb,.inl h⟩
    ·exact .inr ⟨e,by simp,hb,.inr h⟩
   ·exact .inl h
  ·exact .inr ⟨e',by simp [h1],h2⟩
theorem tv: ∀(os:List Oper) (acc:List Nat),(gG os acc).length=acc.length+os.length∧(∀i,i<acc.length→(gG os acc).getD i 0=acc.getD i 0)∧
 ∀i o,os[i]? =some o→ ∀j,((gG os acc).getD (acc.length+i) 0).testBit j=true→ ∃e∈o.after.toList,Region.binds .any e=true∧(e.on=j∨(e.on<acc.length+i∧((gG os acc).getD e.on 0).testBit j=true))
 |[],acc=>⟨by simp [gG],by simp [gG],by simp⟩
 |o::os,acc=>by
  obtain ⟨h1,h2,h3⟩:=tv os (acc ++ [o.after.toList.foldl (fun m e=>if Region.binds .any e then m|||2^e.on|||acc.getD e.on 0 else m) 0]);simp only [gG];have hold: ∀i,i<acc.length→(gG os (acc ++ [o.after.toList.foldl (fun m e=>if Region.binds .any e then m|||2^e.on|||acc.getD e.on 0 else m) 0])).getD i 0=acc.getD i 0:=by
   intro i hi;rw [h2 i (by simp;omega)]
   simp [List.getD,List.getElem?_append_left hi]
  refine ⟨by rw [h1];simp;omega,hold,fun i o' ho j hj=> ?_⟩
  cases i with
  |zero=>
   simp only [List.getElem?_cons_zero,Option.some.injEq] at ho;subst ho;rw [Nat.add_zero,h2 _ (by simp)] at hj
   simp only [List.getD,List.getElem?_append_right (Nat.le_refl _),Nat.sub_self,List.getElem?_cons_zero,Option.getD_some] at hj;rcases tq (Region.binds .any) acc j _ _ hj with h|⟨e,q1,q2,q3⟩
   ·simp at h
   ·refine ⟨e,q1,q2,?_⟩;rcases q3 with q3|q3
    ·exact .inl q3
    ·have az:e.on<acc.length:=by
      rcases Nat.lt_or_ge e.on acc.length with h|h
      ·exact h
      ·rw [List.getD,List.getElem?_eq_none h] at q3;simp at q3
     exact .inr ⟨by omega,by rw [hold _ az];exact q3⟩
  |succ i=>
   simp only [List.length_append,List.length_singleton] at h3;have:=h3 i o' (by simpa using ho) j (by rw [show acc.length+1+i=acc.length+(i+1) by omega];exact hj)
   obtain ⟨e,q1,q2,q3⟩:=this;refine ⟨e,q1,q2,?_⟩;rcases q3 with q3|⟨q3,q4⟩
   ·exact .inl q3
   ·exact .inr ⟨by omega,q4⟩
def tw (ops:Array Oper) (L:Nat→Prop):Prop:= ∀i o,ops[i]? =some o→L i→ ∀e∈o.after,Region.binds .any e=true→L e.on
theorem nu {ops:Array Oper} {L:Nat→Prop} (hs:tw ops L) (az: ∀i o,ops[i]? =some o→ ∀e∈o.after,Region.binds .any e=true→e.on<i):
 ∀(i:Nat) (o:Oper),ops[i]? =some o→(∀e∈o.after,Region.binds .any e=true→L e.on)→ ∀j,((fy ops.toList).getD i 0).testBit j=true→L j:=by
 intro i;induction i using Nat.strongRecOn with
 |_ i ih=>
  intro o ho ha j hj;have:=(tv ops.toList []).2.2 i o (by simpa using ho) j (by simpa [fy] using hj)
  obtain ⟨e,q1,q2,q3⟩:=this;have tz:=ha e (by simpa using q1) q2
  rcases q3 with rfl|⟨_,q4⟩
  ·exact tz
  ·have AD:=az i o ho e (by simpa using q1) q2
   have hi:i<ops.size:=(Array.getElem?_eq_some_iff.1 ho).1;have tA:=Array.getElem?_eq_getElem (xs:=ops) (show e.on<ops.size by omega)
   exact ih e.on AD _ tA (hs e.on _ tA tz) j q4
end Go.VS
namespace Go.VS
structure iD (ops:Array Oper) (aE:List Nat):Prop where
 back: ∀(i:Nat) (o:Oper),ops[i]? =some o→ ∀e∈o.after,Region.binds .any e=true→e.on<i
 gU: ∀(i j:Nat) (o p:Oper) (d:Tmp),i≠j→ops[i]? =some o→ops[j]? =some p→p.dst=some d→o.dst≠some d
 ord: ∀(i j:Nat) (o p:Oper) (d:Tmp),i≠j→ops[i]? =some o→ops[j]? =some p→p.dst=some d→d∈Oper.looksAt ops o→((fy ops.toList).getD (max i j) 0).testBit (min i j)=true
 after: ∀(i j:Nat) (o p:Oper),ops[i]? =some o→ops[j]? =some p→i∈aE→i<j→((fy ops.toList).getD j 0).testBit i=true∨(j∉aE∧p.guard=none∧jt p.op=true∧ ∃d,p.dst=some d)
 late: ∀(i j:Nat) (o p:Oper),ops[i]? =some o→ops[j]? =some p→i∈aE→j<i→((fy ops.toList).getD i 0).testBit j=false→j∉aE∧p.guard=none∧ia p.op=true∧(∃d,p.dst=some d)∧
  ∀(k:Nat) (r:Oper) (d:Tmp),ops[k]? =some r→r.dst=some d→j≤k→d∉Oper.looksAt ops p
theorem AE {ops:Array Oper} {aE:List Nat} (h:iR ops aE=true):iD ops aE:=by
 have lt: ∀{i:Nat} {o:Oper},ops[i]? =some o→i<ops.toList.length:=fun h=>by have:=(Array.getElem?_eq_some_iff.1 h).1;simpa using this
 have tl: ∀{i:Nat} {o:Oper},ops[i]? =some o→ops.toList[i]? =some o:=fun h=>by simpa using h
 have one: ∀(i:Nat) (o:Oper),ops[i]? =some o→(∀e∈o.after,Region.binds .any e=true→e.on<i)∧ ∀(j:Nat) (p:Oper),ops[j]? =some p→i≠j→
  (∀d,p.dst=some d→o.dst≠some d∧(d∈Oper.looksAt ops o→((fy ops.toList).getD (max i j) 0).testBit (min i j)=true))∧
  (i∈aE→i<j→((fy ops.toList).getD j 0).testBit i=true∨(j∉aE∧p.guard=none∧jt p.op=true∧ ∃d,p.dst=some d))∧
  (i∈aE→j<i→((fy ops.toList).getD i 0).testBit j=false→j∉aE∧p.guard=none∧ia p.op=true∧(∃d,p.dst=some d)∧ ∀(k:Nat) (r:Oper) (d:Tmp),ops[k]? =some r→r.dst=some d→j≤k→d∉Oper.looksAt ops p):=by
  intro i o ho;simp only [iR,List.all_eq_true,List.mem_range] at h;have hi:=h i (lt ho);rw [tl ho] at hi;simp only [Bool.and_eq_true,Array.all_eq_true_iff_forall_mem,List.all_eq_true,List.mem_range,Bool.or_eq_true,Bool.not_eq_true',decide_eq_true_eq] at hi;obtain ⟨ha,hb⟩:=hi;refine ⟨fun e he qm=>(ha e he).resolve_left (by simp [qm]),fun j p hp jK=> ?_⟩
  have hj:=hb j (lt hp);rw [tl hp] at hj;simp only [Bool.or_eq_true,beq_iff_eq,Bool.and_eq_true,Bool.not_eq_true'] at hj;rcases hj with hj|⟨⟨nv,kd⟩,ky⟩
  ·exact absurd hj jK
  refine ⟨fun d hd=> ?_,fun hl az=> ?_,fun hl az qm=> ?_⟩
  ·rw [hd] at nv;simp only [Bool.and_eq_true,bne_iff_ne,ne_eq,Bool.or_eq_true,Bool.not_eq_true'] at nv;exact ⟨nv.1,fun hm=>nv.2.resolve_left (by simp [hm])⟩
  ·rcases kd with (kd|kd)|⟨⟨⟨q1,q2⟩,q3⟩,q4⟩
   ·simp [hl,az] at kd
   ·exact .inl kd
   ·exact .inr ⟨by simpa using q1,by simpa using q2,q3,Option.isSome_iff_exists.1 q4⟩
  ·rcases ky with (ky|ky)|⟨⟨⟨⟨q1,q2⟩,q3⟩,q4⟩,q5⟩
   ·simp [hl,az] at ky
   ·rw [qm] at ky;simp at ky
   ·refine ⟨by simpa using q1,by simpa using q2,q3,Option.isSome_iff_exists.1 q4,fun k r d hk hr AF hm=> ?_⟩
    simp only [List.all_eq_true,List.mem_range] at q5;have:=q5 k (lt hk);rw [tl hk] at this;simp only [hr] at this;simp [AF,hm] at this
 exact ⟨fun i o ho=>(one i o ho).1,fun i j o p d jK ho hp hd=>(((one i o ho).2 j p hp jK).1 d hd).1,fun i j o p d jK ho hp hd=>(((one i o ho).2 j p hp jK).1 d hd).2,
  fun i j o p ho hp hl az=>((one i o ho).2 j p hp (by omega)).2.1 hl az,fun i j o p ho hp hl az=>((one i o ho).2 j p hp (by omega)).2.2 hl az⟩
theorem qn (aE:List Nat) (n:Nat): ∀(m b:Nat),m=n-b→b≤n→ ∃c,b≤c∧c≤n∧(c=n∨c∈aE)∧ ∀i,b≤i→i<c→i∉aE
 |0,b,hm,hb=>⟨b,Nat.le_refl _,hb,.inl (by omega),fun i h1 h2=>by omega⟩
 |m+1,b,hm,hb=>by
  by_cases h:b∈aE
  ·exact ⟨b,Nat.le_refl _,hb,.inr h,fun i h1 h2=>by omega⟩
  ·obtain ⟨c,h1,h2,h3,h4⟩:=qn aE n m (b+1) (by omega) (by omega)
   refine ⟨c,by omega,h2,h3,fun i k1 k2=> ?_⟩
   by_cases hi:i=b
   ·subst hi;exact h
   ·exact h4 i (by omega) k2
section draw
variable {P:Program} {C:aK} {X:bq} {ops:Array Oper} {aE:List Nat} {th:List Nat} {K:ah→J→Prop} {s:Nat→ah} {H:Nat→J} {v:Nat→AV} {act:Nat→Bool}
abbrev je (X:bq) (C:aK) (ops:Array Oper) (aE:List Nat) (th:List Nat) (K:ah→J→Prop) (s:Nat→ah) (H:Nat→J) (v:Nat→AV) (act:Nat→Bool):Prop:=
 Tr X C ops (fun i=> !aE.contains i) (fV ops aE) th K ops.toList 0 s H v act
theorem iE (t:je X C ops aE th K s H v act): ∀(m i:Nat),i+m≤ops.size→(∀k,i≤k→k<i+m→k∉aE)→QG (H i) (H (i+m))
 |0,i,_,_=> .refl _
 |m+1,i,hn,hl=>by
  have h1:=iE t m i (by omega) (fun k h1 h2=>hl k h1 (by omega))
  have ho:=Array.getElem?_eq_getElem (xs:=ops) (show i+m<ops.size by omega)
  obtain ⟨_,_,h3,h4,_⟩:=t.step (i+m) _ (by rw [Array.getElem?_toList];exact ho)
  refine h1.trans ?_;cases ha:act (i+m) with
  |true=>
   have:=h3 ha;have gV:(!aE.contains (0+(i+m)))=true:=by simp only [Nat.zero_add];simpa using hl (i+m) (by omega) (by omega)
   rw [gV] at this;exact AB this
  |false=>have:=(h4 ha).2;rw [show i+(m+1)=i+m+1 by omega,this];exact .refl _
theorem nw (dk:iD ops aE) (t:je X C ops aE th K s H v act): ∀(i:Nat),i≤ops.size→(s i).length=(s 0).length∧ ∀x,x<(s 0).length→
 (∀k o,k<i→ops[k]? =some o→o.dst=some x→(s i).getD x .undef=v k)∧((∀k o,k<i→ops[k]? =some o→o.dst≠some x)→(s i).getD x .undef=(s 0).getD x .undef)
 |0,_=>⟨rfl,fun x hx=>⟨fun k o h=>by omega,fun _=>rfl⟩⟩
 |i+1,hi=>by
  obtain ⟨h1,h2⟩:=nw dk t i (by omega)
  have ho:=Array.getElem?_eq_getElem (xs:=ops) (show i<ops.size by omega)
  obtain ⟨hs,_⟩:=t.step i _ (by rw [Array.getElem?_toList];exact ho)
  have hlen:(s (i+1)).length=(s 0).length:=by
   rw [hs];unfold bn;split
   ·simpa using h1
   ·exact h1
  refine ⟨hlen,fun x hx=>⟨fun k o hk ag hd=> ?_,fun eu=> ?_⟩⟩
  ·rw [hs];by_cases bV:k=i
   ·subst bV;rw [ho] at ag;simp only [Option.some.injEq] at ag;subst ag;rw [hd];simp only [bn];rw [←h1] at hx;simp [List.getD,hx]
   ·have aP:=dk.gU i k _ o x (fun h=>bV h.symm) ho ag hd;have:=(h2 x hx).1 k o (by omega) ag hd
    rw [←this];unfold bn;split
    ·rename_i d b7;have:d≠x:=fun h=>aP (by rw [b7,h])
     simp [List.getD,List.getElem?_set_ne this]
    ·rfl
  ·rw [hs];have aP:=eu i _ (Nat.lt_succ_self _) ho;rw [←(h2 x hx).2 (fun k o hk ag=>eu k o (by omega) ag)]
   unfold bn;split
   ·rename_i d b7;have:d≠x:=fun h=>aP (by rw [b7,h])
    simp [List.getD,List.getElem?_set_ne this]
   ·rfl
structure qo (C:aK) (o:Op) (sz:Nat) (el:List AV) (x:Nat→Nat→AV) (u:Nat→Value):Prop where
 ev: ∀(X:bq) (q th:Bool) (o' :Oper) (s:ah) (H:J) (K:AV→J→Prop),o'.op=o→wpOp X C q th o' s H K→K (x H.bs.length H.st) (H.new sz false el)
 AG: ∀(i:Nat) (y:AV),el[i]? =some y→y.cells.length=sz
 rel: ∀(w:World) (G:J) (φ :af) (A:aj) (id ad c:Nat),G.get id=some ⟨ad,sz,false,el⟩→ad<G.st→ φ id=some (.at_ c 0)→el.length*sz≤aU w c→R w G φ A (x id ad) (u c)
def nx (el:List AV) (sz:Nat) (arr:Array Value):Prop:=el.length*sz≤arr.size∧
 ∀(i:Nat) (x:AV) (j:Nat) (y:AV) (v:Value),el[i]? =some x→x.cells[j]? =some y→arr[i*sz+j]? =some v→(∀(w:World) (G:J) (φ :af) (A:aj),R w G φ A y v)∧v.oneCell' =true
theorem AI {P:Program} {C:aK} (hE: ∀t ti,C.E t=some ti→aS P t ti) {X:bq} {q th:Bool} {o:Oper} {s:ah} {H:J} {K:AV→J→Prop} (he:jt o.op=true) (h:wpOp X C q th o s H K):
 ∃sz el x u,qo C o.op sz el x u∧ ∀(a:Act) (w:World),∃arr T,(execOp a.eval o).run P w= .ok (.value (u w.heap.size)) (w.alloc (.cells arr T))∧nx el sz arr:=by
 obtain ⟨dst,op,ty,pos,after,guard⟩:=o;simp only at he⊢;cases op with
 |alloc tt=>
  unfold wpOp at h;simp only [aO] at h;cases jJ:C.E tt with
  |none=>rw [jJ] at h;exact h.2.elim
  |some ti=>
   rw [jJ] at h;cases hz:eP ti with
   |none=>simp only [hz] at h;exact h.2.elim
   |some z=>
    have cz:z.cells.length=ti.sz:=by
     obtain ⟨zv,e1,e2,e3,e4,_,e5⟩:=ju (hE _ _ jJ) hz default;rw [e3,e4]
    refine ⟨ti.sz,[z],fun id ad=> .ptr id ad 0 0,fun c=> .pointer (some ⟨c,0,none⟩),⟨fun X q th o' s H K ho h=> ?_,fun i y hy=> ?_,fun w G φ A id ad c _ hv aX _=>oC hv aX⟩,fun a w=> ?_⟩
    ·obtain ⟨dst,op,ty,pos,after,guard⟩:=o';simp only at ho;subst ho;unfold wpOp at h;simp only [aO,jJ,hz] at h;exact h.2
    ·cases i with
     |zero=>simp at hy;subst hy;exact cz
     |succ i=>simp at hy
    ·obtain ⟨zv,e1,e2,e3,e4,_,e5⟩:=ju (hE _ _ jJ) hz w;refine ⟨zv.cells,tt,?_,by simp [e2],fun i x j y v hx hy hv=> ?_⟩
     ·show ((do pure (.value (←Instr.alloc tt true (.tuple #[]))):Sem Next).run P w)=_
      simp [Instr.alloc,e1,newVar,newRow]
     ·cases i with
      |zero=>
       simp only [List.getElem?_cons_zero,Option.some.injEq,Nat.zero_mul,Nat.zero_add] at hx hv;subst hx;rw [e3] at hy;have hh:=fun (w:World) (A:aj)=>e5 w A j y v hy hv;exact ⟨fun w G φ A=> .fr _ _ (hh w A).1,(hh w (fun _=>False)).2⟩
      |succ i=>simp at hx
 |buildSlice t n ps=>
  simp only [jt,Bool.and_eq_true,bne_iff_ne,ne_eq,List.all_eq_true] at he;obtain ⟨hn,hc⟩:=he;have qb: ∀(s s' :ah),(ps.toList.map fun p=>(p.1,ev s p.2))=ps.toList.map fun p=>(p.1,ev s' p.2):=fun s s' =>List.map_congr_left fun p hp=>by
   have:=hc p hp;cases hq:p.2 with
   |const v=>rfl
   |tmp x=>rw [hq] at this;simp [kT] at this
   |global x=>rfl
   |func x=>rfl
  unfold wpOp at h;simp only [aO,if_neg hn] at h;cases bp:cO C.E t with
  |none=>rw [bp] at h;exact h.2.elim
  |some te=>
   rw [bp] at h;obtain ⟨ti,e,ht,hu,cw⟩:=jw bp;cases hz:eP te with
   |none=>simp only [hz] at h;exact h.2.elim
   |some zA=>
    simp only [hz] at h;by_cases hcnd:n*te.sz≤1000000∧te.sz≠0
    ·rw [if_pos hcnd] at h;cases b4:iO te.sz (List.replicate n zA) (ps.toList.map fun p=>(p.1,ev s p.2)) with
     |none=>rw [b4] at h;exact h.2.elim
     |some el=>
      have parts: ∀(ρ :Operand→Value),(∀v,ρ (.const v)=v)→ ∀(w:World) (G:J) (φ :af) (A:aj),∀p∈ps.toList,R w G φ A (ev s p.2) (ρ p.2):=fun ρ aV w G φ A p hp=>by
       have:=hc p hp;cases hq:p.2 with
       |const v=>rw [aV];exact .fr _ _ (FR.ofValue w A v)
       |tmp x=>rw [hq] at this;simp [kT] at this
       |global x=>rw [hq] at this;simp [kT] at this
       |func x=>rw [hq] at this;simp [kT] at this
      have fill: ∀(ρ :Operand→Value),(∀v,ρ (.const v)=v)→ ∀(w0:World),∃(zv:Value) (b_:Array Value),(zeroValue e).run P w0= .ok zv w0∧Instr.fill (fun i=>some (i*te.sz,te.sz)) ((Array.range (n*te.sz)).map (fun k=>zv.cells[k % zv.cells.size]!)) ((ps.map fun (i,x)=>(i,ρ x)).toList)=some b_∧b_.size=el.length*te.sz∧el.length=n∧
       (∀(i:Nat) (x:AV),el[i]? =some x→x.cells.length=te.sz)∧nx el te.sz b_:=fun ρ aV w0=>by
       obtain ⟨zv,z1,z2,z3,z4,_,z5⟩:=ju (hE _ _ cw) hz w0;have go: ∀(w:World) (G:J) (φ :af) (A:aj),_:=fun w G φ A=>oQ (w:=w) (G:=G) (φ := φ) (A:=A) hcnd.2 _ _ (List.replicate n zA) ((Array.range (n*te.sz)).map (fun k=>zv.cells[k % zv.cells.size]!)) _ (mw (_E:=C.E) (parts ρ aV w G φ A)).1 (mw (_E:=C.E) (parts ρ aV w G φ A)).2
        (by simp) (fun i x hx=>by
         simp only [List.getElem?_replicate] at hx;split at hx
         ·simp only [Option.some.injEq] at hx;subst hx;rw [z3,z4]
         ·simp at hx)
        (fun i x j y v hx hy hv=>by
         simp only [List.getElem?_replicate] at hx;split at hx
         ·rename_i hi;simp only [Option.some.injEq] at hx;subst hx;rw [z3] at hy;have hj:j<te.sz:=by rw [←z4];exact (List.getElem?_eq_some_iff.1 hy).1
          have:=z5 w A j y v hy (lg z2 hi hj hv);exact ⟨.fr _ _ this.1,this.2⟩
         ·simp at hx) b4
       obtain ⟨b_,f1,f2,f3,f4,f5⟩:=go w0 ⟨0,[]⟩ (fun _=>none) (fun _=>False);refine ⟨zv,b_,z1,f1,f2,by rw [f3];simp,f4,by rw [f2];exact Nat.le_refl _,fun i x j y v hx hy hv=>⟨fun w G φ A=> ?_,(f5 i x j y v hx hy hv).2⟩⟩
       obtain ⟨CR,g1,_,_,_,g5⟩:=go w G φ A;rw [f1] at g1;simp only [Option.some.injEq] at g1;subst g1;exact (g5 i x j y v hx hy hv).1
      obtain ⟨_,_,_,_,_,hlen,AJ,_⟩:=fill (fun o=>match o with| .const v=>v|_=>undef) (fun _=>rfl) default
      refine ⟨te.sz,el,fun id ad=> .ref id ad 0 n,fun c=> .slice (some ⟨c,0,none⟩) n n,⟨fun X q th o' s' H K ho h=> ?_,AJ,fun w G φ A id ad c hg hv aX hb=> ?_⟩,fun a w=> ?_⟩
      ·obtain ⟨dst,op,ty,pos,after,guard⟩:=o';simp only at ho;subst ho;unfold wpOp at h;simp only [aO,if_neg hn,bp,hz,if_pos hcnd,qb s' s,b4] at h
       exact h.2
      ·exact kc hg hv aX (by simp [hlen]) (Nat.le_refl _) (by simp [hlen]) (by rw [←hlen];exact hb)
      ·obtain ⟨zv,b_,z1,f1,f2,_,_,lN⟩:=fill a.eval (fun _=>rfl) w;have iV:=(hE _ _ ht).sl w hu;have aP: ¬(n*te.sz=0):=by
        intro h0;rcases Nat.mul_eq_zero.1 h0 with h0|h0<;>omega
       have oS: ¬(n*te.sz>2^24):=by omega
       refine ⟨b_,e,?_,lN⟩;show ((do pure (.value (←Instr.buildSlice t n (ps.map fun (i,x)=>(i,a.eval x)))):Sem Next).run P w)=_
       simp only [Instr.buildSlice,Sem.run_bind,iV,Result.andThen_ok,(hE _ _ cw).sizeOf,oS,aP,if_false,z1,f1,Sem.run_pure,newRow,run_newObj,World.alloc_eq]
    ·rw [if_neg hcnd] at h;exact h.2.elim
 |_=>simp [jt] at he
structure ny (w0 w:World) (φ :af) (A:aj) (el:List AV) (sz n:Nat):Prop where
 old:w0.heap.size≤n
 lt:n<w.heap.size
 av:A n
 ow: ¬Ow φ n
 here: ∃arr T fr,w.heap[n]? =some (.cells arr T fr)∧(∀j,j<arr.size→ ¬(fr.1≤j∧j<fr.2))∧nx el sz arr
theorem ny.mono {w0 w w' :World} {G G' :J} {φ ak:af} {A A' :aj} {el:List AV} {sz n:Nat} (h:ny w0 w φ A el sz n) (o:Out w G φ A w' G' ak A'):ny w0 w' ak A' el sz n:=by
 refine ⟨h.old,Nat.lt_of_lt_of_le h.lt o.post.size,o.keep n h.av h.ow,fun hw=> ?_,?_⟩
 ·rcases o.post.own n hw with k|k
  ·exact h.ow k
  ·have:=h.lt;omega
 ·rw [o.post.kept n h.lt h.ow];exact h.here
def jL (C:aK) (ops:Array Oper) (aE:List Nat) (w0 w:World) (φ :af) (A:aj) (a:Act) (j n:Nat):Prop:=
 j∉aE∧ ∃(o:Oper) (d:Tmp) (sz:Nat) (el:List AV) (x:Nat→Nat→AV) (uv:Nat→Value),ops[j]? =some o∧o.guard=none∧o.dst=some d∧qo C o.op sz el x uv∧ny w0 w φ A el sz n∧
  ∀u,a.tmps[d]? =some u→u=uv n
theorem jL.mono {C:aK} {ops:Array Oper} {aE:List Nat} {w0 w w' :World} {G G' :J} {φ ak:af} {A A' :aj} {a a' :Act} {j n:Nat} (h:jL C ops aE w0 w φ A a j n) (o:Out w G φ A w' G' ak A')
 (ht: ∀(r:Oper) (d:Tmp),ops[j]? =some r→r.dst=some d→a'.tmps[d]? =a.tmps[d]?):jL C ops aE w0 w' ak A' a' j n:=by
 obtain ⟨h0,r,d,sz,el,x,uv,h1,h2,h4,h5,h7,h8⟩:=h;exact ⟨h0,r,d,sz,el,x,uv,h1,h2,h4,h5,h7.mono o,fun u hu=>h8 u (by rw [←ht r d h1 h4];exact hu)⟩
structure Inv (C:aK) (ops:Array Oper) (aE:List Nat) (s:Nat→ah) (H:Nat→J) (v:Nat→AV) (w0:World) (aD:af) (A0:aj) (listed:Array Bool) (a:Act) (w:World) (b c:Nat) (φ :af) (A:aj) (pn:Nat→Nat):Prop where
 size:listed.size=ops.size
 shut:tw ops (fun i=>listed.getD i false=true)
 bc:b≤c
 cn:c≤ops.size
 cl:c=ops.size∨c∈aE
 iF: ∀i,b≤i→i<c→i∉aE
 jf: ∀i,i∈aE→i<ops.size→(listed.getD i false=true↔i<b)
 base:b=0∨(b-1∈aE∧0<b)
 out:Out w0 (H 0) aD A0 w (H c) φ A
 none: ∀i,b≤i→i<c→listed.getD i false=false→ ∀id,(H i).bs.length≤id→id<(H (i+1)).bs.length→ φ id=none
 eW:a.defers=[]
 len:(s 0).length=a.tmps.size
 wr: ∀(k:Nat) (o:Oper) (d:Tmp) (u:Value),ops[k]? =some o→o.dst=some d→listed.getD k false=true→k<c→a.tmps[d]? =some u→R w (H c) φ A (v k) u
 early: ∀(k:Nat),c≤k→listed.getD k false=true→jL C ops aE w0 w φ A a k (pn k)
 nz: ∀(j k:Nat),c≤j→c≤k→listed.getD j false=true→listed.getD k false=true→pn j=pn k→j=k
 un: ∀(x:Tmp) (u:Value),(∀(k:Nat) (o:Oper),ops[k]? =some o→o.dst=some x→listed.getD k false=false)→a.tmps[x]? =some u→R w (H c) φ A ((s 0).getD x .undef) u
theorem nA {listed:Array Bool} {i:Nat} (hi:i<listed.size) (k:Nat):(listed.setIfInBounds i true).getD k false=true↔(k=i∨listed.getD k false=true):=by
 by_cases hk:k=i
 ·subst hk;simp [hi]
 ·rw [getD_set_ne false (fun h=>hk h.symm)];simp [hk]
variable {w0:World} {aD:af} {A0:aj} {listed:Array Bool} {a:Act} {w:World} {b c:Nat} {φ :af} {A:aj} {pn:Nat→Nat}
theorem Inv.look (inv:Inv C ops aE s H v w0 aD A0 listed a w b c φ A pn) (dk:iD ops aE) (t:je X C ops aE th K s H v act) {i:Nat} {o:Oper} (gp:i≤c) (ho:ops[i]? =some o) (hu:listed.getD i false=false) (ha: ∀e∈o.after,Region.binds .any e=true→listed.getD e.on false=true)
 {m:Nat} (hm:m≤ops.size) (tB:i≤m) (jg:m=i∨ ∀(k:Nat) (r:Oper) (d:Tmp),ops[k]? =some r→r.dst=some d→i≤k→d∉Oper.looksAt ops o) {x:Tmp} (hx:x∈Oper.looksAt ops o):R w (H c) φ A (ev (s m) (.tmp x)) (a.eval (.tmp x)):=by
 obtain ⟨hl,hg⟩:=nw dk t m hm;simp only [ev,Act.eval];by_cases az:x<(s 0).length
 ·have sP:x<a.tmps.size:=by rw [←inv.len];exact az
  have aN:=Array.getElem?_eq_getElem sP
  rw [Array.getD_eq_getD_getElem?,aN,Option.getD_some];by_cases hw: ∃(k:Nat) (r:Oper),ops[k]? =some r∧r.dst=some x
  ·obtain ⟨k,r,hk,hr⟩:=hw;rcases Nat.lt_trichotomy k i with bV|bV|bV
   ·have hb:=dk.ord i k o r x (by omega) ho hk hr hx
    rw [show max i k=i by omega,show min i k=k by omega] at hb
    have bN:=nu inv.shut dk.back i o ho ha k hb;rw [(hg x az).1 k r (by omega) hk hr]
    exact inv.wr k r x _ hk hr bN (by omega) aN
   ·subst bV;rw [ho] at hk;simp only [Option.some.injEq] at hk;subst hk;rcases jg with rfl|jg
    ·rw [(hg x az).2 (fun k' o' bK eM=>dk.gU k' m o' o x (by omega) eM ho hr)]
     refine inv.un x _ (fun k' o' eM b7=> ?_) aN
     by_cases lO:k' =m
     ·subst lO;exact hu
     ·exact absurd b7 (dk.gU k' m o' o x lO eM ho hr)
    ·exact absurd hx (jg k o x ho hr (Nat.le_refl _))
   ·rcases jg with rfl|jg
    ·have hb:=dk.ord m k o r x (by omega) ho hk hr hx
     rw [show max m k=k by omega,show min m k=m by omega] at hb
     have AK:listed.getD k false=false:=by
      cases hq:listed.getD k false with
      |false=>rfl
      |true=>
       have:=nu inv.shut dk.back k r hk (inv.shut k r hk hq) m hb;rw [hu] at this;simp at this
     rw [(hg x az).2 (fun k' o' bK eM=>dk.gU k' k o' r x (by omega) eM hk hr)]
     refine inv.un x _ (fun k' o' eM b7=> ?_) aN
     by_cases lO:k' =k
     ·subst lO;exact AK
     ·exact absurd b7 (dk.gU k' k o' r x lO eM hk hr)
    ·exact absurd hx (jg k r x hk hr (by omega))
  ·rw [(hg x az).2 (fun k' o' _ eM b7=>hw ⟨k',o',eM,b7⟩)]
   exact inv.un x _ (fun k' o' eM b7=>absurd ⟨k',o',eM,b7⟩ hw) aN
 ·have:(s m).getD x .undef= .undef:=by simp [List.getD,List.getElem?_eq_none (show (s m).length≤x by rw [hl];exact Nat.le_of_not_lt az)]
  rw [this];exact .fr _ _ (.undef _)
theorem Inv.qp (inv:Inv C ops aE s H v w0 aD A0 listed a w b c φ A pn) (dk:iD ops aE) (t:je X C ops aE th K s H v act) {i:Nat} {o:Oper} (gp:i≤c) (ho:ops[i]? =some o) (hu:listed.getD i false=false) (ha: ∀e∈o.after,Region.binds .any e=true→listed.getD e.on false=true)
 {m:Nat} (hm:m≤ops.size) (tB:i≤m) (jg:m=i∨ ∀(k:Nat) (r:Oper) (d:Tmp),ops[k]? =some r→r.dst=some d→i≤k→d∉Oper.looksAt ops o): ∀y∈o.op.operands,R w (H c) φ A (ev (s m) y) (a.eval y):=by
 intro y hy;cases y with
 |tmp x=>
  refine inv.look dk t gp ho hu ha hm tB jg ?_;unfold Oper.looksAt;refine List.mem_append.2 (.inl (List.mem_filterMap.2 ⟨.tmp x,by simpa using hy,rfl⟩))
 |const v=>exact .fr _ _ (FR.ofValue w A v)
 |global g=>exact .fr _ _ (.undef _)
 |func f=>exact .fr _ _ (.fn f [] #[] rfl (by simp))
theorem Inv.kx (inv:Inv C ops aE s H v w0 aD A0 listed a w b c φ A pn) (c7:St w0 (H 0) aD A0) (dk:iD ops aE) (t:je X C ops aE th K s H v act) {i:Nat} {o:Oper} (gp:i<c) (ho:ops[i]? =some o) (hl:i∉aE) (ha: ∀e∈o.after,Region.binds .any e=true→listed.getD e.on false=true)
 {u:Value} {w' :World} {φ1:af} {A1:aj} (bu:Out w (H c) φ A w' (H c) φ1 A1) (hr: ∀d,o.dst=some d→d<a.tmps.size→R w' (H c) φ1 A1 (v i) u)
 (br: ∀id loc,φ1 id=some loc→ φ id=some loc∨(b≤i∧i<c∧(H i).bs.length≤id∧id<(H (i+1)).bs.length)):Inv C ops aE s H v w0 aD A0 (listed.setIfInBounds i true) (a.put o.dst u) w' b c φ1 A1 pn:=by
 have hi:i<ops.size:=(Array.getElem?_eq_some_iff.1 ho).1;have aB:i<listed.size:=by rw [inv.size];exact hi
 have bP:=nA aB;have jM: ∀k,(listed.setIfInBounds i true).getD k false=false→k≠i∧listed.getD k false=false:=fun k hk=>by
  have:=(not_congr (bP k)).1 (by rw [hk];simp)
  refine ⟨fun h=>this (.inl h),?_⟩;cases hq:listed.getD k false with
  |false=>rfl
  |true=>exact absurd (.inr hq) this
 refine ⟨by simp [inv.size],fun k r hk bN e he hb=> ?_,inv.bc,inv.cn,inv.cl,inv.iF,fun k hk lP=> ?_,inv.base,inv.out.trans c7 bu,fun k h1 h2 h3 id h4 h5=> ?_,?_,?_,fun k r d u' hk b9 bN ep aN=> ?_,fun k jN bN=> ?_,fun j k hj hk jh bN hp=>inv.nz j k hj hk (((bP j).1 jh).resolve_left (by omega)) (((bP k).1 bN).resolve_left (by omega)) hp,fun x u' eu aN=> ?_⟩
 ·rcases (bP k).1 bN with rfl|bN
  ·rw [ho] at hk;simp only [Option.some.injEq] at hk;subst hk;exact (bP _).2 (.inr (ha e he hb))
  ·exact (bP _).2 (.inr (inv.shut k r hk bN e he hb))
 ·rw [bP,←inv.jf k hk lP];constructor
  ·rintro (rfl|h)
   ·exact absurd hk hl
   ·exact h
  ·exact .inr
 ·obtain ⟨bV,bN⟩:=jM k h3;have lQ:=inv.cn;cases hq: φ1 id with
  |none=>rfl
  |some loc=>
   rcases br id loc hq with h|⟨h6,h7,h8,h9⟩
   ·rw [inv.none k h1 h2 bN id h4 h5] at h;simp at h
   ·exfalso;rcases Nat.lt_or_ge k i with az|AM
    ·have:=(iE t (i-(k+1)) (k+1) (by omega) (fun j j1 j2=>inv.iF j (by omega) (by omega))).1.2
     rw [show k+1+(i-(k+1))=i by omega] at this
     omega
    ·have:=(iE t (k-(i+1)) (i+1) (by omega) (fun j j1 j2=>inv.iF j (by omega) (by omega))).1.2
     rw [show i+1+(k-(i+1))=k by omega] at this
     omega
 ·cases hd:o.dst<;>simp [Act.put,inv.eW]
 ·cases hd:o.dst<;>simp [Act.put,inv.len]
 ·by_cases bV:k=i
  ·subst bV;rw [ho] at hk;simp only [Option.some.injEq] at hk;subst hk;rw [b9] at aN;simp only [Act.put,Array.getElem?_setIfInBounds] at aN;simp only [if_true] at aN;split at aN
   ·rename_i az;simp only [Option.some.injEq] at aN;subst aN;exact hr d b9 az
   ·simp at aN
  ·have bN:=((bP k).1 bN).resolve_left bV;have aP:o.dst≠some d:=dk.gU i k o r d (fun h=>bV h.symm) ho hk b9;have:a.tmps[d]? =some u' :=by
    cases hd:o.dst with
    |none=>rw [hd] at aN;exact aN
    |some d' =>
     rw [hd] at aN;simp only [Act.put,Array.getElem?_setIfInBounds] at aN;rw [if_neg (by rintro rfl;exact aP hd)] at aN
     exact aN
   exact (inv.wr k r d u' hk b9 bN ep this).mono bu.bE
 ·have bV:k≠i:=by omega
  refine (inv.early k jN (((bP k).1 bN).resolve_left bV)).mono bu fun r d hk b9=> ?_
  have aP:o.dst≠some d:=dk.gU i k o r d (fun h=>bV h.symm) ho hk b9;cases hd:o.dst with
  |none=>rfl
  |some d' =>
   simp only [Act.put,Array.getElem?_setIfInBounds];rw [if_neg (by rintro rfl;exact aP hd)]
 ·have aP:o.dst≠some x:=fun hd=>by have:=eu i o ho hd;have h2:=(bP i).2 (.inl rfl);rw [this] at h2;simp at h2
  have:a.tmps[x]? =some u' :=by
   cases hd:o.dst with
   |none=>rw [hd] at aN;exact aN
   |some d' =>
    rw [hd] at aN;simp only [Act.put,Array.getElem?_setIfInBounds] at aN;rw [if_neg (by rintro rfl;exact aP hd)] at aN
    exact aN
  exact (inv.un x u' (fun k r hk b9=>(jM k (eu k r hk b9)).2) this).mono bu.bE
theorem AN {w:World} {G:J} {φ :af} {A:aj} (ae:St w G φ A) (o:Obj):Out w G φ A (w.alloc o) G φ (fun c=>A c∨c=w.heap.size):=by
 have aT:bI w G φ A (w.alloc o) G φ (fun c=>A c∨c=w.heap.size):=⟨fun c a t fr hc hn=>⟨⟨fr,by rw [heap_alloc_old w _ (ek hc)];exact hc⟩,fun h=>by have:=ek hc;rcases h with h|h;exact hn h;omega⟩,Nat.le_refl _,
  fun i b' aw _=>⟨b',aw,rfl,rfl,rfl,rfl,fun loc hl=>hl⟩,fun c hc=>by unfold aU;rw [heap_alloc_old w _ (Ow.lt ae hc)]⟩
 refine ⟨⟨ae.inj,fun c hc=> .inl (ae.own c hc),fun c hc=> ?_,fun i loc hl=> ?_⟩,
  ⟨rfl,rfl,rfl,by simp,fun c hc _=>heap_alloc_old w _ hc,fun c hc=>by unfold aU;rw [heap_alloc_old w _ hc],fun c hc=> .inl hc⟩,aT,fun c hc _=> .inl hc⟩
 ·simp only [World.size_alloc];rcases hc with h|h
  ·have:=ae.bY c h;omega
  ·omega
 obtain ⟨b',cH,aw⟩:=ae.ap i loc hl;refine ⟨b',cH,aw.ad,aw.sized,aw.aQ,fun c b0 h=> ?_⟩;obtain ⟨a,t,fr,h1,h2,h3,h4⟩:=aw.here c b0 h;exact ⟨a,t,fr,by rw [heap_alloc_old w _ (ek h1)];exact h1,h2,h3,fun i x j y v hx hy hv=>⟨(h4 i x j y v hx hy hv).1.mono aT,(h4 i x j y v hx hy hv).2⟩⟩
theorem Inv.AO (inv:Inv C ops aE s H v w0 aD A0 listed a w b c φ A pn) (c7:St w0 (H 0) aD A0) (dk:iD ops aE) {i:Nat} {o:Oper} (CS:c≤i) (ho:ops[i]? =some o) (CT:listed.getD i false=false) (hl:i∉aE) (hg:o.guard=Option.none) {d:Tmp} (hd:o.dst=some d)
 {sz:Nat} {el:List AV} {x:Nat→Nat→AV} {uv:Nat→Value} (bd:qo C o.op sz el x uv) (ha: ∀e∈o.after,Region.binds .any e=true→listed.getD e.on false=true) {arr:Array Value} {T:TypeId} (lN:nx el sz arr):
 Inv C ops aE s H v w0 aD A0 (listed.setIfInBounds i true) (a.put o.dst (uv w.heap.size)) (w.alloc (.cells arr T)) b c φ (fun k=>A k∨k=w.heap.size) (fun k=>if k=i then w.heap.size else pn k):=by
 have hi:i<ops.size:=(Array.getElem?_eq_some_iff.1 ho).1;have AP:i<listed.size:=by rw [inv.size];exact hi
 have bP:=nA AP;have bu:=AN inv.out.st (.cells arr T);have jM: ∀k,(listed.setIfInBounds i true).getD k false=false→k≠i∧listed.getD k false=false:=fun k hk=>by
  have:=(not_congr (bP k)).1 (by rw [hk];simp)
  refine ⟨fun h=>this (.inl h),?_⟩;cases hq:listed.getD k false with
  |false=>rfl
  |true=>exact absurd (.inr hq) this
 have kz: ∀(x:Tmp),o.dst≠some x→(a.put o.dst (uv w.heap.size)).tmps[x]? =a.tmps[x]? :=fun x aP=>by
  rw [hd] at aP⊢;simp only [Act.put,Array.getElem?_setIfInBounds];rw [if_neg (by rintro rfl;exact aP rfl)]
 refine ⟨by simp [inv.size],fun k r hk bN e he hb=> ?_,inv.bc,inv.cn,inv.cl,inv.iF,fun k hk lP=> ?_,inv.base,inv.out.trans c7 bu,fun k h1 h2 h3 id h4 h5=>inv.none k h1 h2 (jM k h3).2 id h4 h5,?_,?_,fun k r d' u' hk b9 bN ep aN=> ?_,fun k jN bN=> ?_,fun j k hj hk jh bN hp=> ?_,fun x u' eu aN=> ?_⟩
 ·rcases (bP k).1 bN with rfl|bN
  ·rw [ho] at hk;simp only [Option.some.injEq] at hk;subst hk;exact (bP _).2 (.inr (ha e he hb))
  ·exact (bP _).2 (.inr (inv.shut k r hk bN e he hb))
 ·rw [bP,←inv.jf k hk lP];constructor
  ·rintro (rfl|h)
   ·exact absurd hk hl
   ·exact h
  ·exact .inr
 ·rw [hd];simp [Act.put,inv.eW]
 ·rw [hd];simp [Act.put,inv.len]
 ·have bV:k≠i:=by omega
  have aP:o.dst≠some d' :=dk.gU i k o r d' (fun h=>bV h.symm) ho hk b9
  rw [kz d' aP] at aN
  exact (inv.wr k r d' u' hk b9 (((bP k).1 bN).resolve_left bV) ep aN).mono bu.bE
 ·by_cases bV:k=i
  ·subst bV;simp only [if_true];refine ⟨hl,o,d,sz,el,x,uv,ho,hg,hd,bd,⟨inv.out.post.size,by simp,.inr rfl,fun h=>by have:=Ow.lt inv.out.st h;omega,arr,T,(0,0),heap_alloc_new w _,fun j _ h=>absurd h.2 (Nat.not_lt_zero j),lN⟩,fun u hu=> ?_⟩
   rw [hd] at hu;simp only [Act.put,Array.getElem?_setIfInBounds,if_true] at hu;split at hu
   ·simpa using hu.symm
   ·simp at hu
  ·simp only [if_neg bV];exact (inv.early k jN (((bP k).1 bN).resolve_left bV)).mono bu fun r d' hk b9=>kz d' (dk.gU i k o r d' (fun h=>bV h.symm) ho hk b9)
 ·have one: ∀k,c≤k→(listed.setIfInBounds i true).getD k false=true→k≠i→pn k≠w.heap.size:=fun k jN bN bV he=>by
   obtain ⟨_,_,_,_,_,_,_,_,_,_,_,hp,_⟩:=inv.early k jN (((bP k).1 bN).resolve_left bV);have:=hp.lt;omega
  by_cases kA:j=i
  ·by_cases bV:k=i
   ·rw [kA,bV]
   ·simp only [kA,if_true,if_neg bV] at hp;exact absurd hp.symm (one k hk bN bV)
  ·by_cases bV:k=i
   ·simp only [bV,if_true,if_neg kA] at hp;exact absurd hp (one j hj jh kA)
   ·simp only [if_neg kA,if_neg bV] at hp;exact inv.nz j k hj hk (((bP j).1 jh).resolve_left kA) (((bP k).1 bN).resolve_left bV) hp
 ·have aP:o.dst≠some x:=fun hd=>by have:=eu i o ho hd;have h2:=(bP i).2 (.inl rfl);rw [this] at h2;simp at h2
  rw [kz x aP] at aN;exact (inv.un x u' (fun k r hk b9=>(jM k (eu k r hk b9)).2) aN).mono bu.bE
theorem fill (t:je X C ops aE th K s H v act) (c7:St w0 (H 0) aD A0) {lst:Nat→Prop} {lo hi:Nat} (hq: ∀j,lo≤j→j≤hi→QG (H j) (H hi)) (hlen: ∀j k,lo≤j→j≤k→k≤hi→(H j).bs.length≤(H k).bs.length)
 (hinj: ∀j k,lo≤j→lo≤k→lst j→lst k→pn j=pn k→j=k) (bu:Out w0 (H 0) aD A0 w (H hi) φ A) (hE: ∀j,lo≤j→lst j→jL C ops aE w0 w φ A a j (pn j)) (iu: ∀id,(H lo).bs.length≤id→ φ id=none):
 ∀m,lo≤m→m≤hi→ ∃a8,Out w0 (H 0) aD A0 w (H hi) a8 A∧bI w (H hi) φ A w (H hi) a8 A∧(∀j,lo≤j→j<m→lst j→ ∀(o:Oper) (d:Tmp) (u:Value),ops[j]? =some o→o.dst=some d→a.tmps[d]? =some u→R w (H hi) a8 A (v j) u)∧
  (∀id loc,a8 id=some loc→ φ id=some loc∨ ∃j,lo≤j∧j<m∧lst j∧(H j).bs.length≤id∧id<(H (j+1)).bs.length)∧(∀j,m≤j→lst j→jL C ops aE w0 w a8 A a j (pn j)):=by
 intro m hm;obtain ⟨k,rfl⟩:=Nat.exists_eq_add_of_le hm;clear hm;induction k with
 |zero=>exact fun _=>⟨φ,bu,.refl _ _ _ _,fun j h1 h2=>by omega,fun id loc h=> .inl h,hE⟩
 |succ k ih=>
  intro tC;obtain ⟨a8,k1,k2,k3,k4,k5⟩:=ih (by omega)
  rw [show lo+(k+1)=lo+k+1 by omega] at tC⊢
  have hm:lo≤lo+k:=Nat.le_add_right _ _;generalize lo+k=m at hm tC k3 k4 k5⊢;by_cases hL:lst m
  ·obtain ⟨gV,o,d,sz,el,x,uv,e1,e2,e4,e5,hp,hu⟩:=k5 m (Nat.le_refl _) hL;obtain ⟨_,s2,s3,_,_⟩:=t.step m o (by rw [Array.getElem?_toList];exact e1)
   have fm:act m=true:=by
    simp only [dC,e2,Option.some.injEq] at s2;exact s2.symm
   have hw:=s3 fm;obtain ⟨hv,hH⟩:v m=x (H m).bs.length (H m).st∧H (m+1)=(H m).new sz false el:=by
    have:=e5.ev _ _ _ _ _ _ _ rfl hw;exact ⟨this.1.symm,this.2.symm⟩
   have cS:=hq (m+1) (by omega) (by omega)
   have hb:(H hi).get (H m).bs.length=some ⟨(H m).st,sz,false,el⟩:=by
    refine cS.1.1.1 _ _ ?_;rw [hH];simp [J.get,J.new]
   have bQ:(H m).st<(H hi).st:=by
    have:=cS.1.1.2;rw [hH] at this;exact this
   have aX:a8 (H m).bs.length=none:=by
    cases hc:a8 (H m).bs.length with
    |none=>rfl
    |some loc=>
     exfalso;rcases k4 _ _ hc with h|⟨j,h1,h2,_,_,h4⟩
     ·rw [iu _ (hlen lo m (Nat.le_refl _) hm (by omega))] at h;simp at h
     ·have:=hlen (j+1) m (by omega) (by omega) (by omega)
      omega
   obtain ⟨arr,T,fr,h1,h2,h3,h5⟩:=hp.here
   let cN:af:=fun i=>if i=(H m).bs.length then some (.at_ (pn m) 0) else a8 i
   have dV: ∀c,Ow cN c→Ow a8 c∨c=pn m:=by
    rintro c ⟨i,b0,h⟩;simp only [cN] at h;split at h
    ·simp only [Option.some.injEq,Loc.at_.injEq] at h;exact .inr h.1.symm
    ·exact .inl ⟨i,b0,h⟩
   have aT:bI w (H hi) a8 A w (H hi) cN A:=by
    refine ⟨fun c a t fr hc hn=>⟨⟨fr,hc⟩,hn⟩,Nat.le_refl _,fun i b' aw _=>⟨b',aw,rfl,rfl,rfl,rfl,fun loc hl=> ?_⟩,fun _ _=>rfl⟩
    simp only [cN];split
    ·rename_i h;subst h;rw [aX] at hl;simp at hl
    ·exact hl
   have lR:St w (H hi) cN A:=by
    refine ⟨fun i i' c b0 b1 h1 h2=> ?_,fun c hc=> ?_,k1.st.bY,fun i loc hl=> ?_⟩
    ·simp only [cN] at h1 h2;split at h1
     ·rename_i fK;split at h2
      ·rename_i CU;omega
      ·simp only [Option.some.injEq,Loc.at_.injEq] at h1;exact absurd ⟨i',b1,by rw [h1.1];exact h2⟩ hp.ow
     ·split at h2
      ·simp only [Option.some.injEq,Loc.at_.injEq] at h2;exact absurd ⟨i,b0,by rw [h2.1];exact h1⟩ hp.ow
      ·exact k1.st.inj i i' c b0 b1 h1 h2
    ·rcases dV c hc with h|h
     ·exact k1.st.own c h
     ·rw [h];exact hp.av
    ·simp only [cN] at hl;split at hl
     ·rename_i fK;subst fK;simp only [Option.some.injEq] at hl;subst hl;refine ⟨_,hb,bQ,e5.AG,by simp,fun c b0 h=> ?_⟩
      simp only [Loc.at_.injEq] at h;obtain ⟨rfl,rfl⟩:=h;refine ⟨arr,T,fr,h1,h2,by rw [Nat.zero_add];exact h3,fun i x j y v hx hy hv=> ?_⟩
      rw [Nat.zero_add] at hv;obtain ⟨g1,g2⟩:=h5 i x j y v hx hy hv;exact ⟨g1 _ _ _ _,g2⟩
     ·obtain ⟨b',cH,aw⟩:=k1.st.ap i loc hl;refine ⟨b',cH,aw.ad,aw.sized,aw.aQ,fun c b0 h=> ?_⟩;obtain ⟨a,t,fr,h1,h2,h3,h4⟩:=aw.here c b0 h;exact ⟨a,t,fr,h1,h2,h3,fun i x j y v hx hy hv=>⟨(h4 i x j y v hx hy hv).1.mono aT,(h4 i x j y v hx hy hv).2⟩⟩
   have AQ:Out w0 (H 0) aD A0 w (H hi) cN A:=by
    refine ⟨lR,⟨k1.post.os,k1.post.tape,k1.post.output,k1.post.size,k1.post.kept,k1.post.aU,fun c hc=> ?_⟩,k1.bE.trans aT (fun c hc=>k1.post.aU c (Ow.lt c7 hc)),k1.keep⟩;rcases dV c hc with h|h
    ·exact k1.post.own c h
    ·right;rw [h];exact hp.old
   refine ⟨cN,AQ,k2.trans aT (fun _ _=>rfl),fun j j1 j2 j3 o' d' u' q1 q2 q3=> ?_,fun id loc h=> ?_,fun j j1 j2=> ?_⟩
   ·by_cases qq:j=m
    ·subst qq;rw [e1] at q1;simp only [Option.some.injEq] at q1;subst q1;rw [e4] at q2;simp only [Option.some.injEq] at q2;subst q2;rw [hu u' q3,hv]
     exact e5.rel _ _ _ _ _ _ _ hb bQ (by simp [cN]) (by unfold aU;rw [h1];exact h3)
    ·exact (k3 j j1 (by omega) j3 o' d' u' q1 q2 q3).mono aT
   ·simp only [cN] at h;split at h
    ·rename_i bL;refine .inr ⟨m,hm,Nat.lt_succ_self _,hL,by omega,?_⟩
     rw [hH];simp [J.new];omega
    ·rcases k4 id loc h with h|⟨j,q1,q2,q3⟩
     ·exact .inl h
     ·exact .inr ⟨j,q1,by omega,q3⟩
   ·obtain ⟨g0,r,d',AR,gN,x',AS,g1,g2,g4,g5,g7,g8⟩:=k5 j (by omega) j2
    refine ⟨g0,r,d',AR,gN,x',AS,g1,g2,g4,g5,⟨g7.old,g7.lt,g7.av,fun h=> ?_,g7.here⟩,g8⟩;rcases dV _ h with h|h
    ·exact g7.ow h
    ·have:=hinj j m (by omega) hm j2 hL h
     omega
  ·refine ⟨a8,k1,k2,fun j j1 j2 j3=> ?_,fun id loc h=> ?_,fun j j1 j2=>k5 j (by omega) j2⟩
   ·by_cases qq:j=m
    ·subst qq;exact absurd j3 hL
    ·exact k3 j j1 (by omega) j3
   ·rcases k4 id loc h with h|⟨j,q1,q2,q3⟩
    ·exact .inl h
    ·exact .inr ⟨j,q1,by omega,q3⟩
end draw
end Go.VS
namespace Go.VS
section draw
variable {P:Program} {C:aK} {X:bq} {ops:Array Oper} {aE:List Nat} {th:List Nat} {K:ah→J→Prop} {s:Nat→ah} {H:Nat→J} {v:Nat→AV} {act:Nat→Bool}
variable {w0:World} {aD:af} {A0:aj} {listed:Array Bool} {a:Act} {w:World} {b c:Nat} {φ :af} {A:aj} {pn:Nat→Nat}
theorem Inv.AT (inv:Inv C ops aE s H v w0 aD A0 listed a w b c φ A pn) (dk:iD ops aE) {i:Nat} {o:Oper} (ho:ops[i]? =some o) (ha: ∀e∈o.after,Region.binds .any e=true→listed.getD e.on false=true):i≤c∨(i∉aE∧o.guard=Option.none∧jt o.op=true∧ ∃d,o.dst=some d):=by
 rcases Nat.lt_or_ge c i with h|h
 ·have hi:i<ops.size:=(Array.getElem?_eq_some_iff.1 ho).1;rcases inv.cl with hc|hc
  ·omega
  ·have AU:=Array.getElem?_eq_getElem (xs:=ops) (show c<ops.size by omega)
   rcases dk.after c i _ o AU ho hc h with hb|hb
   ·exfalso;have hL:=nu inv.shut dk.back i o ho ha c hb;have:=(inv.jf c hc (by omega)).1 hL
    have:=inv.bc;omega
   ·exact .inr hb
 ·exact .inl h
theorem Inv.tD (inv:Inv C ops aE s H v w0 aD A0 listed a w b c φ A pn) (c7:St w0 (H 0) aD A0) (dk:iD ops aE) (t:je X C ops aE th K s H v act) {o:Oper} (ho:ops[c]? =some o) (hl:c∈aE) (ha: ∀e∈o.after,Region.binds .any e=true→listed.getD e.on false=true)
 {u:Value} {w' :World} {φ1:af} {A1:aj} (bu:Out w (H c) φ A w' (H (c+1)) φ1 A1) (hr:R w' (H (c+1)) φ1 A1 (v c) u): ∃c' a8,Inv C ops aE s H v w0 aD A0 (listed.setIfInBounds c true) (a.put o.dst u) w' (c+1) c' a8 A1 pn:=by
 have hi:c<ops.size:=(Array.getElem?_eq_some_iff.1 ho).1;have aB:c<listed.size:=by rw [inv.size];exact hi
 have bP:=nA aB;have AW:=inv.bc;have CV:listed.getD c false=false:=by
  cases hq:listed.getD c false with
  |false=>rfl
  |true=>have:=(inv.jf c hl hi).1 hq;omega
 have jM: ∀k,(listed.setIfInBounds c true).getD k false=false→k≠c∧listed.getD k false=false:=fun k hk=>by
  have:=(not_congr (bP k)).1 (by rw [hk];simp)
  refine ⟨fun h=>this (.inl h),?_⟩;cases hq:listed.getD k false with
  |false=>rfl
  |true=>exact absurd (.inr hq) this
 have kz: ∀(k:Nat) (r:Oper) (d:Tmp),k≠c→ops[k]? =some r→r.dst=some d→(a.put o.dst u).tmps[d]? =a.tmps[d]? :=fun k r d ep hk b9=>by
  have aP:o.dst≠some d:=dk.gU c k o r d (fun h=>ep h.symm) ho hk b9;cases hd:o.dst with
  |none=>rfl
  |some d' =>
   simp only [Act.put,Array.getElem?_setIfInBounds];rw [if_neg (by rintro rfl;exact aP hd)]
 obtain ⟨c',k1,k2,k3,k4⟩:=qn aE ops.size (ops.size-(c+1)) (c+1) rfl (by omega)
 have hQ: ∀j k,c+1≤j→j≤k→k≤c' →QG (H j) (H k):=fun j k h1 h2 h3=>by
  have:=iE t (k-j) j (by omega) (fun i i1 i2=>k4 i (by omega) (by omega))
  rwa [show j+(k-j)=k by omega] at this
 have gW:=hQ (c+1) c' (Nat.le_refl _) k1 (Nat.le_refl _)
 have hlen: ∀j k,c+1≤j→j≤k→k≤c' →(H j).bs.length≤(H k).bs.length:=fun j k h1 h2 h3=>(hQ j k h1 h2 h3).1.2
 have hex:=jA bu.st gW.1.1 gW.2;have aT:=bu.bE.trans hex.bE (fun k hk=>by rw [(bu.post.trans hex.post).aU k (Ow.lt inv.out.st hk)])
 have hE: ∀j,c+1≤j→(listed.setIfInBounds c true).getD j false=true→jL C ops aE w0 w' φ1 A1 (a.put o.dst u) j (pn j):=fun j hj hL=>
  (inv.early j (by omega) (((bP j).1 hL).resolve_left (by omega))).mono bu fun r d hk b9=>kz j r d (by omega) hk b9
 obtain ⟨a8,o2,qt,r2,m2,e2⟩:=fill (lst:=fun j=>(listed.setIfInBounds c true).getD j false=true) t c7 (fun j h1 h2=>hQ j c' h1 h2 (Nat.le_refl _)) hlen
  (fun j k hj hk jh bN hp=>inv.nz j k (by omega) (by omega) (((bP j).1 jh).resolve_left (by omega)) (((bP k).1 bN).resolve_left (by omega)) hp) ((inv.out.trans c7 bu).trans c7 hex) hE (fun id h=>bu.st.new h) c' k1 (Nat.le_refl _)
 refine ⟨c',a8,by simp [inv.size],fun k r hk bN e he hb=> ?_,k1,k2,k3,k4,fun k hk lP=> ?_,.inr ⟨by simpa using hl,Nat.succ_pos _⟩,o2,fun k h1 h2 h3 id h4 h5=> ?_,?_,?_,fun k r d u' hk b9 bN AX aN=> ?_,fun k jN bN=>e2 k jN bN,
  fun j k hj hk jh bN hp=>inv.nz j k (by omega) (by omega) (((bP j).1 jh).resolve_left (by omega)) (((bP k).1 bN).resolve_left (by omega)) hp,fun x u' eu aN=> ?_⟩
 ·by_cases ep:k=c
  ·subst ep;rw [ho] at hk;simp only [Option.some.injEq] at hk;subst hk;exact (bP _).2 (.inr (ha e he hb))
  ·exact (bP _).2 (.inr (inv.shut k r hk (((bP k).1 bN).resolve_left ep) e he hb))
 ·rw [bP,inv.jf k hk lP];constructor
  ·rintro (h|h)<;>omega
  ·intro h;by_cases ep:k=c
   ·exact .inl ep
   ·right;rcases Nat.lt_or_ge k b with h' |h'
    ·exact h'
    ·exact absurd hk (inv.iF k h' (by omega))
 ·cases hp:a8 id with
  |none=>rfl
  |some loc=>
   exfalso;rcases m2 id loc hp with h|⟨j,j1,j2,j3,j4,j5⟩
   ·rw [bu.st.new (Nat.le_trans (hlen (c+1) k (Nat.le_refl _) h1 (by omega)) h4)] at h;simp at h
   ·have:j=k:=by
     rcases Nat.lt_trichotomy j k with h|h|h
     ·have:=hlen (j+1) k (by omega) (by omega) (by omega);omega
     ·exact h
     ·have:=hlen (k+1) j (by omega) (by omega) (by omega);omega
    subst this;rw [h3] at j3;simp at j3
 ·cases hd:o.dst<;>simp [Act.put,inv.eW]
 ·cases hd:o.dst<;>simp [Act.put,inv.len]
 ·by_cases bV:k=c
  ·subst bV;rw [ho] at hk;simp only [Option.some.injEq] at hk;subst hk;rw [b9] at aN;simp only [Act.put,Array.getElem?_setIfInBounds] at aN;simp only [if_true] at aN;split at aN
   ·rename_i az;simp only [Option.some.injEq] at aN;subst aN;exact (hr.mono hex.bE).mono qt
   ·simp at aN
  ·rcases Nat.lt_or_ge k c with az|AM
   ·rw [kz k r d bV hk b9] at aN;exact ((inv.wr k r d u' hk b9 (((bP k).1 bN).resolve_left bV) az aN).mono aT).mono qt
   ·exact r2 k (by omega) AX bN r d u' hk b9 aN
 ·have aP:o.dst≠some x:=fun hd=>by have:=eu c o ho hd;have h2:=(bP c).2 (.inl rfl);rw [this] at h2;simp at h2
  have:a.tmps[x]? =some u' :=by
   cases hd:o.dst with
   |none=>rw [hd] at aN;exact aN
   |some d' =>
    rw [hd] at aN;simp only [Act.put,Array.getElem?_setIfInBounds] at aN;rw [if_neg (by rintro rfl;exact aP hd)] at aN
    exact aN
  exact ((inv.un x u' (fun k r hk b9=>(jM k (eu k r hk b9)).2) this).mono aT).mono qt
theorem AY {op:Op} (h:ia op=true) (hc: ∀c,op≠ .call c):dT op=true:=by
 cases op<;>first|rfl|exact absurd rfl (hc _)|(simp [ia] at h)
theorem AZ {X:bq} {C:aK} {th:Bool} {o:Oper} {s:ah} {H H' :J} {x:AV} (hl:ia o.op=true) (h:h_ C.E o.op s H=some (x,H')):wpOp X C true th o s H (fun v1 H1=>v1=x∧H1=H'):=by
 unfold wpOp;split
 ·rename_i b args tys bd;rw [bd] at hl h;cases b<;>first|(simp [ia] at hl;done)|skip
  simp only [h_] at h;rw [h];exact ⟨fun _=>rfl,rfl,rfl⟩
 ·rename_i y args tys bd;rw [bd] at hl;simp [ia] at hl
 ·rename_i h1 h2;have hc: ∀c,o.op≠ .call c:=by
   rintro ⟨A7,args,tys⟩ bd;rw [bd] at hl;cases A7 with
   |builtin b=>exact h1 _ _ _ bd
   |value f=>exact h2 _ _ _ bd
   |_=>simp [ia] at hl
  have he:h_ C.E o.op s H=aO C.E o.op s H:=by
   revert hc;generalize o.op=op;intro hc;cases op<;>first|rfl|exact absurd rfl (hc _)
  rw [he] at h;rw [h];exact ⟨fun _=>AY hl hc,rfl,rfl⟩
def left (ops:Array Oper) (listed:Array Bool):Nat:=((List.range ops.size).filter fun k=> !listed.getD k false).length
theorem A8 {ops:Array Oper} {listed:Array Bool} {i:Nat} (hs:listed.size=ops.size) (hi:i<ops.size) (hu:listed.getD i false=false):left ops (listed.setIfInBounds i true)<left ops listed:=by
 have bP:=nA (listed:=listed) (i:=i) (by omega)
 have he:((List.range ops.size).filter fun k=> !(listed.setIfInBounds i true).getD k false)=(((List.range ops.size).filter fun k=> !listed.getD k false).filter fun k=> !(listed.setIfInBounds i true).getD k false):=by
  rw [List.filter_filter];refine List.filter_congr fun k _=> ?_;cases hq:(listed.setIfInBounds i true).getD k false with
  |true=>simp
  |false=>
   have:listed.getD k false=false:=by
    cases nB:listed.getD k false with
    |false=>rfl
    |true=>rw [(bP k).2 (.inr nB)] at hq;simp at hq
   simp only [this,Bool.not_false,Bool.and_self]
 unfold left;rw [he];refine List.length_filter_lt_length_iff_exists.2 ⟨i,List.mem_filter.2 ⟨List.mem_range.2 hi,by rw [hu];rfl⟩,?_⟩
 rw [(bP i).2 (.inl rfl)];simp
theorem A9 (hE: ∀t ti,C.E t=some ti→aS P t ti) (hX: ∀f ys H K,X f ys H K→b8 P f ys H K) (dk:iD ops aE) (t:je X C ops aE th K s H v act) (c7:St w0 (H 0) aD A0) {Q:Exit→Act→World→Prop}
 (hq: ∀s' H' ak A' a' w',Out w0 (H 0) aD A0 w' H' ak A' →SF w' H' ak A' s' a' →K s' H' →Q .normal a' w'):
 ∀(fuel:Nat) (listed:Array Bool) (a:Act) (w:World) (b c:Nat) (φ :af) (A:aj) (pn:Nat→Nat),Inv C ops aE s H v w0 aD A0 listed a w b c φ A pn→left ops listed≤fuel→wpAny P .any ops Q fuel listed a w:=by
 have done: ∀(listed:Array Bool) (a:Act) (w:World) (b c:Nat) (φ :af) (A:aj) (pn:Nat→Nat),Inv C ops aE s H v w0 aD A0 listed a w b c φ A pn→Region.ready .any ops listed=[]→Q .normal a w:=by
  intro listed a w b c φ A pn inv hr;have all: ∀k,k<ops.size→listed.getD k false=true:=by
   intro k;induction k using Nat.strongRecOn with
   |_ k ih=>
    intro hk;cases hq:listed.getD k false with
    |true=>rfl
    |false=>
     exfalso;have ho:=Array.getElem?_eq_getElem (xs:=ops) hk;have:k∈Region.ready .any ops listed:=mem_ready.2 ⟨getD_in (by rw [inv.size];exact hk) hq,_,ho,fun e he hb=>by
      have az:=dk.back k _ ho e he hb;exact ih e.on az (by omega)⟩
     rw [hr] at this;cases this
  have lQ:c=ops.size:=by
   rcases inv.cl with h|h
   ·exact h
   ·rcases Nat.lt_or_ge c ops.size with h' |h'
    ·have:=(inv.jf c h h').1 (all c h');have:=inv.bc;omega
    ·have:=inv.cn;omega
  obtain ⟨hl,hg⟩:=nw dk t ops.size (Nat.le_refl _);have tE:=t.fin;rw [Array.length_toList] at tE;have bu:=inv.out;rw [lQ] at bu;refine hq (s ops.size) (H ops.size) φ A a w bu ⟨by rw [hl,inv.len],fun x y u hx hu=> ?_,inv.eW⟩ tE
  have cx:x<(s 0).length:=by rw [←hl];exact (List.getElem?_eq_some_iff.1 hx).1
  have hy:(s ops.size).getD x .undef=y:=by simp [List.getD,hx]
  by_cases hw: ∃(k:Nat) (r:Oper),ops[k]? =some r∧r.dst=some x
  ·obtain ⟨k,r,hk,hr⟩:=hw;have tF:k<ops.size:=(Array.getElem?_eq_some_iff.1 hk).1;rw [(hg x cx).1 k r tF hk hr] at hy;subst hy;have:=inv.wr k r x u hk hr (all k tF) (by omega) hu
   rw [lQ] at this;exact this
  ·rw [(hg x cx).2 (fun k' o' _ eM b7=>hw ⟨k',o',eM,b7⟩)] at hy
   subst hy;have:=inv.un x u (fun k' o' eM b7=>absurd ⟨k',o',eM,b7⟩ hw) hu
   rw [lQ] at this;exact this
 intro fuel;induction fuel with
 |zero=>
  intro listed a w b c φ A pn inv hle;have hr:Region.ready .any ops listed=[]:=by
   cases hq:Region.ready .any ops listed with
   |nil=>rfl
   |cons i rs=>
    exfalso;have hm:i∈Region.ready .any ops listed:=by rw [hq];simp
    obtain ⟨hu,o,ho,_⟩:=mem_ready.1 hm;have hi:i<ops.size:=(Array.getElem?_eq_some_iff.1 ho).1;have:i∈((List.range ops.size).filter fun k=> !listed.getD k false):=List.mem_filter.2 ⟨List.mem_range.2 hi,by rw [getD_both hu];rfl⟩
    have:=List.length_pos_of_mem this;unfold left at hle;omega
  exact ⟨hr,done listed a w b c φ A pn inv hr⟩
 |succ fuel ih=>
  intro listed a w b c φ A pn inv hle;refine ⟨done listed a w b c φ A pn inv,fun i hi=> ?_⟩;obtain ⟨iV,o,ho,ha⟩:=mem_ready.1 hi;have hu:=getD_both iV;have cE:i<ops.size:=(Array.getElem?_eq_some_iff.1 ho).1;have CW:=A8 inv.size cE hu;have jO:=inv.AT dk ho ha;obtain ⟨st1,st2,nC,tG,CX⟩:=t.step i o (by rw [Array.getElem?_toList];exact ho)
  rw [Nat.zero_add] at nC;by_cases tH:i≤c
  case neg=>
   obtain ⟨gV,hg,he,d,hd⟩:=jO.resolve_left tH;have fm:act i=true:=by
    simp only [dC,hg,Option.some.injEq] at st2;exact st2.symm
   obtain ⟨sz,el,x,uv,bd,cL⟩:=AI hE he (nC fm);obtain ⟨arr,T,cL,lN⟩:=cL a w;unfold Go.wpOp;rw [ho];simp only;have hw:Region.wanted o (yielded ops a.tmps)=true:=by simp [Region.wanted,hg]
   rw [if_pos hw];refine .inl ?_;show o.upon P a _ Q _;rw [cL];exact ih _ _ _ _ _ _ _ _ (inv.AO c7 dk (by omega) ho hu gV hg hd bd ha lN) (by omega)
  replace jO:=tH;unfold Go.wpOp;rw [ho];simp only;by_cases gq:i∈aE
  ·
   have gp:i=c:=by
    rcases Nat.lt_or_ge i c with h|h
    ·exfalso;have hb: ¬i<b:=fun h=>by have:=(inv.jf i gq cE).2 h;rw [hu] at this;simp at this
     exact inv.iF i (by omega) h gq
    ·omega
   subst gp;have bd:=inv.qp dk t jO ho hu ha (m:=i) (by omega) (Nat.le_refl _) (.inl rfl)
   have hw:=p6 (H:=H i) (φ := φ) (A:=A) (w:=w) (s:=s i) (a:=a) (fun j want x hg hx=>inv.look dk t jO ho hu ha (m:=i) (by omega) (Nat.le_refl _) (.inl rfl) (by
    unfold Oper.looksAt;refine List.mem_append.2 (.inr ?_);rw [hg];simp only;rw [hx];simp)) st2
   cases fm:act i with
   |true=>
    rw [fm] at hw;rw [if_pos hw];have h3:=nC fm;rw [show (!aE.contains i)=false by simpa using gq] at h3
    refine .inl (mZ hE hX inv.out.st bd h3 fun x u w' H' ak A' k1 k2 k3=> ?_)
    obtain ⟨rfl,rfl⟩:=k3;obtain ⟨c',a8,qu⟩:=inv.tD c7 dk t ho gq ha k1 k2;exact ih _ _ _ _ _ _ _ _ qu (by omega)
   |false=>
    rw [fm] at hw;rw [if_neg (by rw [hw];simp)]
    obtain ⟨h4,h5⟩:=tG fm;obtain ⟨c',a8,qu⟩:=inv.tD c7 dk t ho gq ha (u:=undef) (w' :=w) (φ1:= φ) (A1:=A) (by rw [h5];exact .refl inv.out.st) (by rw [h4];exact .fr _ _ (.aA [] #[] rfl (by simp)))
    exact ih _ _ _ _ _ _ _ _ qu (by omega)
  ·have gp:i<c:=by
    rcases Nat.lt_or_ge i c with h|h
    ·exact h
    ·have:i=c:=by omega
     subst this;rcases inv.cl with h' |h'
     ·omega
     ·exact absurd h' gq
   have lQ:=inv.cn;rcases Nat.lt_or_ge i b with nD|nD
   ·
    obtain ⟨nE,iY⟩:b-1∈aE∧0<b:=by
     rcases inv.base with h|h
     ·omega
     ·exact h
    have AW:=inv.bc;have nF:=Array.getElem?_eq_getElem (xs:=ops) (show b-1<ops.size by omega)
    have A_:=(inv.jf (b-1) nE (by omega)).2 (by omega)
    have tI:i<b-1:=by
     rcases Nat.lt_or_ge i (b-1) with h|h
     ·exact h
     ·have:i=b-1:=by omega
      subst this;exact absurd nE gq
    have tJ:((fy ops.toList).getD (b-1) 0).testBit i=false:=by
     cases hq:((fy ops.toList).getD (b-1) 0).testBit i with
     |false=>rfl
     |true=>
      have:=nu inv.shut dk.back (b-1) _ nF (inv.shut (b-1) _ nF A_) i hq;rw [hu] at this;simp at this
    obtain ⟨_,hg,dL,⟨d,hd⟩,Ba⟩:=dk.late (b-1) i _ o nF ho nE tI tJ
    obtain ⟨_,_,_,_,tK⟩:=t.step (b-1) _ (by rw [Array.getElem?_toList];exact nF)
    rw [Nat.zero_add,show b-1+1=b by omega] at tK
    have nG:=tK i (by
     unfold fV;rw [if_pos (by simpa using nE)]
     exact List.mem_filter.2 ⟨List.mem_range.2 tI,by rw [tJ];rfl⟩)
    unfold j6 at nG;rw [ho] at nG;simp only [hd] at nG;have bd:=inv.qp dk t jO ho hu ha (m:=b) (by omega) (by omega) (.inr Ba)
    have gW:=iE t (c-b) b (by omega) (fun k h1 h2=>inv.iF k h1 (by omega))
    rw [show b+(c-b)=c by omega] at gW
    have hw:Region.wanted o (yielded ops a.tmps)=true:=by simp [Region.wanted,hg]
    rw [if_pos hw];refine .inl (VS.kx (th:=false) hE hX inv.out.st bd gW.1.1 ⟨gW.1.1,fun id h1 h2=>absurd h2 (Nat.not_lt.2 h1)⟩ (AZ dL nG) fun u w' ak A' k1 k2 k3=> ?_)
    refine ih _ _ _ _ _ _ _ _ (inv.kx c7 dk t gp ho gq ha k1 (fun d' b7 az=> ?_) (fun id loc h=> ?_)) (by omega)
    ·rw [hd] at b7;simp only [Option.some.injEq] at b7;subst b7;rw [←((nw dk t b (by omega)).2 d (by rw [inv.len];exact az)).1 i o nD ho hd]
     exact k2
    ·rcases k3 id loc h with h|⟨h1,h2⟩
     ·exact .inl h
     ·omega
   ·
    have bd:=inv.qp dk t jO ho hu ha (m:=i) (by omega) (Nat.le_refl _) (.inl rfl)
    have hw:=p6 (H:=H c) (φ := φ) (A:=A) (w:=w) (s:=s i) (a:=a) (fun j want x hg hx=>inv.look dk t jO ho hu ha (m:=i) (by omega) (Nat.le_refl _) (.inl rfl) (by
     unfold Oper.looksAt;refine List.mem_append.2 (.inr ?_);rw [hg];simp only;rw [hx];simp)) st2
    cases fm:act i with
    |true=>
     rw [fm] at hw;rw [if_pos hw];have h3:=nC fm;have gV:(!aE.contains i)=true:=by simpa using gq
     rw [gV] at h3;have fk:=iE t (c-i) i (by omega) (fun k h1 h2=>inv.iF k (by omega) (by omega))
     rw [show i+(c-i)=c by omega] at fk
     have nB:=iE t (c-(i+1)) (i+1) (by omega) (fun k h1 h2=>inv.iF k (by omega) (by omega))
     rw [show i+1+(c-(i+1))=c by omega] at nB
     refine .inl (VS.kx hE hX inv.out.st bd fk.1.1 ⟨nB.1.1,fun id h1 h2=>inv.none i nD gp hu id h1 h2⟩ h3 fun u w' ak A' k1 k2 k3=> ?_)
     refine ih _ _ _ _ _ _ _ _ (inv.kx c7 dk t gp ho gq ha k1 (fun d' _ _=>k2) (fun id loc h=> ?_)) (by omega)
     rcases k3 id loc h with h|h
     ·exact .inl h
     ·exact .inr ⟨nD,gp,h⟩
    |false=>
     rw [fm] at hw;rw [if_neg (by rw [hw];simp)]
     obtain ⟨h4,h5⟩:=tG fm;refine ih _ _ _ _ _ _ _ _ (inv.kx c7 dk t gp ho gq ha (.refl inv.out.st) (fun d' _ _=>by rw [h4];exact .fr _ _ (.aA [] #[] rfl (by simp))) (fun id loc h=> .inl h)) (by omega)
theorem tL (du:Exact X) (_hm:P.follows .mixedOrders=true) (hE: ∀t ti,C.E t=some ti→aS P t ti) (hX: ∀f ys H K,X f ys H K→b8 P f ys H K):lH P C X:=by
 intro ops aE th s0 H0 K Q w φ A a hd h ae hs hq;have dk:=AE hd;obtain ⟨s,H,v,act,rfl,rfl,t⟩:=tp du ops.toList 0 s0 H0 h;have aT:bI w (H 0) φ A {w with drawn:=w.drawn+1} (H 0) φ A:=⟨fun c arr T fr hc hn=>⟨⟨fr,hc⟩,hn⟩,Nat.le_refl _,fun id b h _=>⟨b,h,rfl,rfl,rfl,rfl,fun _ h=>h⟩,fun _ _=>rfl⟩;have jP:St {w with drawn:=w.drawn+1} (H 0) φ A:=by
  refine ⟨ae.inj,ae.own,ae.bY,fun id loc hl=> ?_⟩;obtain ⟨b,hb,ag⟩:=ae.ap id loc hl;refine ⟨b,hb,ag.ad,ag.sized,ag.aQ,fun c b0 he=> ?_⟩;obtain ⟨arr,T,fr,k1,k2,k3,k4⟩:=ag.here c b0 he;exact ⟨arr,T,fr,k1,k2,k3,fun i x j y v hx hy hv=>⟨(k4 i x j y v hx hy hv).1.mono aT,(k4 i x j y v hx hy hv).2⟩⟩
 have tM:Out w (H 0) φ A {w with drawn:=w.drawn+1} (H 0) φ A:=⟨jP,⟨rfl,rfl,rfl,Nat.le_refl _,fun _ _ _=>rfl,fun _ _=>rfl,fun _ h=> .inl h⟩,aT,fun _ h _=>h⟩;obtain ⟨c,k1,k2,k3,k4⟩:=qn aE ops.size (ops.size-0) 0 rfl (Nat.zero_le _);have gW:=iE t c 0 (by omega) (fun k h1 h2=>k4 k h1 (by omega))
 rw [Nat.zero_add] at gW;have hex:=jA jP gW.1.1 gW.2;refine A9 hE hX dk t ae hq ops.size _ a _ 0 c φ A (fun _=>0) ⟨by simp,fun i o ho hl=>by have c9:(Array.replicate ops.size false).getD i false=true:=hl;rw [getD_replicate_false] at c9;simp at c9,k1,k2,k3,k4,fun i _ _=>by rw [getD_replicate_false];simp,.inl rfl,tM.trans ae hex,fun i _ _ _ id h4 h5=> ?_,hs.eW,hs.len,fun k o d u _ _ hl=>by rw [getD_replicate_false] at hl;simp at hl,fun k _ hl=>by rw [getD_replicate_false] at hl;simp at hl,fun j k _ _ hl=>by rw [getD_replicate_false] at hl;simp at hl,fun x u _ hu=> ?_⟩ ?_
 ·refine ae.new ?_;rename_i h1 h2 h3;have:=(iE t i 0 (by omega) (fun k h1 h2=>k4 k h1 (by omega))).1.2
  rw [Nat.zero_add] at this;omega
 ·have hx:=(hs.mono (tM.bE.trans hex.bE (fun _ _=>rfl))).ev (.tmp x);simp only [ev,Act.eval] at hx;rw [Array.getD_eq_getD_getElem?,hu] at hx;exact hx
 ·unfold left;exact Nat.le_trans (List.length_filter_le _ _) (by simp)
end draw
end Go.VS
namespace Go.VS
section mono
variable {X X' :bq} {C:aK} (hX: ∀f ys H (K K' :AV→J→Prop),(∀v H,K v H→K' v H)→X f ys H K→X' f ys H K')
include hX
theorem tN {f:FuncId} {args:List AV} {th:Bool} {H:J} {K K' :AV→J→Prop} (hK: ∀v H,K v H→K' v H) (h:dB X C f args th H K):dB X' C f args th H K' :=by
 unfold dB at h⊢;split at h
 ·exact h.elim
 rename_i ys bX hy;obtain ⟨y,h1,h2,h3⟩:=h;refine ⟨y,hX _ _ _ _ _ (fun _ _ h=>h) h1,h2,?_⟩;split at h3
 ·rename_i ht;rw [if_pos ht];exact hK _ _ h3
 ·rename_i ht;rw [if_neg ht];exact hK _ _ h3
theorem iG {q th:Bool} {o:Oper} {s:ah} {H:J} {K K' :AV→J→Prop} (hK: ∀v H,K v H→K' v H) (h:wpOp X C q th o s H K):wpOp X' C q th o s H K' :=by
 unfold wpOp at h⊢;split at h
 ·obtain ⟨hq,h⟩:=h;refine ⟨hq,?_⟩;split at h
  ·exact hK _ _ h
  ·exact h.elim
 ·split at h
  ·cases q with
   |true=>exact tN hX hK h
   |false=>
    rcases h with h|h
    ·exact .inl (hX _ _ _ _ _ hK h)
    ·exact .inr (tN hX hK h)
  ·exact h.elim
 ·obtain ⟨hq,h⟩:=h;refine ⟨hq,?_⟩;split at h
  ·exact hK _ _ h
  ·exact h.elim
omit hX in
theorem lS {ops:Array Oper} {s:ah} {H:J} {K K' :Prop} (hK:K→K'): ∀(l:List Nat),fw C ops s H K l→fw C ops s H K' l
 |[],h=>hK h
 |_j::js,h=>⟨h.1,lS hK js h.2⟩
theorem nH {ops:Array Oper} {q:Nat→Bool} {late:Nat→List Nat} {th:List Nat} {K K' :ah→J→Prop} (hK: ∀s H,K s H→K' s H): ∀(l:List Oper) (i:Nat) (s:ah) (H:J),c8 X C ops q late th K l i s H→c8 X' C ops q late th K' l i s H
 |[],i,s,H,h=>hK s H h
 |o::rest,i,s,H,h=>by
  simp only [c8] at h⊢;cases hg:o.guard with
  |none=>
   rw [hg] at h;exact iG hX (fun v H' hv=>lS (nH hK rest (i+1) _ _) _ hv) h
  |some p=>
   rw [hg] at h;obtain ⟨v,H',h1,h2⟩:=h;refine ⟨v,H',?_,lS (nH hK rest (i+1) _ _) _ h2⟩;split at h1
   ·split at h1
    ·rename_i hb;simp only [hb,if_true];exact iG hX (fun _ _ h=>h) h1
    ·rename_i hb;simp only [hb];exact h1
   ·exact h1.elim
theorem nI {ops:Array Oper} {th:List Nat} {fz:List (Nat×List (List Nat×List Sh))} {K K' :ah→J→Prop} (hK: ∀s H,K s H→K' s H): ∀(l:List Oper) (i:Nat) (s:ah) (H:J),cP X C ops th fz K l i s H→cP X' C ops th fz K' l i s H
 |[],i,s,H,h=>hK s H h
 |o::rest,i,s,H,h=>by
  simp only [cP] at h⊢;obtain ⟨s1,H1,hf,h⟩:=h;refine ⟨s1,H1,hf,?_⟩;cases hg:o.guard with
  |none=>
   rw [hg] at h;exact iG hX (fun v H' hv=>nI hK rest (i+1) _ _ hv) h
  |some p=>
   rw [hg] at h;obtain ⟨v,H',h1,h2⟩:=h;refine ⟨v,H',?_,nI hK rest (i+1) _ _ h2⟩;split at h1
   ·split at h1
    ·rename_i hb;simp only [hb,if_true];exact iG hX (fun _ _ h=>h) h1
    ·rename_i hb;simp only [hb];exact h1
   ·exact h1.elim
theorem dw: ∀(c:AC) (s:ah) (H:J) (K K' :Ex→ah→J→Prop),(∀e s H,K e s H→K' e s H)→aH X C c s H K→aH X' C c s H K' :=by
 intro c;induction c with
 |skip=>intro s H K K' hK h;exact hK _ _ _ h
 |ret=>intro s H K K' hK h;exact hK _ _ _ h
 |exit id=>intro s H K K' hK h;exact hK _ _ _ h
 |seq a b gu fl=>
  intro s H K K' hK h
  simp only [aH] at h⊢;refine gu s H _ _ (fun e s' H' h=> ?_) h
  cases e with
  |normal=>exact fl s' H' K K' hK h
  |exit id=>exact hK _ _ _ h
  |ret=>exact hK _ _ _ h
 |cond c a b gu fl=>
  intro s H K K' hK h
  simp only [aH] at h⊢;split at h
  ·split at h
   ·rename_i hb;simp only [hb,if_true];exact gu s H K K' hK h
   ·rename_i hb;simp only [hb];exact fl s H K K' hK h
  ·exact h.elim
 |block id keep a ih=>
  intro s H K K' hK h
  simp only [aH] at h⊢;refine ih s H _ _ (fun e s' H' h=> ?_) h
  cases e with
  |normal=>exact hK _ _ _ h
  |ret=>exact hK _ _ _ h
  |exit j=>
   simp only at h⊢;split at h
   ·rename_i hj;rw [if_pos hj];exact hK _ _ _ h
   ·rename_i hj;rw [if_neg hj];exact hK _ _ _ h
 |loop sp a ih=>
  intro s H K K' hK h
  simp only [aH] at h⊢;intro Y hY;refine h Y fun s' H' hB=>hY s' H' (ih s' H' _ _ (fun e s2 H2 h=> ?_) hB)
  cases e with
  |normal=>exact h
  |exit id=>exact hK _ _ _ h
  |ret=>exact hK _ _ _ h
 |jZ x T t u sp a ih=>
  intro s H K K' hK h
  simp only [aH] at h⊢;split at h
  ·refine ⟨h.1,h.2.1,fun Y hY=>h.2.2 Y fun n s' H' hB=>hY n s' H' (ih _ H' _ _ (fun e s2 H2 h=> ?_) hB)⟩
   cases e with
   |normal=>exact h
   |exit id=>exact hK _ _ _ h
   |ret=>exact hK _ _ _ h
  ·exact h
 |region id ops draw aE th fz=>
  intro s H K K' hK h
  cases draw with
  |true=>
   simp only [aH] at h⊢;exact ⟨h.1,nH hX (fun s H h=>hK _ s H h) _ _ _ _ h.2⟩
  |false=>
   simp only [aH] at h⊢;exact nI hX (fun s H h=>hK _ s H h) _ _ _ _ h
 |hZ l kp=>
  intro s H K K' hK h
  simp only [aH] at h⊢;split at h
  ·exact hK _ _ _ h
  ·exact h
 |bad=>intro s H K K' hK h;exact h
end mono
def Up (X:bq):Prop:= ∀f ys H (K K' :AV→J→Prop),(∀v H,K v H→K' v H)→X f ys H K→X f ys H K'
theorem jq.round {X:bq} (hU:Up X) {C:aK} {c:AC} {f:Nat→ah→ah} {kS:Nat→Nat} {next:ah→J→ah×J} {K:Ex→ah→J→Prop} {n:Nat} {s:ah} {H:J}
 (h:aH X C c (f n s) H (fun e s' H' =>match e with
  | .normal=>jq (fun n s H K=>aH X C c (f n s) H K) kS next K (kS n) (next s' H').1 (next s' H').2
  |e=>K e s' H')):jq (fun n s H K=>aH X C c (f n s) H K) kS next K n s H:=by
 intro Y hY;refine hY n s H (dw hU c _ H _ _ (fun e s' H' h=> ?_) h)
 cases e with
 |normal=>exact h Y hY
 |exit id=>exact h
 |ret=>exact h
theorem jp.round {X:bq} (hU:Up X) {C:aK} {c:AC} {next:ah→J→ah×J} {K:Ex→ah→J→Prop} {s:ah} {H:J}
 (h:aH X C c s H (fun e s' H' =>match e with
  | .normal=>jp (aH X C c) next K (next s' H').1 (next s' H').2
  |e=>K e s' H')):jp (aH X C c) next K s H:=by
 intro Y hY;refine hY s H (dw hU c s H _ _ (fun e s' H' h=> ?_) h)
 cases e with
 |normal=>exact h Y hY
 |exit id=>exact h
 |ret=>exact h
theorem tO {X:bq} {C:aK} (hU:Up X) (du:Exact X) {ops:Array Oper} {q:Nat→Bool} {late:Nat→List Nat} {th:List Nat} {K:ah→J→Prop}: ∀(l:List Oper) (i:Nat) (s:ah) (H:J),c8 X C ops q late th K l i s H→ ∃s' H',c8 X C ops q late th (fun s1 H1=>s1=s' ∧H1=H') l i s H∧K s' H'
 |[],i,s,H,h=>⟨s,H,⟨rfl,rfl⟩,h⟩
 |o::rest,i,s,H,h=>by
  have tP: ∀(ls:List Nat) (s1:ah) (H1:J),fw C ops s1 H1 (c8 X C ops q late th K rest (i+1) s1 H1) ls→ ∃s' H',fw C ops s1 H1 (c8 X C ops q late th (fun s1 H1=>s1=s' ∧H1=H') rest (i+1) s1 H1) ls∧K s' H' :=by
   intro ls s1 H1 h;obtain ⟨h1,h2⟩:=nt _ _ _ _ _ _ h;obtain ⟨s',H',h3,h4⟩:=tO hU du rest (i+1) s1 H1 h2;refine ⟨s',H',?_,h4⟩;clear h h2 h4;induction ls with
   |nil=>exact h3
   |cons j js ih=>exact ⟨h1 j (by simp),ih fun k hk=>h1 k (by simp [hk])⟩
  simp only [c8] at h⊢;cases hg:o.guard with
  |none=>
   rw [hg] at h;simp only at h⊢;obtain ⟨v,H1,h1,h2⟩:=lM du h;obtain ⟨s',H',h3,h4⟩:=tP _ _ _ h2;exact ⟨s',H',iG hU (fun v1 H2 e=>by obtain ⟨rfl,rfl⟩:=e;exact h3) h1,h4⟩
  |some p=>
   rw [hg] at h;simp only at h⊢;obtain ⟨v,H1,h1,h2⟩:=h;obtain ⟨s',H',h3,h4⟩:=tP _ _ _ h2;exact ⟨s',H',⟨v,H1,h1,h3⟩,h4⟩
theorem qv {X:bq} {C:aK} (hU:Up X) (du:Exact X) {ops:Array Oper} {th:List Nat} {fz:List (Nat×List (List Nat×List Sh))} {K:ah→J→Prop}: ∀(l:List Oper) (i:Nat) (s:ah) (H:J),cP X C ops th fz K l i s H→ ∃s' H',cP X C ops th fz (fun s1 H1=>s1=s' ∧H1=H') l i s H∧K s' H'
 |[],i,s,H,h=>⟨s,H,⟨rfl,rfl⟩,h⟩
 |o::rest,i,s,H,h=>by
  simp only [cP] at h⊢;obtain ⟨s0,H0,hf,h⟩:=h;cases hg:o.guard with
  |none=>
   rw [hg] at h;simp only at h⊢;obtain ⟨v,H1,h1,h2⟩:=lM du h;obtain ⟨s',H',h3,h4⟩:=qv hU du rest (i+1) _ _ h2;exact ⟨s',H',⟨s0,H0,hf,iG hU (fun v1 H2 e=>by obtain ⟨rfl,rfl⟩:=e;exact h3) h1⟩,h4⟩
  |some p=>
   rw [hg] at h;simp only at h⊢;obtain ⟨v,H1,h1,h2⟩:=h;obtain ⟨s',H',h3,h4⟩:=qv hU du rest (i+1) _ _ h2;exact ⟨s',H',⟨s0,H0,hf,v,H1,h1,h3⟩,h4⟩
theorem Bb {X:bq} {C:aK} (hU:Up X) (du:Exact X): ∀(c:AC) (s:ah) (H:J) (K:Ex→ah→J→Prop),aH X C c s H K→ ∃e s' H',aH X C c s H (fun e1 s1 H1=>e1=e∧s1=s' ∧H1=H')∧K e s' H' :=by
 intro c;induction c with
 |skip=>intro s H K h;exact ⟨_,_,_,⟨rfl,rfl,rfl⟩,h⟩
 |ret=>intro s H K h;exact ⟨_,_,_,⟨rfl,rfl,rfl⟩,h⟩
 |exit id=>intro s H K h;exact ⟨_,_,_,⟨rfl,rfl,rfl⟩,h⟩
 |seq a b gu fl=>
  intro s H K h;simp only [aH] at h⊢;obtain ⟨e,s1,H1,h1,h2⟩:=gu s H _ h;cases e with
  |normal=>
   obtain ⟨e,s2,H2,h3,h4⟩:=fl s1 H1 K h2;exact ⟨e,s2,H2,dw hU a s H _ _ (fun e1 s' H' q=>by obtain ⟨rfl,rfl,rfl⟩:=q;exact h3) h1,h4⟩
  |exit id=>exact ⟨.exit id,s1,H1,dw hU a s H _ _ (fun e1 s' H' q=>by obtain ⟨rfl,rfl,rfl⟩:=q;exact ⟨rfl,rfl,rfl⟩) h1,h2⟩
  |ret=>exact ⟨.ret,s1,H1,dw hU a s H _ _ (fun e1 s' H' q=>by obtain ⟨rfl,rfl,rfl⟩:=q;exact ⟨rfl,rfl,rfl⟩) h1,h2⟩
 |cond c a b gu fl=>
  intro s H K h;simp only [aH] at h⊢;split at h
  ·split at h
   ·rename_i hb;simp only [hb,if_true];exact gu s H K h
   ·rename_i hb;simp only [hb];exact fl s H K h
  ·exact h.elim
 |block id keep a ih=>
  intro s H K h;simp only [aH] at h⊢;obtain ⟨e,s1,H1,h1,h2⟩:=ih s H _ h;cases e with
  |normal=>exact ⟨.normal,fb keep s1,H1,dw hU a s H _ _ (fun e1 s' H' q=>by obtain ⟨rfl,rfl,rfl⟩:=q;exact ⟨rfl,rfl,rfl⟩) h1,h2⟩
  |ret=>exact ⟨.ret,s1,H1,dw hU a s H _ _ (fun e1 s' H' q=>by obtain ⟨rfl,rfl,rfl⟩:=q;exact ⟨rfl,rfl,rfl⟩) h1,h2⟩
  |exit j=>
   simp only at h2;split at h2
   ·rename_i hj;exact ⟨.normal,fb keep s1,H1,dw hU a s H _ _ (fun e1 s' H' q=>by obtain ⟨rfl,rfl,rfl⟩:=q;simp [hj]) h1,h2⟩
   ·rename_i hj;exact ⟨.exit j,s1,H1,dw hU a s H _ _ (fun e1 s' H' q=>by obtain ⟨rfl,rfl,rfl⟩:=q;simp [hj]) h1,h2⟩
 |loop sp a ih=>
  intro s H K h;simp only [aH] at h⊢;refine h (fun s1 H1=> ∃e s' H',jp (aH X C a) (eR sp H.bs.length) (fun e1 s2 H2=>e1=e∧s2=s' ∧H2=H') s1 H1∧K e s' H') fun s1 H1 hB=> ?_
  obtain ⟨e,s2,H2,h1,h2⟩:=ih s1 H1 _ hB;cases e with
  |normal=>
   obtain ⟨e,s',H',h3,h4⟩:=h2;exact ⟨e,s',H',.round hU (dw hU a s1 H1 _ _ (fun e1 s' H' q=>by obtain ⟨rfl,rfl,rfl⟩:=q;exact h3) h1),h4⟩
  |exit id=>exact ⟨_,_,_,.round hU (dw hU a s1 H1 _ _ (fun e1 s' H' q=>by obtain ⟨rfl,rfl,rfl⟩:=q;exact ⟨rfl,rfl,rfl⟩) h1),h2⟩
  |ret=>exact ⟨_,_,_,.round hU (dw hU a s1 H1 _ _ (fun e1 s' H' q=>by obtain ⟨rfl,rfl,rfl⟩:=q;exact ⟨rfl,rfl,rfl⟩) h1),h2⟩
 |jZ x T t u sp a ih=>
  intro s H K h;simp only [aH] at h⊢;split at h
  ·rename_i ti l _ _;obtain ⟨h0,iH,h⟩:=h;have:=h (fun n s1 H1=> ∃e s' H',jq (fun n s H K=>aH X C a (s.set u (ej l n)) H K) (jr l) (eR sp H.bs.length) (fun e1 s2 H2=>e1=e∧s2=s' ∧H2=H') n s1 H1∧K e s' H') fun n s1 H1 hB=>by
    obtain ⟨e,s2,H2,h1,h2⟩:=ih _ H1 _ hB;cases e with
    |normal=>
     obtain ⟨e,s',H',h3,h4⟩:=h2;exact ⟨e,s',H',.round hU (f:=fun n s=>s.set u (ej l n)) (dw hU a _ H1 _ _ (fun e1 s' H' q=>by obtain ⟨rfl,rfl,rfl⟩:=q;exact h3) h1),h4⟩
    |exit id=>exact ⟨_,_,_,.round hU (f:=fun n s=>s.set u (ej l n)) (dw hU a _ H1 _ _ (fun e1 s' H' q=>by obtain ⟨rfl,rfl,rfl⟩:=q;exact ⟨rfl,rfl,rfl⟩) h1),h2⟩
    |ret=>exact ⟨_,_,_,.round hU (f:=fun n s=>s.set u (ej l n)) (dw hU a _ H1 _ _ (fun e1 s' H' q=>by obtain ⟨rfl,rfl,rfl⟩:=q;exact ⟨rfl,rfl,rfl⟩) h1),h2⟩
   obtain ⟨e,s',H',h1,h2⟩:=this;exact ⟨e,s',H',⟨h0,iH,h1⟩,h2⟩
  ·exact h.elim
 |region id ops draw aE th fz=>
  intro s H K h;cases draw with
  |true=>
   simp only [aH] at h⊢;obtain ⟨s',H',h1,h2⟩:=tO hU du _ _ _ _ h.2;exact ⟨.normal,s',H',⟨h.1,nH hU (fun s H q=>⟨rfl,q⟩) _ _ _ _ h1⟩,h2⟩
  |false=>
   simp only [aH] at h⊢;obtain ⟨s',H',h1,h2⟩:=qv hU du _ _ _ _ h;exact ⟨.normal,s',H',nI hU (fun s H q=>⟨rfl,q⟩) _ _ _ _ h1,h2⟩
 |hZ l kp=>
  intro s H K h;simp only [aH] at h⊢;split at h
  ·rename_i s' H' he;exact ⟨_,_,_,⟨rfl,rfl,rfl⟩,h⟩
  ·exact h.elim
 |bad=>intro s H K h;exact h.elim
theorem eS.mono {E:aM} {res:List ResultVar} {K K' :AV→J→Prop} (hK: ∀v H,K v H→K' v H): ∀e s H,eS E res K e s H→eS E res K' e s H
 | .normal,_,_,⟨rs,h1,h2⟩=>⟨rs,h1,hK _ _ h2⟩
 | .ret,_,_,⟨rs,h1,h2⟩=>⟨rs,h1,hK _ _ h2⟩
 | .exit _,_,_,h=>h
theorem eS.exact {E:aM} {res:List ResultVar} {K:AV→J→Prop}: ∀e s H,eS E res K e s H→ ∃v H',eS E res (fun v1 H1=>v1=v∧H1=H') e s H∧K v H'
 | .normal,_,_,⟨rs,h1,h2⟩=>⟨_,_,⟨rs,h1,rfl,rfl⟩,h2⟩
 | .ret,_,_,⟨rs,h1,h2⟩=>⟨_,_,⟨rs,h1,rfl,rfl⟩,h2⟩
 | .exit _,_,_,h=>h.elim
theorem tQ {X:bq} {C:aK} (hU:Up X) (du:Exact X) {f:FuncId} {ys:List AV} {H:J} {K:AV→J→Prop} (h:Body X C f ys H K): ∃v H',Body X C f ys H (fun v1 H1=>v1=v∧H1=H')∧K v H' :=by
 unfold Body at h⊢;split at h
 ·exact h.elim
 ·rename_i fn kX;split at h
  ·exact h.elim
  ·rename_i c hc;obtain ⟨e,s',H',h1,h2⟩:=Bb hU du _ _ _ _ h;obtain ⟨v,H2,h3,h4⟩:=eS.exact _ _ _ h2;refine ⟨v,H2,?_,h4⟩;exact dw hU _ _ _ _ _ (fun e1 s1 H1 q=>by obtain ⟨rfl,rfl,rfl⟩:=q;exact h3) h1
theorem Body.mono {X X' :bq} {C:aK} (hX: ∀f ys H (K K' :AV→J→Prop),(∀v H,K v H→K' v H)→X f ys H K→X' f ys H K') {f:FuncId} {ys:List AV} {H:J} {K K' :AV→J→Prop} (hK: ∀v H,K v H→K' v H) (h:Body X C f ys H K):Body X' C f ys H K' :=by
 unfold Body at h⊢;split at h
 ·exact h.elim
 ·rename_i fn kX;split at h
  ·exact h.elim
  ·rename_i c hc;exact dw hX _ _ _ _ _ (eS.mono hK) h
def nJ (C:aK):Prop:=Up C.ext
theorem aq.up {C:aK} (hE:nJ C):Up (aq C):=by
 intro f ys H K K' hK h
 refine h (fun f ys H K=> ∀K',(∀v H,K v H→K' v H)→aq C f ys H K') ⟨fun f ys H K h K' hK X hX=>hX.1 _ _ _ _ (hE _ _ _ _ _ hK h),fun f ys H K h K' hK X hX=> ?_⟩ K' hK
 refine hX.2 _ _ _ _ (Body.mono (fun f ys H K K2 Bc h=> ?_) hK h);exact h K2 Bc X hX
theorem aq.intro {C:aK} (hE:nJ C) {f:FuncId} {ys:List AV} {H:J} {K:AV→J→Prop} (h:Body (aq C) C f ys H K):aq C f ys H K:=by
 intro X hX;refine hX.2 _ _ _ _ (Body.mono (fun f ys H K K' hK hc=> ?_) (fun _ _ h=>h) h)
 exact aq.up hE _ _ _ _ _ hK hc X hX
theorem aq.exact {C:aK} (hE:nJ C) (hX:Exact C.ext):Exact (aq C):=by
 intro f ys H K h;refine h (fun f ys H K=> ∃v H',aq C f ys H (fun v1 H1=>v1=v∧H1=H')∧K v H') ⟨fun f ys H K h=> ?_,fun f ys H K h=> ?_⟩
 ·obtain ⟨v,H',h1,h2⟩:=hX _ _ _ _ h;exact ⟨v,H',fun X hX=>hX.1 _ _ _ _ h1,h2⟩
 ·obtain ⟨v,H',h1,h2⟩:=tQ (X:=fun f ys H K=> ∃v H',aq C f ys H (fun v1 H1=>v1=v∧H1=H')∧K v H') (fun f ys H K K' hK ⟨v,H',h1,h2⟩=>⟨v,H',h1,hK _ _ h2⟩) (fun f ys H K ⟨v,H',h1,h2⟩=>⟨v,H',⟨v,H',h1,rfl,rfl⟩,h2⟩) h
  refine ⟨v,H',aq.intro hE (Body.mono (fun f ys H K K' hK ⟨v,H',h1,h2⟩=> ?_) (fun _ _ h=>h) h1),h2⟩
  exact aq.up hE _ _ _ _ _ (fun v1 H1 q=>by obtain ⟨rfl,rfl⟩:=q;exact hK _ _ h2) h1
theorem aq.ext {C:aK} {f:FuncId} {ys:List AV} {H:J} {K:AV→J→Prop} (h:C.ext f ys H K):aq C f ys H K:=fun _ hX=>hX.1 _ _ _ _ h
theorem CY {P:Program} {C:aK} (hm:P.follows .mixedOrders=true) (hE: ∀t ti,C.E t=some ti→aS P t ti) (hC: ∀f fn,C.code f=some fn→P.funcs[f]? =some fn∧(fn.name== "runtime.NumGoroutine")=false∧oi (C.fT f) fn=true)
 (Bd: ∀f ys H K,C.ext f ys H K→ ∃v H',b8 P f ys H (fun v1 H1=>v1=v∧H1=H')∧K v H')
 {f:FuncId} {ys:List AV} {H:J} {K:AV→J→Prop} (h:aq C f ys H K):b8 P f ys H K:=by
 have hY: ∃v H',b8 P f ys H (fun v1 H1=>v1=v∧H1=H')∧K v H' :=by
  let Y:bq:=fun f ys H K=> ∃v H',b8 P f ys H (fun v1 H1=>v1=v∧H1=H')∧K v H'
  have tR:Exact Y:=fun f ys H K ⟨v,H',h1,h2⟩=>⟨v,H',⟨v,H',h1,rfl,rfl⟩,h2⟩;have Be:Up Y:=fun f ys H K K' hK ⟨v,H',h1,h2⟩=>⟨v,H',h1,hK _ _ h2⟩
  have tS: ∀f ys H K,Y f ys H K→b8 P f ys H K:=fun f ys H K ⟨v,H',h1,h2⟩=>h1.mono fun v1 H1 q=>by obtain ⟨rfl,rfl⟩:=q;exact h2
  refine h Y ⟨Bd,fun f ys H K hb=> ?_⟩;obtain ⟨v,H',h1,h2⟩:=tQ Be tR hb;exact ⟨v,H',As hm hE hC tS (tL tR hm hE tS) h1,h2⟩
 obtain ⟨v,H',h1,h2⟩:=hY;exact h1.mono fun v1 H1 q=>by obtain ⟨rfl,rfl⟩:=q;exact h2
end Go.VS
namespace Go.VS
structure Good (C:aK):Prop where
 up:nJ C
 exact:Exact C.ext
def lT (C:aK) (b:AC) (K:Ex→ah→J→Prop):Ex→ah→J→Prop
 | .normal,s,H=>aH (aq C) C b s H K
 | .exit i,s,H=>K (.exit i) s H
 | .ret,s,H=>K .ret s H
def jQ (id:Nat) (keep:Option (List Nat)) (K:Ex→ah→J→Prop):Ex→ah→J→Prop
 | .normal,s,H=>K .normal (fb keep s) H
 | .exit j,s,H=>if j=id then K .normal (fb keep s) H else K (.exit j) s H
 | .ret,s,H=>K .ret s H
def tT (C:aK) (v:AV) (a b:AC) (s:ah) (H:J) (K:Ex→ah→J→Prop):Prop:=
 match v with
 | .bool t=>if t then aH (aq C) C a s H K else aH (aq C) C b s H K
 |_=>False
section
variable {C:aK} {K K1:Ex→ah→J→Prop} {s:ah} {H:J}
theorem CZ {a b:AC} (h: ∀K1,K1=lT C b K→aH (aq C) C a s H K1):aH (aq C) C (.seq a b) s H K:=by
 have:=h _ rfl;have e:lT C b K=(fun e s' H' =>match e with| .normal=>aH (aq C) C b s' H' K|e=>K e s' H'):=by
  funext e s H;cases e<;>rfl
 rw [e] at this;exact this
theorem C0 {id:Nat} {kp:Option (List Nat)} {a:AC} (h: ∀K1,K1=jQ id kp K→aH (aq C) C a s H K1):aH (aq C) C (.block id kp a) s H K:=by
 have:=h _ rfl;have e:jQ id kp K=(fun e s' H' =>match e with
  | .exit j=>if j=id then K .normal (fb kp s') H' else K (.exit j) s' H'
  | .normal=>K .normal (fb kp s') H'
  | .ret=>K .ret s' H'):=by funext e s H;cases e<;>rfl
 rw [e] at this;exact this
theorem C1 (h:K .normal s H):aH (aq C) C .skip s H K:=h
theorem C2 (h:K .ret s H):aH (aq C) C .ret s H K:=h
theorem C3 {id:Nat} (h:K (.exit id) s H):aH (aq C) C (.exit id) s H K:=h
theorem C4 {c:Operand} {a b:AC} (h:tT C (ev s c) a b s H K):aH (aq C) C (.cond c a b) s H K:=h
theorem C5 {kp:List Nat} (h:K .normal (dU kp s) H):aH (aq C) C (.hZ [] (some kp)) s H K:=h
theorem C6 {b:AC} (hK:K1=lT C b K) (h:aH (aq C) C b s H K):K1 .normal s H:=by rw [hK];exact h
theorem C7 {b:AC} (hK:K1=lT C b K) (h:K .ret s H):K1 .ret s H:=by rw [hK];exact h
theorem C8 {b:AC} {i:Nat} (hK:K1=lT C b K) (h:K (.exit i) s H):K1 (.exit i) s H:=by rw [hK];exact h
theorem C9 {id:Nat} {kp:Option (List Nat)} (hK:K1=jQ id kp K) (h:K .normal (fb kp s) H):K1 .normal s H:=by rw [hK];exact h
theorem C_ {id:Nat} (hK:K1=jQ id none K) (h:K .normal s H):K1 .normal s H:=by rw [hK];exact h
theorem Da {id:Nat} {kp:Option (List Nat)} (hK:K1=jQ id kp K) (h:K .normal (fb kp s) H):K1 (.exit id) s H:=by rw [hK];simp only [jQ,if_true];exact h
theorem Db {id:Nat} {kp:Option (List Nat)} (hK:K1=jQ id kp K) (h:K .ret s H):K1 .ret s H:=by rw [hK];exact h
theorem Dc {E:aM} {res:List ResultVar} {P:AV→J→Prop} {rs:List AV} (hK:K1=eS E res P) (hr:dI E s H res=some rs) (h:P (cj rs) H):K1 .ret s H:=by rw [hK];exact ⟨rs,hr,h⟩
theorem Dd {E:aM} {a:Tmp} {P:AV→J→Prop} (hK:K1=eS E [.tmp a] P) {x:AV} (hx:s.getD a .undef=x) (h:P x H):K1 .ret s H:=by
 rw [hK];exact ⟨[s.getD a .undef],rfl,by rw [hx];exact h⟩
theorem De {E:aM} {a b:Tmp} {P:AV→J→Prop} (hK:K1=eS E [.tmp a,.tmp b] P) {x y:AV} (hx:s.getD a .undef=x) (hy:s.getD b .undef=y) (h:P (.aA [x,y]) H):K1 .ret s H:=by
 rw [hK];exact ⟨[s.getD a .undef,s.getD b .undef],rfl,by rw [hx,hy];exact h⟩
theorem Df {E:aM} {a b c:Tmp} {P:AV→J→Prop} (hK:K1=eS E [.tmp a,.tmp b,.tmp c] P) {x y z:AV} (hx:s.getD a .undef=x) (hy:s.getD b .undef=y) (hz:s.getD c .undef=z) (h:P (.aA [x,y,z]) H):K1 .ret s H:=by
 rw [hK];exact ⟨[s.getD a .undef,s.getD b .undef,s.getD c .undef],rfl,by rw [hx,hy,hz];exact h⟩
theorem Dg {α :Type} {c:Bool} {x y:Option α} {r: α} {a b:AC} (h:(bif c then x else y)=some r) (ht:c=true→x=some r→aH (aq C) C a s H K) (hf:c=false→y=some r→aH (aq C) C b s H K):tT C (.bool c) a b s H K:=by
 cases c with
 |true=>exact ht rfl h
 |false=>exact hf rfl h
theorem Bf {a:AC} (h:aH (aq C) C a s H K1) (hK: ∀e s H,K1 e s H→K e s H) (gC:Good C):aH (aq C) C a s H K:=dw (aq.up gC.up) a s H _ _ hK h
end
structure GO where
 d:Option Tmp
 op:Op
 g:Option (Option Tmp×Bool)
 late:List (Op×Option Tmp)
 th:Bool
 q:Bool
def lk:List Oper→Nat→Option Tmp
 |[],_=>none
 |o::_,0=>o.dst
 |_::os,n+1=>lk os n
def bm (X:bq) (C:aK) (q gE:Bool) (op:Op) (s:ah) (H:J) (K:AV→J→Prop):Prop:=wpOp X C q gE ⟨none,op,0,"",#[],none⟩ s H K
theorem tU (X:bq) (C:aK) (q gE:Bool) (o:Oper) (s:ah) (H:J) (K:AV→J→Prop):wpOp X C q gE o s H K=bm X C q gE o.op s H K:=by
 cases o;rfl
def eb (C:aK) (s:ah) (H:J) (K:Prop):List (Op×Option Tmp)→Prop
 |[]=>K
 |(op,d)::js=>(∃t,d=some t∧h_ C.E op s H=some (s.getD t .undef,H))∧eb C s H K js
def iA (g:Option (Option Tmp×Bool)) (s:ah) (a b:Prop):Prop:=
 match g with
 |none=>a
 |some (none,_)=>False
 |some (some t,want)=>match s.getD t .undef with
  | .bool c=>if c=want then a else b
  | .aA _=>b
  |_=>False
def ew (C:aK) (K:ah→J→Prop):List GO→ah→J→Prop
 |[],s,H=>K s H
 |o::rest,s,H=>iA o.g s (bm (aq C) C o.q o.th o.op s H fun v H' =>eb C (bn s o.d v) H' (ew C K rest (bn s o.d v) H') o.late)
  (eb C (bn s o.d (.aA [])) H (ew C K rest (bn s o.d (.aA [])) H) o.late)
def kB (ops:List Oper) (j:Nat):Op×Option Tmp:=match ops[j]? with|some o=>(o.op,o.dst)|none=>(.move (.tmp 0),none)
def ec (all:List Oper) (q:Nat→Bool) (late:Nat→List Nat) (th:List Nat):List Oper→Nat→List GO
 |[],_=>[]
 |o::rest,i=>⟨o.dst,o.op,o.guard.map fun p=>(lk all p.1,p.2),(late i).map (kB all),th.contains i,q i⟩::ec all q late th rest (i+1)
theorem qw: ∀(l:List Oper) (j:Nat),lk l j=(l[j]?).bind (·.dst)
 |[],j=>by simp [lk]
 |o::os,0=>by simp [lk]
 |o::os,j+1=>by simp [lk,qw os j]
theorem qx {C:aK} {ops:Array Oper} {s:ah} {H:J} {K:Prop}: ∀(l:List Nat),eb C s H K (l.map (kB ops.toList))→fw C ops s H K l
 |[],h=>h
 |j::js,h=>by
  simp only [List.map_cons,eb] at h;refine ⟨?_,qx js h.2⟩;unfold j6;have h1:=h.1;unfold kB at h1;rw [Array.getElem?_toList] at h1;cases ho:ops[j]? with
  |none=>rw [ho] at h1;simp at h1
  |some o=>
   rw [ho] at h1;obtain ⟨t,ht,he⟩:=h1;simp only at ht he⊢;rw [ht];exact he
theorem nK {C:aK} (gC:Good C) {ops:Array Oper} {q:Nat→Bool} {late:Nat→List Nat} {th:List Nat} {K:ah→J→Prop}: ∀(l:List Oper) (i:Nat) (s:ah) (H:J),ew C K (ec ops.toList q late th l i) s H→c8 (aq C) C ops q late th K l i s H
 |[],i,s,H,h=>h
 |o::rest,i,s,H,h=>by
  simp only [ec,ew] at h;have yes:(bm (aq C) C (q i) (th.contains i) o.op s H fun v H' =>eb C (bn s o.dst v) H' (ew C K (ec ops.toList q late th rest (i+1)) (bn s o.dst v) H') ((late i).map (kB ops.toList)))→
   wpOp (aq C) C (q i) (th.contains i) o s H fun v H' =>fw C ops (bn s o.dst v) H' (c8 (aq C) C ops q late th K rest (i+1) (bn s o.dst v) H') (late i):=by
   intro h;rw [←tU] at h;refine iG (aq.up gC.up) (fun v H' h=> ?_) h
   exact lS (nK gC rest (i+1) _ _) _ (qx _ h)
  simp only [c8];cases hg:o.guard with
  |none=>
   rw [hg] at h;simp only [Option.map_none,iA] at h⊢;exact yes h
  |some p=>
   obtain ⟨j,want⟩:=p;rw [hg] at h;simp only [Option.map_some,qw,Array.getElem?_toList] at h⊢;cases hd:(ops[j]?).bind (·.dst) with
   |none=>rw [hd] at h;exact h.elim
   |some t=>
    rw [hd] at h;simp only [iA] at h;have no:(eb C (bn s o.dst (.aA [])) H (ew C K (ec ops.toList q late th rest (i+1)) (bn s o.dst (.aA [])) H) ((late i).map (kB ops.toList)))→dC ops o s=some false→ ∃v H',(match dC ops o s with
     |some b=>if b then wpOp (aq C) C (q i) (th.contains i) o s H (fun v1 H1=>v1=v∧H1=H') else v= .aA []∧H' =H
     |none=>False)∧fw C ops (bn s o.dst v) H' (c8 (aq C) C ops q late th K rest (i+1) (bn s o.dst v) H') (late i):=by
     intro h hb;refine ⟨.aA [],H,?_,lS (nK gC rest (i+1) _ _) _ (qx _ h)⟩;rw [hb];simp
    split at h
    ·rename_i c hc;have lU:dC ops o s=some (c==want):=by
      unfold dC;rw [hg];simp only [hd,hc]
     split at h
     ·rename_i jR;obtain ⟨v,H',h1,h2⟩:=lM (aq.exact gC.up gC.exact) (yes h);refine ⟨v,H',?_,h2⟩;rw [lU,jR];simp only [beq_self_eq_true,if_true];exact h1
     ·rename_i jR;exact no h (by rw [lU];simpa using jR)
    ·rename_i hc;exact no h (by unfold dC;rw [hg];simp only [hd,hc])
    ·exact h.elim
section
variable {C:aK} {K K1:Ex→ah→J→Prop} {s:ah} {H:J}
def ji (K:Ex→ah→J→Prop):ah→J→Prop:=fun s H=>K .normal s H
theorem Dh (gC:Good C) {id:Nat} {ops:List Oper} {ls th:List Nat} (h:ew C (ji K) (ec ops (fun _=>false) (fun _=>[]) th ops 0) s H):aH (aq C) C (.region id ops.toArray false ls th []) s H K:=by
 have h2:=nK gC (ops:=ops.toArray) (q:=fun _=>false) (late:=fun _=>[]) (th:=th) ops 0 s H h;have key: ∀(l:List Oper) (i:Nat) (s:ah) (H:J),c8 (aq C) C ops.toArray (fun _=>false) (fun _=>[]) th (ji K) l i s H→cP (aq C) C ops.toArray th [] (ji K) l i s H:=by
  intro l;induction l with
  |nil=>intro i s H h;exact h
  |cons o rest ih=>
   intro i s H h;simp only [c8,fw] at h;simp only [cP];refine ⟨s,H,rfl,?_⟩;cases hg:o.guard with
   |none=>
    rw [hg] at h;exact iG (aq.up gC.up) (fun v H' hv=>ih (i+1) _ _ hv) h
   |some p=>
    rw [hg] at h;obtain ⟨v,H',h1,h2⟩:=h;exact ⟨v,H',h1,ih (i+1) _ _ h2⟩
 exact key _ _ _ _ h2
def gw (C:aK) (fz:List (Nat×List (List Nat×List Sh))) (K:ah→J→Prop):List GO→Nat→ah→J→Prop
 |[],_,s,H=>K s H
 |o::rest,i,s0,H0=> ∃s H,dH ((fz.lookup i).getD []) s0 H0=some (s,H)∧
  iA o.g s (bm (aq C) C o.q o.th o.op s H fun v H' =>gw C fz K rest (i+1) (bn s o.d v) H') (gw C fz K rest (i+1) (bn s o.d (.aA [])) H)
theorem qy (gC:Good C) {ops:Array Oper} {th:List Nat} {fz:List (Nat×List (List Nat×List Sh))} {K:ah→J→Prop}: ∀(l:List Oper) (i:Nat) (s:ah) (H:J),gw C fz K (ec ops.toList (fun _=>false) (fun _=>[]) th l i) i s H→cP (aq C) C ops th fz K l i s H
 |[],i,s,H,h=>h
 |o::rest,i,s0,H0,h=>by
  simp only [ec,gw] at h;obtain ⟨s,H,hf,h⟩:=h;simp only [cP];refine ⟨s,H,hf,?_⟩;have yes:(bm (aq C) C false (th.contains i) o.op s H fun v H' =>gw C fz K (ec ops.toList (fun _=>false) (fun _=>[]) th rest (i+1)) (i+1) (bn s o.dst v) H')→
   wpOp (aq C) C false (th.contains i) o s H fun v H' =>cP (aq C) C ops th fz K rest (i+1) (bn s o.dst v) H' :=by
   intro h;rw [←tU] at h;exact iG (aq.up gC.up) (fun v H' h=>qy gC rest (i+1) _ _ h) h
  cases hg:o.guard with
  |none=>
   rw [hg] at h;simp only [Option.map_none,iA] at h⊢;exact yes h
  |some p=>
   obtain ⟨j,want⟩:=p;rw [hg] at h;simp only [Option.map_some,qw,Array.getElem?_toList] at h⊢;cases hd:(ops[j]?).bind (·.dst) with
   |none=>rw [hd] at h;exact h.elim
   |some t=>
    rw [hd] at h;simp only [iA] at h;have no:gw C fz K (ec ops.toList (fun _=>false) (fun _=>[]) th rest (i+1)) (i+1) (bn s o.dst (.aA [])) H→dC ops o s=some false→ ∃v H',(match dC ops o s with
     |some b=>if b then wpOp (aq C) C false (th.contains i) o s H (fun v1 H1=>v1=v∧H1=H') else v= .aA []∧H' =H
     |none=>False)∧cP (aq C) C ops th fz K rest (i+1) (bn s o.dst v) H' :=by
     intro h hb;refine ⟨.aA [],H,?_,qy gC rest (i+1) _ _ h⟩;rw [hb];simp
    split at h
    ·rename_i c hc;have lU:dC ops o s=some (c==want):=by
      unfold dC;rw [hg];simp only [hd,hc]
     split at h
     ·rename_i jR;obtain ⟨v,H',h1,h2⟩:=lM (aq.exact gC.up gC.exact) (yes h);refine ⟨v,H',?_,h2⟩;rw [lU,jR];simp only [beq_self_eq_true,if_true];exact h1
     ·rename_i jR;exact no h (by rw [lU];simpa using jR)
    ·rename_i hc;exact no h (by unfold dC;rw [hg];simp only [hd,hc])
    ·exact h.elim
theorem Di (gC:Good C) {id:Nat} {ops:List Oper} {ls th:List Nat} {fz:List (Nat×List (List Nat×List Sh))} (h:gw C fz (ji K) (ec ops (fun _=>false) (fun _=>[]) th ops 0) 0 s H):aH (aq C) C (.region id ops.toArray false ls th fz) s H K:=
 qy gC (ops:=ops.toArray) ops 0 s H h
theorem tV (gC:Good C) {id:Nat} {ops:List Oper} {ls th:List Nat} {fz:List (Nat×List (List Nat×List Sh))} (hd:iR ops.toArray ls=true) (h:ew C (ji K) (ec ops (fun i=> !ls.contains i) (fV ops.toArray ls) th ops 0) s H):aH (aq C) C (.region id ops.toArray true ls th fz) s H K:=by
 have:=nK gC (ops:=ops.toArray) (q:=fun i=> !ls.contains i) (late:=fV ops.toArray ls) (th:=th) ops 0 s H h;exact ⟨hd,this⟩
theorem Bg (ops:Array Oper):fV ops []=fun _=>[]:=by funext i;rfl
theorem Dj (gC:Good C) {id:Nat} {ops:List Oper} {th:List Nat} {fz:List (Nat×List (List Nat×List Sh))} (hd:iR ops.toArray []=true) (h:ew C (ji K) (ec ops (fun _=>true) (fun _=>[]) th ops 0) s H):aH (aq C) C (.region id ops.toArray true [] th fz) s H K:=
 tV gC hd (by rw [Bg];exact h)
end
theorem Dk {C:aK} (gC:Good C) {f:FuncId} {fn:Func} {c:Code} {res:List ResultVar} {n:Nat} (hc:C.code f=some fn) (hb:fn.body=some c) (hr:fn.results=res.toArray) (hn:fn.ntmps=n) {ys:List AV} {H:J} {P:AV→J→Prop}
 (h: ∀K0,K0=eS C.E res P→aH (aq C) C (cF (C.fT f) 0 c) (ys ++ List.replicate (n-ys.length) .undef) H K0):aq C f ys H P:=by
 refine aq.intro gC.up ?_;unfold Body;rw [hc];simp only [hb,hr,hn];exact h _ rfl
end Go.VS
namespace Go.VS
def cr (v:Option AV) (H:J) (K:AV→J→Prop):Prop:=match v with|some v=>K v H|none=>False
def ey (r:Option (AV×J)) (K:AV→J→Prop):Prop:=match r with|some (v,H)=>K v H|none=>False
section
variable {C:aK} {q th:Bool} {s:ah} {H:J} {K:AV→J→Prop}
theorem dc (op:Op) (h:dT op=true):bm (aq C) C q th op s H K=ey (aO C.E op s H) K:=by
 have: ∀c,op≠ .call c:=by rintro c rfl;simp [dT] at h
 unfold bm wpOp;split
 ·rename_i bd;exact absurd bd (this _)
 ·rename_i bd;exact absurd bd (this _)
 ·simp only [h,implies_true,true_and];rfl
theorem tW (op:Op) (h: ∀c,op≠ .call c):bm (aq C) C false th op s H K=ey (aO C.E op s H) K:=by
 unfold bm wpOp;split
 ·rename_i bd;exact absurd bd (h _)
 ·rename_i bd;exact absurd bd (h _)
 ·simp only [Bool.false_eq_true,false_implies,true_and];rfl
theorem tX (K:ah→J→Prop):ew C K [] s H=K s H:=rfl
def gX (v:AV) (w:Bool) (a b:Prop):Prop:=match v with| .bool c=>if c=w then a else b| .aA _=>b|_=>False
theorem tY (a b:Prop):gX (.bool true) true a b=a:=by simp [gX]
theorem tZ (a b:Prop):gX (.bool false) false a b=a:=by simp [gX]
theorem t_ (a b:Prop):gX (.bool true) false a b=b:=by simp [gX]
theorem ua (a b:Prop):gX (.bool false) true a b=b:=by simp [gX]
theorem ub (K:Prop):eb C s H K []=K:=rfl
theorem uc (K:Prop) (op:Op) (t:Tmp) (js:List (Op×Option Tmp)):eb C s H K ((op,some t)::js)=(h_ C.E op s H=some (s.getD t .undef,H)∧eb C s H K js):=by
 simp [eb]
theorem ud (t:Tmp) (v:AV):bn s (some t) v=s.set t v:=rfl
theorem uf (v:AV):bn s none v=s:=rfl
theorem ug (t:Tmp):ev s (.tmp t)=s.getD t .undef:=rfl
theorem uh (v:Value):ev s (.const v)=ofValue v:=rfl
theorem ui (f:FuncId):ev s (.func f)= .fn f []:=rfl
theorem uj (k:IntKind) (n:Int):ofValue (.int k n)= .int k n:=rfl
theorem uk (b:Bool):ofValue (.bool b)= .bool b:=rfl
theorem ul:ofValue (.slice none 0 0)= .nil:=rfl
theorem um:ofValue .nilIface= .ct false:=rfl
theorem uo:ofValue (.pointer none)= .dG:=rfl
theorem uq (b:ByteArray):ofValue (.string b)= .str b.data.toList:=rfl
theorem ur (v:AV):cr (some v) H K=K v H:=rfl
theorem uu (x:Operand):bm (aq C) C q th (.move x) s H K=K (ev s x) H:=by rw [dc _ rfl];rfl
theorem uw (x:Operand):bm (aq C) C q th (.assign x) s H K=K (ev s x) H:=by rw [dc _ rfl];rfl
theorem ux (b:BinOp) (t:TypeId) (x:Operand) (c:Value) (w:TypeId):bm (aq C) C q th (.binOp b t x (.const c) w) s H K=cr (aL C.E b t (ev s x) (ofValue c)) H K:=by
 rw [dc _ rfl];simp only [aO,show ev s (.const c)=ofValue c from rfl];generalize aL C.E b t (ev s x) (ofValue c)=r;cases r<;>rfl
def kC (E:aM) (b:BinOp) (t:TypeId) (x y:AV) (H:J) (K:AV→J→Prop):Prop:=match y with| .ct _=>False|y=>cr (aL E b t x y) H K
theorem uy (b:BinOp) (t:TypeId) (x:Operand) (n:Tmp) (w:TypeId):bm (aq C) C q th (.binOp b t x (.tmp n) w) s H K=kC C.E b t (ev s x) (ev s (.tmp n)) H K:=by
 rw [dc _ rfl];simp only [aO];generalize ev s (.tmp n)=y;unfold kC;cases y
 all_goals (first|rfl|(simp only;generalize aL C.E b t (ev s x) _=r;cases r<;>rfl))
theorem uz (E:aM) (b:BinOp) (t:TypeId) (x:AV) (k:IntKind) (n:Int):kC E b t x (.int k n) H K=cr (aL E b t x (.int k n)) H K:=rfl
theorem uA (E:aM) (b:BinOp) (t:TypeId) (x:AV) (n:Bool):kC E b t x (.bool n) H K=cr (aL E b t x (.bool n)) H K:=rfl
theorem uB (E:aM) (b:BinOp) (t:TypeId) (x:AV) (n:List UInt8):kC E b t x (.str n) H K=cr (aL E b t x (.str n)) H K:=rfl
theorem uC (E:aM) (b:BinOp) (t:TypeId) (x:AV) (n:List AV):kC E b t x (.agg n) H K=cr (aL E b t x (.agg n)) H K:=rfl
variable (E:aM) (t:TypeId) (k:IntKind) (a b:Int) (c d:Bool) (u v:List UInt8)
theorem uD:aL E .add t (.int k a) (.int k b)=some (.int k (k.wrap (a+b))):=by simp [aL,dl]
theorem uE:aL E .sub t (.int k a) (.int k b)=some (.int k (k.wrap (a-b))):=by simp [aL,dl]
theorem uF:aL E .mul t (.int k a) (.int k b)=some (.int k (k.wrap (a*b))):=by simp [aL,dl]
theorem Bh:aL E .and t (.int k a) (.int k b)=some (.int k (k.wrap (BitVec.ofInt k.bits a&&&BitVec.ofInt k.bits b).toNat)):=by simp [aL,dl]
theorem Bi:aL E .or t (.int k a) (.int k b)=some (.int k (k.wrap (BitVec.ofInt k.bits a|||BitVec.ofInt k.bits b).toNat)):=by simp [aL,dl]
theorem Bj:aL E .xor t (.int k a) (.int k b)=some (.int k (k.wrap (BitVec.ofInt k.bits a^^^BitVec.ofInt k.bits b).toNat)):=by simp [aL,dl]
theorem uG:aL E .eql t (.int k a) (.int k b)=some (.bool (a==b)):=by simp [aL,dl]
theorem uH:aL E .neq t (.int k a) (.int k b)=some (.bool (a !=b)):=by simp [aL,dl]
theorem uI:aL E .lss t (.int k a) (.int k b)=some (.bool (decide (a<b))):=by simp [aL,dl]
theorem uJ:aL E .leq t (.int k a) (.int k b)=some (.bool (decide (a≤b))):=by simp [aL,dl]
theorem uK:aL E .gtr t (.int k a) (.int k b)=some (.bool (decide (b<a))):=by simp [aL,dl]
theorem uL:aL E .geq t (.int k a) (.int k b)=some (.bool (decide (b≤a))):=by simp [aL,dl]
def dv (k:IntKind) (a b:Int):Option Int:=if b=0 then none else some (k.wrap (a.tdiv b))
def md (a b:Int):Option Int:=if b=0 then none else some (a.tmod b)
theorem uM:aL E .quo t (.int k a) (.int k b)=(dv k a b).map (.int k):=by simp [aL,dl,dv];split<;>rfl
theorem uN:aL E .rem t (.int k a) (.int k b)=(md a b).map (.int k):=by simp [aL,dl,md];split<;>rfl
theorem Dl (h:(b==0)=false):md a b=some (a.tmod b):=by simp at h;simp [md,h]
def sl (k:IntKind) (a b:Int):Option Int:=if b<0 then none else some (k.wrap (a*2^(min b.toNat k.bits)))
def sr (k:IntKind) (a b:Int):Option Int:=if b<0 then none else some (a.fdiv (2^(min b.toNat k.bits)))
theorem uO (j:IntKind):aL E .shl t (.int k a) (.int j b)=(sl k a b).map (.int k):=by simp [aL,sl];split<;>rfl
theorem uP (j:IntKind):aL E .shr t (.int k a) (.int j b)=(sr k a b).map (.int k):=by simp [aL,sr];split<;>rfl
theorem uQ:aL E .eql t (.str u) (.str v)=some (.bool (u==v)):=by simp [aL,jm]
theorem uR:aL E .neq t (.str u) (.str v)=some (.bool (!(u==v))):=by simp [aL,jm]
def cat (u v:List UInt8):Option (List UInt8):=if u.length+v.length≤2^45 then some (u ++ v) else none
theorem uS:aL E .add t (.str u) (.str v)=(cat u v).map .str:=by simp only [aL,jm,cat];split<;>rfl
theorem Dm {ti:TI} (h:E t=some ti) (hu:ti.au= .bl):aL E .eql t (.bool c) (.bool d)=some (.bool (c==d)):=by simp [aL,h,hu]
theorem Dn {ti:TI} (h:E t=some ti) (hu:ti.au= .bl):aL E .neq t (.bool c) (.bool d)=some (.bool (!(c==d))):=by simp [aL,h,hu]
def lV (ti:Option TI) (r:Option Bool) (neg:Bool):Option AV:=match ti with|some ti=>if ti.agg then (match r with|some b=>some (.bool (if neg then !b else b))|none=>none) else none|none=>none
theorem uT (xs ys:List AV):aL E .eql t (.agg xs) (.agg ys)=lV (E t) (dQ E 8 t xs ys) false:=by
 simp only [aL,lV];cases E t<;>rfl
theorem uU (xs ys:List AV):aL E .neq t (.agg xs) (.agg ys)=lV (E t) (dQ E 8 t xs ys) true:=by
 simp only [aL,lV];cases E t<;>rfl
def iI (ti:Option TI) (x y:AV) (neg:Bool):Option AV:=match ti with|some ti=>(match isNil ti.au x y with|some b=>some (.bool (if neg then !b else b))|none=>none)|none=>none
theorem uV:aL E .eql t .nil .nil=iI (E t) .nil .nil false:=by simp only [aL,iI];cases E t<;>rfl
theorem uW:aL E .neq t .nil .nil=iI (E t) .nil .nil true:=by simp only [aL,iI];cases E t<;>rfl
theorem uX (x:Bool):aL E .eql t (.ct x) (.ct false)=iI (E t) (.ct x) (.ct false) false:=by simp only [aL,iI];cases E t<;>rfl
theorem uY (x:Bool):aL E .neq t (.ct x) (.ct false)=iI (E t) (.ct x) (.ct false) true:=by simp only [aL,iI];cases E t<;>rfl
theorem w_num {α :Type} {o:Option Int} {f:Int→Option α} {r: α} (h:o.bind f=some r) (hk: ∀n,o=some n→f n=some r→K (.int k n) H):cr (o.map (.int k)) H K:=by
 cases o with
 |none=>simp at h
 |some n=>exact hk n rfl h
theorem Dp {α :Type} {o:Option (List UInt8)} {f:List UInt8→Option α} {r: α} (h:o.bind f=some r) (hk: ∀n,o=some n→f n=some r→K (.str n) H):cr (o.map .str) H K:=by
 cases o with
 |none=>simp at h
 |some n=>exact hk n rfl h
theorem uZ (op:UnOp) (x:Operand):bm (aq C) C q th (.unOp op t x) s H K=cr (jn op (ev s x)) H K:=by
 rw [dc _ rfl];simp only [aO];generalize jn op (ev s x)=r;cases r<;>rfl
theorem u2:jn .not (.bool c)=some (.bool !c):=rfl
theorem u3:jn .neg (.int k a)=some (.int k (k.wrap (0-a))):=rfl
def nL (c:AV) (x y:AV) (H:J) (K:AV→J→Prop):Prop:=match c with| .bool t=>K (if t then x else y) H|_=>False
theorem u4 (x y z:Operand):bm (aq C) C q th (.pick x y z) s H K=nL (ev s x) (ev s y) (ev s z) H K:=by
 rw [dc _ rfl];simp only [aO];generalize ev s x=r;cases r<;>rfl
theorem u5 (x y:AV):nL (.bool true) x y H K=K x H:=rfl
theorem u6 (x y:AV):nL (.bool false) x y H K=K y H:=rfl
theorem u7 (p:Bool):nL (.bool p) (.bool c) (.bool d) H K=K (.bool (if p then c else d)) H:=by cases p<;>rfl
def jj (x:AV) (i:Nat) (H:J) (K:AV→J→Prop):Prop:=match x with| .aA vs=>cr vs[i]? H K|_=>False
theorem u9 (x:Operand) (i:Nat):bm (aq C) C q th (.extract x i) s H K=jj (ev s x) i H K:=by
 rw [dc _ rfl];simp only [aO,jj];generalize ev s x=r;cases r<;>first|rfl|(simp only;rename_i vs;cases vs[i]? <;>rfl)
theorem u_ (vs:List AV) (i:Nat):jj (.aA vs) i H K=cr vs[i]? H K:=rfl
def nM (ti:TI) (x:Option AV) (off:Nat) (H:J) (K:AV→J→Prop):Prop:=match x with|some y=>cr (bR ti y off) H K|none=>False
def nN (ti:TI) (b:Option bC) (idx off:Nat) (H:J) (K:AV→J→Prop):Prop:=match b with|some b=>nM ti b.el[idx]? off H K|none=>False
def nO (ti:Option TI) (x:AV) (H:J) (K:AV→J→Prop):Prop:=
 match ti with
 |some ti=>match x with
  | .fe y off=>cr (bR ti y off) H K
  | .ptr id ad idx off=>nN ti (H.ap id ad) idx off H K
  |_=>False
 |none=>False
theorem o_load (x:Operand):bm (aq C) C q th (.load t x) s H K=nO (C.E t) (ev s x) H K:=by
 rw [dc _ rfl];simp only [aO,nO];cases C.E t with
 |none=>rfl
 |some ti=>
  simp only;generalize ev s x=r;cases r<;>first|rfl|skip
  ·rename_i id ad idx off;simp only [nN];cases H.ap id ad with
   |none=>rfl
   |some b=>
    simp only [nM];cases b.el[idx]? with
    |none=>rfl
    |some y=>simp only;generalize bR ti y off=z;cases z<;>rfl
  ·rename_i y off;simp only;generalize bR ti y off=z;cases z<;>rfl
theorem va (ti:TI) (y:AV) (off:Nat):nO (some ti) (.fe y off) H K=cr (bR ti y off) H K:=rfl
theorem vb (ti:TI) (id ad idx off:Nat):nO (some ti) (.ptr id ad idx off) H K=nN ti (H.ap id ad) idx off H K:=rfl
theorem vd (ti:TI) (b:bC) (idx off:Nat):nN ti (some b) idx off H K=nM ti b.el[idx]? off H K:=rfl
theorem ve (ti:TI) (y:AV) (off:Nat):nM ti (some y) off H K=cr (bR ti y off) H K:=rfl
def lW (E:aM) (t:TypeId) (f:Nat):Option (Nat×TI):=match E t with
 |some ti=>match ti.au with
  | .st fs=>match fs[f]? with
   |some (o,ft)=>match E ft with
    |some tf=>some (o,tf)
    |none=>none
   |none=>none
  |_=>none
 |none=>none
def jk (p:Option (Nat×TI)) (x:AV) (H:J) (K:AV→J→Prop):Prop:=match p with
 |some (o,tf)=>if tf.sz=0 then False else match x with
  | .ptr id ad idx off=>match H.ap id ad with
   |some _=>K (.ptr id ad idx (off+o)) H
   |none=>False
  | .fe y off=>K (.fe y (off+o)) H
  |_=>False
 |none=>False
theorem vf (x:Operand) (f:Nat):bm (aq C) C q th (.fieldAddr t x f) s H K=jk (lW C.E t f) (ev s x) H K:=by
 rw [dc _ rfl];simp only [aO,jk,lW];cases C.E t with
 |none=>rfl
 |some ti=>
  simp only;cases ti.au<;>try rfl
  rename_i fs;simp only;cases fs[f]? with
  |none=>rfl
  |some p=>
   obtain ⟨o,ft⟩:=p;simp only;cases C.E ft with
   |none=>rfl
   |some tf=>
    simp only;split
    ·rfl
    ·generalize ev s x=r;cases r<;>try rfl
     rename_i id ad idx off;simp only;cases H.ap id ad<;>rfl
theorem Bk (o:Nat) (tf:TI) (h:(tf.sz==0)=false) (y:AV) (off:Nat):jk (some (o,tf)) (.fe y off) H K=K (.fe y (off+o)) H:=by
 simp at h;simp [jk,h]
theorem Bl (o:Nat) (tf:TI) (h:(tf.sz==0)=false) (id ad idx off:Nat):jk (some (o,tf)) (.ptr id ad idx off) H K=(match H.ap id ad with|some _=>K (.ptr id ad idx (off+o)) H|none=>False):=by
 simp at h;simp [jk,h]
def qz (p:Option (Nat×TI)) (x:AV) (H:J) (K:AV→J→Prop):Prop:=match x with
 | .agg cs=>(match p with|some (o,tf)=>cr (bR tf (.agg cs) o) H K|none=>False)
 |_=>False
theorem vg (x:Operand) (f:Nat):bm (aq C) C q th (.field t x f) s H K=qz (lW C.E t f) (ev s x) H K:=by
 rw [dc _ rfl];simp only [aO,qz,lW];cases C.E t with
 |none=>simp only;generalize ev s x=r;cases r<;>rfl
 |some ti=>
  simp only;generalize ev s x=r;cases r
  case agg cs=>
   simp only;cases ti.au<;>try rfl
   rename_i fs;simp only;cases fs[f]? with
   |none=>rfl
   |some p=>
    obtain ⟨o,ft⟩:=p;simp only;cases C.E ft with
    |none=>rfl
    |some tf=>simp only;generalize bR tf (.agg cs) o=z;cases z<;>rfl
  all_goals rfl
theorem vh (o:Nat) (tf:TI) (cs:List AV):qz (some (o,tf)) (.agg cs) H K=cr (bR tf (.agg cs) o) H K:=rfl
theorem vi (x:Operand):bm (aq C) C q th (.call {callee:= .builtin .len,args:= #[x],argTypes:= #[t]}) s H K=ey (dm C.E .len #[t] [ev s x] H) K:=by
 unfold bm wpOp;simp only [fu,implies_true,true_and];rfl
def ez (ti:Option TI) (x:AV) (n:Option Nat) (H:J) (K:AV→J→Prop):Prop:=match ti,n with
 |some ti,some n=>match ti.au,x with
  | .str,.str _=>K (.int .i64 n) H
  | .sl _,.str _=>False
  | .sl _,_=>K (.int .i64 n) H
  |_,_=>False
 |_,_=>False
theorem vj (E:aM) (t:TypeId) (x:AV):ey (dm E .len #[t] [x] H) K=ez (E t) x (lenOf H x) H K:=by
 simp only [dm,ez];have:(#[t]:Array TypeId)[0]?.bind E=E t:=rfl;rw [this];cases E t with
 |none=>rfl
 |some ti=>
  obtain ⟨sz,agg,z,nP,au,eq⟩:=ti;cases lenOf H x with
  |none=>rfl
  |some n=>cases au<;>cases x<;>rfl
theorem vk (xs:Array Operand) (tys:Array TypeId):bm (aq C) C q th (.call {callee:= .builtin .min,args:=xs,argTypes:=tys}) s H K=cr (jX (xs.toList.map (ev s))) H K:=by
 unfold bm wpOp;simp only [fu,implies_true,true_and,dm];generalize jX _=r;cases r<;>rfl
theorem vl (xs:Array Operand) (tys:Array TypeId):bm (aq C) C q th (.call {callee:= .builtin .max,args:=xs,argTypes:=tys}) s H K=cr (jY (xs.toList.map (ev s))) H K:=by
 unfold bm wpOp;simp only [fu,implies_true,true_and,dm];generalize jY _=r;cases r<;>rfl
theorem min2:jX [.int k a,.int k b]=some (.int k (if b<a then b else a)):=rfl
theorem max2:jY [.int k a,.int k b]=some (.int k (if b>a then b else a)):=rfl
end
end Go.VS
namespace Go.VS
structure It where
 v:AV
 sz:Nat
 el:List AV
def cb:AV→Option Nat
 | .ref id _ _ _=>some id
 | .ptr id _ _ _=>some id
 |_=>none
def gY (H:J) (it:It):Prop:=bS it.sz it.el=true∧match it.v with
 | .nil=>it.el=[]
 | .e0=>it.el=[]
 | .ref id ad off len=>len=it.el.length∧ ∃b,H.ap id ad=some b∧b.sz=it.sz∧b.fix=false∧off+len≤b.el.length∧aG b.el off len=it.el
 | .ptr id ad idx off=>idx=0∧off=0∧it.el.length=1∧H.ap id ad=some ⟨ad,it.sz,false,it.el⟩
 |_=>False
structure aC (H:J) (L:List It):Prop where
 ok: ∀(i:Nat) (it:It),L[i]? =some it→gY H it
 cg: ∀(i j:Nat) (a b:It) (id:Nat),L[i]? =some a→L[j]? =some b→cb a.v=some id→cb b.v=some id→i=j
theorem gY.lt {H:J} {it:It} (h:gY H it) {id:Nat} (hi:cb it.v=some id):id<H.bs.length:=by
 obtain ⟨_,h⟩:=h;cases hv:it.v with
 |ref i ad off len=>
  rw [hv] at h hi;simp only [cb,Option.some.injEq] at hi;subst hi;obtain ⟨_,b,hb,_⟩:=h;exact J.ib (J.bz hb).1
 |ptr i ad ix off=>
  rw [hv] at h hi;simp only [cb,Option.some.injEq] at hi;subst hi;obtain ⟨_,_,_,hb⟩:=h;exact J.ib (J.bz hb).1
 |_=>rw [hv] at hi;simp [cb] at hi
theorem gY.frame {H H' :J} {it:It} (h:gY H it) (hk: ∀id ad,cb it.v=some id→H'.ap id ad=H.ap id ad):gY H' it:=by
 obtain ⟨h0,h⟩:=h;refine ⟨h0,?_⟩;cases hv:it.v with
 |ref i ad off len=>
  rw [hv] at h hk;obtain ⟨h1,b,hb,h2⟩:=h;exact ⟨h1,b,by rw [hk i ad rfl];exact hb,h2⟩
 |ptr i ad ix off=>
  rw [hv] at h hk;obtain ⟨h1,h2,h3,hb⟩:=h;exact ⟨h1,h2,h3,by rw [hk i ad rfl];exact hb⟩
 |_=>rw [hv] at h;exact h
theorem aC.tl {H:J} {a:It} {L:List It} (h:aC H (a::L)):aC H L:=
 ⟨fun i it hi=>h.ok (i+1) it hi,fun i j x y id h1 h2 h3 h4=>by have:=h.cg (i+1) (j+1) x y id h1 h2 h3 h4;omega⟩
theorem aC.nil (H:J):aC H []:=⟨by simp,by simp⟩
theorem aC.bh {H H' :J} {L:List It} (h:aC H L) {j:Nat} {it it' :It} (hj:L[j]? =some it) {i:Nat} (hi:cb it.v=some i) (hk: ∀id ad,id≠i→id<H.bs.length→H'.ap id ad=H.ap id ad) (hn:gY H' it') (bL: ∀k,cb it'.v=some k→k=i):aC H' (L.set j it'):=by
 have az:j<L.length:=(List.getElem?_eq_some_iff.1 hj).1;refine ⟨fun k a bK=> ?_,fun k l a b id h1 h2 h3 h4=> ?_⟩
 ·rw [List.getElem?_set] at bK;split at bK
  ·simp only [Option.some.injEq] at bK;subst bK;exact hn
  ·rename_i aP;have ho:=h.ok k a bK;refine ho.frame fun id ad vm=>hk id ad (fun e=> ?_) (ho.lt vm)
   subst e;exact aP (h.cg j k it a id hj bK hi vm)
 ·rw [List.getElem?_set] at h1 h2;split at h1
  ·rename_i e1;subst e1;simp only [Option.some.injEq] at h1;subst h1;split at h2
   ·rename_i e2;exact e2
   ·have:=bL id h3;subst this;exact h.cg j l it b id hj h2 hi h4
  ·split at h2
   ·rename_i e2;subst e2;simp only [Option.some.injEq] at h2;subst h2;have:=bL id h4;subst this;exact h.cg k j a it id h1 hj h3 hi
   ·exact h.cg k l a b id h1 h2 h3 h4
theorem aC.new {H H' :J} {L:List It} (h:aC H L) (hk: ∀id ad,id<H.bs.length→H'.ap id ad=H.ap id ad) {it:It} (hn:gY H' it) (bL: ∀k,cb it.v=some k→H.bs.length≤k):aC H' (it::L):=by
 refine ⟨fun k a bK=> ?_,fun k l a b id h1 h2 h3 h4=> ?_⟩
 ·cases k with
  |zero=>simp at bK;subst bK;exact hn
  |succ k=>have ho:=h.ok k a (by simpa using bK);exact ho.frame fun id ad hi=>hk id ad (ho.lt hi)
 ·cases k with
  |zero=>
   simp at h1;subst h1;cases l with
   |zero=>rfl
   |succ l=>
    have:=(h.ok l b (by simpa using h2)).lt h4
    have:=bL id h3;omega
  |succ k=>
   cases l with
   |zero=>
    simp at h2;subst h2;have:=(h.ok k a (by simpa using h1)).lt h3
    have:=bL id h4;omega
   |succ l=>have:=h.cg k l a b id (by simpa using h1) (by simpa using h2) h3 h4;omega
theorem aC.vn {H H' :J} {L:List It} (h:aC H L) (hk: ∀id ad,id<H.bs.length→H'.ap id ad=H.ap id ad) {j:Nat} {it' :It} (hn:gY H' it') (bL: ∀k,cb it'.v=some k→H.bs.length≤k):aC H' (L.set j it'):=by
 refine ⟨fun k a bK=> ?_,fun k l a b id h1 h2 h3 h4=> ?_⟩
 ·rw [List.getElem?_set] at bK;split at bK
  ·split at bK
   ·simp only [Option.some.injEq] at bK;subst bK;exact hn
   ·simp at bK
  ·have ho:=h.ok k a bK;exact ho.frame fun id ad hi=>hk id ad (ho.lt hi)
 ·rw [List.getElem?_set] at h1 h2;split at h1
  ·rename_i e1;subst e1;split at h1
   ·simp only [Option.some.injEq] at h1;subst h1;split at h2
    ·rename_i e2;exact e2
    ·have:=(h.ok l b h2).lt h4;have:=bL id h3;omega
   ·simp at h1
  ·split at h2
   ·rename_i e2;subst e2;split at h2
    ·simp only [Option.some.injEq] at h2;subst h2;have:=(h.ok k a h1).lt h3;have:=bL id h4;omega
    ·simp at h2
   ·exact h.cg k l a b id h1 h2 h3 h4
theorem nQ {H:J} {sz:Nat} {fx:Bool} {el:List AV} {id ad:Nat} (h:id<H.bs.length):(H.new sz fx el).ap id ad=H.ap id ad:=by
 simp only [J.ap,J.new,List.getElem?_append_left h]
theorem nR {H:J} {sz:Nat} {fx:Bool} {el:List AV}:(H.new sz fx el).ap H.bs.length H.st=some ⟨H.st,sz,fx,el⟩:=by
 simp [J.ap,J.new]
theorem nS {H:J} {i id ad:Nat} {b:bC} (h:id≠i):(H.bh i b).ap id ad=H.ap id ad:=by
 have h' : ¬i=id:=fun e=>h e.symm
 simp only [J.ap,J.bh,List.getElem?_set,if_neg h']
theorem nT {H:J} {id:Nat} {b:bC} (h:id<H.bs.length):(H.bh id b).ap id b.ad=some b:=by
 simp [J.ap,J.bh,h]
section
variable {C:aK} {th:Bool} {s:ah} {H:J} {K:AV→J→Prop} {L:List It}
theorem aC.lX (hS:aC H L) {sz n:Nat} {el all:List AV} (he:all.take n=el) (hn:n=el.length) (aB:bS sz el=true):aC (H.new sz false all) (⟨.ref H.bs.length H.st 0 n,sz,el⟩::L):=by
 refine hS.new (fun id ad h=>nQ h) ⟨aB,hn,_,nR,rfl,rfl,?_,by simpa [aG] using he⟩ (fun k hk=>by simp [cb] at hk;omega)
 have:=congrArg List.length he;simp at this;simp only;omega
theorem aC.newVar (hS:aC H L) {sz:Nat} {a:AV} (aB:a.cells.length=sz):aC (H.new sz false [a]) (⟨.ptr H.bs.length H.st 0 0,sz,[a]⟩::L):=
 hS.new (fun id ad h=>nQ h) ⟨by simp [bS,aB],rfl,rfl,rfl,nR⟩ (fun k hk=>by simp [cb] at hk;omega)
theorem aC.var (hS:aC H L) (j:Nat) {id ad sz:Nat} {a:AV} (hj:L[j]? =some ⟨.ptr id ad 0 0,sz,[a]⟩):H.ap id ad=some ⟨ad,sz,false,[a]⟩:=(hS.ok j _ hj).2.2.2.2
theorem Dq {t:TypeId} {x:Operand} {ti:TI} {a:AV} (hS:aC H L) (ht:C.E t=some ti) (hx:ev s x=a) (h1:a.cells.length=ti.sz) (h2:dP a=true)
 (h: ∀id ad H',aC H' (⟨.ptr id ad 0 0,ti.sz,[a]⟩::L)→K (.ptr id ad 0 0) H') {q:Bool}:bm (aq C) C q th (.box t x) s H K:=by
 rw [dc _ rfl];simp only [aO,ht,hx,h1,h2,and_self,if_true,ey];exact h _ _ _ (hS.newVar h1)
theorem qA {ti:TI} {z:AV} (h:eP ti=some z):z.cells.length=ti.sz:=by
 unfold eP at h;split at h
 ·rename_i hc;rcases kZ h with ⟨_,rfl⟩|⟨_,hz⟩
  ·exact hc.2
  ·have:cU z=true:=by have:=hc.1;rw [hz] at this;simpa using this
   have hl:=hc.2;rw [hz] at hl;cases z<;>first|exact hl|simp [cU] at this
 ·simp at h
theorem Bm {ti:TI} {z:AV} (h:hM ti=some z):z.cells.length=ti.sz:=by
 unfold hM at h;split at h
 ·rename_i z0 jv;simp only [Option.some.injEq] at h;subst h;split
  ·rw [lh,List.length_map];exact qA jv
  ·exact qA jv
 ·simp at h
theorem Dr {t:TypeId} {ti:TI} {z:AV} (hS:aC H L) (ht:C.E t=some ti) (hz:eP ti=some z)
 (h: ∀id ad H',aC H' (⟨.ptr id ad 0 0,ti.sz,[z]⟩::L)→K (.ptr id ad 0 0) H') {q:Bool}:bm (aq C) C q th (.alloc t) s H K:=by
 rw [dc _ rfl];simp only [aO,ht,hz,ey];exact h _ _ _ (hS.newVar (qA hz))
theorem Ds {t:TypeId} {x v:Operand} {ti:TI} {id ad sz o:Nat} {y y' a:AV} (j:Nat) (hS:aC H L) (hj:L[j]? =some ⟨.ptr id ad 0 0,sz,[y]⟩) (ht:C.E t=some ti) (hx:ev s x= .ptr id ad 0 o) (hv:ev s v=a)
 (h1:a.cells.length=ti.sz) (h2:dP a=true) (hw:gA y o a=some y') (h3:y'.cells.length=sz) (h: ∀H',aC H' (L.set j ⟨.ptr id ad 0 0,sz,[y']⟩)→K (.aA []) H'):bm (aq C) C false th (.store t x v) s H K:=by
 rw [tW _ (by simp)]
 have hb:=hS.var j hj;simp only [aO,ht,hx,hv,hb,List.getElem?_cons_zero,h1,h2,and_self,if_true,hw,List.set_cons_zero,ey];refine h _ (hS.bh hj rfl (fun gI iw aP _=>nS aP) ⟨by simp [bS,h3],rfl,rfl,rfl,?_⟩ (fun k hk=>by simpa [cb] using hk.symm))
 exact nT ((hS.ok j _ hj).lt rfl)
end
def idx {α :Type} (l:List α) (i:Int):Option α :=if 0≤i then l[i.toNat]? else none
theorem kD {α :Type} {l:List α} {i:Int} {x: α} (h:idx l i=some x):0≤i∧i<l.length∧l[i.toNat]? =some x:=by
 unfold idx at h;split at h
 ·rename_i h0;have:=(List.getElem?_eq_some_iff.1 h).1;exact ⟨h0,by omega,h⟩
 ·simp at h
def Dt (E:aM) (t:TypeId):Option TI:=match E t with
 |some ti=>match ti.au with| .sl e=>E e|_=>none
 |none=>none
section
variable {C:aK} {q th:Bool} {s:ah} {H:J} {K:AV→J→Prop} {L:List It}
def lY (l:List UInt8) (n:Int) (H:J) (K:AV→J→Prop):Prop:=match idx l n with|some b=>K (.int .u8 b.toNat) H|none=>False
def nU (E:aM) (ti:Option TI) (x i:AV) (H:J) (K:AV→J→Prop):Prop:=match ti,i with
 |some ti,.int _ n=>match ti.au,x with
  | .str,.str l=>lY l n H K
  | .ar m e,.agg cs=>match E e with
   |some te=>if 0≤n∧n<m then cr (bR te (.agg cs) (n.toNat*te.sz)) H K else False
   |none=>False
  |_,_=>False
 |_,_=>False
theorem vo (t:TypeId) (x i:Operand):bm (aq C) C q th (.index t x i) s H K=nU C.E (C.E t) (ev s x) (ev s i) H K:=by
 rw [dc _ rfl];simp only [aO,nU];generalize ev s i=n;generalize ev s x=a;cases C.E t with
 |none=>rfl
 |some ti=>
  cases n
  case int k n=>
   simp only;cases ti.au<;>cases a<;>try rfl
   ·rename_i m e cs;simp only;cases C.E e with
    |none=>rfl
    |some te=>
     simp only;split
     ·generalize bR te (.agg cs) (n.toNat*te.sz)=z;cases z<;>rfl
     ·rfl
   ·rename_i l;simp only [lY,idx];split
    ·cases l[n.toNat]? <;>rfl
    ·rfl
  all_goals rfl
def lZ:UD→Bool
 | .str=>true
 |_=>false
theorem vp:lZ .str=true:=rfl
def jS:UD→Bool
 | .sl _=>true
 |_=>false
theorem vq (e:TypeId):jS (.sl e)=true:=rfl
theorem vr (E:aM) (ti:TI) (hu:lZ ti.au=true) (l:List UInt8) (k:IntKind) (n:Int):nU E (some ti) (.str l) (.int k n) H K=lY l n H K:=by
 cases h:ti.au<;>rw [h] at hu<;>simp [lZ] at hu
 simp only [nU,h]
theorem Du {α :Type} {l:List UInt8} {n:Int} {f:UInt8→Option α} {r: α} (h:(idx l n).bind f=some r) (hk: ∀b,idx l n=some b→f b=some r→K (.int .u8 b.toNat) H):lY l n H K:=by
 unfold lY;cases hi:idx l n with
 |none=>rw [hi] at h;simp at h
 |some b=>rw [hi] at h;exact hk b hi h
def l4 (E:aM) (t:TypeId) (x i:AV) (H:J) (K:AV→J→Prop):Prop:=ey (match E t,i with
 |some ti,.int _ n=>match ti.au with
  | .sl e=>match E e with
   |some te=>match x with
    | .fz xs=>if 0≤n then match xs[n.toNat]? with
     |some y=>if y.cells.length=te.sz then some (.fe y 0,H) else none
     |none=>none
     else none
    | .ref id ad off len=>match H.ap id ad with
     |some b=>if b.sz=te.sz∧0≤n∧n<len∧off+len≤b.el.length then some (.ptr id ad (off+n.toNat) 0,H) else none
     |none=>none
    |_=>none
   |none=>none
  | .ar m e=>match E e with
   |some te=>if 0≤n∧n<m then match x with
    | .ptr id ad idx off=>match H.ap id ad with
     |some _=>some (.ptr id ad idx (off+n.toNat*te.sz),H)
     |none=>none
    | .fe y off=>some (.fe y (off+n.toNat*te.sz),H)
    |_=>none
    else none
   |none=>none
  |_=>none
 |_,_=>none) K
theorem vt (t:TypeId) (x i:Operand):bm (aq C) C q th (.indexAddr t x i) s H K=l4 C.E t (ev s x) (ev s i) H K:=by
 rw [dc _ rfl];rfl
theorem Dv {α β :Type} {E:aM} {t:TypeId} {ti te:TI} {e:TypeId} (ht:E t=some ti) (hu:ti.au= .sl e) (he:E e=some te) {l:List α} {c: α →AV} (hc: ∀x,(c x).cells.length=te.sz) {k:IntKind} {n:Int} {f: α →Option β} {r: β} (h:(idx l n).bind f=some r)
 (hk: ∀x,idx l n=some x→f x=some r→K (.fe (c x) 0) H):l4 E t (.fz (l.map c)) (.int k n) H K:=by
 cases hi:idx l n with
 |none=>rw [hi] at h;simp at h
 |some x=>
  rw [hi] at h;obtain ⟨h0,_,h1⟩:=kD hi;simp only [l4,ht,hu,he,h0,if_true,List.getElem?_map,h1,Option.map_some,hc,ey];exact hk x hi h
theorem Dw {α β :Type} {E:aM} {t:TypeId} {ti te:TI} {e:TypeId} (j:Nat) (hS:aC H L) {v:AV} {l:List α} {c: α →AV} {sz:Nat} (hj:L[j]? =some ⟨v,sz,l.map c⟩) (ht:E t=some ti) (hu:ti.au= .sl e) (he:E e=some te) (aB:sz=te.sz) {k:IntKind} {n:Int} {f: α →Option β} {r: β}
 (h:(idx l n).bind f=some r) (hk: ∀x id ad off,idx l n=some x→f x=some r→v= .ref id ad off l.length→K (.ptr id ad (off+n.toNat) 0) H) (hp: ∀id ad,v≠ .ptr id ad 0 0):l4 E t v (.int k n) H K:=by
 cases hi:idx l n with
 |none=>rw [hi] at h;simp at h
 |some x=>
  rw [hi] at h;obtain ⟨h0,h2,h1⟩:=kD hi;have ag:=(hS.ok j _ hj).2;simp only at ag;have aP:l.map c≠[]:=by intro e;rw [List.map_eq_nil_iff] at e;subst e;simp at h1
  split at ag
  ·exact absurd ag aP
  ·exact absurd ag aP
  ·rename_i id ad off len;obtain ⟨h3,b,hb,h4,_,h5,h6⟩:=ag;simp only [List.length_map] at h3;subst h3;simp only [l4,ht,hu,he,hb];rw [if_pos ⟨by rw [h4,aB],h0,h2,h5⟩]
   exact hk x id ad off hi h rfl
  ·rename_i id ad ix off;obtain ⟨rfl,rfl,_⟩:=ag;exact absurd rfl (hp id ad)
  ·exact ag.elim
theorem aC.elem {α :Type} (hS:aC H L) (j:Nat) {id ad off n sz:Nat} {v:AV} {l:List α} {c: α →AV} (hj:L[j]? =some ⟨v,sz,l.map c⟩) (hv:v= .ref id ad off n) {i:Int} {x: α} (hx:idx l i=some x): ∃b,H.ap id ad=some b∧b.el[off+i.toNat]? =some (c x):=by
 obtain ⟨h0,h2,h1⟩:=kD hx;subst hv;obtain ⟨_,h3,b,hb,h4,_,h5,h6⟩:=hS.ok j _ hj;refine ⟨b,hb,?_⟩;simp only at h3 h6;have:=congrArg (·[i.toNat]?) h6;simp only [List.getElem?_map,h1,Option.map_some,aG] at this;rw [←this,List.getElem?_take,List.getElem?_drop,if_pos (by simp at h3;omega)]
theorem Dx {α :Type} {t:TypeId} {x w:Operand} {ti:TI} {id ad off n sz o:Nat} {v a:AV} {l:List α} {c: α →AV} {i:Int} {y y' : α} (j:Nat) (hS:aC H L) (hj:L[j]? =some ⟨v,sz,l.map c⟩) (hv:v= .ref id ad off n) (hi:idx l i=some y) (ht:C.E t=some ti) (hx:ev s x= .ptr id ad (off+i.toNat) o) (hw:ev s w=a)
 (h1:a.cells.length=ti.sz) (h2:dP a=true) (hr:gA (c y) o a=some (c y')) (h3:(c y').cells.length=sz) (h: ∀H',aC H' (L.set j ⟨v,sz,(l.set i.toNat y').map c⟩)→K (.aA []) H'):bm (aq C) C false th (.store t x w) s H K:=by
 rw [tW _ (by simp)]
 obtain ⟨b,hb,he⟩:=hS.elem j hj hv hi;simp only [aO,ht,hx,hw,hb,he,h1,h2,and_self,if_true,hr,ey];subst hv;obtain ⟨k0,k1,b',aw,k2,k3,k4,k5⟩:=hS.ok j _ hj;rw [hb] at aw;simp only [Option.some.injEq] at aw;subst aw;simp only at k1 k5;obtain ⟨i0,i1,i2⟩:=kD hi;have bQ:=(J.bz hb).2;refine h _ (hS.bh hj rfl (fun gI iw aP _=>nS aP) ⟨?_,by simpa using k1,{b with el:=b.el.set (off+i.toNat) (c y')},?_,k2,k3,by simpa using k4,?_⟩ (fun k hk=>by simpa [cb] using hk.symm))
 ·simp only [bS,List.all_eq_true,List.mem_map] at k0⊢;rintro z ⟨z',hz,rfl⟩;rcases List.mem_or_eq_of_mem_set hz with h' |rfl
  ·exact k0 _ ⟨z',h',rfl⟩
  ·simpa using h3
 ·have:=nT (b:={b with el:=b.el.set (off+i.toNat) (c y')}) ((hS.ok j _ hj).lt rfl);simpa only [bQ] using this
 ·simp only [aG,List.map_set] at k5⊢;rw [←k5,List.drop_set,if_neg (by omega),List.take_set]
  congr 1;omega
end
end Go.VS
namespace Go.VS
structure bG (v:AV):Prop where
 ok:v= .nil∨v= .e0∨ ∃id ad off len,v= .ref id ad off len
theorem iJ (id ad off len:Nat):bG (.ref id ad off len):=⟨.inr (.inr ⟨id,ad,off,len,rfl⟩)⟩
theorem Bn:bG .nil:=⟨.inl rfl⟩
theorem vu:bG .e0:=⟨.inr (.inl rfl)⟩
theorem bG.ne {v:AV} (h:bG v) (id ad:Nat):v≠ .ptr id ad 0 0:=by
 rcases h.ok with rfl|rfl|⟨_,_,_,_,rfl⟩<;>simp
theorem bG.cells {v:AV} (h:bG v):v.cells=[v]:=by
 rcases h.ok with rfl|rfl|⟨_,_,_,_,rfl⟩<;>rfl
theorem bG.q8 {v:AV} (h:bG v):cU v=true:=by
 rcases h.ok with rfl|rfl|⟨_,_,_,_,rfl⟩<;>rfl
theorem bG.Dy {v:AV} (h:bG v):dP v=true:=by
 rcases h.ok with rfl|rfl|⟨_,_,_,_,rfl⟩<;>rfl
theorem bG.rd {v:AV} (h:bG v) (z:List AV) (b:Nat) (w:UD) (e:Bool):bR ⟨1,false,z,b,w,e⟩ v 0=some v:=by
 rcases h.ok with rfl|rfl|⟨_,_,_,_,rfl⟩<;>rfl
theorem bG.same {v:AV} (h:bG v):fA v v=true:=by
 rcases h.ok with rfl|rfl|⟨_,_,_,_,rfl⟩<;>simp [fA]
theorem bG.wr {v:AV} (h:bG v) (cs:List AV) (o:Nat) (ho:o<cs.length):gA (.agg cs) o v=some (.agg (cs.set o v)):=by
 simp only [gA,h.cells,List.length_cons,List.length_nil];rw [if_pos (by omega)]
 simp only [splice,List.length_cons,List.length_nil,List.append_assoc,List.cons_append,List.nil_append,Option.some.injEq,AV.agg.injEq];rw [List.set_eq_take_append_cons_drop,if_pos ho]
section
variable {C:aK} {q th:Bool} {s:ah} {H:J} {K:AV→J→Prop} {L:List It}
theorem aC.len (hS:aC H L) (j:Nat) {v:AV} {sz:Nat} {el:List AV} (hj:L[j]? =some ⟨v,sz,el⟩) (hp:bG v):lenOf H v=some el.length:=by
 have ag:=(hS.ok j _ hj).2;simp only at ag;split at ag
 ·subst ag;rfl
 ·subst ag;rfl
 ·rename_i id ad off len;obtain ⟨h3,b,hb,_⟩:=ag;simp only [lenOf,h3]
 ·rename_i id ad ix off;obtain ⟨rfl,rfl,_⟩:=ag;exact absurd rfl (hp.ne id ad)
 ·exact ag.elim
theorem aC.iK (hS:aC H L) (j:Nat) {v:AV} {sz:Nat} {el:List AV} (hj:L[j]? =some ⟨v,sz,el⟩) (hp:bG v):cJ H v=some el:=by
 have ag:=(hS.ok j _ hj).2;simp only at ag;split at ag
 ·subst ag;rfl
 ·subst ag;rfl
 ·rename_i id ad off len;obtain ⟨h3,b,hb,_,_,h5,h6⟩:=ag;simp only [cJ,hb,h5,if_true,h6]
 ·rename_i id ad ix off;obtain ⟨rfl,rfl,_⟩:=ag;exact absurd rfl (hp.ne id ad)
 ·exact ag.elim
theorem aC.Bo (hS:aC H L) (j:Nat) {v:AV} {sz:Nat} {el:List AV} (hj:L[j]? =some ⟨v,sz,el⟩) (l:List UInt8):v≠ .str l:=by
 rintro rfl;exact (hS.ok j _ hj).2
theorem Dz (j:Nat) (hS:aC H L) {v:AV} {sz:Nat} {el:List AV} (hj:L[j]? =some ⟨v,sz,el⟩) (hp:bG v) {ti:TI} {e:TypeId} (hu:ti.au= .sl e) (h:K (.int .i64 el.length) H):ez (some ti) v (lenOf H v) H K:=by
 rw [hS.len j hj hp];have hn:=hS.Bo j hj;simp only [ez,hu];cases v with
 |str l=>exact absurd rfl (hn l)
 |_=>exact h
theorem vv (xs:List AV):lenOf H (.fz xs)=some xs.length:=rfl
theorem vw (l:List UInt8):lenOf H (.str l)=some l.length:=rfl
theorem vx:lenOf H .nil=some 0:=rfl
theorem vy:lenOf H .e0=some 0:=rfl
theorem Bp (ti:TI) {e:TypeId} (hu:ti.au= .sl e) (xs:List AV) (n:Nat):ez (some ti) (.fz xs) (some n) H K=K (.int .i64 n) H:=by simp [ez,hu]
theorem Bq (ti:TI) {e:TypeId} (hu:ti.au= .sl e) (n:Nat):ez (some ti) .nil (some n) H K=K (.int .i64 n) H:=by simp [ez,hu]
theorem Br (ti:TI) {e:TypeId} (hu:ti.au= .sl e) (n:Nat):ez (some ti) .e0 (some n) H K=K (.int .i64 n) H:=by simp [ez,hu]
theorem Bs (ti:TI) (hu:ti.au= .str) (l:List UInt8) (n:Nat):ez (some ti) (.str l) (some n) H K=K (.int .i64 n) H:=by simp [ez,hu]
theorem Bt {α β :Type} {t:TypeId} {x y:Operand} {te:TI} {z:AV} {n:Int} {c: α →AV} {d: α} {f:List α →Option β} {r: β} (hS:aC H L) (ht:cO C.E t=some te) (hx:ev s x= .int .i64 n) (hy:ev s y= .int .i64 n) (hz:hM te=some z) (hd:c d=z) (h0:te.sz≠0)
 (hh:(if 0≤n∧roomy n.toNat te.bytes then some (List.replicate n.toNat d) else none:Option (List α)).bind f=some r)
 (h: ∀v H',bG v→0≤n→roomy n.toNat te.bytes=true→f (List.replicate n.toNat d)=some r→aC H' (⟨v,te.sz,(List.replicate n.toNat d).map c⟩::L)→K v H'):bm (aq C) C q th (.makeSlice t x y) s H K:=by
 rw [dc _ rfl];split at hh
 ·rename_i hc;simp only [aO,ht,hx,hy,hz];rw [if_pos ⟨hc.1,Int.le_refl _,hc.2,h0⟩];refine h _ _ (iJ ..) hc.1 hc.2 hh (hS.lX (by simp [hd]) (by simp) ?_)
  simp only [bS,List.map_replicate,List.all_replicate,hd,Bm hz];simp
 ·simp at hh
theorem DA {t:TypeId} {ps:Array (Nat×Operand)} {te:TI} (ht:cO C.E t=some te) (hp:ps.size=0) (h:K .e0 H):bm (aq C) C q th (.buildSlice t 0 ps) s H K:=by
 rw [dc _ rfl];simp only [aO,ht,hp,if_true];exact h
theorem DB {t:TypeId} {n:Nat} {ps:Array (Nat×Operand)} {te:TI} {z:AV} {el:List AV} (hS:aC H L) (ht:cO C.E t=some te) (hz:eP te=some z) (hn:(n==0)=false) (hb:(decide (n*te.sz≤1000000)&&te.sz !=0)=true)
 (he:iO te.sz (List.replicate n z) (ps.toList.map fun p=>(p.1,ev s p.2))=some el) (hl:el.length=n) (aB:bS te.sz el=true) (h: ∀v H',bG v→aC H' (⟨v,te.sz,el⟩::L)→K v H'):bm (aq C) C q th (.buildSlice t n ps) s H K:=by
 rw [dc _ rfl];simp at hn hb;simp only [aO,ht,if_neg hn,hz];rw [if_pos hb];simp only [he];exact h _ _ (iJ ..) (hS.lX (by rw [←hl];simp) hl.symm aB)
theorem vz {sz:Nat} {a b:List AV} (ha:bS sz a=true) (hb:bS sz b=true):bS sz (a ++ b)=true:=by
 unfold bS at*;rw [List.all_append,ha,hb];rfl
theorem Bu (hS:aC H L) (j:Nat) {te:TI} {v x:AV} {el xs:List AV} (hj:L[j]? =some ⟨v,te.sz,el⟩) (hp:bG v) (hx:cJ H x=some xs) (aB:bS te.sz xs=true) (h0:te.sz≠0) (hr:roomy (el.length+xs.length) te.bytes=true):
 ∃v' H',eB te v x H=some (v',H')∧bG v' ∧aC H' (L.set j ⟨v',te.sz,el ++ xs⟩):=by
 have ag:=hS.ok j _ hj;obtain ⟨k0,ag⟩:=ag;have ln: ∀it:It,L[j]? =some it→L.set j it=L:=fun it h=>List.ext_getElem? fun k=>by
  rw [List.getElem?_set];split
  ·rename_i e;subst e;have:=(List.getElem?_eq_some_iff.1 h).1;simp only [this,if_true];exact h.symm
  ·rfl
 simp only [eB,hx,aB,Bool.not_true,if_neg h0];simp only at ag k0;split at ag
 ·subst ag;by_cases hn:xs.length=0
  ·have:xs=[]:=List.eq_nil_of_length_eq_zero hn;subst this;refine ⟨.nil,H,by simp,Bn,?_⟩
   rw [List.append_nil,ln _ hj];exact hS
  ·have b9:roomy xs.length te.bytes=true:=by simpa using hr
   refine ⟨.ref H.bs.length H.st 0 xs.length,H.new te.sz false xs,by simp [hn,b9],iJ ..,?_⟩
   exact hS.vn (fun id ad h=>nQ h) ⟨by simpa using aB,by simp,_,nR,rfl,rfl,by simp,by simp [aG]⟩ (fun k hk=>by simp [cb] at hk;omega)
 ·subst ag;by_cases hn:xs.length=0
  ·have:xs=[]:=List.eq_nil_of_length_eq_zero hn;subst this;refine ⟨.e0,H,by simp,vu,?_⟩
   rw [List.append_nil,ln _ hj];exact hS
  ·have b9:roomy xs.length te.bytes=true:=by simpa using hr
   refine ⟨.ref H.bs.length H.st 0 xs.length,H.new te.sz false xs,by simp [hn,b9],iJ ..,?_⟩
   exact hS.vn (fun id ad h=>nQ h) ⟨by simpa using aB,by simp,_,nR,rfl,rfl,by simp,by simp [aG]⟩ (fun k hk=>by simp [cb] at hk;omega)
 ·rename_i id ad off len;obtain ⟨k1,b,hb,k2,k3,k4,k5⟩:=ag;have az:=(hS.ok j _ hj).lt rfl;have bQ:=(J.bz hb).2;subst k1;by_cases cE:off+el.length+xs.length≤b.el.length
  ·refine ⟨.ref id ad off (el.length+xs.length),H.bh id {b with el:=splice b.el (off+el.length) xs},by simp [hb,k2,cE],iJ ..,?_⟩
   refine hS.bh hj rfl (fun gI iw aP _=>nS aP) ⟨vz k0 aB,by simp,{b with el:=splice b.el (off+el.length) xs},?_,k2,k3,?_,?_⟩ (fun k hk=>by simpa [cb] using hk.symm)
   ·have:=nT (b:={b with el:=splice b.el (off+el.length) xs}) az;simpa only [bQ] using this
   ·simp only [lb _ _ _ cE];omega
   ·simp only [aG] at k5⊢;have e1:(splice b.el (off+el.length) xs).drop off=el ++ (xs ++ b.el.drop (off+el.length+xs.length)):=by
     unfold splice;rw [List.append_assoc,List.drop_append_of_le_length (by simp;omega)]
     congr 1;rw [List.drop_take];have:off+el.length-off=el.length:=by omega
     rw [this,k5]
    rw [e1,←List.append_assoc,List.take_append_of_le_length (by simp),List.take_of_length_le (by simp)]
  ·refine ⟨.ref id H.st 0 (el.length+xs.length),⟨H.st+1,H.bs.set id (some ⟨H.st,b.sz,false,aG b.el off el.length ++ xs⟩)⟩,by simp [hb,k2,cE,k3,k4,hr],iJ ..,?_⟩
   refine hS.bh hj rfl (fun gI iw aP _=> ?_) ⟨vz k0 aB,by simp,⟨H.st,te.sz,false,el ++ xs⟩,?_,rfl,rfl,by simp,by simp only [aG,List.drop_zero];exact List.take_of_length_le (by simp)⟩ (fun k hk=>by simpa [cb] using hk.symm)
   ·have h' : ¬id=gI:=fun e=>aP e.symm
    simp only [J.ap,List.getElem?_set,if_neg h']
   ·simp only [J.ap,List.getElem?_set,az,if_true,k2,aG] at k5⊢;rw [k5]
 ·rename_i id ad ix off;obtain ⟨rfl,rfl,_⟩:=ag;exact absurd rfl (hp.ne id ad)
 ·exact ag.elim
def app {α :Type} (nP:Nat) (l m:List α):Option (List α):=if roomy (l.length+m.length) nP then some (l ++ m) else none
theorem vA (a b:Operand) (t u:TypeId):bm (aq C) C false th (.call {callee:= .builtin .append,args:= #[a,b],argTypes:= #[t,u]}) s H K=ey (dm C.E .append #[t,u] [ev s a,ev s b] H) K:=by
 unfold bm wpOp;simp only [Bool.false_eq_true,false_implies,true_and];rfl
theorem Bv {α β :Type} {E:aM} {t u:TypeId} {te tu:TI} {e:TypeId} {v x:AV} {l m:List α} {c: α →AV} {f:List α →Option β} {r: β} (j:Nat) (hS:aC H L) (hj:L[j]? =some ⟨v,te.sz,l.map c⟩) (hp:bG v) (ht:cO E t=some te) (hu:E u=some tu) (hi:tu.au= .sl e)
 (hx:cJ H x=some (m.map c)) (aB:bS te.sz (m.map c)=true) (h0:(te.sz==0)=false) (hh:(app te.bytes l m).bind f=some r) (h: ∀v' H',bG v' →app te.bytes l m=some (l ++ m)→f (l ++ m)=some r→aC H' (L.set j ⟨v',te.sz,(l ++ m).map c⟩)→K v' H'):
 ey (dm E .append #[t,u] [v,x] H) K:=by
 cases hr:app te.bytes l m with
 |none=>rw [hr] at hh;simp at hh
 |some lm=>
  have b9:=hr
  unfold app at hr;split at hr
  ·rename_i mz;simp only [Option.some.injEq] at hr;subst hr;rw [b9] at hh;obtain ⟨v',H',h1,h2,h3⟩:=Bu hS j hj hp hx aB (by simpa using h0) (by simpa using mz)
   have e1:(#[t,u]:Array TypeId)[0]? =some t:=rfl;have e2:((#[t,u]:Array TypeId)[1]?).bind E=E u:=rfl;simp only [dm,e1,e2,ht,hu,hi,h1,ey];exact h v' H' h2 b9 hh (by rw [List.map_append];exact h3)
  ·simp at hr
def kE (C:aK) (q th:Bool) (f:AV) (args:List AV) (H:J) (K:AV→J→Prop):Prop:=
 match f with
 | .fn g bO=>if q then dB (aq C) C g (args ++ bO) th H K else aq C g (args ++ bO) H K∨dB (aq C) C g (args ++ bO) th H K
 |_=>False
theorem vB (f:Operand) (args:Array Operand) (tys:Array TypeId):bm (aq C) C q th (.call {callee:= .value f,args,argTypes:=tys}) s H K=kE C q th (ev s f) (args.toList.map (ev s)) H K:=rfl
theorem DC {α β :Type} {g:FuncId} {bO args:List AV} {o:Option α} {f: α →Option β} {r: β} (h:o.bind f=some r) (hk: ∀x,o=some x→f x=some r→aq C g (args ++ bO) H K):kE C false th (.fn g bO) args H K:=by
 cases ho:o with
 |none=>rw [ho] at h;simp at h
 |some x=>rw [ho] at h;exact .inl (hk x ho h)
end
inductive LR (σ ρ :Type) where
 |next (x: σ)
 |done (r: ρ)
def iter {σ ρ :Type} (f: σ →Option (LR σ ρ)):Nat→ σ →Option ρ
 |0,_=>none
 |n+1,x=>(f x).bind fun y=>match y with| .next x' =>iter f n x' | .done r=>some r
open Classical in
noncomputable def eZ {σ ρ :Type} (f: σ →Option (LR σ ρ)) (x: σ):Option ρ :=if h: ∃n,(iter f n x).isSome then iter f h.choose x else none
theorem qB {σ ρ :Type} {f: σ →Option (LR σ ρ)}: ∀{n m:Nat} {x: σ} {r: ρ},iter f n x=some r→n≤m→iter f m x=some r
 |0,_,_,_,h,_=>by simp [iter] at h
 |n+1,0,_,_,_,h=>by omega
 |n+1,m+1,x,r,h,hle=>by
  simp only [iter] at h⊢;cases hf:f x with
  |none=>rw [hf] at h;simp at h
  |some y=>
   rw [hf] at h;cases y with
   |next x' =>exact qB (m:=m) h (by omega)
   |done r' =>exact h
theorem l5 {σ ρ :Type} {f: σ →Option (LR σ ρ)} {x: σ} {r: ρ}:eZ f x=some r↔ ∃n,iter f n x=some r:=by
 unfold eZ;constructor
 ·intro h;split at h
  ·exact ⟨_,h⟩
  ·simp at h
 ·rintro ⟨n,h⟩;have hex: ∃n,(iter f n x).isSome:=⟨n,by simp [h]⟩
  rw [dif_pos hex];cases hc:iter f hex.choose x with
  |none=>have:=hex.choose_spec;rw [hc] at this;simp at this
  |some r' =>
   have h1:=qB hc (Nat.le_max_left hex.choose n);have h2:=qB h (Nat.le_max_right hex.choose n);rw [h1] at h2;exact h2
theorem qC {σ ρ :Type} (f: σ →Option (LR σ ρ)) (x: σ):eZ f x=(f x).bind fun y=>match y with| .next x' =>eZ f x' | .done r=>some r:=by
 refine Option.ext fun r=> ?_;rw [l5];constructor
 ·rintro ⟨n,h⟩;cases n with
  |zero=>simp [iter] at h
  |succ n=>
   simp only [iter] at h;cases hf:f x with
   |none=>rw [hf] at h;simp at h
   |some y=>
    rw [hf] at h;cases y with
    |next x' =>exact l5.2 ⟨n,h⟩
    |done r' =>exact h
 ·intro h;cases hf:f x with
  |none=>rw [hf] at h;simp at h
  |some y=>
   rw [hf] at h;cases y with
   |next x' =>obtain ⟨n,hn⟩:=l5.1 h;exact ⟨n+1,by simp only [iter,hf];exact hn⟩
   |done r' =>exact ⟨1,by simp only [iter,hf];exact h⟩
def nV {σ ρ :Type} (keep:List Nat) (Inv: σ →ah→J→Prop) (y:LR σ ρ) (K:Ex→ah→J→Prop):Ex→ah→J→Prop
 | .normal,s,H=> ∃x',y= .next x' ∧Inv x' (dU keep s) H
 | .exit i,s,H=>K (.exit i) s H
 | .ret,s,H=>K .ret s H
section
variable {C:aK} {K K1:Ex→ah→J→Prop} {s:ah} {H:J}
theorem DE {σ ρ :Type} (gC:Good C) {f: σ →Option (LR σ ρ)} {x: σ} {r: ρ} {keep:List Nat} {a:AC} (hw:eZ f x=some r) (Inv: σ →ah→J→Prop) (h0:Inv x (dU keep s) H)
 (hb: ∀x y s H,f x=some y→(∀r',y= .done r' →r' =r)→Inv x s H→ ∀K1,K1=nV keep Inv y K→aH (aq C) C a s H K1):aH (aq C) C (.loop ⟨keep,false⟩ a) s H K:=by
 obtain ⟨n,hn⟩:=l5.1 hw;have key: ∀(n:Nat) (x: σ) (s:ah) (H:J),iter f n x=some r→Inv x s H→ ∀m,jp (aH (aq C) C a) (eR ⟨keep,false⟩ m) K s H:=by
  intro n;induction n with
  |zero=>intro x s H h;simp [iter] at h
  |succ n ih=>
   intro x s H h hi m;simp only [iter] at h;cases hf:f x with
   |none=>rw [hf] at h;simp at h
   |some y=>
    rw [hf] at h;simp only [Option.bind_some] at h;refine jp.round (aq.up gC.up) (dw (aq.up gC.up) _ _ _ _ _ (fun e s' H' he=> ?_) (hb x y s H hf (fun r' e=>by subst e;simpa using h) hi _ rfl))
    cases e with
    |normal=>
     obtain ⟨x',rfl,f_⟩:=he;exact ih x' _ _ h f_ m
    |exit i=>exact he
    |ret=>exact he
 exact key n x _ _ hn h0 _
theorem DF {σ ρ :Type} {keep:List Nat} {Inv: σ →ah→J→Prop} {y:LR σ ρ} {x' : σ} (hK:K1=nV keep Inv y K) (hy:some (LR.next x')=some y) (hi:Inv x' (dU keep s) H):K1 .normal s H:=by
 rw [hK];exact ⟨x',(Option.some.inj hy).symm,hi⟩
theorem DG {σ ρ :Type} {keep:List Nat} {Inv: σ →ah→J→Prop} {y:LR σ ρ} {i:Nat} (hK:K1=nV keep Inv y K) (h:K (.exit i) s H):K1 (.exit i) s H:=by rw [hK];exact h
theorem DH {σ ρ :Type} {keep:List Nat} {Inv: σ →ah→J→Prop} {y:LR σ ρ} (hK:K1=nV keep Inv y K) (h:K .ret s H):K1 .ret s H:=by rw [hK];exact h
def qD (Q:ah→J→Prop) (K:Ex→ah→J→Prop):Ex→ah→J→Prop
 | .normal,s,H=>Q s H
 | .exit i,s,H=>K (.exit i) s H
 | .ret,s,H=>K .ret s H
theorem DI (gC:Good C) {a:AC} (Q:ah→J→Prop) (h: ∀K1,K1=qD Q K→aH (aq C) C a s H K1) (hq: ∀s H,Q s H→K .normal s H):aH (aq C) C a s H K:=by
 refine Bf (h _ rfl) (fun e s H he=> ?_) gC;cases e with
 |normal=>exact hq s H he
 |exit i=>exact he
 |ret=>exact he
theorem DJ {Q:ah→J→Prop} (hK:K1=qD Q K) (h:Q s H):K1 .normal s H:=by rw [hK];exact h
theorem DK {Q:ah→J→Prop} (hK:K1=qD Q K) (h:K .ret s H):K1 .ret s H:=by rw [hK];exact h
end
end Go.VS
namespace Go.VS
section
variable {C:aK} {q th:Bool} {s:ah} {H:J} {K:AV→J→Prop} {L:List It}
theorem vC:fb none s=s:=rfl
def Bw (k:IntKind) (a b:Int):Int:=k.wrap (BitVec.ofInt k.bits a&&&BitVec.ofInt k.bits b).toNat
def Bx (k:IntKind) (a b:Int):Int:=k.wrap (BitVec.ofInt k.bits a|||BitVec.ofInt k.bits b).toNat
def By (k:IntKind) (a b:Int):Int:=k.wrap (BitVec.ofInt k.bits a^^^BitVec.ofInt k.bits b).toNat
def DL (k:IntKind) (a b:Int):Int:=k.wrap (a*2^(min b.toNat k.bits))
def vD (k:IntKind) (a b:Int):Int:=a.fdiv (2^(min b.toNat k.bits))
theorem vE (E:aM) (t:TypeId) (k:IntKind) (a b:Int):aL E .and t (.int k a) (.int k b)=some (.int k (Bw k a b)):=Bh ..
theorem vF (E:aM) (t:TypeId) (k:IntKind) (a b:Int):aL E .or t (.int k a) (.int k b)=some (.int k (Bx k a b)):=Bi ..
theorem vG (E:aM) (t:TypeId) (k:IntKind) (a b:Int):aL E .xor t (.int k a) (.int k b)=some (.int k (By k a b)):=Bj ..
theorem DM (k:IntKind) (a b:Int) (h:decide (b<0)=false):sr k a b=some (vD k a b):=by simp at h;simp [sr,vD,Int.not_lt.2 h]
def jT (E:aM) (src dst:TypeId) (x:AV) (H:J) (K:AV→J→Prop):Prop:=ey (match E src,E dst,x with
 |some _,some td,.int _ n=>match td.au with
  | .it k=>some (.int k (k.wrap n),H)
  |_=>none
 |some _,some td,.str l=>match td.au with
  | .str=>some (.str l,H)
  | .sl e=>match E e with
   |some te=>match te.au with
    | .it .u8=>if te.sz=1∧te.bytes=1∧l.length≤2^45 then some (.ref H.bs.length H.st 0 l.length,H.new 1 false (l.map fun b=> .int .u8 b.toNat)) else none
    |_=>none
   |none=>none
  |_=>none
 |some ts,some td,x=>match ts.au,td.au with
  | .sl e,.str=>match E e with
   |some te=>match te.au with
    | .it .u8=>match cJ H x with
     |some xs=>if te.sz=1 then (match (bytesOf xs).map AV.str with|some v=>some (v,H)|none=>none) else none
     |none=>none
    |_=>none
   |none=>none
  |_,_=>none
 |_,_,_=>none) K
theorem vH (a b:TypeId) (x:Operand):bm (aq C) C q th (.convert a b x) s H K=jT C.E a b (ev s x) H K:=by
 rw [dc _ rfl];rfl
def qE (ta tb:Option TI) (n:Int) (H:J) (K:AV→J→Prop):Prop:=match ta,tb with
 |some _,some td=>match td.au with| .it k=>K (.int k (k.wrap n)) H|_=>False
 |_,_=>False
theorem vI (E:aM) (a b:TypeId) (j:IntKind) (n:Int):jT E a b (.int j n) H K=qE (E a) (E b) n H K:=by
 simp only [jT,qE];cases E a with
 |none=>rfl
 |some ta=>
  cases E b with
  |none=>rfl
  |some tb=>simp only;cases tb.au<;>rfl
def nW (l:List UInt8):List Int:=l.map fun b=>(b.toNat:Int)
def qF (l:List Int):List UInt8:=l.map fun n=>UInt8.ofNat n.toNat
theorem Bz (l:List Int):bytesOf (l.map (AV.int .u8))=some (qF l):=by
 induction l with
 |nil=>rfl
 |cons n l ih=>simp only [List.map_cons,bytesOf,ih,qF,Option.map_some]
def qG (l:List UInt8):Option (List Int):=if l.length≤2^45 then some (nW l) else none
theorem DN {α :Type} {E:aM} {a b e:TypeId} {ta tb te:TI} {l:List UInt8} {f:List Int→Option α} {r: α} (hS:aC H L) (ha:E a=some ta) (hb:E b=some tb) (hu:tb.au= .sl e) (he:E e=some te) (hk:te.au= .it .u8) (h1:te.sz=1) (h2:te.bytes=1)
 (hh:(qG l).bind f=some r) (h: ∀v H' m,bG v→qG l=some m→f m=some r→aC H' (⟨v,1,m.map (AV.int .u8)⟩::L)→K v H'):jT E a b (.str l) H K:=by
 unfold qG at hh h;split at hh
 ·rename_i hl;simp only [jT,ha,hb,hu,he,hk,h1,h2,hl,and_self,if_true,ey];refine h _ _ _ (iJ ..) (by rw [if_pos hl]) hh (hS.lX (by simp only [nW,List.map_map];exact List.take_of_length_le (by simp)) (by simp [nW]) ?_)
  simp [bS,AV.cells,nW]
 ·simp at hh
theorem DO {E:aM} {a b e:TypeId} {ta tb te:TI} {v:AV} {l:List Int} (ha:E a=some ta) (hb:E b=some tb) (hu:ta.au= .sl e) (aN:tb.au= .str) (he:E e=some te) (hk:te.au= .it .u8) (h1:te.sz=1)
 (hv:cJ H v=some (l.map (AV.int .u8))) (hn: ∀j,v≠ .str j) (h:K (.str (qF l)) H):jT E a b v H K:=by
 have hi: ∀k n,v≠ .int k n:=by rintro k n rfl;simp [cJ] at hv
 simp only [jT,ha,hb];cases v with
 |int k n=>exact absurd rfl (hi k n)
 |str j=>exact absurd rfl (hn j)
 |_=>simp only [hu,aN,he,hk,h1,if_true,hv,Bz,Option.map_some];exact h
def gZ {α :Type} (l:List α) (lo hi:Int):Option (List α):=if 0≤lo∧lo≤hi∧hi≤l.length then some ((l.drop lo.toNat).take (hi.toNat-lo.toNat)) else none
def kF (E:aM) (t:TypeId) (x:AV) (lo hi mx:Option (Option Int)) (H:J) (K:AV→J→Prop):Prop:=match lo,hi,mx with
 |some lo,some hi,some mx=>cr (jo E t x lo hi mx H) H K
 |_,_,_=>False
theorem vJ (t:TypeId) (x:Operand) (lo hi mx:Option Operand):bm (aq C) C q th (.slice t x lo hi mx) s H K=kF C.E t (ev s x) (eg (lo.map (ev s))) (eg (hi.map (ev s))) (eg (mx.map (ev s))) H K:=by
 rw [dc _ rfl];simp only [aO,kF];generalize eg (lo.map (ev s))=a;generalize eg (hi.map (ev s))=b;generalize eg (mx.map (ev s))=c;cases a<;>cases b<;>cases c<;>first|rfl|(simp only;rename_i lo hi mx;generalize jo C.E t (ev s x) lo hi mx H=z;cases z<;>rfl)
theorem vK:eg none=some none:=rfl
theorem vL (k:IntKind) (n:Int):eg (some (.int k n))=some (some n):=rfl
theorem DP {α :Type} {E:aM} {t:TypeId} {ti:TI} {l:List UInt8} {lo hi:Option Int} {f:List UInt8→Option α} {r: α} (ht:E t=some ti) (hu:ti.au= .str) (hh:(gZ l (lo.getD 0) (hi.getD l.length)).bind f=some r)
 (h: ∀m,gZ l (lo.getD 0) (hi.getD l.length)=some m→f m=some r→K (.str m) H):kF E t (.str l) (some lo) (some hi) (some none) H K:=by
 cases hm:gZ l (lo.getD 0) (hi.getD l.length) with
 |none=>rw [hm] at hh;simp at hh
 |some m=>
  rw [hm] at hh;have hk:=h m hm hh;unfold gZ at hm;split at hm
  ·rename_i hc;simp only [Option.some.injEq] at hm;simp only [kF,jo,ht,hu,if_pos hc,cr,hm];exact hk
  ·simp at hm
theorem nX {α :Type} {c: α →AV} {sz:Nat} (hc: ∀x,(c x).cells.length=sz) (l:List α):bS sz (l.map c)=true:=by
 simp [bS,hc]
theorem DQ {α β :Type} {E:aM} {t e:TypeId} {ti te:TI} {l:List α} {c: α →AV} {lo hi:Option Int} {f:List α →Option β} {r: β} (ht:E t=some ti) (hu:ti.au= .sl e) (he:E e=some te) (hc: ∀x,(c x).cells.length=te.sz) (hh:(gZ l (lo.getD 0) (hi.getD l.length)).bind f=some r)
 (h: ∀m,gZ l (lo.getD 0) (hi.getD l.length)=some m→f m=some r→K (.fz (m.map c)) H):kF E t (.fz (l.map c)) (some lo) (some hi) (some none) H K:=by
 cases hm:gZ l (lo.getD 0) (hi.getD l.length) with
 |none=>rw [hm] at hh;simp at hh
 |some m=>
  rw [hm] at hh;have hk:=h m hm hh;unfold gZ at hm;split at hm
  ·rename_i qa;simp only [Option.some.injEq] at hm;simp only [kF,jo,ht,hu,he,nX hc,Bool.not_true,Bool.false_eq_true,if_false,List.length_map,if_pos qa,cr];rw [←hm,List.map_take,List.map_drop] at hk;exact hk
  ·simp at hm
def l6 {α :Type} (nP:Nat) (n:Int) (d: α):Option (List α):=if 0≤n∧roomy n.toNat nP then some (List.replicate n.toNat d) else none
theorem DR {α β :Type} {t:TypeId} {x y:Operand} {te:TI} {z:AV} {n:Int} {c: α →AV} {d: α} {f:List α →Option β} {r: β} (hS:aC H L) (ht:cO C.E t=some te) (hx:ev s x= .int .i64 n) (hy:ev s y= .int .i64 n) (hz:hM te=some z) (hd:c d=z) (h0:(te.sz==0)=false)
 (hh:(l6 te.bytes n d).bind f=some r) (h: ∀v H' l,bG v→l6 te.bytes n d=some l→f l=some r→aC H' (⟨v,te.sz,l.map c⟩::L)→K v H'):bm (aq C) C q th (.makeSlice t x y) s H K:=by
 refine Bt hS ht hx hy hz hd (by simpa using h0) hh fun v H' hv h1 h2 h3 h4=>h v H' _ hv (by unfold l6;rw [if_pos ⟨h1,h2⟩]) h3 h4
theorem DS {α β :Type} {E:aM} {t u:TypeId} {te tu:TI} {e:TypeId} {v x:AV} {l m:List α} {c: α →AV} {f:List α →Option β} {r: β} (j:Nat) (hS:aC H L) (hj:L[j]? =some ⟨v,te.sz,l.map c⟩) (hp:bG v) (ht:cO E t=some te) (hu:E u=some tu) (hi:tu.au= .sl e)
 (hx:cJ H x=some (m.map c)) (aB: ∀x,(c x).cells.length=te.sz) (h0:(te.sz==0)=false) (hh:(app te.bytes l m).bind f=some r) (h: ∀v' H' lm,bG v' →app te.bytes l m=some lm→f lm=some r→aC H' (L.set j ⟨v',te.sz,lm.map c⟩)→K v' H'):
 ey (dm E .append #[t,u] [v,x] H) K:=
 Bv j hS hj hp ht hu hi hx (nX aB m) h0 hh fun v' H' h1 h2 h3 h4=>h v' H' _ h1 h2 h3 h4
theorem aC.perm {L' :List It} (h:aC H L) (hp:L.Perm L'):aC H L' :=by
 have nd: ∀{L:List It},aC H L↔(∀it∈L,gY H it)∧(L.filterMap (fun it=>cb it.v)).Nodup:=by
  intro L;constructor
  ·intro h;refine ⟨fun it hi=> ?_,?_⟩
   ·obtain ⟨i,f_⟩:=List.mem_iff_getElem?.1 hi;exact h.ok i it f_
   ·induction L with
    |nil=>simp
    |cons a L ih=>
     have ih:=ih h.tl;rw [List.filterMap_cons];cases ha:cb a.v with
     |none=>exact ih
     |some id=>
      refine List.nodup_cons.2 ⟨fun hm=> ?_,ih⟩;obtain ⟨b,hb,bL⟩:=List.mem_filterMap.1 hm;obtain ⟨j,hj⟩:=List.mem_iff_getElem?.1 hb;have:=h.cg 0 (j+1) a b id rfl hj ha bL;omega
  ·rintro ⟨h1,h2⟩;refine ⟨fun i it hi=>h1 it (List.mem_of_getElem? hi),?_⟩;clear h1;induction L with
   |nil=>intro i j a b id h;simp at h
   |cons a L ih=>
    have lC:(L.filterMap (fun it=>cb it.v)).Nodup:=by
     rw [List.filterMap_cons] at h2;split at h2
     ·exact h2
     ·exact (List.nodup_cons.1 h2).2
    have no: ∀(j:Nat) (b:It) (id:Nat),L[j]? =some b→cb a.v=some id→cb b.v≠some id:=by
     intro j b id hj ha hb;rw [List.filterMap_cons,ha] at h2;exact (List.nodup_cons.1 h2).1 (List.mem_filterMap.2 ⟨b,List.mem_of_getElem? hj,hb⟩)
    intro i j x y id hi hj hx hy;cases i with
    |zero=>
     simp at hi;subst hi;cases j with
     |zero=>rfl
     |succ j=>exact absurd hy (no j y id (by simpa using hj) hx)
    |succ i=>
     cases j with
     |zero=>simp at hj;subst hj;exact absurd hx (no i x id (by simpa using hi) hy)
     |succ j=>have:=ih lC i j x y id (by simpa using hi) (by simpa using hj) hx hy;omega
 rw [nd] at h⊢;exact ⟨fun it hi=>h.1 it (hp.mem_iff.2 hi),(hp.filterMap _).nodup_iff.1 h.2⟩
theorem aC.front (h:aC H L) (j:Nat) {it:It} (hj:L[j]? =some it):aC H (it::L.eraseIdx j):=by
 refine h.perm ?_;have az:=(List.getElem?_eq_some_iff.1 hj).1;have he:=(List.getElem?_eq_some_iff.1 hj).2;have:L=L.take j ++ it::L.drop (j+1):=by
  rw [←he,List.getElem_cons_drop,List.take_append_drop]
 rw [List.eraseIdx_eq_take_drop_succ]
 conv=>lhs;rw [this]
 exact List.perm_middle
theorem aC.DT (h:aC H L) (sz:Nat):aC H (⟨.nil,sz,[]⟩::L):=
 h.new (fun _ _ _=>rfl) ⟨rfl,rfl⟩ (fun k hk=>by simp [cb] at hk)
theorem aC.BA (h:aC H L) (sz:Nat):aC H (⟨.e0,sz,[]⟩::L):=
 h.new (fun _ _ _=>rfl) ⟨rfl,rfl⟩ (fun k hk=>by simp [cb] at hk)
theorem aC.drop (h:aC H L) (j:Nat):aC H (L.eraseIdx j):=by
 cases hj:L[j]? with
 |none=>
  rw [List.eraseIdx_of_length_le (List.getElem?_eq_none_iff.1 hj)];exact h
 |some it=>exact (h.front j hj).tl
theorem aC.DU (hS:aC H L) {id ad sz:Nat} {a:AV} (hm:⟨.ptr id ad 0 0,sz,[a]⟩∈L):H.ap id ad=some ⟨ad,sz,false,[a]⟩:=by
 obtain ⟨j,hj⟩:=List.mem_iff_getElem?.1 hm;exact hS.var j hj
theorem qH {α β :Type} {g:FuncId} {bO args ys:List AV} {bX:Bool} {o:Option α} {f: α →Option β} {r: β} {bT:List (List Sh)} (h:o.bind f=some r) (hr:(C.fT g).bT=bT) (hp:cf [] (args ++ bO) H=some (ys,bX))
 (hk: ∀x,o=some x→f x=some r→ ∃y,aq C g ys ⟨0,[]⟩ (fun v L=> ∃rs zs L2,v=cj rs∧dg bT rs L=some (zs,L2)∧y=cj zs)∧(bX=false∨cm y=true)∧if th||bX then K (aI y H).1 (aI y H).2 else K (bw y) H):kE C q th (.fn g bO) args H K:=by
 cases ho:o with
 |none=>rw [ho] at h;simp at h
 |some x=>
  rw [ho] at h;have hq:dB (aq C) C g (args ++ bO) th H K:=by
   unfold dB;rw [hp,hr];exact hk x ho h
  cases q with
  |true=>exact hq
  |false=>exact .inr hq
end
end Go.VS
