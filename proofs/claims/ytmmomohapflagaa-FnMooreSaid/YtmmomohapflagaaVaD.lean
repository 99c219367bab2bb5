import Derived.Test.YtmmomohapflagaaVaC
import Derived.StillTail
namespace Go.VS
structure iq (ops:Array Oper) (aG:List Nat):Prop where
 back: ∀(i:Nat) (o:Oper),ops[i]? =some o→ ∀e∈o.after,Region.binds .any e=true→e.on<i
 gX: ∀(i j:Nat) (o p:Oper) (d:Tmp),i≠j→ops[i]? =some o→ops[j]? =some p→p.dst=some d→o.dst≠some d
 ord: ∀(i j:Nat) (o p:Oper) (d:Tmp),i≠j→ops[i]? =some o→ops[j]? =some p→p.dst=some d→d∈Oper.looksAt ops o→((fC ops.toList).getD (max i j) 0).testBit (min i j)=true
 after: ∀(i j:Nat) (o p:Oper),ops[i]? =some o→ops[j]? =some p→i∈aG→i<j→((fC ops.toList).getD j 0).testBit i=true∨(j∉aG∧p.guard=none∧kI p.op=true∧ ∃d,p.dst=some d)
 late: ∀(i j:Nat) (o p:Oper),ops[i]? =some o→ops[j]? =some p→i∈aG→j<i→((fC ops.toList).getD i 0).testBit j=false→j∉aG∧p.guard=none∧kH p.op=true∧(∃d,p.dst=some d)∧
  ∀(k:Nat) (r:Oper) (d:Tmp),ops[k]? =some r→r.dst=some d→j≤k→d∉Oper.looksAt ops p
theorem zh {ops:Array Oper} {aG:List Nat} (h:iF ops aG=true):iq ops aG:=by
 have lt: ∀{i:Nat} {o:Oper},ops[i]? =some o→i<ops.toList.length:=fun h=>by have:=(Array.getElem?_eq_some_iff.1 h).1;simpa using this
 have tl: ∀{i:Nat} {o:Oper},ops[i]? =some o→ops.toList[i]? =some o:=fun h=>by simpa using h
 have one: ∀(i:Nat) (o:Oper),ops[i]? =some o→(∀e∈o.after,Region.binds .any e=true→e.on<i)∧ ∀(j:Nat) (p:Oper),ops[j]? =some p→i≠j→
  (∀d,p.dst=some d→o.dst≠some d∧(d∈Oper.looksAt ops o→((fC ops.toList).getD (max i j) 0).testBit (min i j)=true))∧
  (i∈aG→i<j→((fC ops.toList).getD j 0).testBit i=true∨(j∉aG∧p.guard=none∧kI p.op=true∧ ∃d,p.dst=some d))∧
  (i∈aG→j<i→((fC ops.toList).getD i 0).testBit j=false→j∉aG∧p.guard=none∧kH p.op=true∧(∃d,p.dst=some d)∧ ∀(k:Nat) (r:Oper) (d:Tmp),ops[k]? =some r→r.dst=some d→j≤k→d∉Oper.looksAt ops p):=by
  intro i o ho;simp only [iF,List.all_eq_true,List.mem_range] at h;have hi:=h i (lt ho);rw [tl ho] at hi;simp only [Bool.and_eq_true,Array.all_eq_true_iff_forall_mem,List.all_eq_true,List.mem_range,Bool.or_eq_true,Bool.not_eq_true',decide_eq_true_eq] at hi;obtain ⟨ha,hb⟩:=hi;refine ⟨fun e he pE=>(ha e he).resolve_left (by simp [pE]),fun j p hp lA=> ?_⟩
  have hj:=hb j (lt hp);rw [tl hp] at hj;simp only [Bool.or_eq_true,beq_iff_eq,Bool.and_eq_true,Bool.not_eq_true'] at hj;rcases hj with hj|⟨⟨mZ,j0⟩,kl⟩
  ·exact absurd hj lA
  refine ⟨fun d hd=> ?_,fun hl ax=> ?_,fun hl ax pE=> ?_⟩
  ·rw [hd] at mZ;simp only [Bool.and_eq_true,bne_iff_ne,ne_eq,Bool.or_eq_true,Bool.not_eq_true'] at mZ;exact ⟨mZ.1,fun hm=>mZ.2.resolve_left (by simp [hm])⟩
  ·rcases j0 with (j0|j0)|⟨⟨⟨q1,q2⟩,q3⟩,q4⟩
   ·simp [hl,ax] at j0
   ·exact .inl j0
   ·exact .inr ⟨by simpa using q1,by simpa using q2,q3,Option.isSome_iff_exists.1 q4⟩
  ·rcases kl with (kl|kl)|⟨⟨⟨⟨q1,q2⟩,q3⟩,q4⟩,q5⟩
   ·simp [hl,ax] at kl
   ·rw [pE] at kl;simp at kl
   ·refine ⟨by simpa using q1,by simpa using q2,q3,Option.isSome_iff_exists.1 q4,fun k r d hk hr zi hm=> ?_⟩
    simp only [List.all_eq_true,List.mem_range] at q5;have:=q5 k (lt hk);rw [tl hk] at this;simp only [hr] at this;simp [zi,hm] at this
 exact ⟨fun i o ho=>(one i o ho).1,fun i j o p d lA ho hp hd=>(((one i o ho).2 j p hp lA).1 d hd).1,fun i j o p d lA ho hp hd=>(((one i o ho).2 j p hp lA).1 d hd).2,
  fun i j o p ho hp hl ax=>((one i o ho).2 j p hp (by omega)).2.1 hl ax,fun i j o p ho hp hl ax=>((one i o ho).2 j p hp (by omega)).2.2 hl ax⟩
theorem pF (aG:List Nat) (n:Nat): ∀(m b:Nat),m=n-b→b≤n→ ∃c,b≤c∧c≤n∧(c=n∨c∈aG)∧ ∀i,b≤i→i<c→i∉aG
 |0,b,hm,hb=>⟨b,Nat.le_refl _,hb,.inl (by omega),fun i h1 h2=>by omega⟩
 |m+1,b,hm,hb=>by
  by_cases h:b∈aG
  ·exact ⟨b,Nat.le_refl _,hb,.inr h,fun i h1 h2=>by omega⟩
  ·obtain ⟨c,h1,h2,h3,h4⟩:=pF aG n m (b+1) (by omega) (by omega)
   refine ⟨c,by omega,h2,h3,fun i k1 k2=> ?_⟩
   by_cases hi:i=b
   ·subst hi;exact h
   ·exact h4 i (by omega) k2
section draw
variable {P:Program} {C:aL} {X:bQ} {ops:Array Oper} {aG:List Nat} {th:List Nat} {K:ah→J→Prop} {s:Nat→ah} {H:Nat→J} {v:Nat→AV} {act:Nat→Bool}
abbrev iO (X:bQ) (C:aL) (ops:Array Oper) (aG:List Nat) (th:List Nat) (K:ah→J→Prop) (s:Nat→ah) (H:Nat→J) (v:Nat→AV) (act:Nat→Bool):Prop:=
 Tr X C ops (fun i=> !aG.contains i) (fY ops aG) th K ops.toList 0 s H v act
theorem iu (t:iO X C ops aG th K s H v act): ∀(m i:Nat),i+m≤ops.size→(∀k,i≤k→k<i+m→k∉aG)→QG (H i) (H (i+m))
 |0,i,_,_=> .refl _
 |m+1,i,hn,hl=>by
  have h1:=iu t m i (by omega) (fun k h1 h2=>hl k h1 (by omega))
  have ho:=Array.getElem?_eq_getElem (xs:=ops) (show i+m<ops.size by omega)
  obtain ⟨_,_,h3,h4,_⟩:=t.step (i+m) _ (by rw [Array.getElem?_toList];exact ho)
  refine h1.trans ?_;cases ha:act (i+m) with
  |true=>
   have:=h3 ha;have kn:(!aG.contains (0+(i+m)))=true:=by simp only [Nat.zero_add];simpa using hl (i+m) (by omega) (by omega)
   rw [kn] at this;exact zf this
  |false=>have:=(h4 ha).2;rw [show i+(m+1)=i+m+1 by omega,this];exact .refl _
theorem m5 (dk:iq ops aG) (t:iO X C ops aG th K s H v act): ∀(i:Nat),i≤ops.size→(s i).length=(s 0).length∧ ∀x,x<(s 0).length→
 (∀k o,k<i→ops[k]? =some o→o.dst=some x→(s i).getD x .undef=v k)∧((∀k o,k<i→ops[k]? =some o→o.dst≠some x)→(s i).getD x .undef=(s 0).getD x .undef)
 |0,_=>⟨rfl,fun x hx=>⟨fun k o h=>by omega,fun _=>rfl⟩⟩
 |i+1,hi=>by
  obtain ⟨h1,h2⟩:=m5 dk t i (by omega)
  have ho:=Array.getElem?_eq_getElem (xs:=ops) (show i<ops.size by omega)
  obtain ⟨hs,_⟩:=t.step i _ (by rw [Array.getElem?_toList];exact ho)
  have hlen:(s (i+1)).length=(s 0).length:=by
   rw [hs];unfold aZ;split
   ·simpa using h1
   ·exact h1
  refine ⟨hlen,fun x hx=>⟨fun k o hk af hd=> ?_,fun fq=> ?_⟩⟩
  ·rw [hs];by_cases bX:k=i
   ·subst bX;rw [ho] at af;simp only [Option.some.injEq] at af;subst af;rw [hd];simp only [aZ];rw [←h1] at hx;simp [List.getD,hx]
   ·have aI:=dk.gX i k _ o x (fun h=>bX h.symm) ho af hd;have:=(h2 x hx).1 k o (by omega) af hd
    rw [←this];unfold aZ;split
    ·rename_i d ca;have:d≠x:=fun h=>aI (by rw [ca,h])
     simp [List.getD,List.getElem?_set_ne this]
    ·rfl
  ·rw [hs];have aI:=fq i _ (Nat.lt_succ_self _) ho;rw [←(h2 x hx).2 (fun k o hk af=>fq k o (by omega) af)]
   unfold aZ;split
   ·rename_i d ca;have:d≠x:=fun h=>aI (by rw [ca,h])
    simp [List.getD,List.getElem?_set_ne this]
   ·rfl
structure m6 (w0 w:World) (φ :ag) (A:aj) (z:AV) (sz n:Nat):Prop where
 old:w0.heap.size≤n
 lt:n<w.heap.size
 av:A n
 ow: ¬Ow φ n
 here: ∃arr T fr,w.heap[n]? =some (.cells arr T fr)∧(∀j,j<arr.size→ ¬(fr.1≤j∧j<fr.2))∧sz≤arr.size∧z.cells.length=sz∧
  ∀(j:Nat) (y:AV) (v:Value),z.cells[j]? =some y→arr[j]? =some v→(∀(w:World) (A:aj),FR w A y v)∧v.oneCell' =true
theorem m6.mono {w0 w w' :World} {G G' :J} {φ ak:ag} {A A' :aj} {z:AV} {sz n:Nat} (h:m6 w0 w φ A z sz n) (o:Out w G φ A w' G' ak A'):m6 w0 w' ak A' z sz n:=by
 refine ⟨h.old,Nat.lt_of_lt_of_le h.lt o.post.size,o.bP n h.av h.ow,fun hw=> ?_,?_⟩
 ·rcases o.post.own n hw with k|k
  ·exact h.ow k
  ·have:=h.lt;omega
 ·rw [o.post.kept n h.lt h.ow];exact h.here
def jv (C:aL) (ops:Array Oper) (aG:List Nat) (w0 w:World) (φ :ag) (A:aj) (a:Act) (j n:Nat):Prop:=
 j∉aG∧ ∃(o:Oper) (t:TypeId) (d:Tmp) (ti:TI) (z:AV),ops[j]? =some o∧o.guard=none∧o.op= .alloc t∧o.dst=some d∧C.E t=some ti∧dR ti=some z∧m6 w0 w φ A z ti.sz n∧
  ∀u,a.tmps[d]? =some u→u= .pointer (some ⟨n,0,none⟩)
theorem jv.mono {C:aL} {ops:Array Oper} {aG:List Nat} {w0 w w' :World} {G G' :J} {φ ak:ag} {A A' :aj} {a a' :Act} {j n:Nat} (h:jv C ops aG w0 w φ A a j n) (o:Out w G φ A w' G' ak A')
 (ht: ∀(r:Oper) (d:Tmp),ops[j]? =some r→r.dst=some d→a'.tmps[d]? =a.tmps[d]?):jv C ops aG w0 w' ak A' a' j n:=by
 obtain ⟨h0,r,t,d,ti,z,h1,h2,h3,h4,h5,h6,h7,h8⟩:=h;exact ⟨h0,r,t,d,ti,z,h1,h2,h3,h4,h5,h6,h7.mono o,fun u hu=>h8 u (by rw [←ht r d h1 h4];exact hu)⟩
structure Inv (C:aL) (ops:Array Oper) (aG:List Nat) (s:Nat→ah) (H:Nat→J) (v:Nat→AV) (w0:World) (aB:ag) (A0:aj) (listed:Array Bool) (a:Act) (w:World) (b c:Nat) (φ :ag) (A:aj) (pn:Nat→Nat):Prop where
 size:listed.size=ops.size
 shut:sj ops (fun i=>listed.getD i false=true)
 bc:b≤c
 cn:c≤ops.size
 cl:c=ops.size∨c∈aG
 iv: ∀i,b≤i→i<c→i∉aG
 iP: ∀i,i∈aG→i<ops.size→(listed.getD i false=true↔i<b)
 base:b=0∨(b-1∈aG∧0<b)
 out:Out w0 (H 0) aB A0 w (H c) φ A
 none: ∀i,b≤i→i<c→listed.getD i false=false→ ∀id,(H i).bs.length≤id→id<(H (i+1)).bs.length→ φ id=none
 eS:a.defers=[]
 len:(s 0).length=a.tmps.size
 wr: ∀(k:Nat) (o:Oper) (d:Tmp) (u:Value),ops[k]? =some o→o.dst=some d→listed.getD k false=true→k<c→a.tmps[d]? =some u→R w (H c) φ A (v k) u
 early: ∀(k:Nat),c≤k→listed.getD k false=true→jv C ops aG w0 w φ A a k (pn k)
 m7: ∀(j k:Nat),c≤j→c≤k→listed.getD j false=true→listed.getD k false=true→pn j=pn k→j=k
 un: ∀(x:Tmp) (u:Value),(∀(k:Nat) (o:Oper),ops[k]? =some o→o.dst=some x→listed.getD k false=false)→a.tmps[x]? =some u→R w (H c) φ A ((s 0).getD x .undef) u
theorem m8 {listed:Array Bool} {i:Nat} (hi:i<listed.size) (k:Nat):(listed.setIfInBounds i true).getD k false=true↔(k=i∨listed.getD k false=true):=by
 by_cases hk:k=i
 ·subst hk;simp [hi]
 ·rw [getD_set_ne false (fun h=>hk h.symm)];simp [hk]
variable {w0:World} {aB:ag} {A0:aj} {listed:Array Bool} {a:Act} {w:World} {b c:Nat} {φ :ag} {A:aj} {pn:Nat→Nat}
theorem Inv.look (inv:Inv C ops aG s H v w0 aB A0 listed a w b c φ A pn) (dk:iq ops aG) (t:iO X C ops aG th K s H v act) {i:Nat} {o:Oper} (gy:i≤c) (ho:ops[i]? =some o) (hu:listed.getD i false=false) (ha: ∀e∈o.after,Region.binds .any e=true→listed.getD e.on false=true)
 {m:Nat} (hm:m≤ops.size) (sn:i≤m) (iQ:m=i∨ ∀(k:Nat) (r:Oper) (d:Tmp),ops[k]? =some r→r.dst=some d→i≤k→d∉Oper.looksAt ops o) {x:Tmp} (hx:x∈Oper.looksAt ops o):R w (H c) φ A (ev (s m) (.tmp x)) (a.eval (.tmp x)):=by
 obtain ⟨hl,hg⟩:=m5 dk t m hm;simp only [ev,Act.eval];by_cases ax:x<(s 0).length
 ·have zj:x<a.tmps.size:=by rw [←inv.len];exact ax
  have aQ:=Array.getElem?_eq_getElem zj
  rw [Array.getD_eq_getD_getElem?,aQ,Option.getD_some];by_cases hw: ∃(k:Nat) (r:Oper),ops[k]? =some r∧r.dst=some x
  ·obtain ⟨k,r,hk,hr⟩:=hw;rcases Nat.lt_trichotomy k i with bX|bX|bX
   ·have hb:=dk.ord i k o r x (by omega) ho hk hr hx
    rw [show max i k=i by omega,show min i k=k by omega] at hb
    have bM:=mY inv.shut dk.back i o ho ha k hb;rw [(hg x ax).1 k r (by omega) hk hr]
    exact inv.wr k r x _ hk hr bM (by omega) aQ
   ·subst bX;rw [ho] at hk;simp only [Option.some.injEq] at hk;subst hk;rcases iQ with rfl|iQ
    ·rw [(hg x ax).2 (fun k' o' bJ eI=>dk.gX k' m o' o x (by omega) eI ho hr)]
     refine inv.un x _ (fun k' o' eI ca=> ?_) aQ
     by_cases lB:k' =m
     ·subst lB;exact hu
     ·exact absurd ca (dk.gX k' m o' o x lB eI ho hr)
    ·exact absurd hx (iQ k o x ho hr (Nat.le_refl _))
   ·rcases iQ with rfl|iQ
    ·have hb:=dk.ord m k o r x (by omega) ho hk hr hx
     rw [show max m k=k by omega,show min m k=m by omega] at hb
     have zk:listed.getD k false=false:=by
      cases hq:listed.getD k false with
      |false=>rfl
      |true=>
       have:=mY inv.shut dk.back k r hk (inv.shut k r hk hq) m hb;rw [hu] at this;simp at this
     rw [(hg x ax).2 (fun k' o' bJ eI=>dk.gX k' k o' r x (by omega) eI hk hr)]
     refine inv.un x _ (fun k' o' eI ca=> ?_) aQ
     by_cases lB:k' =k
     ·subst lB;exact zk
     ·exact absurd ca (dk.gX k' k o' r x lB eI hk hr)
    ·exact absurd hx (iQ k r x hk hr (by omega))
  ·rw [(hg x ax).2 (fun k' o' _ eI ca=>hw ⟨k',o',eI,ca⟩)]
   exact inv.un x _ (fun k' o' eI ca=>absurd ⟨k',o',eI,ca⟩ hw) aQ
 ·have:(s m).getD x .undef= .undef:=by simp [List.getD,List.getElem?_eq_none (show (s m).length≤x by rw [hl];exact Nat.le_of_not_lt ax)]
  rw [this];exact .fr _ _ (.undef _)
theorem Inv.pG (inv:Inv C ops aG s H v w0 aB A0 listed a w b c φ A pn) (dk:iq ops aG) (t:iO X C ops aG th K s H v act) {i:Nat} {o:Oper} (gy:i≤c) (ho:ops[i]? =some o) (hu:listed.getD i false=false) (ha: ∀e∈o.after,Region.binds .any e=true→listed.getD e.on false=true)
 {m:Nat} (hm:m≤ops.size) (sn:i≤m) (iQ:m=i∨ ∀(k:Nat) (r:Oper) (d:Tmp),ops[k]? =some r→r.dst=some d→i≤k→d∉Oper.looksAt ops o): ∀y∈o.op.operands,R w (H c) φ A (ev (s m) y) (a.eval y):=by
 intro y hy;cases y with
 |tmp x=>
  refine inv.look dk t gy ho hu ha hm sn iQ ?_;unfold Oper.looksAt;refine List.mem_append.2 (.inl (List.mem_filterMap.2 ⟨.tmp x,by simpa using hy,rfl⟩))
 |const v=>exact .fr _ _ (FR.ofValue w A v)
 |global g=>exact .fr _ _ (.undef _)
 |func f=>exact .fr _ _ (.fn f [] #[] rfl (by simp))
theorem Inv.ly (inv:Inv C ops aG s H v w0 aB A0 listed a w b c φ A pn) (c5:St w0 (H 0) aB A0) (dk:iq ops aG) (t:iO X C ops aG th K s H v act) {i:Nat} {o:Oper} (gy:i<c) (ho:ops[i]? =some o) (hl:i∉aG) (ha: ∀e∈o.after,Region.binds .any e=true→listed.getD e.on false=true)
 {u:Value} {w' :World} {φ1:ag} {A1:aj} (bK:Out w (H c) φ A w' (H c) φ1 A1) (hr: ∀d,o.dst=some d→d<a.tmps.size→R w' (H c) φ1 A1 (v i) u)
 (bH: ∀id loc,φ1 id=some loc→ φ id=some loc∨(b≤i∧i<c∧(H i).bs.length≤id∧id<(H (i+1)).bs.length)):Inv C ops aG s H v w0 aB A0 (listed.setIfInBounds i true) (a.put o.dst u) w' b c φ1 A1 pn:=by
 have hi:i<ops.size:=(Array.getElem?_eq_some_iff.1 ho).1;have aC:i<listed.size:=by rw [inv.size];exact hi
 have bR:=m8 aC;have jw: ∀k,(listed.setIfInBounds i true).getD k false=false→k≠i∧listed.getD k false=false:=fun k hk=>by
  have:=(not_congr (bR k)).1 (by rw [hk];simp)
  refine ⟨fun h=>this (.inl h),?_⟩;cases hq:listed.getD k false with
  |false=>rfl
  |true=>exact absurd (.inr hq) this
 refine ⟨by simp [inv.size],fun k r hk bM e he hb=> ?_,inv.bc,inv.cn,inv.cl,inv.iv,fun k hk lC=> ?_,inv.base,inv.out.trans c5 bK,fun k h1 h2 h3 id h4 h5=> ?_,?_,?_,fun k r d u' hk bN bM eB aQ=> ?_,fun k jx bM=> ?_,fun j k hj hk iR bM hp=>inv.m7 j k hj hk (((bR j).1 iR).resolve_left (by omega)) (((bR k).1 bM).resolve_left (by omega)) hp,fun x u' fq aQ=> ?_⟩
 ·rcases (bR k).1 bM with rfl|bM
  ·rw [ho] at hk;simp only [Option.some.injEq] at hk;subst hk;exact (bR _).2 (.inr (ha e he hb))
  ·exact (bR _).2 (.inr (inv.shut k r hk bM e he hb))
 ·rw [bR,←inv.iP k hk lC];constructor
  ·rintro (rfl|h)
   ·exact absurd hk hl
   ·exact h
  ·exact .inr
 ·obtain ⟨bX,bM⟩:=jw k h3;have lD:=inv.cn;cases hq: φ1 id with
  |none=>rfl
  |some loc=>
   rcases bH id loc hq with h|⟨h6,h7,h8,h9⟩
   ·rw [inv.none k h1 h2 bM id h4 h5] at h;simp at h
   ·exfalso;rcases Nat.lt_or_ge k i with ax|zl
    ·have:=(iu t (i-(k+1)) (k+1) (by omega) (fun j j1 j2=>inv.iv j (by omega) (by omega))).1.2
     rw [show k+1+(i-(k+1))=i by omega] at this
     omega
    ·have:=(iu t (k-(i+1)) (i+1) (by omega) (fun j j1 j2=>inv.iv j (by omega) (by omega))).1.2
     rw [show i+1+(k-(i+1))=k by omega] at this
     omega
 ·cases hd:o.dst<;>simp [Act.put,inv.eS]
 ·cases hd:o.dst<;>simp [Act.put,inv.len]
 ·by_cases bX:k=i
  ·subst bX;rw [ho] at hk;simp only [Option.some.injEq] at hk;subst hk;rw [bN] at aQ;simp only [Act.put,Array.getElem?_setIfInBounds] at aQ;simp only [if_true] at aQ;split at aQ
   ·rename_i ax;simp only [Option.some.injEq] at aQ;subst aQ;exact hr d bN ax
   ·simp at aQ
  ·have bM:=((bR k).1 bM).resolve_left bX;have aI:o.dst≠some d:=dk.gX i k o r d (fun h=>bX h.symm) ho hk bN;have:a.tmps[d]? =some u' :=by
    cases hd:o.dst with
    |none=>rw [hd] at aQ;exact aQ
    |some d' =>
     rw [hd] at aQ;simp only [Act.put,Array.getElem?_setIfInBounds] at aQ;rw [if_neg (by rintro rfl;exact aI hd)] at aQ
     exact aQ
   exact (inv.wr k r d u' hk bN bM eB this).mono bK.b8
 ·have bX:k≠i:=by omega
  refine (inv.early k jx (((bR k).1 bM).resolve_left bX)).mono bK fun r d hk bN=> ?_
  have aI:o.dst≠some d:=dk.gX i k o r d (fun h=>bX h.symm) ho hk bN;cases hd:o.dst with
  |none=>rfl
  |some d' =>
   simp only [Act.put,Array.getElem?_setIfInBounds];rw [if_neg (by rintro rfl;exact aI hd)]
 ·have aI:o.dst≠some x:=fun hd=>by have:=fq i o ho hd;have h2:=(bR i).2 (.inl rfl);rw [this] at h2;simp at h2
  have:a.tmps[x]? =some u' :=by
   cases hd:o.dst with
   |none=>rw [hd] at aQ;exact aQ
   |some d' =>
    rw [hd] at aQ;simp only [Act.put,Array.getElem?_setIfInBounds] at aQ;rw [if_neg (by rintro rfl;exact aI hd)] at aQ
    exact aQ
  exact (inv.un x u' (fun k r hk bN=>(jw k (fq k r hk bN)).2) this).mono bK.b8
theorem zm {w:World} {G:J} {φ :ag} {A:aj} (ae:St w G φ A) (o:Obj):Out w G φ A (w.alloc o) G φ (fun c=>A c∨c=w.heap.size):=by
 have a4:bT w G φ A (w.alloc o) G φ (fun c=>A c∨c=w.heap.size):=⟨fun c a t fr hc hn=>⟨⟨fr,by rw [heap_alloc_old w _ (gQ hc)];exact hc⟩,fun h=>by have:=gQ hc;rcases h with h|h;exact hn h;omega⟩,Nat.le_refl _,
  fun i b' ay _=>⟨b',ay,rfl,rfl,rfl,rfl,fun loc hl=>hl⟩,fun c hc=>by unfold bp;rw [heap_alloc_old w _ (Ow.lt ae hc)]⟩
 refine ⟨⟨ae.inj,fun c hc=> .inl (ae.own c hc),fun c hc=> ?_,fun i loc hl=> ?_⟩,
  ⟨rfl,rfl,rfl,by simp,fun c hc _=>heap_alloc_old w _ hc,fun c hc=>by unfold bp;rw [heap_alloc_old w _ hc],fun c hc=> .inl hc⟩,a4,fun c hc _=> .inl hc⟩
 ·simp only [World.size_alloc];rcases hc with h|h
  ·have:=ae.ci c h;omega
  ·omega
 obtain ⟨b',db,ay⟩:=ae.aq i loc hl;refine ⟨b',db,ay.ad,ay.sized,ay.aS,fun c b0 h=> ?_⟩;obtain ⟨a,t,fr,h1,h2,h3,h4⟩:=ay.here c b0 h;exact ⟨a,t,fr,by rw [heap_alloc_old w _ (gQ h1)];exact h1,h2,h3,fun i x j y v hx hy hv=>⟨(h4 i x j y v hx hy hv).1.mono a4,(h4 i x j y v hx hy hv).2⟩⟩
theorem Inv.zn (inv:Inv C ops aG s H v w0 aB A0 listed a w b c φ A pn) (c5:St w0 (H 0) aB A0) (dk:iq ops aG) {i:Nat} {o:Oper} (Bu:c≤i) (ho:ops[i]? =some o) (Bv:listed.getD i false=false) (hl:i∉aG) (hg:o.guard=Option.none) {t:TypeId} (bq:o.op= .alloc t) {d:Tmp} (hd:o.dst=some d)
 {ti:TI} {z:AV} (jy:C.E t=some ti) (hz:dR ti=some z) (ha: ∀e∈o.after,Region.binds .any e=true→listed.getD e.on false=true) {arr:Array Value} {T:TypeId} (aC:ti.sz≤arr.size) (du:z.cells.length=ti.sz)
 (ml: ∀(j:Nat) (y:AV) (v:Value),z.cells[j]? =some y→arr[j]? =some v→(∀(w:World) (A:aj),FR w A y v)∧v.oneCell' =true):
 Inv C ops aG s H v w0 aB A0 (listed.setIfInBounds i true) (a.put o.dst (.pointer (some ⟨w.heap.size,0,Option.none⟩))) (w.alloc (.cells arr T)) b c φ (fun k=>A k∨k=w.heap.size) (fun k=>if k=i then w.heap.size else pn k):=by
 have hi:i<ops.size:=(Array.getElem?_eq_some_iff.1 ho).1;have zo:i<listed.size:=by rw [inv.size];exact hi
 have bR:=m8 zo;have bK:=zm inv.out.st (.cells arr T);have jw: ∀k,(listed.setIfInBounds i true).getD k false=false→k≠i∧listed.getD k false=false:=fun k hk=>by
  have:=(not_congr (bR k)).1 (by rw [hk];simp)
  refine ⟨fun h=>this (.inl h),?_⟩;cases hq:listed.getD k false with
  |false=>rfl
  |true=>exact absurd (.inr hq) this
 have ko: ∀(x:Tmp),o.dst≠some x→(a.put o.dst (.pointer (some ⟨w.heap.size,0,Option.none⟩))).tmps[x]? =a.tmps[x]? :=fun x aI=>by
  rw [hd] at aI⊢;simp only [Act.put,Array.getElem?_setIfInBounds];rw [if_neg (by rintro rfl;exact aI rfl)]
 refine ⟨by simp [inv.size],fun k r hk bM e he hb=> ?_,inv.bc,inv.cn,inv.cl,inv.iv,fun k hk lC=> ?_,inv.base,inv.out.trans c5 bK,fun k h1 h2 h3 id h4 h5=>inv.none k h1 h2 (jw k h3).2 id h4 h5,?_,?_,fun k r d' u' hk bN bM eB aQ=> ?_,fun k jx bM=> ?_,fun j k hj hk iR bM hp=> ?_,fun x u' fq aQ=> ?_⟩
 ·rcases (bR k).1 bM with rfl|bM
  ·rw [ho] at hk;simp only [Option.some.injEq] at hk;subst hk;exact (bR _).2 (.inr (ha e he hb))
  ·exact (bR _).2 (.inr (inv.shut k r hk bM e he hb))
 ·rw [bR,←inv.iP k hk lC];constructor
  ·rintro (rfl|h)
   ·exact absurd hk hl
   ·exact h
  ·exact .inr
 ·rw [hd];simp [Act.put,inv.eS]
 ·rw [hd];simp [Act.put,inv.len]
 ·have bX:k≠i:=by omega
  have aI:o.dst≠some d' :=dk.gX i k o r d' (fun h=>bX h.symm) ho hk bN
  rw [ko d' aI] at aQ
  exact (inv.wr k r d' u' hk bN (((bR k).1 bM).resolve_left bX) eB aQ).mono bK.b8
 ·by_cases bX:k=i
  ·subst bX;simp only [if_true];refine ⟨hl,o,t,d,ti,z,ho,hg,bq,hd,jy,hz,⟨inv.out.post.size,by simp,.inr rfl,fun h=>by have:=Ow.lt inv.out.st h;omega,arr,T,(0,0),heap_alloc_new w _,fun j _ h=>absurd h.2 (Nat.not_lt_zero j),aC,du,ml⟩,fun u hu=> ?_⟩
   rw [hd] at hu;simp only [Act.put,Array.getElem?_setIfInBounds,if_true] at hu;split at hu
   ·simpa using hu.symm
   ·simp at hu
  ·simp only [if_neg bX];exact (inv.early k jx (((bR k).1 bM).resolve_left bX)).mono bK fun r d' hk bN=>ko d' (dk.gX i k o r d' (fun h=>bX h.symm) ho hk bN)
 ·have one: ∀k,c≤k→(listed.setIfInBounds i true).getD k false=true→k≠i→pn k≠w.heap.size:=fun k jx bM bX he=>by
   obtain ⟨_,_,_,_,_,_,_,_,_,_,_,_,hp,_⟩:=inv.early k jx (((bR k).1 bM).resolve_left bX);have:=hp.lt;omega
  by_cases kq:j=i
  ·by_cases bX:k=i
   ·rw [kq,bX]
   ·simp only [kq,if_true,if_neg bX] at hp;exact absurd hp.symm (one k hk bM bX)
  ·by_cases bX:k=i
   ·simp only [bX,if_true,if_neg kq] at hp;exact absurd hp (one j hj iR kq)
   ·simp only [if_neg kq,if_neg bX] at hp;exact inv.m7 j k hj hk (((bR j).1 iR).resolve_left kq) (((bR k).1 bM).resolve_left bX) hp
 ·have aI:o.dst≠some x:=fun hd=>by have:=fq i o ho hd;have h2:=(bR i).2 (.inl rfl);rw [this] at h2;simp at h2
  rw [ko x aI] at aQ;exact (inv.un x u' (fun k r hk bN=>(jw k (fq k r hk bN)).2) aQ).mono bK.b8
theorem fill (t:iO X C ops aG th K s H v act) (c5:St w0 (H 0) aB A0) {lst:Nat→Prop} {lo hi:Nat} (hq: ∀j,lo≤j→j≤hi→QG (H j) (H hi)) (hlen: ∀j k,lo≤j→j≤k→k≤hi→(H j).bs.length≤(H k).bs.length)
 (hinj: ∀j k,lo≤j→lo≤k→lst j→lst k→pn j=pn k→j=k) (bK:Out w0 (H 0) aB A0 w (H hi) φ A) (hE: ∀j,lo≤j→lst j→jv C ops aG w0 w φ A a j (pn j)) (ic: ∀id,(H lo).bs.length≤id→ φ id=none):
 ∀m,lo≤m→m≤hi→ ∃a7,Out w0 (H 0) aB A0 w (H hi) a7 A∧bT w (H hi) φ A w (H hi) a7 A∧(∀j,lo≤j→j<m→lst j→ ∀(o:Oper) (d:Tmp) (u:Value),ops[j]? =some o→o.dst=some d→a.tmps[d]? =some u→R w (H hi) a7 A (v j) u)∧
  (∀id loc,a7 id=some loc→ φ id=some loc∨ ∃j,lo≤j∧j<m∧lst j∧(H j).bs.length≤id∧id<(H (j+1)).bs.length)∧(∀j,m≤j→lst j→jv C ops aG w0 w a7 A a j (pn j)):=by
 intro m hm;obtain ⟨k,rfl⟩:=Nat.exists_eq_add_of_le hm;clear hm;induction k with
 |zero=>exact fun _=>⟨φ,bK,.refl _ _ _ _,fun j h1 h2=>by omega,fun id loc h=> .inl h,hE⟩
 |succ k ih=>
  intro so;obtain ⟨a7,k1,k2,k3,k4,k5⟩:=ih (by omega)
  rw [show lo+(k+1)=lo+k+1 by omega] at so⊢
  have hm:lo≤lo+k:=Nat.le_add_right _ _;generalize lo+k=m at hm so k3 k4 k5⊢;by_cases hL:lst m
  ·obtain ⟨kn,o,tt,d,ti,z,e1,e2,e3,e4,e5,e6,hp,hu⟩:=k5 m (Nat.le_refl _) hL;obtain ⟨_,s2,s3,_,_⟩:=t.step m o (by rw [Array.getElem?_toList];exact e1)
   have fu:act m=true:=by
    simp only [dG,e2,Option.some.injEq] at s2;exact s2.symm
   have hw:=s3 fu;obtain ⟨hv,hH⟩:v m= .ptr (H m).bs.length (H m).st 0 0∧H (m+1)=(H m).new ti.sz false [z]:=by
    obtain ⟨dst,op,ty,pos,after,guard⟩:=o;simp only at e3;subst e3;unfold wpOp at hw;simp only [aP,e5,e6] at hw;exact ⟨hw.2.1.symm,hw.2.2.symm⟩
   have cP:=hq (m+1) (by omega) (by omega)
   have hb:(H hi).get (H m).bs.length=some ⟨(H m).st,ti.sz,false,[z]⟩:=by
    refine cP.1.1.1 _ _ ?_;rw [hH];simp [J.get,J.new]
   have bz:(H m).st<(H hi).st:=by
    have:=cP.1.1.2;rw [hH] at this;exact this
   have a8:a7 (H m).bs.length=none:=by
    cases hc:a7 (H m).bs.length with
    |none=>rfl
    |some loc=>
     exfalso;rcases k4 _ _ hc with h|⟨j,h1,h2,_,_,h4⟩
     ·rw [ic _ (hlen lo m (Nat.le_refl _) hm (by omega))] at h;simp at h
     ·have:=hlen (j+1) m (by omega) (by omega) (by omega)
      omega
   obtain ⟨arr,T,fr,h1,h2,h3,h4,h5⟩:=hp.here
   let c6:ag:=fun i=>if i=(H m).bs.length then some (.at_ (pn m) 0) else a7 i
   have dZ: ∀c,Ow c6 c→Ow a7 c∨c=pn m:=by
    rintro c ⟨i,b0,h⟩;simp only [c6] at h;split at h
    ·simp only [Option.some.injEq,Loc.at_.injEq] at h;exact .inr h.1.symm
    ·exact .inl ⟨i,b0,h⟩
   have a4:bT w (H hi) a7 A w (H hi) c6 A:=by
    refine ⟨fun c a t fr hc hn=>⟨⟨fr,hc⟩,hn⟩,Nat.le_refl _,fun i b' ay _=>⟨b',ay,rfl,rfl,rfl,rfl,fun loc hl=> ?_⟩,fun _ _=>rfl⟩
    simp only [c6];split
    ·rename_i h;subst h;rw [a8] at hl;simp at hl
    ·exact hl
   have lE:St w (H hi) c6 A:=by
    refine ⟨fun i i' c b0 b1 h1 h2=> ?_,fun c hc=> ?_,k1.st.ci,fun i loc hl=> ?_⟩
    ·simp only [c6] at h1 h2;split at h1
     ·rename_i fM;split at h2
      ·rename_i Bw;omega
      ·simp only [Option.some.injEq,Loc.at_.injEq] at h1;exact absurd ⟨i',b1,by rw [h1.1];exact h2⟩ hp.ow
     ·split at h2
      ·simp only [Option.some.injEq,Loc.at_.injEq] at h2;exact absurd ⟨i,b0,by rw [h2.1];exact h1⟩ hp.ow
      ·exact k1.st.inj i i' c b0 b1 h1 h2
    ·rcases dZ c hc with h|h
     ·exact k1.st.own c h
     ·rw [h];exact hp.av
    ·simp only [c6] at hl;split at hl
     ·rename_i fM;subst fM;simp only [Option.some.injEq] at hl;subst hl;refine ⟨_,hb,bz,fun i x hx=> ?_,by simp,fun c b0 h=> ?_⟩
      ·cases i with
       |zero=>simp at hx;subst hx;exact h4
       |succ i=>simp at hx
      simp only [Loc.at_.injEq] at h;obtain ⟨rfl,rfl⟩:=h;refine ⟨arr,T,fr,h1,h2,by simpa using h3,fun i x j y v hx hy hv=> ?_⟩
      cases i with
      |zero=>
       simp only [List.getElem?_cons_zero,Option.some.injEq,Nat.zero_mul,Nat.zero_add] at hx hv;subst hx;obtain ⟨g1,g2⟩:=h5 j y v hy hv;exact ⟨.fr _ _ (g1 w A),g2⟩
      |succ i=>simp at hx
     ·obtain ⟨b',db,ay⟩:=k1.st.aq i loc hl;refine ⟨b',db,ay.ad,ay.sized,ay.aS,fun c b0 h=> ?_⟩;obtain ⟨a,t,fr,h1,h2,h3,h4⟩:=ay.here c b0 h;exact ⟨a,t,fr,h1,h2,h3,fun i x j y v hx hy hv=>⟨(h4 i x j y v hx hy hv).1.mono a4,(h4 i x j y v hx hy hv).2⟩⟩
   have zp:Out w0 (H 0) aB A0 w (H hi) c6 A:=by
    refine ⟨lE,⟨k1.post.os,k1.post.tape,k1.post.output,k1.post.size,k1.post.kept,k1.post.bp,fun c hc=> ?_⟩,k1.b8.trans a4 (fun c hc=>k1.post.bp c (Ow.lt c5 hc)),k1.bP⟩;rcases dZ c hc with h|h
    ·exact k1.post.own c h
    ·right;rw [h];exact hp.old
   refine ⟨c6,zp,k2.trans a4 (fun _ _=>rfl),fun j j1 j2 j3 o' d' u' q1 q2 q3=> ?_,fun id loc h=> ?_,fun j j1 j2=> ?_⟩
   ·by_cases pH:j=m
    ·subst pH;rw [e1] at q1;simp only [Option.some.injEq] at q1;subst q1;rw [e4] at q2;simp only [Option.some.injEq] at q2;subst q2;rw [hu u' q3,hv]
     exact nX bz (by simp [c6])
    ·exact (k3 j j1 (by omega) j3 o' d' u' q1 q2 q3).mono a4
   ·simp only [c6] at h;split at h
    ·rename_i bU;refine .inr ⟨m,hm,Nat.lt_succ_self _,hL,by omega,?_⟩
     rw [hH];simp [J.new];omega
    ·rcases k4 id loc h with h|⟨j,q1,q2,q3⟩
     ·exact .inl h
     ·exact .inr ⟨j,q1,by omega,q3⟩
   ·obtain ⟨g0,r,t',d',zq,z',g1,g2,g3,g4,g5,g6,g7,g8⟩:=k5 j (by omega) j2
    refine ⟨g0,r,t',d',zq,z',g1,g2,g3,g4,g5,g6,⟨g7.old,g7.lt,g7.av,fun h=> ?_,g7.here⟩,g8⟩;rcases dZ _ h with h|h
    ·exact g7.ow h
    ·have:=hinj j m (by omega) hm j2 hL h
     omega
  ·refine ⟨a7,k1,k2,fun j j1 j2 j3=> ?_,fun id loc h=> ?_,fun j j1 j2=>k5 j (by omega) j2⟩
   ·by_cases pH:j=m
    ·subst pH;exact absurd j3 hL
    ·exact k3 j j1 (by omega) j3
   ·rcases k4 id loc h with h|⟨j,q1,q2,q3⟩
    ·exact .inl h
    ·exact .inr ⟨j,q1,by omega,q3⟩
end draw
end Go.VS
namespace Go.VS
section draw
variable {P:Program} {C:aL} {X:bQ} {ops:Array Oper} {aG:List Nat} {th:List Nat} {K:ah→J→Prop} {s:Nat→ah} {H:Nat→J} {v:Nat→AV} {act:Nat→Bool}
variable {w0:World} {aB:ag} {A0:aj} {listed:Array Bool} {a:Act} {w:World} {b c:Nat} {φ :ag} {A:aj} {pn:Nat→Nat}
theorem Inv.zr (inv:Inv C ops aG s H v w0 aB A0 listed a w b c φ A pn) (dk:iq ops aG) {i:Nat} {o:Oper} (ho:ops[i]? =some o) (ha: ∀e∈o.after,Region.binds .any e=true→listed.getD e.on false=true):i≤c∨(i∉aG∧o.guard=Option.none∧kI o.op=true∧ ∃d,o.dst=some d):=by
 rcases Nat.lt_or_ge c i with h|h
 ·have hi:i<ops.size:=(Array.getElem?_eq_some_iff.1 ho).1;rcases inv.cl with hc|hc
  ·omega
  ·have zt:=Array.getElem?_eq_getElem (xs:=ops) (show c<ops.size by omega)
   rcases dk.after c i _ o zt ho hc h with hb|hb
   ·exfalso;have hL:=mY inv.shut dk.back i o ho ha c hb;have:=(inv.iP c hc (by omega)).1 hL
    have:=inv.bc;omega
   ·exact .inr hb
 ·exact .inl h
theorem Inv.sq (inv:Inv C ops aG s H v w0 aB A0 listed a w b c φ A pn) (c5:St w0 (H 0) aB A0) (dk:iq ops aG) (t:iO X C ops aG th K s H v act) {o:Oper} (ho:ops[c]? =some o) (hl:c∈aG) (ha: ∀e∈o.after,Region.binds .any e=true→listed.getD e.on false=true)
 {u:Value} {w' :World} {φ1:ag} {A1:aj} (bK:Out w (H c) φ A w' (H (c+1)) φ1 A1) (hr:R w' (H (c+1)) φ1 A1 (v c) u): ∃c' a7,Inv C ops aG s H v w0 aB A0 (listed.setIfInBounds c true) (a.put o.dst u) w' (c+1) c' a7 A1 pn:=by
 have hi:c<ops.size:=(Array.getElem?_eq_some_iff.1 ho).1;have aC:c<listed.size:=by rw [inv.size];exact hi
 have bR:=m8 aC;have zu:=inv.bc;have Bx:listed.getD c false=false:=by
  cases hq:listed.getD c false with
  |false=>rfl
  |true=>have:=(inv.iP c hl hi).1 hq;omega
 have jw: ∀k,(listed.setIfInBounds c true).getD k false=false→k≠c∧listed.getD k false=false:=fun k hk=>by
  have:=(not_congr (bR k)).1 (by rw [hk];simp)
  refine ⟨fun h=>this (.inl h),?_⟩;cases hq:listed.getD k false with
  |false=>rfl
  |true=>exact absurd (.inr hq) this
 have ko: ∀(k:Nat) (r:Oper) (d:Tmp),k≠c→ops[k]? =some r→r.dst=some d→(a.put o.dst u).tmps[d]? =a.tmps[d]? :=fun k r d eB hk bN=>by
  have aI:o.dst≠some d:=dk.gX c k o r d (fun h=>eB h.symm) ho hk bN;cases hd:o.dst with
  |none=>rfl
  |some d' =>
   simp only [Act.put,Array.getElem?_setIfInBounds];rw [if_neg (by rintro rfl;exact aI hd)]
 obtain ⟨c',k1,k2,k3,k4⟩:=pF aG ops.size (ops.size-(c+1)) (c+1) rfl (by omega)
 have hQ: ∀j k,c+1≤j→j≤k→k≤c' →QG (H j) (H k):=fun j k h1 h2 h3=>by
  have:=iu t (k-j) j (by omega) (fun i i1 i2=>k4 i (by omega) (by omega))
  rwa [show j+(k-j)=k by omega] at this
 have gY:=hQ (c+1) c' (Nat.le_refl _) k1 (Nat.le_refl _)
 have hlen: ∀j k,c+1≤j→j≤k→k≤c' →(H j).bs.length≤(H k).bs.length:=fun j k h1 h2 h3=>(hQ j k h1 h2 h3).1.2
 have hex:=jh bK.st gY.1.1 gY.2;have a4:=bK.b8.trans hex.b8 (fun k hk=>by rw [(bK.post.trans hex.post).bp k (Ow.lt inv.out.st hk)])
 have hE: ∀j,c+1≤j→(listed.setIfInBounds c true).getD j false=true→jv C ops aG w0 w' φ1 A1 (a.put o.dst u) j (pn j):=fun j hj hL=>
  (inv.early j (by omega) (((bR j).1 hL).resolve_left (by omega))).mono bK fun r d hk bN=>ko j r d (by omega) hk bN
 obtain ⟨a7,o2,pI,r2,m2,e2⟩:=fill (lst:=fun j=>(listed.setIfInBounds c true).getD j false=true) t c5 (fun j h1 h2=>hQ j c' h1 h2 (Nat.le_refl _)) hlen
  (fun j k hj hk iR bM hp=>inv.m7 j k (by omega) (by omega) (((bR j).1 iR).resolve_left (by omega)) (((bR k).1 bM).resolve_left (by omega)) hp) ((inv.out.trans c5 bK).trans c5 hex) hE (fun id h=>bK.st.new h) c' k1 (Nat.le_refl _)
 refine ⟨c',a7,by simp [inv.size],fun k r hk bM e he hb=> ?_,k1,k2,k3,k4,fun k hk lC=> ?_,.inr ⟨by simpa using hl,Nat.succ_pos _⟩,o2,fun k h1 h2 h3 id h4 h5=> ?_,?_,?_,fun k r d u' hk bN bM zw aQ=> ?_,fun k jx bM=>e2 k jx bM,
  fun j k hj hk iR bM hp=>inv.m7 j k (by omega) (by omega) (((bR j).1 iR).resolve_left (by omega)) (((bR k).1 bM).resolve_left (by omega)) hp,fun x u' fq aQ=> ?_⟩
 ·by_cases eB:k=c
  ·subst eB;rw [ho] at hk;simp only [Option.some.injEq] at hk;subst hk;exact (bR _).2 (.inr (ha e he hb))
  ·exact (bR _).2 (.inr (inv.shut k r hk (((bR k).1 bM).resolve_left eB) e he hb))
 ·rw [bR,inv.iP k hk lC];constructor
  ·rintro (h|h)<;>omega
  ·intro h;by_cases eB:k=c
   ·exact .inl eB
   ·right;rcases Nat.lt_or_ge k b with h' |h'
    ·exact h'
    ·exact absurd hk (inv.iv k h' (by omega))
 ·cases hp:a7 id with
  |none=>rfl
  |some loc=>
   exfalso;rcases m2 id loc hp with h|⟨j,j1,j2,j3,j4,j5⟩
   ·rw [bK.st.new (Nat.le_trans (hlen (c+1) k (Nat.le_refl _) h1 (by omega)) h4)] at h;simp at h
   ·have:j=k:=by
     rcases Nat.lt_trichotomy j k with h|h|h
     ·have:=hlen (j+1) k (by omega) (by omega) (by omega);omega
     ·exact h
     ·have:=hlen (k+1) j (by omega) (by omega) (by omega);omega
    subst this;rw [h3] at j3;simp at j3
 ·cases hd:o.dst<;>simp [Act.put,inv.eS]
 ·cases hd:o.dst<;>simp [Act.put,inv.len]
 ·by_cases bX:k=c
  ·subst bX;rw [ho] at hk;simp only [Option.some.injEq] at hk;subst hk;rw [bN] at aQ;simp only [Act.put,Array.getElem?_setIfInBounds] at aQ;simp only [if_true] at aQ;split at aQ
   ·rename_i ax;simp only [Option.some.injEq] at aQ;subst aQ;exact (hr.mono hex.b8).mono pI
   ·simp at aQ
  ·rcases Nat.lt_or_ge k c with ax|zl
   ·rw [ko k r d bX hk bN] at aQ;exact ((inv.wr k r d u' hk bN (((bR k).1 bM).resolve_left bX) ax aQ).mono a4).mono pI
   ·exact r2 k (by omega) zw bM r d u' hk bN aQ
 ·have aI:o.dst≠some x:=fun hd=>by have:=fq c o ho hd;have h2:=(bR c).2 (.inl rfl);rw [this] at h2;simp at h2
  have:a.tmps[x]? =some u' :=by
   cases hd:o.dst with
   |none=>rw [hd] at aQ;exact aQ
   |some d' =>
    rw [hd] at aQ;simp only [Act.put,Array.getElem?_setIfInBounds] at aQ;rw [if_neg (by rintro rfl;exact aI hd)] at aQ
    exact aQ
  exact ((inv.un x u' (fun k r hk bN=>(jw k (fq k r hk bN)).2) this).mono a4).mono pI
theorem zx {op:Op} (h:kH op=true):dY op=true:=by
 cases op<;>first|rfl|(simp [kH] at h)
def left (ops:Array Oper) (listed:Array Bool):Nat:=((List.range ops.size).filter fun k=> !listed.getD k false).length
theorem zy {ops:Array Oper} {listed:Array Bool} {i:Nat} (hs:listed.size=ops.size) (hi:i<ops.size) (hu:listed.getD i false=false):left ops (listed.setIfInBounds i true)<left ops listed:=by
 have bR:=m8 (listed:=listed) (i:=i) (by omega)
 have he:((List.range ops.size).filter fun k=> !(listed.setIfInBounds i true).getD k false)=(((List.range ops.size).filter fun k=> !listed.getD k false).filter fun k=> !(listed.setIfInBounds i true).getD k false):=by
  rw [List.filter_filter];refine List.filter_congr fun k _=> ?_;cases hq:(listed.setIfInBounds i true).getD k false with
  |true=>simp
  |false=>
   have:listed.getD k false=false:=by
    cases m9:listed.getD k false with
    |false=>rfl
    |true=>rw [(bR k).2 (.inr m9)] at hq;simp at hq
   simp only [this,Bool.not_false,Bool.and_self]
 unfold left;rw [he];refine List.length_filter_lt_length_iff_exists.2 ⟨i,List.mem_filter.2 ⟨List.mem_range.2 hi,by rw [hu];rfl⟩,?_⟩
 rw [(bR i).2 (.inl rfl)];simp
theorem zB (hE: ∀t ti,C.E t=some ti→aV P t ti) (hX: ∀f ys H K,X f ys H K→df P f ys H K) (dk:iq ops aG) (t:iO X C ops aG th K s H v act) (c5:St w0 (H 0) aB A0) {Q:Exit→Act→World→Prop}
 (hq: ∀s' H' ak A' a' w',Out w0 (H 0) aB A0 w' H' ak A' →SF w' H' ak A' s' a' →K s' H' →Q .normal a' w'):
 ∀(fuel:Nat) (listed:Array Bool) (a:Act) (w:World) (b c:Nat) (φ :ag) (A:aj) (pn:Nat→Nat),Inv C ops aG s H v w0 aB A0 listed a w b c φ A pn→left ops listed≤fuel→wpAny P .any ops Q fuel listed a w:=by
 have done: ∀(listed:Array Bool) (a:Act) (w:World) (b c:Nat) (φ :ag) (A:aj) (pn:Nat→Nat),Inv C ops aG s H v w0 aB A0 listed a w b c φ A pn→Region.ready .any ops listed=[]→Q .normal a w:=by
  intro listed a w b c φ A pn inv hr;have all: ∀k,k<ops.size→listed.getD k false=true:=by
   intro k;induction k using Nat.strongRecOn with
   |_ k ih=>
    intro hk;cases hq:listed.getD k false with
    |true=>rfl
    |false=>
     exfalso;have ho:=Array.getElem?_eq_getElem (xs:=ops) hk;have:k∈Region.ready .any ops listed:=mem_ready.2 ⟨getD_in (by rw [inv.size];exact hk) hq,_,ho,fun e he hb=>by
      have ax:=dk.back k _ ho e he hb;exact ih e.on ax (by omega)⟩
     rw [hr] at this;cases this
  have lD:c=ops.size:=by
   rcases inv.cl with h|h
   ·exact h
   ·rcases Nat.lt_or_ge c ops.size with h' |h'
    ·have:=(inv.iP c h h').1 (all c h');have:=inv.bc;omega
    ·have:=inv.cn;omega
  obtain ⟨hl,hg⟩:=m5 dk t ops.size (Nat.le_refl _);have ss:=t.fin;rw [Array.length_toList] at ss;have bK:=inv.out;rw [lD] at bK;refine hq (s ops.size) (H ops.size) φ A a w bK ⟨by rw [hl,inv.len],fun x y u hx hu=> ?_,inv.eS⟩ ss
  have cu:x<(s 0).length:=by rw [←hl];exact (List.getElem?_eq_some_iff.1 hx).1
  have hy:(s ops.size).getD x .undef=y:=by simp [List.getD,hx]
  by_cases hw: ∃(k:Nat) (r:Oper),ops[k]? =some r∧r.dst=some x
  ·obtain ⟨k,r,hk,hr⟩:=hw;have jz:k<ops.size:=(Array.getElem?_eq_some_iff.1 hk).1;rw [(hg x cu).1 k r jz hk hr] at hy;subst hy;have:=inv.wr k r x u hk hr (all k jz) (by omega) hu
   rw [lD] at this;exact this
  ·rw [(hg x cu).2 (fun k' o' _ eI ca=>hw ⟨k',o',eI,ca⟩)] at hy
   subst hy;have:=inv.un x u (fun k' o' eI ca=>absurd ⟨k',o',eI,ca⟩ hw) hu
   rw [lD] at this;exact this
 intro fuel;induction fuel with
 |zero=>
  intro listed a w b c φ A pn inv hle;have hr:Region.ready .any ops listed=[]:=by
   cases hq:Region.ready .any ops listed with
   |nil=>rfl
   |cons i rs=>
    exfalso;have hm:i∈Region.ready .any ops listed:=by rw [hq];simp
    obtain ⟨hu,o,ho,_⟩:=mem_ready.1 hm;have hi:i<ops.size:=(Array.getElem?_eq_some_iff.1 ho).1;have:i∈((List.range ops.size).filter fun k=> !listed.getD k false):=List.mem_filter.2 ⟨List.mem_range.2 hi,by rw [getD_both hu];rfl⟩
    have:=List.length_pos_of_mem this;unfold left at hle;omega
  exact ⟨hr,done listed a w b c φ A pn inv hr⟩
 |succ fuel ih=>
  intro listed a w b c φ A pn inv hle;refine ⟨done listed a w b c φ A pn inv,fun i hi=> ?_⟩;obtain ⟨jZ,o,ho,ha⟩:=mem_ready.1 hi;have hu:=getD_both jZ;have cp:i<ops.size:=(Array.getElem?_eq_some_iff.1 ho).1;have By:=zy inv.size cp hu;have jA:=inv.zr dk ho ha;obtain ⟨Bz,m_,na,su,BA⟩:=t.step i o (by rw [Array.getElem?_toList];exact ho)
  rw [Nat.zero_add] at na;by_cases sw:i≤c
  case neg=>
   obtain ⟨kn,hg,he,d,hd⟩:=jA.resolve_left sw;obtain ⟨tt,bq⟩: ∃tt,o.op= .alloc tt:=by
    cases hh:o.op<;>rw [hh] at he<;>simp [kI] at he
    exact ⟨_,rfl⟩
   have fu:act i=true:=by
    simp only [dG,hg,Option.some.injEq] at m_;exact m_.symm
   have h3:=na fu;obtain ⟨ti,z,jy,hz⟩: ∃ti z,C.E tt=some ti∧dR ti=some z:=by
    obtain ⟨dst,op,ty,pos,after,guard⟩:=o;simp only at bq;subst bq;unfold wpOp at h3;simp only [aP] at h3;cases jy:C.E tt with
    |none=>rw [jy] at h3;exact h3.2.elim
    |some ti=>
     rw [jy] at h3;cases hz:dR ti with
     |none=>simp only [hz] at h3;exact h3.2.elim
     |some z=>exact ⟨ti,z,rfl,hz⟩
   obtain ⟨zv,e1,e2,e3,e4,_,e5⟩:=kT (hE _ _ jy) hz w;have dm:(execOp a.eval o).run P w= .ok (.value (.pointer (some ⟨w.heap.size,0,none⟩))) (w.alloc (.cells zv.cells tt)):=by
    obtain ⟨dst,op,ty,pos,after,guard⟩:=o;simp only at bq;subst bq;show ((do pure (.value (←Instr.alloc tt true (.tuple #[]))):Sem Next).run P w)=_
    simp [Instr.alloc,e1,newVar,newRow]
   unfold Go.wpOp;rw [ho];simp only;have hw:Region.wanted o (yielded ops a.tmps)=true:=by simp [Region.wanted,hg]
   rw [if_pos hw];refine .inl ?_;show o.upon P a _ Q _;rw [dm];exact ih _ _ _ _ _ _ _ _ (inv.zn c5 dk (by omega) ho hu kn hg bq hd jy hz ha (by rw [e2];exact Nat.le_refl _) (by rw [e3,e4]) fun j y v hy hv=>by
    rw [e3] at hy;exact ⟨fun w A=>(e5 w A j y v hy hv).1,(e5 w A j y v hy hv).2⟩) (by omega)
  replace jA:=sw;unfold Go.wpOp;rw [ho];simp only;by_cases gA:i∈aG
  ·
   have gy:i=c:=by
    rcases Nat.lt_or_ge i c with h|h
    ·exfalso;have hb: ¬i<b:=fun h=>by have:=(inv.iP i gA cp).2 h;rw [hu] at this;simp at this
     exact inv.iv i (by omega) h gA
    ·omega
   subst gy;have bq:=inv.pG dk t jA ho hu ha (m:=i) (by omega) (Nat.le_refl _) (.inl rfl)
   have hw:=pw (H:=H i) (φ := φ) (A:=A) (w:=w) (s:=s i) (a:=a) (fun j eC x hg hx=>inv.look dk t jA ho hu ha (m:=i) (by omega) (Nat.le_refl _) (.inl rfl) (by
    unfold Oper.looksAt;refine List.mem_append.2 (.inr ?_);rw [hg];simp only;rw [hx];simp)) m_
   cases fu:act i with
   |true=>
    rw [fu] at hw;rw [if_pos hw];have h3:=na fu;rw [show (!aG.contains i)=false by simpa using gA] at h3
    refine .inl (mN hE hX inv.out.st bq h3 fun x u w' H' ak A' k1 k2 k3=> ?_)
    obtain ⟨rfl,rfl⟩:=k3;obtain ⟨c',a7,pJ⟩:=inv.sq c5 dk t ho gA ha k1 k2;exact ih _ _ _ _ _ _ _ _ pJ (by omega)
   |false=>
    rw [fu] at hw;rw [if_neg (by rw [hw];simp)]
    obtain ⟨h4,h5⟩:=su fu;obtain ⟨c',a7,pJ⟩:=inv.sq c5 dk t ho gA ha (u:=undef) (w' :=w) (φ1:= φ) (A1:=A) (by rw [h5];exact .refl inv.out.st) (by rw [h4];exact .fr _ _ (.aA [] #[] rfl (by simp)))
    exact ih _ _ _ _ _ _ _ _ pJ (by omega)
  ·have gy:i<c:=by
    rcases Nat.lt_or_ge i c with h|h
    ·exact h
    ·have:i=c:=by omega
     subst this;rcases inv.cl with h' |h'
     ·omega
     ·exact absurd h' gA
   have lD:=inv.cn;rcases Nat.lt_or_ge i b with nb|nb
   ·
    obtain ⟨nc,fI⟩:b-1∈aG∧0<b:=by
     rcases inv.base with h|h
     ·omega
     ·exact h
    have zu:=inv.bc;have nf:=Array.getElem?_eq_getElem (xs:=ops) (show b-1<ops.size by omega)
    have zC:=(inv.iP (b-1) nc (by omega)).2 (by omega)
    have sx:i<b-1:=by
     rcases Nat.lt_or_ge i (b-1) with h|h
     ·exact h
     ·have:i=b-1:=by omega
      subst this;exact absurd nc gA
    have sy:((fC ops.toList).getD (b-1) 0).testBit i=false:=by
     cases hq:((fC ops.toList).getD (b-1) 0).testBit i with
     |false=>rfl
     |true=>
      have:=mY inv.shut dk.back (b-1) _ nf (inv.shut (b-1) _ nf zC) i hq;rw [hu] at this;simp at this
    obtain ⟨_,hg,dt,⟨d,hd⟩,zD⟩:=dk.late (b-1) i _ o nf ho nc sx sy
    obtain ⟨_,_,_,_,sA⟩:=t.step (b-1) _ (by rw [Array.getElem?_toList];exact nf)
    rw [Nat.zero_add,show b-1+1=b by omega] at sA
    have ng:=sA i (by
     unfold fY;rw [if_pos (by simpa using nc)]
     exact List.mem_filter.2 ⟨List.mem_range.2 sx,by rw [sy];rfl⟩)
    unfold jS at ng;rw [ho] at ng;simp only [hd] at ng;have bq:=inv.pG dk t jA ho hu ha (m:=b) (by omega) (by omega) (.inr zD)
    have gY:=iu t (c-b) b (by omega) (fun k h1 h2=>inv.iv k h1 (by omega))
    rw [show b+(c-b)=c by omega] at gY
    have hw:Region.wanted o (yielded ops a.tmps)=true:=by simp [Region.wanted,hg]
    rw [if_pos hw];refine .inl ((oz hE inv.out.st gY.1.1 gY.1.1 (fun h=>absurd h (Nat.lt_irrefl _)) (zx dt) bq ng).upon fun u w' ak A' k1 k2 k3=> ?_)
    refine ih _ _ _ _ _ _ _ _ (inv.ly c5 dk t gy ho gA ha k1 (fun d' ca ax=> ?_) (fun id loc h=> ?_)) (by omega)
    ·rw [hd] at ca;simp only [Option.some.injEq] at ca;subst ca;rw [←((m5 dk t b (by omega)).2 d (by rw [inv.len];exact ax)).1 i o nb ho hd]
     exact k2
    ·rcases k3 id loc h with h|⟨h1,h2⟩
     ·exact .inl h
     ·omega
   ·
    have bq:=inv.pG dk t jA ho hu ha (m:=i) (by omega) (Nat.le_refl _) (.inl rfl)
    have hw:=pw (H:=H c) (φ := φ) (A:=A) (w:=w) (s:=s i) (a:=a) (fun j eC x hg hx=>inv.look dk t jA ho hu ha (m:=i) (by omega) (Nat.le_refl _) (.inl rfl) (by
     unfold Oper.looksAt;refine List.mem_append.2 (.inr ?_);rw [hg];simp only;rw [hx];simp)) m_
    cases fu:act i with
    |true=>
     rw [fu] at hw;rw [if_pos hw];have h3:=na fu;have kn:(!aG.contains i)=true:=by simpa using gA
     rw [kn] at h3;have ik:=iu t (c-i) i (by omega) (fun k h1 h2=>inv.iv k (by omega) (by omega))
     rw [show i+(c-i)=c by omega] at ik
     have m9:=iu t (c-(i+1)) (i+1) (by omega) (fun k h1 h2=>inv.iv k (by omega) (by omega))
     rw [show i+1+(c-(i+1))=c by omega] at m9
     refine .inl (VS.ly hE hX inv.out.st bq ik.1.1 ⟨m9.1.1,fun id h1 h2=>inv.none i nb gy hu id h1 h2⟩ h3 fun u w' ak A' k1 k2 k3=> ?_)
     refine ih _ _ _ _ _ _ _ _ (inv.ly c5 dk t gy ho gA ha k1 (fun d' _ _=>k2) (fun id loc h=> ?_)) (by omega)
     rcases k3 id loc h with h|h
     ·exact .inl h
     ·exact .inr ⟨nb,gy,h⟩
    |false=>
     rw [fu] at hw;rw [if_neg (by rw [hw];simp)]
     obtain ⟨h4,h5⟩:=su fu;refine ih _ _ _ _ _ _ _ _ (inv.ly c5 dk t gy ho gA ha (.refl inv.out.st) (fun d' _ _=>by rw [h4];exact .fr _ _ (.aA [] #[] rfl (by simp))) (fun id loc h=> .inl h)) (by omega)
theorem sB (dA:Exact X) (_hm:P.follows .mixedOrders=true) (hE: ∀t ti,C.E t=some ti→aV P t ti) (hX: ∀f ys H K,X f ys H K→df P f ys H K):mS P C X:=by
 intro ops aG th s0 H0 K Q w φ A a hd h ae hs hq;have dk:=zh hd;obtain ⟨s,H,v,act,rfl,rfl,t⟩:=sf dA ops.toList 0 s0 H0 h;have a4:bT w (H 0) φ A {w with drawn:=w.drawn+1} (H 0) φ A:=⟨fun c arr T fr hc hn=>⟨⟨fr,hc⟩,hn⟩,Nat.le_refl _,fun id b h _=>⟨b,h,rfl,rfl,rfl,rfl,fun _ h=>h⟩,fun _ _=>rfl⟩;have lF:St {w with drawn:=w.drawn+1} (H 0) φ A:=by
  refine ⟨ae.inj,ae.own,ae.ci,fun id loc hl=> ?_⟩;obtain ⟨b,hb,af⟩:=ae.aq id loc hl;refine ⟨b,hb,af.ad,af.sized,af.aS,fun c b0 he=> ?_⟩;obtain ⟨arr,T,fr,k1,k2,k3,k4⟩:=af.here c b0 he;exact ⟨arr,T,fr,k1,k2,k3,fun i x j y v hx hy hv=>⟨(k4 i x j y v hx hy hv).1.mono a4,(k4 i x j y v hx hy hv).2⟩⟩
 have sC:Out w (H 0) φ A {w with drawn:=w.drawn+1} (H 0) φ A:=⟨lF,⟨rfl,rfl,rfl,Nat.le_refl _,fun _ _ _=>rfl,fun _ _=>rfl,fun _ h=> .inl h⟩,a4,fun _ h _=>h⟩;obtain ⟨c,k1,k2,k3,k4⟩:=pF aG ops.size (ops.size-0) 0 rfl (Nat.zero_le _);have gY:=iu t c 0 (by omega) (fun k h1 h2=>k4 k h1 (by omega))
 rw [Nat.zero_add] at gY;have hex:=jh lF gY.1.1 gY.2;refine zB hE hX dk t ae hq ops.size _ a _ 0 c φ A (fun _=>0) ⟨by simp,fun i o ho hl=>by have dr:(Array.replicate ops.size false).getD i false=true:=hl;rw [getD_replicate_false] at dr;simp at dr,k1,k2,k3,k4,fun i _ _=>by rw [getD_replicate_false];simp,.inl rfl,sC.trans ae hex,fun i _ _ _ id h4 h5=> ?_,hs.eS,hs.len,fun k o d u _ _ hl=>by rw [getD_replicate_false] at hl;simp at hl,fun k _ hl=>by rw [getD_replicate_false] at hl;simp at hl,fun j k _ _ hl=>by rw [getD_replicate_false] at hl;simp at hl,fun x u _ hu=> ?_⟩ ?_
 ·refine ae.new ?_;rename_i h1 h2 h3;have:=(iu t i 0 (by omega) (fun k h1 h2=>k4 k h1 (by omega))).1.2
  rw [Nat.zero_add] at this;omega
 ·have hx:=(hs.mono (sC.b8.trans hex.b8 (fun _ _=>rfl))).ev (.tmp x);simp only [ev,Act.eval] at hx;rw [Array.getD_eq_getD_getElem?,hu] at hx;exact hx
 ·unfold left;exact Nat.le_trans (List.length_filter_le _ _) (by simp)
end draw
end Go.VS
namespace Go.VS
section mono
variable {X X' :bQ} {C:aL} (hX: ∀f ys H (K K' :AV→J→Prop),(∀v H,K v H→K' v H)→X f ys H K→X' f ys H K')
include hX
theorem sD {f:FuncId} {args:List AV} {th:Bool} {H:J} {K K' :AV→J→Prop} (hK: ∀v H,K v H→K' v H) (h:dF X C f args th H K):dF X' C f args th H K' :=by
 unfold dF at h⊢;split at h
 ·exact h.elim
 rename_i ys bZ hy;obtain ⟨y,h1,h2,h3⟩:=h;refine ⟨y,hX _ _ _ _ _ (fun _ _ h=>h) h1,h2,?_⟩;split at h3
 ·rename_i ht;rw [if_pos ht];exact hK _ _ h3
 ·rename_i ht;rw [if_neg ht];exact hK _ _ h3
theorem iw {q th:Bool} {o:Oper} {s:ah} {H:J} {K K' :AV→J→Prop} (hK: ∀v H,K v H→K' v H) (h:wpOp X C q th o s H K):wpOp X' C q th o s H K' :=by
 unfold wpOp at h⊢;split at h
 ·obtain ⟨hq,h⟩:=h;refine ⟨hq,?_⟩;split at h
  ·exact hK _ _ h
  ·exact h.elim
 ·split at h
  ·cases q with
   |true=>exact sD hX hK h
   |false=>
    rcases h with h|h
    ·exact .inl (hX _ _ _ _ _ hK h)
    ·exact .inr (sD hX hK h)
  ·exact h.elim
 ·obtain ⟨hq,h⟩:=h;refine ⟨hq,?_⟩;split at h
  ·exact hK _ _ h
  ·exact h.elim
omit hX in
theorem lG {ops:Array Oper} {s:ah} {H:J} {K K' :Prop} (hK:K→K'): ∀(l:List Nat),fB C ops s H K l→fB C ops s H K' l
 |[],h=>hK h
 |_j::js,h=>⟨h.1,lG hK js h.2⟩
theorem nh {ops:Array Oper} {q:Nat→Bool} {late:Nat→List Nat} {th:List Nat} {K K' :ah→J→Prop} (hK: ∀s H,K s H→K' s H): ∀(l:List Oper) (i:Nat) (s:ah) (H:J),c9 X C ops q late th K l i s H→c9 X' C ops q late th K' l i s H
 |[],i,s,H,h=>hK s H h
 |o::rest,i,s,H,h=>by
  simp only [c9] at h⊢;cases hg:o.guard with
  |none=>
   rw [hg] at h;exact iw hX (fun v H' hv=>lG (nh hK rest (i+1) _ _) _ hv) h
  |some p=>
   rw [hg] at h;obtain ⟨v,H',h1,h2⟩:=h;refine ⟨v,H',?_,lG (nh hK rest (i+1) _ _) _ h2⟩;split at h1
   ·split at h1
    ·rename_i hb;simp only [hb,if_true];exact iw hX (fun _ _ h=>h) h1
    ·rename_i hb;simp only [hb];exact h1
   ·exact h1.elim
theorem ni {ops:Array Oper} {th:List Nat} {fz:List (Nat×List (List Nat×List Sh))} {K K' :ah→J→Prop} (hK: ∀s H,K s H→K' s H): ∀(l:List Oper) (i:Nat) (s:ah) (H:J),cW X C ops th fz K l i s H→cW X' C ops th fz K' l i s H
 |[],i,s,H,h=>hK s H h
 |o::rest,i,s,H,h=>by
  simp only [cW] at h⊢;obtain ⟨s1,H1,hf,h⟩:=h;refine ⟨s1,H1,hf,?_⟩;cases hg:o.guard with
  |none=>
   rw [hg] at h;exact iw hX (fun v H' hv=>ni hK rest (i+1) _ _ hv) h
  |some p=>
   rw [hg] at h;obtain ⟨v,H',h1,h2⟩:=h;refine ⟨v,H',?_,ni hK rest (i+1) _ _ h2⟩;split at h1
   ·split at h1
    ·rename_i hb;simp only [hb,if_true];exact iw hX (fun _ _ h=>h) h1
    ·rename_i hb;simp only [hb];exact h1
   ·exact h1.elim
theorem eJ: ∀(c:AC) (s:ah) (H:J) (K K' :Ex→ah→J→Prop),(∀e s H,K e s H→K' e s H)→aN X C c s H K→aN X' C c s H K' :=by
 intro c;induction c with
 |skip=>intro s H K K' hK h;exact hK _ _ _ h
 |ret=>intro s H K K' hK h;exact hK _ _ _ h
 |exit id=>intro s H K K' hK h;exact hK _ _ _ h
 |seq a b gB gD=>
  intro s H K K' hK h
  simp only [aN] at h⊢;refine gB s H _ _ (fun e s' H' h=> ?_) h
  cases e with
  |normal=>exact gD s' H' K K' hK h
  |exit id=>exact hK _ _ _ h
  |ret=>exact hK _ _ _ h
 |cond c a b gB gD=>
  intro s H K K' hK h
  simp only [aN] at h⊢;split at h
  ·split at h
   ·rename_i hb;simp only [hb,if_true];exact gB s H K K' hK h
   ·rename_i hb;simp only [hb];exact gD s H K K' hK h
  ·exact h.elim
 |block id bP a ih=>
  intro s H K K' hK h
  simp only [aN] at h⊢;refine ih s H _ _ (fun e s' H' h=> ?_) h
  cases e with
  |normal=>exact hK _ _ _ h
  |ret=>exact hK _ _ _ h
  |exit j=>
   simp only at h⊢;split at h
   ·rename_i hj;rw [if_pos hj];exact hK _ _ _ h
   ·rename_i hj;rw [if_neg hj];exact hK _ _ _ h
 |loop sp a ih=>
  intro s H K K' hK h
  simp only [aN] at h⊢;intro Y hY;refine h Y fun s' H' hB=>hY s' H' (ih s' H' _ _ (fun e s2 H2 h=> ?_) hB)
  cases e with
  |normal=>exact h
  |exit id=>exact hK _ _ _ h
  |ret=>exact hK _ _ _ h
 |region id ops draw aG th fz=>
  intro s H K K' hK h
  cases draw with
  |true=>
   simp only [aN] at h⊢;exact ⟨h.1,nh hX (fun s H h=>hK _ s H h) _ _ _ _ h.2⟩
  |false=>
   simp only [aN] at h⊢;exact ni hX (fun s H h=>hK _ s H h) _ _ _ _ h
 |fU l kp=>
  intro s H K K' hK h
  simp only [aN] at h⊢;split at h
  ·exact hK _ _ _ h
  ·exact h
 |bad=>intro s H K K' hK h;exact h
end mono
def Up (X:bQ):Prop:= ∀f ys H (K K' :AV→J→Prop),(∀v H,K v H→K' v H)→X f ys H K→X f ys H K'
theorem i_.round {X:bQ} (hU:Up X) {C:aL} {c:AC} {next:ah→J→ah×J} {K:Ex→ah→J→Prop} {s:ah} {H:J}
 (h:aN X C c s H (fun e s' H' =>match e with
  | .normal=>i_ (aN X C c) next K (next s' H').1 (next s' H').2
  |e=>K e s' H')):i_ (aN X C c) next K s H:=by
 intro Y hY;refine hY s H (eJ hU c s H _ _ (fun e s' H' h=> ?_) h)
 cases e with
 |normal=>exact h Y hY
 |exit id=>exact h
 |ret=>exact h
theorem sE {X:bQ} {C:aL} (hU:Up X) (dA:Exact X) {ops:Array Oper} {q:Nat→Bool} {late:Nat→List Nat} {th:List Nat} {K:ah→J→Prop}: ∀(l:List Oper) (i:Nat) (s:ah) (H:J),c9 X C ops q late th K l i s H→ ∃s' H',c9 X C ops q late th (fun s1 H1=>s1=s' ∧H1=H') l i s H∧K s' H'
 |[],i,s,H,h=>⟨s,H,⟨rfl,rfl⟩,h⟩
 |o::rest,i,s,H,h=>by
  have sF: ∀(ls:List Nat) (s1:ah) (H1:J),fB C ops s1 H1 (c9 X C ops q late th K rest (i+1) s1 H1) ls→ ∃s' H',fB C ops s1 H1 (c9 X C ops q late th (fun s1 H1=>s1=s' ∧H1=H') rest (i+1) s1 H1) ls∧K s' H' :=by
   intro ls s1 H1 h;obtain ⟨h1,h2⟩:=mX _ _ _ _ _ _ h;obtain ⟨s',H',h3,h4⟩:=sE hU dA rest (i+1) s1 H1 h2;refine ⟨s',H',?_,h4⟩;clear h h2 h4;induction ls with
   |nil=>exact h3
   |cons j js ih=>exact ⟨h1 j (by simp),ih fun k hk=>h1 k (by simp [hk])⟩
  simp only [c9] at h⊢;cases hg:o.guard with
  |none=>
   rw [hg] at h;simp only at h⊢;obtain ⟨v,H1,h1,h2⟩:=lz dA h;obtain ⟨s',H',h3,h4⟩:=sF _ _ _ h2;exact ⟨s',H',iw hU (fun v1 H2 e=>by obtain ⟨rfl,rfl⟩:=e;exact h3) h1,h4⟩
  |some p=>
   rw [hg] at h;simp only at h⊢;obtain ⟨v,H1,h1,h2⟩:=h;obtain ⟨s',H',h3,h4⟩:=sF _ _ _ h2;exact ⟨s',H',⟨v,H1,h1,h3⟩,h4⟩
theorem pK {X:bQ} {C:aL} (hU:Up X) (dA:Exact X) {ops:Array Oper} {th:List Nat} {fz:List (Nat×List (List Nat×List Sh))} {K:ah→J→Prop}: ∀(l:List Oper) (i:Nat) (s:ah) (H:J),cW X C ops th fz K l i s H→ ∃s' H',cW X C ops th fz (fun s1 H1=>s1=s' ∧H1=H') l i s H∧K s' H'
 |[],i,s,H,h=>⟨s,H,⟨rfl,rfl⟩,h⟩
 |o::rest,i,s,H,h=>by
  simp only [cW] at h⊢;obtain ⟨s0,H0,hf,h⟩:=h;cases hg:o.guard with
  |none=>
   rw [hg] at h;simp only at h⊢;obtain ⟨v,H1,h1,h2⟩:=lz dA h;obtain ⟨s',H',h3,h4⟩:=pK hU dA rest (i+1) _ _ h2;exact ⟨s',H',⟨s0,H0,hf,iw hU (fun v1 H2 e=>by obtain ⟨rfl,rfl⟩:=e;exact h3) h1⟩,h4⟩
  |some p=>
   rw [hg] at h;simp only at h⊢;obtain ⟨v,H1,h1,h2⟩:=h;obtain ⟨s',H',h3,h4⟩:=pK hU dA rest (i+1) _ _ h2;exact ⟨s',H',⟨s0,H0,hf,v,H1,h1,h3⟩,h4⟩
theorem zE {X:bQ} {C:aL} (hU:Up X) (dA:Exact X): ∀(c:AC) (s:ah) (H:J) (K:Ex→ah→J→Prop),aN X C c s H K→ ∃e s' H',aN X C c s H (fun e1 s1 H1=>e1=e∧s1=s' ∧H1=H')∧K e s' H' :=by
 intro c;induction c with
 |skip=>intro s H K h;exact ⟨_,_,_,⟨rfl,rfl,rfl⟩,h⟩
 |ret=>intro s H K h;exact ⟨_,_,_,⟨rfl,rfl,rfl⟩,h⟩
 |exit id=>intro s H K h;exact ⟨_,_,_,⟨rfl,rfl,rfl⟩,h⟩
 |seq a b gB gD=>
  intro s H K h;simp only [aN] at h⊢;obtain ⟨e,s1,H1,h1,h2⟩:=gB s H _ h;cases e with
  |normal=>
   obtain ⟨e,s2,H2,h3,h4⟩:=gD s1 H1 K h2;exact ⟨e,s2,H2,eJ hU a s H _ _ (fun e1 s' H' q=>by obtain ⟨rfl,rfl,rfl⟩:=q;exact h3) h1,h4⟩
  |exit id=>exact ⟨.exit id,s1,H1,eJ hU a s H _ _ (fun e1 s' H' q=>by obtain ⟨rfl,rfl,rfl⟩:=q;exact ⟨rfl,rfl,rfl⟩) h1,h2⟩
  |ret=>exact ⟨.ret,s1,H1,eJ hU a s H _ _ (fun e1 s' H' q=>by obtain ⟨rfl,rfl,rfl⟩:=q;exact ⟨rfl,rfl,rfl⟩) h1,h2⟩
 |cond c a b gB gD=>
  intro s H K h;simp only [aN] at h⊢;split at h
  ·split at h
   ·rename_i hb;simp only [hb,if_true];exact gB s H K h
   ·rename_i hb;simp only [hb];exact gD s H K h
  ·exact h.elim
 |block id bP a ih=>
  intro s H K h;simp only [aN] at h⊢;obtain ⟨e,s1,H1,h1,h2⟩:=ih s H _ h;cases e with
  |normal=>exact ⟨.normal,eu bP s1,H1,eJ hU a s H _ _ (fun e1 s' H' q=>by obtain ⟨rfl,rfl,rfl⟩:=q;exact ⟨rfl,rfl,rfl⟩) h1,h2⟩
  |ret=>exact ⟨.ret,s1,H1,eJ hU a s H _ _ (fun e1 s' H' q=>by obtain ⟨rfl,rfl,rfl⟩:=q;exact ⟨rfl,rfl,rfl⟩) h1,h2⟩
  |exit j=>
   simp only at h2;split at h2
   ·rename_i hj;exact ⟨.normal,eu bP s1,H1,eJ hU a s H _ _ (fun e1 s' H' q=>by obtain ⟨rfl,rfl,rfl⟩:=q;simp [hj]) h1,h2⟩
   ·rename_i hj;exact ⟨.exit j,s1,H1,eJ hU a s H _ _ (fun e1 s' H' q=>by obtain ⟨rfl,rfl,rfl⟩:=q;simp [hj]) h1,h2⟩
 |loop sp a ih=>
  intro s H K h;simp only [aN] at h⊢;refine h (fun s1 H1=> ∃e s' H',i_ (aN X C a) (hM sp H.bs.length) (fun e1 s2 H2=>e1=e∧s2=s' ∧H2=H') s1 H1∧K e s' H') fun s1 H1 hB=> ?_
  obtain ⟨e,s2,H2,h1,h2⟩:=ih s1 H1 _ hB;cases e with
  |normal=>
   obtain ⟨e,s',H',h3,h4⟩:=h2;exact ⟨e,s',H',.round hU (eJ hU a s1 H1 _ _ (fun e1 s' H' q=>by obtain ⟨rfl,rfl,rfl⟩:=q;exact h3) h1),h4⟩
  |exit id=>exact ⟨_,_,_,.round hU (eJ hU a s1 H1 _ _ (fun e1 s' H' q=>by obtain ⟨rfl,rfl,rfl⟩:=q;exact ⟨rfl,rfl,rfl⟩) h1),h2⟩
  |ret=>exact ⟨_,_,_,.round hU (eJ hU a s1 H1 _ _ (fun e1 s' H' q=>by obtain ⟨rfl,rfl,rfl⟩:=q;exact ⟨rfl,rfl,rfl⟩) h1),h2⟩
 |region id ops draw aG th fz=>
  intro s H K h;cases draw with
  |true=>
   simp only [aN] at h⊢;obtain ⟨s',H',h1,h2⟩:=sE hU dA _ _ _ _ h.2;exact ⟨.normal,s',H',⟨h.1,nh hU (fun s H q=>⟨rfl,q⟩) _ _ _ _ h1⟩,h2⟩
  |false=>
   simp only [aN] at h⊢;obtain ⟨s',H',h1,h2⟩:=pK hU dA _ _ _ _ h;exact ⟨.normal,s',H',ni hU (fun s H q=>⟨rfl,q⟩) _ _ _ _ h1,h2⟩
 |fU l kp=>
  intro s H K h;simp only [aN] at h⊢;split at h
  ·rename_i s' H' he;exact ⟨_,_,_,⟨rfl,rfl,rfl⟩,h⟩
  ·exact h.elim
 |bad=>intro s H K h;exact h.elim
theorem dU.mono {E:aF} {res:List ResultVar} {K K' :AV→J→Prop} (hK: ∀v H,K v H→K' v H): ∀e s H,dU E res K e s H→dU E res K' e s H
 | .normal,_,_,⟨rs,h1,h2⟩=>⟨rs,h1,hK _ _ h2⟩
 | .ret,_,_,⟨rs,h1,h2⟩=>⟨rs,h1,hK _ _ h2⟩
 | .exit _,_,_,h=>h
theorem dU.exact {E:aF} {res:List ResultVar} {K:AV→J→Prop}: ∀e s H,dU E res K e s H→ ∃v H',dU E res (fun v1 H1=>v1=v∧H1=H') e s H∧K v H'
 | .normal,_,_,⟨rs,h1,h2⟩=>⟨_,_,⟨rs,h1,rfl,rfl⟩,h2⟩
 | .ret,_,_,⟨rs,h1,h2⟩=>⟨_,_,⟨rs,h1,rfl,rfl⟩,h2⟩
 | .exit _,_,_,h=>h.elim
theorem sG {X:bQ} {C:aL} (hU:Up X) (dA:Exact X) {f:FuncId} {ys:List AV} {H:J} {K:AV→J→Prop} (h:Body X C f ys H K): ∃v H',Body X C f ys H (fun v1 H1=>v1=v∧H1=H')∧K v H' :=by
 unfold Body at h⊢;split at h
 ·exact h.elim
 ·rename_i fn kM;split at h
  ·exact h.elim
  ·rename_i c hc;obtain ⟨e,s',H',h1,h2⟩:=zE hU dA _ _ _ _ h;obtain ⟨v,H2,h3,h4⟩:=dU.exact _ _ _ h2;refine ⟨v,H2,?_,h4⟩;exact eJ hU _ _ _ _ _ (fun e1 s1 H1 q=>by obtain ⟨rfl,rfl,rfl⟩:=q;exact h3) h1
theorem Body.mono {X X' :bQ} {C:aL} (hX: ∀f ys H (K K' :AV→J→Prop),(∀v H,K v H→K' v H)→X f ys H K→X' f ys H K') {f:FuncId} {ys:List AV} {H:J} {K K' :AV→J→Prop} (hK: ∀v H,K v H→K' v H) (h:Body X C f ys H K):Body X' C f ys H K' :=by
 unfold Body at h⊢;split at h
 ·exact h.elim
 ·rename_i fn kM;split at h
  ·exact h.elim
  ·rename_i c hc;exact eJ hX _ _ _ _ _ (dU.mono hK) h
def nj (C:aL):Prop:=Up C.ext
theorem aw.up {C:aL} (hE:nj C):Up (aw C):=by
 intro f ys H K K' hK h
 refine h (fun f ys H K=> ∀K',(∀v H,K v H→K' v H)→aw C f ys H K') ⟨fun f ys H K h K' hK X hX=>hX.1 _ _ _ _ (hE _ _ _ _ _ hK h),fun f ys H K h K' hK X hX=> ?_⟩ K' hK
 refine hX.2 _ _ _ _ (Body.mono (fun f ys H K K2 zF h=> ?_) hK h);exact h K2 zF X hX
theorem aw.intro {C:aL} (hE:nj C) {f:FuncId} {ys:List AV} {H:J} {K:AV→J→Prop} (h:Body (aw C) C f ys H K):aw C f ys H K:=by
 intro X hX;refine hX.2 _ _ _ _ (Body.mono (fun f ys H K K' hK hc=> ?_) (fun _ _ h=>h) h)
 exact aw.up hE _ _ _ _ _ hK hc X hX
theorem aw.exact {C:aL} (hE:nj C) (hX:Exact C.ext):Exact (aw C):=by
 intro f ys H K h;refine h (fun f ys H K=> ∃v H',aw C f ys H (fun v1 H1=>v1=v∧H1=H')∧K v H') ⟨fun f ys H K h=> ?_,fun f ys H K h=> ?_⟩
 ·obtain ⟨v,H',h1,h2⟩:=hX _ _ _ _ h;exact ⟨v,H',fun X hX=>hX.1 _ _ _ _ h1,h2⟩
 ·obtain ⟨v,H',h1,h2⟩:=sG (X:=fun f ys H K=> ∃v H',aw C f ys H (fun v1 H1=>v1=v∧H1=H')∧K v H') (fun f ys H K K' hK ⟨v,H',h1,h2⟩=>⟨v,H',h1,hK _ _ h2⟩) (fun f ys H K ⟨v,H',h1,h2⟩=>⟨v,H',⟨v,H',h1,rfl,rfl⟩,h2⟩) h
  refine ⟨v,H',aw.intro hE (Body.mono (fun f ys H K K' hK ⟨v,H',h1,h2⟩=> ?_) (fun _ _ h=>h) h1),h2⟩
  exact aw.up hE _ _ _ _ _ (fun v1 H1 q=>by obtain ⟨rfl,rfl⟩:=q;exact hK _ _ h2) h1
theorem aw.ext {C:aL} {f:FuncId} {ys:List AV} {H:J} {K:AV→J→Prop} (h:C.ext f ys H K):aw C f ys H K:=fun _ hX=>hX.1 _ _ _ _ h
theorem BB {P:Program} {C:aL} (hm:P.follows .mixedOrders=true) (hE: ∀t ti,C.E t=some ti→aV P t ti) (hC: ∀f fn,C.code f=some fn→P.funcs[f]? =some fn∧(fn.name== "runtime.NumGoroutine")=false∧nO (C.fW f) fn=true)
 (zG: ∀f ys H K,C.ext f ys H K→ ∃v H',df P f ys H (fun v1 H1=>v1=v∧H1=H')∧K v H')
 {f:FuncId} {ys:List AV} {H:J} {K:AV→J→Prop} (h:aw C f ys H K):df P f ys H K:=by
 have hY: ∃v H',df P f ys H (fun v1 H1=>v1=v∧H1=H')∧K v H' :=by
  let Y:bQ:=fun f ys H K=> ∃v H',df P f ys H (fun v1 H1=>v1=v∧H1=H')∧K v H'
  have sH:Exact Y:=fun f ys H K ⟨v,H',h1,h2⟩=>⟨v,H',⟨v,H',h1,rfl,rfl⟩,h2⟩;have zH:Up Y:=fun f ys H K K' hK ⟨v,H',h1,h2⟩=>⟨v,H',h1,hK _ _ h2⟩
  have sI: ∀f ys H K,Y f ys H K→df P f ys H K:=fun f ys H K ⟨v,H',h1,h2⟩=>h1.mono fun v1 H1 q=>by obtain ⟨rfl,rfl⟩:=q;exact h2
  refine h Y ⟨zG,fun f ys H K hb=> ?_⟩;obtain ⟨v,H',h1,h2⟩:=sG zH sH hb;exact ⟨v,H',y7 hm hE hC sI (sB sH hm hE sI) h1,h2⟩
 obtain ⟨v,H',h1,h2⟩:=hY;exact h1.mono fun v1 H1 q=>by obtain ⟨rfl,rfl⟩:=q;exact h2
end Go.VS
namespace Go.VS
structure Good (C:aL):Prop where
 up:nj C
 exact:Exact C.ext
def lH (C:aL) (b:AC) (K:Ex→ah→J→Prop):Ex→ah→J→Prop
 | .normal,s,H=>aN (aw C) C b s H K
 | .exit i,s,H=>K (.exit i) s H
 | .ret,s,H=>K .ret s H
def gE (id:Nat) (bP:Option (List Nat)) (K:Ex→ah→J→Prop):Ex→ah→J→Prop
 | .normal,s,H=>K .normal (eu bP s) H
 | .exit j,s,H=>if j=id then K .normal (eu bP s) H else K (.exit j) s H
 | .ret,s,H=>K .ret s H
def nk (C:aL) (v:AV) (a b:AC) (s:ah) (H:J) (K:Ex→ah→J→Prop):Prop:=
 match v with
 | .bool t=>if t then aN (aw C) C a s H K else aN (aw C) C b s H K
 |_=>False
section
variable {C:aL} {K K1:Ex→ah→J→Prop} {s:ah} {H:J}
theorem BC {a b:AC} (h: ∀K1,K1=lH C b K→aN (aw C) C a s H K1):aN (aw C) C (.seq a b) s H K:=by
 have:=h _ rfl;have e:lH C b K=(fun e s' H' =>match e with| .normal=>aN (aw C) C b s' H' K|e=>K e s' H'):=by
  funext e s H;cases e<;>rfl
 rw [e] at this;exact this
theorem BD {id:Nat} {kp:Option (List Nat)} {a:AC} (h: ∀K1,K1=gE id kp K→aN (aw C) C a s H K1):aN (aw C) C (.block id kp a) s H K:=by
 have:=h _ rfl;have e:gE id kp K=(fun e s' H' =>match e with
  | .exit j=>if j=id then K .normal (eu kp s') H' else K (.exit j) s' H'
  | .normal=>K .normal (eu kp s') H'
  | .ret=>K .ret s' H'):=by funext e s H;cases e<;>rfl
 rw [e] at this;exact this
theorem BE (h:K .normal s H):aN (aw C) C .skip s H K:=h
theorem BF (h:K .ret s H):aN (aw C) C .ret s H K:=h
theorem BG {id:Nat} (h:K (.exit id) s H):aN (aw C) C (.exit id) s H K:=h
theorem BH {c:Operand} {a b:AC} (h:nk C (ev s c) a b s H K):aN (aw C) C (.cond c a b) s H K:=h
theorem zI {l:List (List Nat×List Sh)} {kp:Option (List Nat)} {s' :ah} {H' :J} (he:dj l s H=some (s',H')) (h:K .normal (eu kp s') H'):aN (aw C) C (.fU l kp) s H K:=by
 simp only [aN,he];exact h
theorem BI {kp:List Nat} (h:K .normal (eN kp s) H):aN (aw C) C (.fU [] (some kp)) s H K:=h
theorem BJ {b:AC} (hK:K1=lH C b K) (h:aN (aw C) C b s H K):K1 .normal s H:=by rw [hK];exact h
theorem BK {b:AC} (hK:K1=lH C b K) (h:K .ret s H):K1 .ret s H:=by rw [hK];exact h
theorem BL {b:AC} {i:Nat} (hK:K1=lH C b K) (h:K (.exit i) s H):K1 (.exit i) s H:=by rw [hK];exact h
theorem BM {id:Nat} {kp:Option (List Nat)} (hK:K1=gE id kp K) (h:K .normal (eu kp s) H):K1 .normal s H:=by rw [hK];exact h
theorem BN {id:Nat} (hK:K1=gE id none K) (h:K .normal s H):K1 .normal s H:=by rw [hK];exact h
theorem BO {id:Nat} (hK:K1=gE id none K) (h:K .normal s H):K1 (.exit id) s H:=by rw [hK];simp only [gE,if_true];exact h
theorem BP {id:Nat} {kp:Option (List Nat)} (hK:K1=gE id kp K) (h:K .normal (eu kp s) H):K1 (.exit id) s H:=by rw [hK];simp only [gE,if_true];exact h
theorem BQ {id j:Nat} {kp:Option (List Nat)} (hK:K1=gE id kp K) (hj:j≠id) (h:K (.exit j) s H):K1 (.exit j) s H:=by rw [hK];simp only [gE,if_neg hj];exact h
theorem BR {id:Nat} {kp:Option (List Nat)} (hK:K1=gE id kp K) (h:K .ret s H):K1 .ret s H:=by rw [hK];exact h
theorem BS {E:aF} {res:List ResultVar} {P:AV→J→Prop} {rs:List AV} (hK:K1=dU E res P) (hr:da E s H res=some rs) (h:P (cc rs) H):K1 .ret s H:=by rw [hK];exact ⟨rs,hr,h⟩
theorem BT {E:aF} {res:List ResultVar} {P:AV→J→Prop} {rs:List AV} (hK:K1=dU E res P) (hr:da E s H res=some rs) (h:P (cc rs) H):K1 .normal s H:=by rw [hK];exact ⟨rs,hr,h⟩
theorem BU {E:aF} {a:Tmp} {P:AV→J→Prop} (hK:K1=dU E [.tmp a] P) {x:AV} (hx:s.getD a .undef=x) (h:P x H):K1 .ret s H:=by
 rw [hK];exact ⟨[s.getD a .undef],rfl,by rw [hx];exact h⟩
theorem BV {E:aF} {a b:Tmp} {P:AV→J→Prop} (hK:K1=dU E [.tmp a,.tmp b] P) {x y:AV} (hx:s.getD a .undef=x) (hy:s.getD b .undef=y) (h:P (.aA [x,y]) H):K1 .ret s H:=by
 rw [hK];exact ⟨[s.getD a .undef,s.getD b .undef],rfl,by rw [hx,hy];exact h⟩
theorem BW {E:aF} {a b c:Tmp} {P:AV→J→Prop} (hK:K1=dU E [.tmp a,.tmp b,.tmp c] P) {x y z:AV} (hx:s.getD a .undef=x) (hy:s.getD b .undef=y) (hz:s.getD c .undef=z) (h:P (.aA [x,y,z]) H):K1 .ret s H:=by
 rw [hK];exact ⟨[s.getD a .undef,s.getD b .undef,s.getD c .undef],rfl,by rw [hx,hy,hz];exact h⟩
theorem BX {E:aF} {a b c d:Tmp} {P:AV→J→Prop} (hK:K1=dU E [.tmp a,.tmp b,.tmp c,.tmp d] P) {x y z u:AV} (hx:s.getD a .undef=x) (hy:s.getD b .undef=y) (hz:s.getD c .undef=z) (hu:s.getD d .undef=u) (h:P (.aA [x,y,z,u]) H):K1 .ret s H:=by
 rw [hK];exact ⟨[s.getD a .undef,s.getD b .undef,s.getD c .undef,s.getD d .undef],rfl,by rw [hx,hy,hz,hu];exact h⟩
theorem BY {E:aF} {P:AV→J→Prop} (hK:K1=dU E [] P) (h:P (.aA []) H):K1 .ret s H:=by
 rw [hK];exact ⟨[],rfl,h⟩
theorem BZ {E:aF} {P:AV→J→Prop} (hK:K1=dU E [] P) (h:P (.aA []) H):K1 .normal s H:=by
 rw [hK];exact ⟨[],rfl,h⟩
theorem B0 {α :Type} {c:Bool} {x y:Option α} {r: α} {a b:AC} (h:(bif c then x else y)=some r) (ht:c=true→x=some r→aN (aw C) C a s H K) (hf:c=false→y=some r→aN (aw C) C b s H K):nk C (.bool c) a b s H K:=by
 cases c with
 |true=>exact ht rfl h
 |false=>exact hf rfl h
theorem zJ {a:AC} (h:aN (aw C) C a s H K1) (hK: ∀e s H,K1 e s H→K e s H) (gC:Good C):aN (aw C) C a s H K:=eJ (aw.up gC.up) a s H _ _ hK h
end
structure GO where
 d:Option Tmp
 op:Op
 g:Option (Option Tmp×Bool)
 late:List (Op×Option Tmp)
 th:Bool
 q:Bool
def lk:List Oper→Nat→Option Tmp
 |[],_=>none
 |o::_,0=>o.dst
 |_::os,n+1=>lk os n
def aU (X:bQ) (C:aL) (q gL:Bool) (op:Op) (s:ah) (H:J) (K:AV→J→Prop):Prop:=wpOp X C q gL ⟨none,op,0,"",#[],none⟩ s H K
theorem sJ (X:bQ) (C:aL) (q gL:Bool) (o:Oper) (s:ah) (H:J) (K:AV→J→Prop):wpOp X C q gL o s H K=aU X C q gL o.op s H K:=by
 cases o;rfl
def dO (C:aL) (s:ah) (H:J) (K:Prop):List (Op×Option Tmp)→Prop
 |[]=>K
 |(op,d)::js=>(∃t,d=some t∧aP C.E op s H=some (s.getD t .undef,H))∧dO C s H K js
def eU (g:Option (Option Tmp×Bool)) (s:ah) (a b:Prop):Prop:=
 match g with
 |none=>a
 |some (none,_)=>False
 |some (some t,eC)=>match s.getD t .undef with
  | .bool c=>if c=eC then a else b
  | .aA _=>b
  |_=>False
def cR (C:aL) (K:ah→J→Prop):List GO→ah→J→Prop
 |[],s,H=>K s H
 |o::rest,s,H=>eU o.g s (aU (aw C) C o.q o.th o.op s H fun v H' =>dO C (aZ s o.d v) H' (cR C K rest (aZ s o.d v) H') o.late)
  (dO C (aZ s o.d (.aA [])) H (cR C K rest (aZ s o.d (.aA [])) H) o.late)
def kr (ops:List Oper) (j:Nat):Op×Option Tmp:=match ops[j]? with|some o=>(o.op,o.dst)|none=>(.move (.tmp 0),none)
def en (all:List Oper) (q:Nat→Bool) (late:Nat→List Nat) (th:List Nat):List Oper→Nat→List GO
 |[],_=>[]
 |o::rest,i=>⟨o.dst,o.op,o.guard.map fun p=>(lk all p.1,p.2),(late i).map (kr all),th.contains i,q i⟩::en all q late th rest (i+1)
theorem pL: ∀(l:List Oper) (j:Nat),lk l j=(l[j]?).bind (·.dst)
 |[],j=>by simp [lk]
 |o::os,0=>by simp [lk]
 |o::os,j+1=>by simp [lk,pL os j]
theorem pM {C:aL} {ops:Array Oper} {s:ah} {H:J} {K:Prop}: ∀(l:List Nat),dO C s H K (l.map (kr ops.toList))→fB C ops s H K l
 |[],h=>h
 |j::js,h=>by
  simp only [List.map_cons,dO] at h;refine ⟨?_,pM js h.2⟩;unfold jS;have h1:=h.1;unfold kr at h1;rw [Array.getElem?_toList] at h1;cases ho:ops[j]? with
  |none=>rw [ho] at h1;simp at h1
  |some o=>
   rw [ho] at h1;obtain ⟨t,ht,he⟩:=h1;simp only at ht he⊢;rw [ht];exact he
theorem nl {C:aL} (gC:Good C) {ops:Array Oper} {q:Nat→Bool} {late:Nat→List Nat} {th:List Nat} {K:ah→J→Prop}: ∀(l:List Oper) (i:Nat) (s:ah) (H:J),cR C K (en ops.toList q late th l i) s H→c9 (aw C) C ops q late th K l i s H
 |[],i,s,H,h=>h
 |o::rest,i,s,H,h=>by
  simp only [en,cR] at h;have yes:(aU (aw C) C (q i) (th.contains i) o.op s H fun v H' =>dO C (aZ s o.dst v) H' (cR C K (en ops.toList q late th rest (i+1)) (aZ s o.dst v) H') ((late i).map (kr ops.toList)))→
   wpOp (aw C) C (q i) (th.contains i) o s H fun v H' =>fB C ops (aZ s o.dst v) H' (c9 (aw C) C ops q late th K rest (i+1) (aZ s o.dst v) H') (late i):=by
   intro h;rw [←sJ] at h;refine iw (aw.up gC.up) (fun v H' h=> ?_) h
   exact lG (nl gC rest (i+1) _ _) _ (pM _ h)
  simp only [c9];cases hg:o.guard with
  |none=>
   rw [hg] at h;simp only [Option.map_none,eU] at h⊢;exact yes h
  |some p=>
   obtain ⟨j,eC⟩:=p;rw [hg] at h;simp only [Option.map_some,pL,Array.getElem?_toList] at h⊢;cases hd:(ops[j]?).bind (·.dst) with
   |none=>rw [hd] at h;exact h.elim
   |some t=>
    rw [hd] at h;simp only [eU] at h;have no:(dO C (aZ s o.dst (.aA [])) H (cR C K (en ops.toList q late th rest (i+1)) (aZ s o.dst (.aA [])) H) ((late i).map (kr ops.toList)))→dG ops o s=some false→ ∃v H',(match dG ops o s with
     |some b=>if b then wpOp (aw C) C (q i) (th.contains i) o s H (fun v1 H1=>v1=v∧H1=H') else v= .aA []∧H' =H
     |none=>False)∧fB C ops (aZ s o.dst v) H' (c9 (aw C) C ops q late th K rest (i+1) (aZ s o.dst v) H') (late i):=by
     intro h hb;refine ⟨.aA [],H,?_,lG (nl gC rest (i+1) _ _) _ (pM _ h)⟩;rw [hb];simp
    split at h
    ·rename_i c hc;have lI:dG ops o s=some (c==eC):=by
      unfold dG;rw [hg];simp only [hd,hc]
     split at h
     ·rename_i jB;obtain ⟨v,H',h1,h2⟩:=lz (aw.exact gC.up gC.exact) (yes h);refine ⟨v,H',?_,h2⟩;rw [lI,jB];simp only [beq_self_eq_true,if_true];exact h1
     ·rename_i jB;exact no h (by rw [lI];simpa using jB)
    ·rename_i hc;exact no h (by unfold dG;rw [hg];simp only [hd,hc])
    ·exact h.elim
section
variable {C:aL} {K K1:Ex→ah→J→Prop} {s:ah} {H:J}
def iS (K:Ex→ah→J→Prop):ah→J→Prop:=fun s H=>K .normal s H
theorem B1 (gC:Good C) {id:Nat} {ops:List Oper} {ls th:List Nat} (h:cR C (iS K) (en ops (fun _=>false) (fun _=>[]) th ops 0) s H):aN (aw C) C (.region id ops.toArray false ls th []) s H K:=by
 have h2:=nl gC (ops:=ops.toArray) (q:=fun _=>false) (late:=fun _=>[]) (th:=th) ops 0 s H h;have key: ∀(l:List Oper) (i:Nat) (s:ah) (H:J),c9 (aw C) C ops.toArray (fun _=>false) (fun _=>[]) th (iS K) l i s H→cW (aw C) C ops.toArray th [] (iS K) l i s H:=by
  intro l;induction l with
  |nil=>intro i s H h;exact h
  |cons o rest ih=>
   intro i s H h;simp only [c9,fB] at h;simp only [cW];refine ⟨s,H,rfl,?_⟩;cases hg:o.guard with
   |none=>
    rw [hg] at h;exact iw (aw.up gC.up) (fun v H' hv=>ih (i+1) _ _ hv) h
   |some p=>
    rw [hg] at h;obtain ⟨v,H',h1,h2⟩:=h;exact ⟨v,H',h1,ih (i+1) _ _ h2⟩
 exact key _ _ _ _ h2
def eV (C:aL) (fz:List (Nat×List (List Nat×List Sh))) (K:ah→J→Prop):List GO→Nat→ah→J→Prop
 |[],_,s,H=>K s H
 |o::rest,i,s0,H0=> ∃s H,dj ((fz.lookup i).getD []) s0 H0=some (s,H)∧
  eU o.g s (aU (aw C) C o.q o.th o.op s H fun v H' =>eV C fz K rest (i+1) (aZ s o.d v) H') (eV C fz K rest (i+1) (aZ s o.d (.aA [])) H)
theorem pN (gC:Good C) {ops:Array Oper} {th:List Nat} {fz:List (Nat×List (List Nat×List Sh))} {K:ah→J→Prop}: ∀(l:List Oper) (i:Nat) (s:ah) (H:J),eV C fz K (en ops.toList (fun _=>false) (fun _=>[]) th l i) i s H→cW (aw C) C ops th fz K l i s H
 |[],i,s,H,h=>h
 |o::rest,i,s0,H0,h=>by
  simp only [en,eV] at h;obtain ⟨s,H,hf,h⟩:=h;simp only [cW];refine ⟨s,H,hf,?_⟩;have yes:(aU (aw C) C false (th.contains i) o.op s H fun v H' =>eV C fz K (en ops.toList (fun _=>false) (fun _=>[]) th rest (i+1)) (i+1) (aZ s o.dst v) H')→
   wpOp (aw C) C false (th.contains i) o s H fun v H' =>cW (aw C) C ops th fz K rest (i+1) (aZ s o.dst v) H' :=by
   intro h;rw [←sJ] at h;exact iw (aw.up gC.up) (fun v H' h=>pN gC rest (i+1) _ _ h) h
  cases hg:o.guard with
  |none=>
   rw [hg] at h;simp only [Option.map_none,eU] at h⊢;exact yes h
  |some p=>
   obtain ⟨j,eC⟩:=p;rw [hg] at h;simp only [Option.map_some,pL,Array.getElem?_toList] at h⊢;cases hd:(ops[j]?).bind (·.dst) with
   |none=>rw [hd] at h;exact h.elim
   |some t=>
    rw [hd] at h;simp only [eU] at h;have no:eV C fz K (en ops.toList (fun _=>false) (fun _=>[]) th rest (i+1)) (i+1) (aZ s o.dst (.aA [])) H→dG ops o s=some false→ ∃v H',(match dG ops o s with
     |some b=>if b then wpOp (aw C) C false (th.contains i) o s H (fun v1 H1=>v1=v∧H1=H') else v= .aA []∧H' =H
     |none=>False)∧cW (aw C) C ops th fz K rest (i+1) (aZ s o.dst v) H' :=by
     intro h hb;refine ⟨.aA [],H,?_,pN gC rest (i+1) _ _ h⟩;rw [hb];simp
    split at h
    ·rename_i c hc;have lI:dG ops o s=some (c==eC):=by
      unfold dG;rw [hg];simp only [hd,hc]
     split at h
     ·rename_i jB;obtain ⟨v,H',h1,h2⟩:=lz (aw.exact gC.up gC.exact) (yes h);refine ⟨v,H',?_,h2⟩;rw [lI,jB];simp only [beq_self_eq_true,if_true];exact h1
     ·rename_i jB;exact no h (by rw [lI];simpa using jB)
    ·rename_i hc;exact no h (by unfold dG;rw [hg];simp only [hd,hc])
    ·exact h.elim
theorem B2 (gC:Good C) {id:Nat} {ops:List Oper} {ls th:List Nat} {fz:List (Nat×List (List Nat×List Sh))} (h:eV C fz (iS K) (en ops (fun _=>false) (fun _=>[]) th ops 0) 0 s H):aN (aw C) C (.region id ops.toArray false ls th fz) s H K:=
 pN gC (ops:=ops.toArray) ops 0 s H h
theorem sK (gC:Good C) {id:Nat} {ops:List Oper} {ls th:List Nat} {fz:List (Nat×List (List Nat×List Sh))} (hd:iF ops.toArray ls=true) (h:cR C (iS K) (en ops (fun i=> !ls.contains i) (fY ops.toArray ls) th ops 0) s H):aN (aw C) C (.region id ops.toArray true ls th fz) s H K:=by
 have:=nl gC (ops:=ops.toArray) (q:=fun i=> !ls.contains i) (late:=fY ops.toArray ls) (th:=th) ops 0 s H h;exact ⟨hd,this⟩
theorem zK (ops:Array Oper):fY ops []=fun _=>[]:=by funext i;rfl
theorem B3 (gC:Good C) {id:Nat} {ops:List Oper} {th:List Nat} {fz:List (Nat×List (List Nat×List Sh))} (hd:iF ops.toArray []=true) (h:cR C (iS K) (en ops (fun _=>true) (fun _=>[]) th ops 0) s H):aN (aw C) C (.region id ops.toArray true [] th fz) s H K:=
 sK gC hd (by rw [zK];exact h)
end
theorem B4 {C:aL} (gC:Good C) {f:FuncId} {fn:Func} {c:Code} {res:List ResultVar} {n:Nat} (hc:C.code f=some fn) (hb:fn.body=some c) (hr:fn.results=res.toArray) (hn:fn.ntmps=n) {ys:List AV} {H:J} {P:AV→J→Prop}
 (h: ∀K0,K0=dU C.E res P→aN (aw C) C (c8 (C.fW f) 0 c) (ys ++ List.replicate (n-ys.length) .undef) H K0):aw C f ys H P:=by
 refine aw.intro gC.up ?_;unfold Body;rw [hc];simp only [hb,hr,hn];exact h _ rfl
end Go.VS
namespace Go.VS
def cz (v:Option AV) (H:J) (K:AV→J→Prop):Prop:=match v with|some v=>K v H|none=>False
def cq (r:Option (AV×J)) (K:AV→J→Prop):Prop:=match r with|some (v,H)=>K v H|none=>False
section
variable {C:aL} {q th:Bool} {s:ah} {H:J} {K:AV→J→Prop}
theorem dg (op:Op) (h:dY op=true):aU (aw C) C q th op s H K=cq (aP C.E op s H) K:=by
 have: ∀c,op≠ .call c:=by rintro c rfl;simp [dY] at h
 unfold aU wpOp;split
 ·rename_i bq;exact absurd bq (this _)
 ·rename_i bq;exact absurd bq (this _)
 ·simp only [h,implies_true,true_and];rfl
theorem pO (op:Op) (h: ∀c,op≠ .call c):aU (aw C) C false th op s H K=cq (aP C.E op s H) K:=by
 unfold aU wpOp;split
 ·rename_i bq;exact absurd bq (h _)
 ·rename_i bq;exact absurd bq (h _)
 ·simp only [Bool.false_eq_true,false_implies,true_and];rfl
theorem sL (K:ah→J→Prop):cR C K [] s H=K s H:=rfl
theorem B5 (K:ah→J→Prop) (d:Option Tmp) (op:Op) (q th:Bool) (rest:List GO):cR C K (⟨d,op,none,[],th,q⟩::rest) s H=aU (aw C) C q th op s H fun v H' =>cR C K rest (aZ s d v) H' :=rfl
theorem B6 (K:ah→J→Prop) (d:Option Tmp) (op:Op) (g' :Option Tmp×Bool) (q th:Bool) (rest:List GO):cR C K (⟨d,op,some g',[],th,q⟩::rest) s H=eU (some g') s (aU (aw C) C q th op s H fun v H' =>cR C K rest (aZ s d v) H') (cR C K rest (aZ s d (.aA [])) H):=rfl
theorem B7 (K:ah→J→Prop) (d:Option Tmp) (op:Op) (g:Option (Option Tmp×Bool)) (q th:Bool) (rest:List GO) (l:Op×Option Tmp) (ls:List (Op×Option Tmp)):cR C K (⟨d,op,g,l::ls,th,q⟩::rest) s H=eU g s (aU (aw C) C q th op s H fun v H' =>dO C (aZ s d v) H' (cR C K rest (aZ s d v) H') (l::ls)) (dO C (aZ s d (.aA [])) H (cR C K rest (aZ s d (.aA [])) H) (l::ls)):=rfl
def eK (v:AV) (w:Bool) (a b:Prop):Prop:=match v with| .bool c=>if c=w then a else b| .aA _=>b|_=>False
theorem B8 (a b:Prop):eU none s a b=a:=rfl
theorem B9 (t:Tmp) (w:Bool) (a b:Prop):eU (some (some t,w)) s a b=eK (s.getD t .undef) w a b:=rfl
theorem sM (a b:Prop):eK (.bool true) true a b=a:=by simp [eK]
theorem sN (a b:Prop):eK (.bool false) false a b=a:=by simp [eK]
theorem sO (a b:Prop):eK (.bool true) false a b=b:=by simp [eK]
theorem sP (a b:Prop):eK (.bool false) true a b=b:=by simp [eK]
theorem B_ (l:List AV) (w:Bool) (a b:Prop):eK (.aA l) w a b=b:=rfl
theorem Ca {α :Type} {c w:Bool} {x y:Option α} {r: α} {a b:Prop} (h:(bif c then x else y)=some r) (ht:c=true→x=some r→eK (.bool true) w a b) (hf:c=false→y=some r→eK (.bool false) w a b):eK (.bool c) w a b:=by
 cases c with
 |true=>exact ht rfl h
 |false=>exact hf rfl h
theorem sQ (K:Prop):dO C s H K []=K:=rfl
theorem sR (K:Prop) (op:Op) (t:Tmp) (js:List (Op×Option Tmp)):dO C s H K ((op,some t)::js)=(aP C.E op s H=some (s.getD t .undef,H)∧dO C s H K js):=by
 simp [dO]
theorem sT (t:Tmp) (v:AV):aZ s (some t) v=s.set t v:=rfl
theorem sU (v:AV):aZ s none v=s:=rfl
theorem sV (t:Tmp):ev s (.tmp t)=s.getD t .undef:=rfl
theorem sW (v:Value):ev s (.const v)=ofValue v:=rfl
theorem sY (f:FuncId):ev s (.func f)= .fn f []:=rfl
theorem sZ (k:IntKind) (n:Int):ofValue (.int k n)= .int k n:=rfl
theorem s4 (b:Bool):ofValue (.bool b)= .bool b:=rfl
theorem s7:ofValue (.slice none 0 0)= .nil:=rfl
theorem s8:ofValue .nilIface= .cr false:=rfl
theorem s9:ofValue (.pointer none)= .dQ:=rfl
theorem tc (b:ByteArray):ofValue (.string b)= .str b.data.toList:=rfl
theorem tg (v:AV):cz (some v) H K=K v H:=rfl
theorem tj (x:Operand):aU (aw C) C q th (.move x) s H K=K (ev s x) H:=by rw [dg _ rfl];rfl
theorem tn (x:Operand):aU (aw C) C q th (.assign x) s H K=K (ev s x) H:=by rw [dg _ rfl];rfl
theorem tp (b:BinOp) (t:TypeId) (x:Operand) (c:Value) (w:TypeId):aU (aw C) C q th (.binOp b t x (.const c) w) s H K=cz (aM C.E b t (ev s x) (ofValue c)) H K:=by
 rw [dg _ rfl];simp only [aP,show ev s (.const c)=ofValue c from rfl];generalize aM C.E b t (ev s x) (ofValue c)=r;cases r<;>rfl
def kt (E:aF) (b:BinOp) (t:TypeId) (x y:AV) (H:J) (K:AV→J→Prop):Prop:=match y with| .cr _=>False|y=>cz (aM E b t x y) H K
theorem tq (b:BinOp) (t:TypeId) (x:Operand) (n:Tmp) (w:TypeId):aU (aw C) C q th (.binOp b t x (.tmp n) w) s H K=kt C.E b t (ev s x) (ev s (.tmp n)) H K:=by
 rw [dg _ rfl];simp only [aP];generalize ev s (.tmp n)=y;unfold kt;cases y
 all_goals (first|rfl|(simp only;generalize aM C.E b t (ev s x) _=r;cases r<;>rfl))
theorem tv (E:aF) (b:BinOp) (t:TypeId) (x:AV) (k:IntKind) (n:Int):kt E b t x (.int k n) H K=cz (aM E b t x (.int k n)) H K:=rfl
theorem tw (E:aF) (b:BinOp) (t:TypeId) (x:AV) (n:Bool):kt E b t x (.bool n) H K=cz (aM E b t x (.bool n)) H K:=rfl
theorem tz (E:aF) (b:BinOp) (t:TypeId) (x:AV) (n:List UInt8):kt E b t x (.str n) H K=cz (aM E b t x (.str n)) H K:=rfl
theorem tA (E:aF) (b:BinOp) (t:TypeId) (x:AV) (n:List AV):kt E b t x (.agg n) H K=cz (aM E b t x (.agg n)) H K:=rfl
variable (E:aF) (t:TypeId) (k:IntKind) (a b:Int) (c d:Bool) (u v:List UInt8)
theorem tB:aM E .add t (.int k a) (.int k b)=some (.int k (k.wrap (a+b))):=by simp [aM,dp]
theorem tC:aM E .sub t (.int k a) (.int k b)=some (.int k (k.wrap (a-b))):=by simp [aM,dp]
theorem tD:aM E .mul t (.int k a) (.int k b)=some (.int k (k.wrap (a*b))):=by simp [aM,dp]
theorem zL:aM E .and t (.int k a) (.int k b)=some (.int k (k.wrap (BitVec.ofInt k.bits a&&&BitVec.ofInt k.bits b).toNat)):=by simp [aM,dp]
theorem zM:aM E .or t (.int k a) (.int k b)=some (.int k (k.wrap (BitVec.ofInt k.bits a|||BitVec.ofInt k.bits b).toNat)):=by simp [aM,dp]
theorem zN:aM E .xor t (.int k a) (.int k b)=some (.int k (k.wrap (BitVec.ofInt k.bits a^^^BitVec.ofInt k.bits b).toNat)):=by simp [aM,dp]
theorem tE:aM E .eql t (.int k a) (.int k b)=some (.bool (a==b)):=by simp [aM,dp]
theorem tF:aM E .neq t (.int k a) (.int k b)=some (.bool (a !=b)):=by simp [aM,dp]
theorem tG:aM E .lss t (.int k a) (.int k b)=some (.bool (decide (a<b))):=by simp [aM,dp]
theorem tH:aM E .leq t (.int k a) (.int k b)=some (.bool (decide (a≤b))):=by simp [aM,dp]
theorem tI:aM E .gtr t (.int k a) (.int k b)=some (.bool (decide (b<a))):=by simp [aM,dp]
theorem tJ:aM E .geq t (.int k a) (.int k b)=some (.bool (decide (b≤a))):=by simp [aM,dp]
def dv (k:IntKind) (a b:Int):Option Int:=if b=0 then none else some (k.wrap (a.tdiv b))
def md (a b:Int):Option Int:=if b=0 then none else some (a.tmod b)
theorem tK:aM E .quo t (.int k a) (.int k b)=(dv k a b).map (.int k):=by simp [aM,dp,dv];split<;>rfl
theorem tL:aM E .rem t (.int k a) (.int k b)=(md a b).map (.int k):=by simp [aM,dp,md];split<;>rfl
theorem Cb (h:(b==0)=false):dv k a b=some (k.wrap (a.tdiv b)):=by simp at h;simp [dv,h]
theorem Cc (h:(b==0)=false):md a b=some (a.tmod b):=by simp at h;simp [md,h]
def sl (k:IntKind) (a b:Int):Option Int:=if b<0 then none else some (k.wrap (a*2^(min b.toNat k.bits)))
def sr (k:IntKind) (a b:Int):Option Int:=if b<0 then none else some (a.fdiv (2^(min b.toNat k.bits)))
theorem tM (j:IntKind):aM E .shl t (.int k a) (.int j b)=(sl k a b).map (.int k):=by simp [aM,sl];split<;>rfl
theorem tN (j:IntKind):aM E .shr t (.int k a) (.int j b)=(sr k a b).map (.int k):=by simp [aM,sr];split<;>rfl
theorem tO:aM E .eql t (.str u) (.str v)=some (.bool (u==v)):=by simp [aM,iX]
theorem tP:aM E .neq t (.str u) (.str v)=some (.bool (!(u==v))):=by simp [aM,iX]
def cat (u v:List UInt8):Option (List UInt8):=if u.length+v.length≤2^45 then some (u ++ v) else none
theorem tQ:aM E .add t (.str u) (.str v)=(cat u v).map .str:=by simp only [aM,iX,cat];split<;>rfl
theorem Cd {ti:TI} (h:E t=some ti) (hu:ti.au= .bl):aM E .eql t (.bool c) (.bool d)=some (.bool (c==d)):=by simp [aM,h,hu]
theorem Ce {ti:TI} (h:E t=some ti) (hu:ti.au= .bl):aM E .neq t (.bool c) (.bool d)=some (.bool (!(c==d))):=by simp [aM,h,hu]
def lJ (ti:Option TI) (r:Option Bool) (neg:Bool):Option AV:=match ti with|some ti=>if ti.agg then (match r with|some b=>some (.bool (if neg then !b else b))|none=>none) else none|none=>none
theorem tR (xs ys:List AV):aM E .eql t (.agg xs) (.agg ys)=lJ (E t) (dX E 8 t xs ys) false:=by
 simp only [aM,lJ];cases E t<;>rfl
theorem tS (xs ys:List AV):aM E .neq t (.agg xs) (.agg ys)=lJ (E t) (dX E 8 t xs ys) true:=by
 simp only [aM,lJ];cases E t<;>rfl
def iy (ti:Option TI) (x y:AV) (neg:Bool):Option AV:=match ti with|some ti=>(match isNil ti.au x y with|some b=>some (.bool (if neg then !b else b))|none=>none)|none=>none
theorem tT:aM E .eql t .nil .nil=iy (E t) .nil .nil false:=by simp only [aM,iy];cases E t<;>rfl
theorem tU:aM E .neq t .nil .nil=iy (E t) .nil .nil true:=by simp only [aM,iy];cases E t<;>rfl
theorem tV (x:Bool):aM E .eql t (.cr x) (.cr false)=iy (E t) (.cr x) (.cr false) false:=by simp only [aM,iy];cases E t<;>rfl
theorem tW (x:Bool):aM E .neq t (.cr x) (.cr false)=iy (E t) (.cr x) (.cr false) true:=by simp only [aM,iy];cases E t<;>rfl
theorem Cf {α :Type} {o:Option Int} {f:Int→Option α} {r: α} (h:o.bind f=some r) (hk: ∀n,o=some n→f n=some r→K (.int k n) H):cz (o.map (.int k)) H K:=by
 cases o with
 |none=>simp at h
 |some n=>exact hk n rfl h
theorem Cg {α :Type} {o:Option (List UInt8)} {f:List UInt8→Option α} {r: α} (h:o.bind f=some r) (hk: ∀n,o=some n→f n=some r→K (.str n) H):cz (o.map .str) H K:=by
 cases o with
 |none=>simp at h
 |some n=>exact hk n rfl h
theorem tX (op:UnOp) (x:Operand):aU (aw C) C q th (.unOp op t x) s H K=cz (iY op (ev s x)) H K:=by
 rw [dg _ rfl];simp only [aP];generalize iY op (ev s x)=r;cases r<;>rfl
theorem tY:iY .not (.bool c)=some (.bool !c):=rfl
theorem tZ:iY .neg (.int k a)=some (.int k (k.wrap (0-a))):=rfl
def nn (c:AV) (x y:AV) (H:J) (K:AV→J→Prop):Prop:=match c with| .bool t=>K (if t then x else y) H|_=>False
theorem t_ (x y z:Operand):aU (aw C) C q th (.pick x y z) s H K=nn (ev s x) (ev s y) (ev s z) H K:=by
 rw [dg _ rfl];simp only [aP];generalize ev s x=r;cases r<;>rfl
theorem ua (x y:AV):nn (.bool true) x y H K=K x H:=rfl
theorem ub (x y:AV):nn (.bool false) x y H K=K y H:=rfl
theorem uc (p:Bool):nn (.bool p) (.bool c) (.bool d) H K=K (.bool (if p then c else d)) H:=by cases p<;>rfl
def pP (x:AV) (i:Nat) (H:J) (K:AV→J→Prop):Prop:=match x with| .aA vs=>cz vs[i]? H K|_=>False
theorem ud (x:Operand) (i:Nat):aU (aw C) C q th (.extract x i) s H K=pP (ev s x) i H K:=by
 rw [dg _ rfl];simp only [aP,pP];generalize ev s x=r;cases r<;>first|rfl|(simp only;rename_i vs;cases vs[i]? <;>rfl)
theorem uf (vs:List AV) (i:Nat):pP (.aA vs) i H K=cz vs[i]? H K:=rfl
def np (ti:TI) (x:Option AV) (off:Nat) (H:J) (K:AV→J→Prop):Prop:=match x with|some y=>cz (bS ti y off) H K|none=>False
def nq (ti:TI) (b:Option bG) (idx off:Nat) (H:J) (K:AV→J→Prop):Prop:=match b with|some b=>np ti b.el[idx]? off H K|none=>False
def nr (ti:Option TI) (x:AV) (H:J) (K:AV→J→Prop):Prop:=
 match ti with
 |some ti=>match x with
  | .fe y off=>cz (bS ti y off) H K
  | .ptr id ad idx off=>nq ti (H.aq id ad) idx off H K
  |_=>False
 |none=>False
theorem ug (x:Operand):aU (aw C) C q th (.load t x) s H K=nr (C.E t) (ev s x) H K:=by
 rw [dg _ rfl];simp only [aP,nr];cases C.E t with
 |none=>rfl
 |some ti=>
  simp only;generalize ev s x=r;cases r<;>first|rfl|skip
  ·rename_i id ad idx off;simp only [nq];cases H.aq id ad with
   |none=>rfl
   |some b=>
    simp only [np];cases b.el[idx]? with
    |none=>rfl
    |some y=>simp only;generalize bS ti y off=z;cases z<;>rfl
  ·rename_i y off;simp only;generalize bS ti y off=z;cases z<;>rfl
theorem uh (ti:TI) (y:AV) (off:Nat):nr (some ti) (.fe y off) H K=cz (bS ti y off) H K:=rfl
theorem ui (ti:TI) (id ad idx off:Nat):nr (some ti) (.ptr id ad idx off) H K=nq ti (H.aq id ad) idx off H K:=rfl
theorem uj (ti:TI) (b:bG) (idx off:Nat):nq ti (some b) idx off H K=np ti b.el[idx]? off H K:=rfl
theorem uk (ti:TI) (y:AV) (off:Nat):np ti (some y) off H K=cz (bS ti y off) H K:=rfl
def lK (E:aF) (t:TypeId) (f:Nat):Option (Nat×TI):=match E t with
 |some ti=>match ti.au with
  | .st fs=>match fs[f]? with
   |some (o,ft)=>match E ft with
    |some tf=>some (o,tf)
    |none=>none
   |none=>none
  |_=>none
 |none=>none
def iT (p:Option (Nat×TI)) (x:AV) (H:J) (K:AV→J→Prop):Prop:=match p with
 |some (o,tf)=>if tf.sz=0 then False else match x with
  | .ptr id ad idx off=>match H.aq id ad with
   |some _=>K (.ptr id ad idx (off+o)) H
   |none=>False
  | .fe y off=>K (.fe y (off+o)) H
  |_=>False
 |none=>False
theorem ul (x:Operand) (f:Nat):aU (aw C) C q th (.fieldAddr t x f) s H K=iT (lK C.E t f) (ev s x) H K:=by
 rw [dg _ rfl];simp only [aP,iT,lK];cases C.E t with
 |none=>rfl
 |some ti=>
  simp only;cases ti.au<;>try rfl
  rename_i fs;simp only;cases fs[f]? with
  |none=>rfl
  |some p=>
   obtain ⟨o,ft⟩:=p;simp only;cases C.E ft with
   |none=>rfl
   |some tf=>
    simp only;split
    ·rfl
    ·generalize ev s x=r;cases r<;>try rfl
     rename_i id ad idx off;simp only;cases H.aq id ad<;>rfl
theorem zO (o:Nat) (tf:TI) (h:(tf.sz==0)=false) (y:AV) (off:Nat):iT (some (o,tf)) (.fe y off) H K=K (.fe y (off+o)) H:=by
 simp at h;simp [iT,h]
theorem zP (o:Nat) (tf:TI) (h:(tf.sz==0)=false) (id ad idx off:Nat):iT (some (o,tf)) (.ptr id ad idx off) H K=(match H.aq id ad with|some _=>K (.ptr id ad idx (off+o)) H|none=>False):=by
 simp at h;simp [iT,h]
def pQ (p:Option (Nat×TI)) (x:AV) (H:J) (K:AV→J→Prop):Prop:=match x with
 | .agg cs=>(match p with|some (o,tf)=>cz (bS tf (.agg cs) o) H K|none=>False)
 |_=>False
theorem um (x:Operand) (f:Nat):aU (aw C) C q th (.field t x f) s H K=pQ (lK C.E t f) (ev s x) H K:=by
 rw [dg _ rfl];simp only [aP,pQ,lK];cases C.E t with
 |none=>simp only;generalize ev s x=r;cases r<;>rfl
 |some ti=>
  simp only;generalize ev s x=r;cases r
  case agg cs=>
   simp only;cases ti.au<;>try rfl
   rename_i fs;simp only;cases fs[f]? with
   |none=>rfl
   |some p=>
    obtain ⟨o,ft⟩:=p;simp only;cases C.E ft with
    |none=>rfl
    |some tf=>simp only;generalize bS tf (.agg cs) o=z;cases z<;>rfl
  all_goals rfl
theorem uo (o:Nat) (tf:TI) (cs:List AV):pQ (some (o,tf)) (.agg cs) H K=cz (bS tf (.agg cs) o) H K:=rfl
theorem uq (x:Operand):aU (aw C) C q th (.call {callee:= .builtin .len,args:= #[x],argTypes:= #[t]}) s H K=cq (cj C.E .len #[t] [ev s x] H) K:=by
 unfold aU wpOp;simp only [eM,implies_true,true_and];rfl
def cS (ti:Option TI) (x:AV) (n:Option Nat) (H:J) (K:AV→J→Prop):Prop:=match ti,n with
 |some ti,some n=>match ti.au,x with
  | .str,.str _=>K (.int .i64 n) H
  | .sl _,.str _=>False
  | .sl _,_=>K (.int .i64 n) H
  |_,_=>False
 |_,_=>False
theorem ur (E:aF) (t:TypeId) (x:AV):cq (cj E .len #[t] [x] H) K=cS (E t) x (lenOf H x) H K:=by
 simp only [cj,cS];have:(#[t]:Array TypeId)[0]?.bind E=E t:=rfl;rw [this];cases E t with
 |none=>rfl
 |some ti=>
  obtain ⟨sz,agg,z,nt,au,eq⟩:=ti;cases lenOf H x with
  |none=>rfl
  |some n=>cases au<;>cases x<;>rfl
theorem uu (xs:Array Operand) (tys:Array TypeId):aU (aw C) C q th (.call {callee:= .builtin .min,args:=xs,argTypes:=tys}) s H K=cz (jP (xs.toList.map (ev s))) H K:=by
 unfold aU wpOp;simp only [eM,implies_true,true_and,cj];generalize jP _=r;cases r<;>rfl
theorem uv (xs:Array Operand) (tys:Array TypeId):aU (aw C) C q th (.call {callee:= .builtin .max,args:=xs,argTypes:=tys}) s H K=cz (jQ (xs.toList.map (ev s))) H K:=by
 unfold aU wpOp;simp only [eM,implies_true,true_and,cj];generalize jQ _=r;cases r<;>rfl
theorem min2:jP [.int k a,.int k b]=some (.int k (if b<a then b else a)):=rfl
theorem max2:jQ [.int k a,.int k b]=some (.int k (if b>a then b else a)):=rfl
end
end Go.VS
namespace Go.VS
structure It where
 v:AV
 sz:Nat
 el:List AV
def bY:AV→Option Nat
 | .ref id _ _ _=>some id
 | .ptr id _ _ _=>some id
 |_=>none
def fv (H:J) (it:It):Prop:=bm it.sz it.el=true∧match it.v with
 | .nil=>it.el=[]
 | .e0=>it.el=[]
 | .ref id ad off len=>len=it.el.length∧ ∃b,H.aq id ad=some b∧b.sz=it.sz∧b.fix=false∧off+len≤b.el.length∧aH b.el off len=it.el
 | .ptr id ad idx off=>idx=0∧off=0∧it.el.length=1∧H.aq id ad=some ⟨ad,it.sz,false,it.el⟩
 |_=>False
structure ap (H:J) (L:List It):Prop where
 ok: ∀(i:Nat) (it:It),L[i]? =some it→fv H it
 b_: ∀(i j:Nat) (a b:It) (id:Nat),L[i]? =some a→L[j]? =some b→bY a.v=some id→bY b.v=some id→i=j
theorem fv.lt {H:J} {it:It} (h:fv H it) {id:Nat} (hi:bY it.v=some id):id<H.bs.length:=by
 obtain ⟨_,h⟩:=h;cases hv:it.v with
 |ref i ad off len=>
  rw [hv] at h hi;simp only [bY,Option.some.injEq] at hi;subst hi;obtain ⟨_,b,hb,_⟩:=h;exact J.fZ (J.bj hb).1
 |ptr i ad ix off=>
  rw [hv] at h hi;simp only [bY,Option.some.injEq] at hi;subst hi;obtain ⟨_,_,_,hb⟩:=h;exact J.fZ (J.bj hb).1
 |_=>rw [hv] at hi;simp [bY] at hi
theorem fv.frame {H H' :J} {it:It} (h:fv H it) (hk: ∀id ad,bY it.v=some id→H'.aq id ad=H.aq id ad):fv H' it:=by
 obtain ⟨h0,h⟩:=h;refine ⟨h0,?_⟩;cases hv:it.v with
 |ref i ad off len=>
  rw [hv] at h hk;obtain ⟨h1,b,hb,h2⟩:=h;exact ⟨h1,b,by rw [hk i ad rfl];exact hb,h2⟩
 |ptr i ad ix off=>
  rw [hv] at h hk;obtain ⟨h1,h2,h3,hb⟩:=h;exact ⟨h1,h2,h3,by rw [hk i ad rfl];exact hb⟩
 |_=>rw [hv] at h;exact h
theorem ap.tl {H:J} {a:It} {L:List It} (h:ap H (a::L)):ap H L:=
 ⟨fun i it hi=>h.ok (i+1) it hi,fun i j x y id h1 h2 h3 h4=>by have:=h.b_ (i+1) (j+1) x y id h1 h2 h3 h4;omega⟩
theorem ap.nil (H:J):ap H []:=⟨by simp,by simp⟩
theorem ap.bg {H H' :J} {L:List It} (h:ap H L) {j:Nat} {it jC:It} (hj:L[j]? =some it) {i:Nat} (hi:bY it.v=some i) (hk: ∀id ad,id≠i→id<H.bs.length→H'.aq id ad=H.aq id ad) (hn:fv H' jC) (bU: ∀k,bY jC.v=some k→k=i):ap H' (L.set j jC):=by
 have ax:j<L.length:=(List.getElem?_eq_some_iff.1 hj).1;refine ⟨fun k a bJ=> ?_,fun k l a b id h1 h2 h3 h4=> ?_⟩
 ·rw [List.getElem?_set] at bJ;split at bJ
  ·simp only [Option.some.injEq] at bJ;subst bJ;exact hn
  ·rename_i aI;have ho:=h.ok k a bJ;refine ho.frame fun id ad uw=>hk id ad (fun e=> ?_) (ho.lt uw)
   subst e;exact aI (h.b_ j k it a id hj bJ hi uw)
 ·rw [List.getElem?_set] at h1 h2;split at h1
  ·rename_i e1;subst e1;simp only [Option.some.injEq] at h1;subst h1;split at h2
   ·rename_i e2;exact e2
   ·have:=bU id h3;subst this;exact h.b_ j l it b id hj h2 hi h4
  ·split at h2
   ·rename_i e2;subst e2;simp only [Option.some.injEq] at h2;subst h2;have:=bU id h4;subst this;exact h.b_ k j a it id h1 hj h3 hi
   ·exact h.b_ k l a b id h1 h2 h3 h4
theorem ap.new {H H' :J} {L:List It} (h:ap H L) (hk: ∀id ad,id<H.bs.length→H'.aq id ad=H.aq id ad) {it:It} (hn:fv H' it) (bU: ∀k,bY it.v=some k→H.bs.length≤k):ap H' (it::L):=by
 refine ⟨fun k a bJ=> ?_,fun k l a b id h1 h2 h3 h4=> ?_⟩
 ·cases k with
  |zero=>simp at bJ;subst bJ;exact hn
  |succ k=>have ho:=h.ok k a (by simpa using bJ);exact ho.frame fun id ad hi=>hk id ad (ho.lt hi)
 ·cases k with
  |zero=>
   simp at h1;subst h1;cases l with
   |zero=>rfl
   |succ l=>
    have:=(h.ok l b (by simpa using h2)).lt h4
    have:=bU id h3;omega
  |succ k=>
   cases l with
   |zero=>
    simp at h2;subst h2;have:=(h.ok k a (by simpa using h1)).lt h3
    have:=bU id h4;omega
   |succ l=>have:=h.b_ k l a b id (by simpa using h1) (by simpa using h2) h3 h4;omega
theorem ap.ux {H H' :J} {L:List It} (h:ap H L) (hk: ∀id ad,id<H.bs.length→H'.aq id ad=H.aq id ad) {j:Nat} {jC:It} (hn:fv H' jC) (bU: ∀k,bY jC.v=some k→H.bs.length≤k):ap H' (L.set j jC):=by
 refine ⟨fun k a bJ=> ?_,fun k l a b id h1 h2 h3 h4=> ?_⟩
 ·rw [List.getElem?_set] at bJ;split at bJ
  ·split at bJ
   ·simp only [Option.some.injEq] at bJ;subst bJ;exact hn
   ·simp at bJ
  ·have ho:=h.ok k a bJ;exact ho.frame fun id ad hi=>hk id ad (ho.lt hi)
 ·rw [List.getElem?_set] at h1 h2;split at h1
  ·rename_i e1;subst e1;split at h1
   ·simp only [Option.some.injEq] at h1;subst h1;split at h2
    ·rename_i e2;exact e2
    ·have:=(h.ok l b h2).lt h4;have:=bU id h3;omega
   ·simp at h1
  ·split at h2
   ·rename_i e2;subst e2;split at h2
    ·simp only [Option.some.injEq] at h2;subst h2;have:=(h.ok k a h1).lt h3;have:=bU id h4;omega
    ·simp at h2
   ·exact h.b_ k l a b id h1 h2 h3 h4
theorem nu {H:J} {sz:Nat} {fx:Bool} {el:List AV} {id ad:Nat} (h:id<H.bs.length):(H.new sz fx el).aq id ad=H.aq id ad:=by
 simp only [J.aq,J.new,List.getElem?_append_left h]
theorem nv {H:J} {sz:Nat} {fx:Bool} {el:List AV}:(H.new sz fx el).aq H.bs.length H.st=some ⟨H.st,sz,fx,el⟩:=by
 simp [J.aq,J.new]
theorem ku {H:J} {i id ad:Nat} {b:bG} (h:id≠i):(H.bg i b).aq id ad=H.aq id ad:=by
 have h' : ¬i=id:=fun e=>h e.symm
 simp only [J.aq,J.bg,List.getElem?_set,if_neg h']
theorem jD {H:J} {id:Nat} {b:bG} (h:id<H.bs.length):(H.bg id b).aq id b.ad=some b:=by
 simp [J.aq,J.bg,h]
section
variable {C:aL} {th:Bool} {s:ah} {H:J} {K:AV→J→Prop} {L:List It}
theorem ap.iU (hS:ap H L) {sz n:Nat} {el all:List AV} (he:all.take n=el) (hn:n=el.length) (aC:bm sz el=true):ap (H.new sz false all) (⟨.ref H.bs.length H.st 0 n,sz,el⟩::L):=by
 refine hS.new (fun id ad h=>nu h) ⟨aC,hn,_,nv,rfl,rfl,?_,by simpa [aH] using he⟩ (fun k hk=>by simp [bY] at hk;omega)
 have:=congrArg List.length he;simp at this;simp only;omega
theorem ap.newVar (hS:ap H L) {sz:Nat} {a:AV} (aC:a.cells.length=sz):ap (H.new sz false [a]) (⟨.ptr H.bs.length H.st 0 0,sz,[a]⟩::L):=
 hS.new (fun id ad h=>nu h) ⟨by simp [bm,aC],rfl,rfl,rfl,nv⟩ (fun k hk=>by simp [bY] at hk;omega)
theorem ap.var (hS:ap H L) (j:Nat) {id ad sz:Nat} {a:AV} (hj:L[j]? =some ⟨.ptr id ad 0 0,sz,[a]⟩):H.aq id ad=some ⟨ad,sz,false,[a]⟩:=(hS.ok j _ hj).2.2.2.2
theorem Ch {t:TypeId} {x:Operand} {ti:TI} {a:AV} (hS:ap H L) (ht:C.E t=some ti) (hx:ev s x=a) (h1:a.cells.length=ti.sz) (h2:dC a=true)
 (h: ∀id ad H',ap H' (⟨.ptr id ad 0 0,ti.sz,[a]⟩::L)→K (.ptr id ad 0 0) H') {q:Bool}:aU (aw C) C q th (.box t x) s H K:=by
 rw [dg _ rfl];simp only [aP,ht,hx,h1,h2,and_self,if_true,cq];exact h _ _ _ (hS.newVar h1)
theorem pR {ti:TI} {z:AV} (h:dR ti=some z):z.cells.length=ti.sz:=by
 unfold dR at h;split at h
 ·rename_i hc;rcases kO h with ⟨_,rfl⟩|⟨_,hz⟩
  ·exact hc.2
  ·have:cU z=true:=by have:=hc.1;rw [hz] at this;simpa using this
   have hl:=hc.2;rw [hz] at hl;cases z<;>first|exact hl|simp [cU] at this
 ·simp at h
theorem uy {ti:TI} {z:AV} (h:fS ti=some z):z.cells.length=ti.sz:=by
 unfold fS at h;split at h
 ·rename_i z0 je;simp only [Option.some.injEq] at h;subst h;split
  ·rw [jY,List.length_map];exact pR je
  ·exact pR je
 ·simp at h
theorem Ci {t:TypeId} {ti:TI} {z:AV} (hS:ap H L) (ht:C.E t=some ti) (hz:dR ti=some z)
 (h: ∀id ad H',ap H' (⟨.ptr id ad 0 0,ti.sz,[z]⟩::L)→K (.ptr id ad 0 0) H') {q:Bool}:aU (aw C) C q th (.alloc t) s H K:=by
 rw [dg _ rfl];simp only [aP,ht,hz,cq];exact h _ _ _ (hS.newVar (pR hz))
theorem Cj {t:TypeId} {x v:Operand} {ti:TI} {id ad sz o:Nat} {y y' a:AV} (j:Nat) (hS:ap H L) (hj:L[j]? =some ⟨.ptr id ad 0 0,sz,[y]⟩) (ht:C.E t=some ti) (hx:ev s x= .ptr id ad 0 o) (hv:ev s v=a)
 (h1:a.cells.length=ti.sz) (h2:dC a=true) (hw:eY y o a=some y') (h3:y'.cells.length=sz) (h: ∀H',ap H' (L.set j ⟨.ptr id ad 0 0,sz,[y']⟩)→K (.aA []) H'):aU (aw C) C false th (.store t x v) s H K:=by
 rw [pO _ (by simp)]
 have hb:=hS.var j hj;simp only [aP,ht,hx,hv,hb,List.getElem?_cons_zero,h1,h2,and_self,if_true,hw,List.set_cons_zero,cq];refine h _ (hS.bg hj rfl (fun dH fo aI _=>ku aI) ⟨by simp [bm,h3],rfl,rfl,rfl,?_⟩ (fun k hk=>by simpa [bY] using hk.symm))
 exact jD ((hS.ok j _ hj).lt rfl)
end
def idx {α :Type} (l:List α) (i:Int):Option α :=if 0≤i then l[i.toNat]? else none
theorem Ck {α β :Type} (f: α → β) (l:List α) (i:Int):idx (l.map f) i=(idx l i).map f:=by
 unfold idx;split
 ·simp
 ·rfl
theorem gF {α :Type} {l:List α} {i:Int} {x: α} (h:idx l i=some x):0≤i∧i<l.length∧l[i.toNat]? =some x:=by
 unfold idx at h;split at h
 ·rename_i h0;have:=(List.getElem?_eq_some_iff.1 h).1;exact ⟨h0,by omega,h⟩
 ·simp at h
def Cl (E:aF) (t:TypeId):Option TI:=match E t with
 |some ti=>match ti.au with| .sl e=>E e|_=>none
 |none=>none
section
variable {C:aL} {q th:Bool} {s:ah} {H:J} {K:AV→J→Prop} {L:List It}
def lL (l:List UInt8) (n:Int) (H:J) (K:AV→J→Prop):Prop:=match idx l n with|some b=>K (.int .u8 b.toNat) H|none=>False
def kx (E:aF) (ti:Option TI) (x i:AV) (H:J) (K:AV→J→Prop):Prop:=match ti,i with
 |some ti,.int _ n=>match ti.au,x with
  | .str,.str l=>lL l n H K
  | .ar m e,.agg cs=>match E e with
   |some te=>if 0≤n∧n<m then cz (bS te (.agg cs) (n.toNat*te.sz)) H K else False
   |none=>False
  |_,_=>False
 |_,_=>False
theorem uz (t:TypeId) (x i:Operand):aU (aw C) C q th (.index t x i) s H K=kx C.E (C.E t) (ev s x) (ev s i) H K:=by
 rw [dg _ rfl];simp only [aP,kx];generalize ev s i=n;generalize ev s x=a;cases C.E t with
 |none=>rfl
 |some ti=>
  cases n
  case int k n=>
   simp only;cases ti.au<;>cases a<;>try rfl
   ·rename_i m e cs;simp only;cases C.E e with
    |none=>rfl
    |some te=>
     simp only;split
     ·generalize bS te (.agg cs) (n.toNat*te.sz)=z;cases z<;>rfl
     ·rfl
   ·rename_i l;simp only [lL,idx];split
    ·cases l[n.toNat]? <;>rfl
    ·rfl
  all_goals rfl
def lM:UD→Bool
 | .str=>true
 |_=>false
theorem uA:lM .str=true:=rfl
def jE:UD→Bool
 | .sl _=>true
 |_=>false
theorem uB (e:TypeId):jE (.sl e)=true:=rfl
theorem uC (E:aF) (ti:TI) (hu:lM ti.au=true) (l:List UInt8) (k:IntKind) (n:Int):kx E (some ti) (.str l) (.int k n) H K=lL l n H K:=by
 cases h:ti.au<;>rw [h] at hu<;>simp [lM] at hu
 simp only [kx,h]
theorem Cm (E:aF) (ti:TI) (m:Nat) (e:TypeId) (hu:ti.au= .ar m e) (cs:List AV) (k:IntKind) (n:Int):kx E (some ti) (.agg cs) (.int k n) H K=(match E e with|some te=>if 0≤n∧n<m then cz (bS te (.agg cs) (n.toNat*te.sz)) H K else False|none=>False):=by
 simp only [kx,hu]
theorem Cn {α :Type} {l:List UInt8} {n:Int} {f:UInt8→Option α} {r: α} (h:(idx l n).bind f=some r) (hk: ∀b,idx l n=some b→f b=some r→K (.int .u8 b.toNat) H):lL l n H K:=by
 unfold lL;cases hi:idx l n with
 |none=>rw [hi] at h;simp at h
 |some b=>rw [hi] at h;exact hk b hi h
def iz (E:aF) (t:TypeId) (x i:AV) (H:J) (K:AV→J→Prop):Prop:=cq (match E t,i with
 |some ti,.int _ n=>match ti.au with
  | .sl e=>match E e with
   |some te=>match x with
    | .fz xs=>if 0≤n then match xs[n.toNat]? with
     |some y=>if y.cells.length=te.sz then some (.fe y 0,H) else none
     |none=>none
     else none
    | .ref id ad off len=>match H.aq id ad with
     |some b=>if b.sz=te.sz∧0≤n∧n<len∧off+len≤b.el.length then some (.ptr id ad (off+n.toNat) 0,H) else none
     |none=>none
    |_=>none
   |none=>none
  | .ar m e=>match E e with
   |some te=>if 0≤n∧n<m then match x with
    | .ptr id ad idx off=>match H.aq id ad with
     |some _=>some (.ptr id ad idx (off+n.toNat*te.sz),H)
     |none=>none
    | .fe y off=>some (.fe y (off+n.toNat*te.sz),H)
    |_=>none
    else none
   |none=>none
  |_=>none
 |_,_=>none) K
theorem uD (t:TypeId) (x i:Operand):aU (aw C) C q th (.indexAddr t x i) s H K=iz C.E t (ev s x) (ev s i) H K:=by
 rw [dg _ rfl];rfl
theorem Co {α β :Type} {E:aF} {t:TypeId} {ti te:TI} {e:TypeId} (ht:E t=some ti) (hu:ti.au= .sl e) (he:E e=some te) {l:List α} {c: α →AV} (hc: ∀x,(c x).cells.length=te.sz) {k:IntKind} {n:Int} {f: α →Option β} {r: β} (h:(idx l n).bind f=some r)
 (hk: ∀x,idx l n=some x→f x=some r→K (.fe (c x) 0) H):iz E t (.fz (l.map c)) (.int k n) H K:=by
 cases hi:idx l n with
 |none=>rw [hi] at h;simp at h
 |some x=>
  rw [hi] at h;obtain ⟨h0,_,h1⟩:=gF hi;simp only [iz,ht,hu,he,h0,if_true,List.getElem?_map,h1,Option.map_some,hc,cq];exact hk x hi h
theorem Cp {α β :Type} {E:aF} {t:TypeId} {ti te:TI} {e:TypeId} (j:Nat) (hS:ap H L) {v:AV} {l:List α} {c: α →AV} {sz:Nat} (hj:L[j]? =some ⟨v,sz,l.map c⟩) (ht:E t=some ti) (hu:ti.au= .sl e) (he:E e=some te) (aC:sz=te.sz) {k:IntKind} {n:Int} {f: α →Option β} {r: β}
 (h:(idx l n).bind f=some r) (hk: ∀x id ad off,idx l n=some x→f x=some r→v= .ref id ad off l.length→K (.ptr id ad (off+n.toNat) 0) H) (hp: ∀id ad,v≠ .ptr id ad 0 0):iz E t v (.int k n) H K:=by
 cases hi:idx l n with
 |none=>rw [hi] at h;simp at h
 |some x=>
  rw [hi] at h;obtain ⟨h0,h2,h1⟩:=gF hi;have af:=(hS.ok j _ hj).2;simp only at af;have aI:l.map c≠[]:=by intro e;rw [List.map_eq_nil_iff] at e;subst e;simp at h1
  split at af
  ·exact absurd af aI
  ·exact absurd af aI
  ·rename_i id ad off len;obtain ⟨h3,b,hb,h4,_,h5,h6⟩:=af;simp only [List.length_map] at h3;subst h3;simp only [iz,ht,hu,he,hb];rw [if_pos ⟨by rw [h4,aC],h0,h2,h5⟩]
   exact hk x id ad off hi h rfl
  ·rename_i id ad ix off;obtain ⟨rfl,rfl,_⟩:=af;exact absurd rfl (hp id ad)
  ·exact af.elim
theorem ap.elem {α :Type} (hS:ap H L) (j:Nat) {id ad off n sz:Nat} {v:AV} {l:List α} {c: α →AV} (hj:L[j]? =some ⟨v,sz,l.map c⟩) (hv:v= .ref id ad off n) {i:Int} {x: α} (hx:idx l i=some x): ∃b,H.aq id ad=some b∧b.el[off+i.toNat]? =some (c x):=by
 obtain ⟨h0,h2,h1⟩:=gF hx;subst hv;obtain ⟨_,h3,b,hb,h4,_,h5,h6⟩:=hS.ok j _ hj;refine ⟨b,hb,?_⟩;simp only at h3 h6;have:=congrArg (·[i.toNat]?) h6;simp only [List.getElem?_map,h1,Option.map_some,aH] at this;rw [←this,List.getElem?_take,List.getElem?_drop,if_pos (by simp at h3;omega)]
theorem Cq {α :Type} {t:TypeId} {x w:Operand} {ti:TI} {id ad off n sz o:Nat} {v a:AV} {l:List α} {c: α →AV} {i:Int} {y y' : α} (j:Nat) (hS:ap H L) (hj:L[j]? =some ⟨v,sz,l.map c⟩) (hv:v= .ref id ad off n) (hi:idx l i=some y) (ht:C.E t=some ti) (hx:ev s x= .ptr id ad (off+i.toNat) o) (hw:ev s w=a)
 (h1:a.cells.length=ti.sz) (h2:dC a=true) (hr:eY (c y) o a=some (c y')) (h3:(c y').cells.length=sz) (h: ∀H',ap H' (L.set j ⟨v,sz,(l.set i.toNat y').map c⟩)→K (.aA []) H'):aU (aw C) C false th (.store t x w) s H K:=by
 rw [pO _ (by simp)]
 obtain ⟨b,hb,he⟩:=hS.elem j hj hv hi;simp only [aP,ht,hx,hw,hb,he,h1,h2,and_self,if_true,hr,cq];subst hv;obtain ⟨k0,k1,b',ay,k2,k3,k4,k5⟩:=hS.ok j _ hj;rw [hb] at ay;simp only [Option.some.injEq] at ay;subst ay;simp only at k1 k5;obtain ⟨i0,i1,i2⟩:=gF hi;have bz:=(J.bj hb).2;refine h _ (hS.bg hj rfl (fun dH fo aI _=>ku aI) ⟨?_,by simpa using k1,{b with el:=b.el.set (off+i.toNat) (c y')},?_,k2,k3,by simpa using k4,?_⟩ (fun k hk=>by simpa [bY] using hk.symm))
 ·simp only [bm,List.all_eq_true,List.mem_map] at k0⊢;rintro z ⟨z',hz,rfl⟩;rcases List.mem_or_eq_of_mem_set hz with h' |rfl
  ·exact k0 _ ⟨z',h',rfl⟩
  ·simpa using h3
 ·have:=jD (b:={b with el:=b.el.set (off+i.toNat) (c y')}) ((hS.ok j _ hj).lt rfl);simpa only [bz] using this
 ·simp only [aH,List.map_set] at k5⊢;rw [←k5,List.drop_set,if_neg (by omega),List.take_set]
  congr 1;omega
end
end Go.VS
namespace Go.VS
structure aJ (v:AV):Prop where
 ok:v= .nil∨v= .e0∨ ∃id ad off len,v= .ref id ad off len
theorem eW (id ad off len:Nat):aJ (.ref id ad off len):=⟨.inr (.inr ⟨id,ad,off,len,rfl⟩)⟩
theorem lN:aJ .nil:=⟨.inl rfl⟩
theorem nw:aJ .e0:=⟨.inr (.inl rfl)⟩
theorem aJ.ne {v:AV} (h:aJ v) (id ad:Nat):v≠ .ptr id ad 0 0:=by
 rcases h.ok with rfl|rfl|⟨_,_,_,_,rfl⟩<;>simp
theorem aJ.cells {v:AV} (h:aJ v):v.cells=[v]:=by
 rcases h.ok with rfl|rfl|⟨_,_,_,_,rfl⟩<;>rfl
theorem aJ.qk {v:AV} (h:aJ v):cU v=true:=by
 rcases h.ok with rfl|rfl|⟨_,_,_,_,rfl⟩<;>rfl
theorem aJ.Cr {v:AV} (h:aJ v):dC v=true:=by
 rcases h.ok with rfl|rfl|⟨_,_,_,_,rfl⟩<;>rfl
theorem aJ.rd {v:AV} (h:aJ v) (z:List AV) (b:Nat) (w:UD) (e:Bool):bS ⟨1,false,z,b,w,e⟩ v 0=some v:=by
 rcases h.ok with rfl|rfl|⟨_,_,_,_,rfl⟩<;>rfl
theorem aJ.same {v:AV} (h:aJ v):e8 v v=true:=by
 rcases h.ok with rfl|rfl|⟨_,_,_,_,rfl⟩<;>simp [e8]
theorem aJ.wr {v:AV} (h:aJ v) (cs:List AV) (o:Nat) (ho:o<cs.length):eY (.agg cs) o v=some (.agg (cs.set o v)):=by
 simp only [eY,h.cells,List.length_cons,List.length_nil];rw [if_pos (by omega)]
 simp only [splice,List.length_cons,List.length_nil,List.append_assoc,List.cons_append,List.nil_append,Option.some.injEq,AV.agg.injEq];rw [List.set_eq_take_append_cons_drop,if_pos ho]
section
variable {C:aL} {q th:Bool} {s:ah} {H:J} {K:AV→J→Prop} {L:List It}
theorem ap.len (hS:ap H L) (j:Nat) {v:AV} {sz:Nat} {el:List AV} (hj:L[j]? =some ⟨v,sz,el⟩) (hp:aJ v):lenOf H v=some el.length:=by
 have af:=(hS.ok j _ hj).2;simp only at af;split at af
 ·subst af;rfl
 ·subst af;rfl
 ·rename_i id ad off len;obtain ⟨h3,b,hb,_⟩:=af;simp only [lenOf,h3]
 ·rename_i id ad ix off;obtain ⟨rfl,rfl,_⟩:=af;exact absurd rfl (hp.ne id ad)
 ·exact af.elim
theorem ap.gZ (hS:ap H L) (j:Nat) {v:AV} {sz:Nat} {el:List AV} (hj:L[j]? =some ⟨v,sz,el⟩) (hp:aJ v):b6 H v=some el:=by
 have af:=(hS.ok j _ hj).2;simp only at af;split at af
 ·subst af;rfl
 ·subst af;rfl
 ·rename_i id ad off len;obtain ⟨h3,b,hb,_,_,h5,h6⟩:=af;simp only [b6,hb,h5,if_true,h6]
 ·rename_i id ad ix off;obtain ⟨rfl,rfl,_⟩:=af;exact absurd rfl (hp.ne id ad)
 ·exact af.elim
theorem ap.zQ (hS:ap H L) (j:Nat) {v:AV} {sz:Nat} {el:List AV} (hj:L[j]? =some ⟨v,sz,el⟩) (l:List UInt8):v≠ .str l:=by
 rintro rfl;exact (hS.ok j _ hj).2
theorem uE (j:Nat) (hS:ap H L) {v:AV} {sz:Nat} {el:List AV} (hj:L[j]? =some ⟨v,sz,el⟩) (hp:aJ v) {ti:TI} {e:TypeId} (hu:ti.au= .sl e) (h:K (.int .i64 el.length) H):cS (some ti) v (lenOf H v) H K:=by
 rw [hS.len j hj hp];have hn:=hS.zQ j hj;simp only [cS,hu];cases v with
 |str l=>exact absurd rfl (hn l)
 |_=>exact h
theorem uF (xs:List AV):lenOf H (.fz xs)=some xs.length:=rfl
theorem uG (l:List UInt8):lenOf H (.str l)=some l.length:=rfl
theorem uH:lenOf H .nil=some 0:=rfl
theorem uI:lenOf H .e0=some 0:=rfl
theorem zR (ti:TI) {e:TypeId} (hu:ti.au= .sl e) (xs:List AV) (n:Nat):cS (some ti) (.fz xs) (some n) H K=K (.int .i64 n) H:=by simp [cS,hu]
theorem zS (ti:TI) {e:TypeId} (hu:ti.au= .sl e) (n:Nat):cS (some ti) .nil (some n) H K=K (.int .i64 n) H:=by simp [cS,hu]
theorem zT (ti:TI) {e:TypeId} (hu:ti.au= .sl e) (n:Nat):cS (some ti) .e0 (some n) H K=K (.int .i64 n) H:=by simp [cS,hu]
theorem zU (ti:TI) (hu:ti.au= .str) (l:List UInt8) (n:Nat):cS (some ti) (.str l) (some n) H K=K (.int .i64 n) H:=by simp [cS,hu]
theorem zV {α β :Type} {t:TypeId} {x y:Operand} {te:TI} {z:AV} {n:Int} {c: α →AV} {d: α} {f:List α →Option β} {r: β} (hS:ap H L) (ht:cd C.E t=some te) (hx:ev s x= .int .i64 n) (hy:ev s y= .int .i64 n) (hz:fS te=some z) (hd:c d=z) (h0:te.sz≠0)
 (hh:(if 0≤n∧roomy n.toNat te.bytes then some (List.replicate n.toNat d) else none:Option (List α)).bind f=some r)
 (h: ∀v H',aJ v→0≤n→roomy n.toNat te.bytes=true→f (List.replicate n.toNat d)=some r→ap H' (⟨v,te.sz,(List.replicate n.toNat d).map c⟩::L)→K v H'):aU (aw C) C q th (.makeSlice t x y) s H K:=by
 rw [dg _ rfl];split at hh
 ·rename_i hc;simp only [aP,ht,hx,hy,hz];rw [if_pos ⟨hc.1,Int.le_refl _,hc.2,h0⟩];refine h _ _ (eW ..) hc.1 hc.2 hh (hS.iU (by simp [hd]) (by simp) ?_)
  simp only [bm,List.map_replicate,List.all_replicate,hd,uy hz];simp
 ·simp at hh
theorem Cs {t:TypeId} {ps:Array (Nat×Operand)} {te:TI} (ht:cd C.E t=some te) (hp:ps.size=0) (h:K .e0 H):aU (aw C) C q th (.buildSlice t 0 ps) s H K:=by
 rw [dg _ rfl];simp only [aP,ht,hp,if_true];exact h
theorem Ct {t:TypeId} {n:Nat} {ps:Array (Nat×Operand)} {te:TI} {z:AV} {el:List AV} (hS:ap H L) (ht:cd C.E t=some te) (hz:dR te=some z) (hn:(n==0)=false) (hb:(decide (n*te.sz≤1000000)&&te.sz !=0)=true)
 (he:hI te.sz (List.replicate n z) (ps.toList.map fun p=>(p.1,ev s p.2))=some el) (hl:el.length=n) (aC:bm te.sz el=true) (h: ∀v H',aJ v→ap H' (⟨v,te.sz,el⟩::L)→K v H'):aU (aw C) C q th (.buildSlice t n ps) s H K:=by
 rw [dg _ rfl];simp at hn hb;simp only [aP,ht,if_neg hn,hz];rw [if_pos hb];simp only [he];exact h _ _ (eW ..) (hS.iU (by rw [←hl];simp) hl.symm aC)
theorem uJ {sz:Nat} {a b:List AV} (ha:bm sz a=true) (hb:bm sz b=true):bm sz (a ++ b)=true:=by
 unfold bm at*;rw [List.all_append,ha,hb];rfl
theorem pS (hS:ap H L) (j:Nat) {te:TI} {v x:AV} {el xs:List AV} (hj:L[j]? =some ⟨v,te.sz,el⟩) (hp:aJ v) (hx:b6 H x=some xs) (aC:bm te.sz xs=true) (h0:te.sz≠0) (hr:roomy (el.length+xs.length) te.bytes=true):
 ∃v' H',dS te v x H=some (v',H')∧aJ v' ∧ap H' (L.set j ⟨v',te.sz,el ++ xs⟩):=by
 have af:=hS.ok j _ hj;obtain ⟨k0,af⟩:=af;have fj: ∀it:It,L[j]? =some it→L.set j it=L:=fun it h=>List.ext_getElem? fun k=>by
  rw [List.getElem?_set];split
  ·rename_i e;subst e;have:=(List.getElem?_eq_some_iff.1 h).1;simp only [this,if_true];exact h.symm
  ·rfl
 simp only [dS,hx,aC,Bool.not_true,if_neg h0];simp only at af k0;split at af
 ·subst af;by_cases hn:xs.length=0
  ·have:xs=[]:=List.eq_nil_of_length_eq_zero hn;subst this;refine ⟨.nil,H,by simp,lN,?_⟩
   rw [List.append_nil,fj _ hj];exact hS
  ·have bN:roomy xs.length te.bytes=true:=by simpa using hr
   refine ⟨.ref H.bs.length H.st 0 xs.length,H.new te.sz false xs,by simp [hn,bN],eW ..,?_⟩
   exact hS.ux (fun id ad h=>nu h) ⟨by simpa using aC,by simp,_,nv,rfl,rfl,by simp,by simp [aH]⟩ (fun k hk=>by simp [bY] at hk;omega)
 ·subst af;by_cases hn:xs.length=0
  ·have:xs=[]:=List.eq_nil_of_length_eq_zero hn;subst this;refine ⟨.e0,H,by simp,nw,?_⟩
   rw [List.append_nil,fj _ hj];exact hS
  ·have bN:roomy xs.length te.bytes=true:=by simpa using hr
   refine ⟨.ref H.bs.length H.st 0 xs.length,H.new te.sz false xs,by simp [hn,bN],eW ..,?_⟩
   exact hS.ux (fun id ad h=>nu h) ⟨by simpa using aC,by simp,_,nv,rfl,rfl,by simp,by simp [aH]⟩ (fun k hk=>by simp [bY] at hk;omega)
 ·rename_i id ad off len;obtain ⟨k1,b,hb,k2,k3,k4,k5⟩:=af;have ax:=(hS.ok j _ hj).lt rfl;have bz:=(J.bj hb).2;subst k1;by_cases cp:off+el.length+xs.length≤b.el.length
  ·refine ⟨.ref id ad off (el.length+xs.length),H.bg id {b with el:=splice b.el (off+el.length) xs},by simp [hb,k2,cp],eW ..,?_⟩
   refine hS.bg hj rfl (fun dH fo aI _=>ku aI) ⟨uJ k0 aC,by simp,{b with el:=splice b.el (off+el.length) xs},?_,k2,k3,?_,?_⟩ (fun k hk=>by simpa [bY] using hk.symm)
   ·have:=jD (b:={b with el:=splice b.el (off+el.length) xs}) ax;simpa only [bz] using this
   ·simp only [jc _ _ _ cp];omega
   ·simp only [aH] at k5⊢;have e1:(splice b.el (off+el.length) xs).drop off=el ++ (xs ++ b.el.drop (off+el.length+xs.length)):=by
     unfold splice;rw [List.append_assoc,List.drop_append_of_le_length (by simp;omega)]
     congr 1;rw [List.drop_take];have:off+el.length-off=el.length:=by omega
     rw [this,k5]
    rw [e1,←List.append_assoc,List.take_append_of_le_length (by simp),List.take_of_length_le (by simp)]
  ·refine ⟨.ref id H.st 0 (el.length+xs.length),⟨H.st+1,H.bs.set id (some ⟨H.st,b.sz,false,aH b.el off el.length ++ xs⟩)⟩,by simp [hb,k2,cp,k3,k4,hr],eW ..,?_⟩
   refine hS.bg hj rfl (fun dH fo aI _=> ?_) ⟨uJ k0 aC,by simp,⟨H.st,te.sz,false,el ++ xs⟩,?_,rfl,rfl,by simp,by simp only [aH,List.drop_zero];exact List.take_of_length_le (by simp)⟩ (fun k hk=>by simpa [bY] using hk.symm)
   ·have h' : ¬id=dH:=fun e=>aI e.symm
    simp only [J.aq,List.getElem?_set,if_neg h']
   ·simp only [J.aq,List.getElem?_set,ax,if_true,k2,aH] at k5⊢;rw [k5]
 ·rename_i id ad ix off;obtain ⟨rfl,rfl,_⟩:=af;exact absurd rfl (hp.ne id ad)
 ·exact af.elim
def app {α :Type} (nt:Nat) (l m:List α):Option (List α):=if roomy (l.length+m.length) nt then some (l ++ m) else none
theorem uK (a b:Operand) (t u:TypeId):aU (aw C) C false th (.call {callee:= .builtin .append,args:= #[a,b],argTypes:= #[t,u]}) s H K=cq (cj C.E .append #[t,u] [ev s a,ev s b] H) K:=by
 unfold aU wpOp;simp only [Bool.false_eq_true,false_implies,true_and];rfl
theorem zW {α β :Type} {E:aF} {t u:TypeId} {te tu:TI} {e:TypeId} {v x:AV} {l m:List α} {c: α →AV} {f:List α →Option β} {r: β} (j:Nat) (hS:ap H L) (hj:L[j]? =some ⟨v,te.sz,l.map c⟩) (hp:aJ v) (ht:cd E t=some te) (hu:E u=some tu) (hi:tu.au= .sl e)
 (hx:b6 H x=some (m.map c)) (aC:bm te.sz (m.map c)=true) (h0:(te.sz==0)=false) (hh:(app te.bytes l m).bind f=some r) (h: ∀v' H',aJ v' →app te.bytes l m=some (l ++ m)→f (l ++ m)=some r→ap H' (L.set j ⟨v',te.sz,(l ++ m).map c⟩)→K v' H'):
 cq (cj E .append #[t,u] [v,x] H) K:=by
 cases hr:app te.bytes l m with
 |none=>rw [hr] at hh;simp at hh
 |some lm=>
  have bN:=hr
  unfold app at hr;split at hr
  ·rename_i iI;simp only [Option.some.injEq] at hr;subst hr;rw [bN] at hh;obtain ⟨v',H',h1,h2,h3⟩:=pS hS j hj hp hx aC (by simpa using h0) (by simpa using iI)
   have e1:(#[t,u]:Array TypeId)[0]? =some t:=rfl;have e2:((#[t,u]:Array TypeId)[1]?).bind E=E u:=rfl;simp only [cj,e1,e2,ht,hu,hi,h1,cq];exact h v' H' h2 bN hh (by rw [List.map_append];exact h3)
  ·simp at hr
def ky (C:aL) (q th:Bool) (f:AV) (args:List AV) (H:J) (K:AV→J→Prop):Prop:=
 match f with
 | .fn g bO=>if q then dF (aw C) C g (args ++ bO) th H K else aw C g (args ++ bO) H K∨dF (aw C) C g (args ++ bO) th H K
 |_=>False
theorem uL (f:Operand) (args:Array Operand) (tys:Array TypeId):aU (aw C) C q th (.call {callee:= .value f,args,argTypes:=tys}) s H K=ky C q th (ev s f) (args.toList.map (ev s)) H K:=rfl
theorem Cu {α β :Type} {g:FuncId} {bO args:List AV} {o:Option α} {f: α →Option β} {r: β} (h:o.bind f=some r) (hk: ∀x,o=some x→f x=some r→aw C g (args ++ bO) H K):ky C false th (.fn g bO) args H K:=by
 cases ho:o with
 |none=>rw [ho] at h;simp at h
 |some x=>rw [ho] at h;exact .inl (hk x ho h)
end
inductive LR (σ ρ :Type) where
 |next (x: σ)
 |done (r: ρ)
def iter {σ ρ :Type} (f: σ →Option (LR σ ρ)):Nat→ σ →Option ρ
 |0,_=>none
 |n+1,x=>(f x).bind fun y=>match y with| .next x' =>iter f n x' | .done r=>some r
open Classical in
noncomputable def dP {σ ρ :Type} (f: σ →Option (LR σ ρ)) (x: σ):Option ρ :=if h: ∃n,(iter f n x).isSome then iter f h.choose x else none
theorem pT {σ ρ :Type} {f: σ →Option (LR σ ρ)}: ∀{n m:Nat} {x: σ} {r: ρ},iter f n x=some r→n≤m→iter f m x=some r
 |0,_,_,_,h,_=>by simp [iter] at h
 |n+1,0,_,_,_,h=>by omega
 |n+1,m+1,x,r,h,hle=>by
  simp only [iter] at h⊢;cases hf:f x with
  |none=>rw [hf] at h;simp at h
  |some y=>
   rw [hf] at h;cases y with
   |next x' =>exact pT (m:=m) h (by omega)
   |done r' =>exact h
theorem nx {σ ρ :Type} {f: σ →Option (LR σ ρ)} {x: σ} {r: ρ}:dP f x=some r↔ ∃n,iter f n x=some r:=by
 unfold dP;constructor
 ·intro h;split at h
  ·exact ⟨_,h⟩
  ·simp at h
 ·rintro ⟨n,h⟩;have hex: ∃n,(iter f n x).isSome:=⟨n,by simp [h]⟩
  rw [dif_pos hex];cases hc:iter f hex.choose x with
  |none=>have:=hex.choose_spec;rw [hc] at this;simp at this
  |some r' =>
   have h1:=pT hc (Nat.le_max_left hex.choose n);have h2:=pT h (Nat.le_max_right hex.choose n);rw [h1] at h2;exact h2
theorem lO {σ ρ :Type} (f: σ →Option (LR σ ρ)) (x: σ):dP f x=(f x).bind fun y=>match y with| .next x' =>dP f x' | .done r=>some r:=by
 refine Option.ext fun r=> ?_;rw [nx];constructor
 ·rintro ⟨n,h⟩;cases n with
  |zero=>simp [iter] at h
  |succ n=>
   simp only [iter] at h;cases hf:f x with
   |none=>rw [hf] at h;simp at h
   |some y=>
    rw [hf] at h;cases y with
    |next x' =>exact nx.2 ⟨n,h⟩
    |done r' =>exact h
 ·intro h;cases hf:f x with
  |none=>rw [hf] at h;simp at h
  |some y=>
   rw [hf] at h;cases y with
   |next x' =>obtain ⟨n,hn⟩:=nx.1 h;exact ⟨n+1,by simp only [iter,hf];exact hn⟩
   |done r' =>exact ⟨1,by simp only [iter,hf];exact h⟩
def ny {σ ρ :Type} (bP:List Nat) (Inv: σ →ah→J→Prop) (y:LR σ ρ) (K:Ex→ah→J→Prop):Ex→ah→J→Prop
 | .normal,s,H=> ∃x',y= .next x' ∧Inv x' (eN bP s) H
 | .exit i,s,H=>K (.exit i) s H
 | .ret,s,H=>K .ret s H
section
variable {C:aL} {K K1:Ex→ah→J→Prop} {s:ah} {H:J}
theorem Cv {σ ρ :Type} (gC:Good C) {f: σ →Option (LR σ ρ)} {x: σ} {r: ρ} {bP:List Nat} {a:AC} (hw:dP f x=some r) (Inv: σ →ah→J→Prop) (h0:Inv x (eN bP s) H)
 (hb: ∀x y s H,f x=some y→(∀r',y= .done r' →r' =r)→Inv x s H→ ∀K1,K1=ny bP Inv y K→aN (aw C) C a s H K1):aN (aw C) C (.loop ⟨bP,false⟩ a) s H K:=by
 obtain ⟨n,hn⟩:=nx.1 hw;have key: ∀(n:Nat) (x: σ) (s:ah) (H:J),iter f n x=some r→Inv x s H→ ∀m,i_ (aN (aw C) C a) (hM ⟨bP,false⟩ m) K s H:=by
  intro n;induction n with
  |zero=>intro x s H h;simp [iter] at h
  |succ n ih=>
   intro x s H h hi m;simp only [iter] at h;cases hf:f x with
   |none=>rw [hf] at h;simp at h
   |some y=>
    rw [hf] at h;simp only [Option.bind_some] at h;refine i_.round (aw.up gC.up) (eJ (aw.up gC.up) _ _ _ _ _ (fun e s' H' he=> ?_) (hb x y s H hf (fun r' e=>by subst e;simpa using h) hi _ rfl))
    cases e with
    |normal=>
     obtain ⟨x',rfl,ez⟩:=he;exact ih x' _ _ h ez m
    |exit i=>exact he
    |ret=>exact he
 exact key n x _ _ hn h0 _
theorem Cw {σ ρ :Type} {bP:List Nat} {Inv: σ →ah→J→Prop} {y:LR σ ρ} {x' : σ} (hK:K1=ny bP Inv y K) (hy:some (LR.next x')=some y) (hi:Inv x' (eN bP s) H):K1 .normal s H:=by
 rw [hK];exact ⟨x',(Option.some.inj hy).symm,hi⟩
theorem Cx {σ ρ :Type} {bP:List Nat} {Inv: σ →ah→J→Prop} {y:LR σ ρ} {i:Nat} (hK:K1=ny bP Inv y K) (h:K (.exit i) s H):K1 (.exit i) s H:=by rw [hK];exact h
theorem Cy {σ ρ :Type} {bP:List Nat} {Inv: σ →ah→J→Prop} {y:LR σ ρ} (hK:K1=ny bP Inv y K) (h:K .ret s H):K1 .ret s H:=by rw [hK];exact h
def nz (Q:ah→J→Prop) (K:Ex→ah→J→Prop):Ex→ah→J→Prop
 | .normal,s,H=>Q s H
 | .exit i,s,H=>K (.exit i) s H
 | .ret,s,H=>K .ret s H
theorem Cz (gC:Good C) {a:AC} (Q:ah→J→Prop) (h: ∀K1,K1=nz Q K→aN (aw C) C a s H K1) (hq: ∀s H,Q s H→K .normal s H):aN (aw C) C a s H K:=by
 refine zJ (h _ rfl) (fun e s H he=> ?_) gC;cases e with
 |normal=>exact hq s H he
 |exit i=>exact he
 |ret=>exact he
theorem CA {Q:ah→J→Prop} (hK:K1=nz Q K) (h:Q s H):K1 .normal s H:=by rw [hK];exact h
theorem CB {Q:ah→J→Prop} {i:Nat} (hK:K1=nz Q K) (h:K (.exit i) s H):K1 (.exit i) s H:=by rw [hK];exact h
theorem CC {Q:ah→J→Prop} (hK:K1=nz Q K) (h:K .ret s H):K1 .ret s H:=by rw [hK];exact h
end
end Go.VS
namespace Go.VS
section
variable {C:aL} {q th:Bool} {s:ah} {H:J} {K:AV→J→Prop} {L:List It}
theorem uM:eu none s=s:=rfl
theorem CD {a b:AC} {K:Ex→ah→J→Prop}:nk C (.bool true) a b s H K=aN (aw C) C a s H K:=rfl
theorem CE {a b:AC} {K:Ex→ah→J→Prop}:nk C (.bool false) a b s H K=aN (aw C) C b s H K:=rfl
def zX (k:IntKind) (a b:Int):Int:=k.wrap (BitVec.ofInt k.bits a&&&BitVec.ofInt k.bits b).toNat
def zY (k:IntKind) (a b:Int):Int:=k.wrap (BitVec.ofInt k.bits a|||BitVec.ofInt k.bits b).toNat
def zZ (k:IntKind) (a b:Int):Int:=k.wrap (BitVec.ofInt k.bits a^^^BitVec.ofInt k.bits b).toNat
def uN (k:IntKind) (a b:Int):Int:=k.wrap (a*2^(min b.toNat k.bits))
def uO (k:IntKind) (a b:Int):Int:=a.fdiv (2^(min b.toNat k.bits))
theorem uP (E:aF) (t:TypeId) (k:IntKind) (a b:Int):aM E .and t (.int k a) (.int k b)=some (.int k (zX k a b)):=zL ..
theorem uQ (E:aF) (t:TypeId) (k:IntKind) (a b:Int):aM E .or t (.int k a) (.int k b)=some (.int k (zY k a b)):=zM ..
theorem uR (E:aF) (t:TypeId) (k:IntKind) (a b:Int):aM E .xor t (.int k a) (.int k b)=some (.int k (zZ k a b)):=zN ..
theorem CF (k:IntKind) (a b:Int) (h:decide (b<0)=false):sl k a b=some (uN k a b):=by simp at h;simp [sl,uN,Int.not_lt.2 h]
theorem CG (k:IntKind) (a b:Int) (h:decide (b<0)=false):sr k a b=some (uO k a b):=by simp at h;simp [sr,uO,Int.not_lt.2 h]
def jF (E:aF) (src dst:TypeId) (x:AV) (H:J) (K:AV→J→Prop):Prop:=cq (match E src,E dst,x with
 |some _,some td,.int _ n=>match td.au with
  | .it k=>some (.int k (k.wrap n),H)
  |_=>none
 |some _,some td,.str l=>match td.au with
  | .str=>some (.str l,H)
  | .sl e=>match E e with
   |some te=>match te.au with
    | .it .u8=>if te.sz=1∧te.bytes=1∧l.length≤2^45 then some (.ref H.bs.length H.st 0 l.length,H.new 1 false (l.map fun b=> .int .u8 b.toNat)) else none
    |_=>none
   |none=>none
  |_=>none
 |some ts,some td,x=>match ts.au,td.au with
  | .sl e,.str=>match E e with
   |some te=>match te.au with
    | .it .u8=>match b6 H x with
     |some xs=>if te.sz=1 then (match (bytesOf xs).map AV.str with|some v=>some (v,H)|none=>none) else none
     |none=>none
    |_=>none
   |none=>none
  |_,_=>none
 |_,_,_=>none) K
theorem uS (a b:TypeId) (x:Operand):aU (aw C) C q th (.convert a b x) s H K=jF C.E a b (ev s x) H K:=by
 rw [dg _ rfl];rfl
def pU (ta tb:Option TI) (n:Int) (H:J) (K:AV→J→Prop):Prop:=match ta,tb with
 |some _,some td=>match td.au with| .it k=>K (.int k (k.wrap n)) H|_=>False
 |_,_=>False
theorem uT (E:aF) (a b:TypeId) (j:IntKind) (n:Int):jF E a b (.int j n) H K=pU (E a) (E b) n H K:=by
 simp only [jF,pU];cases E a with
 |none=>rfl
 |some ta=>
  cases E b with
  |none=>rfl
  |some tb=>simp only;cases tb.au<;>rfl
def nA (l:List UInt8):List Int:=l.map fun b=>(b.toNat:Int)
def pV (l:List Int):List UInt8:=l.map fun n=>UInt8.ofNat n.toNat
theorem z6 (l:List Int):bytesOf (l.map (AV.int .u8))=some (pV l):=by
 induction l with
 |nil=>rfl
 |cons n l ih=>simp only [List.map_cons,bytesOf,ih,pV,Option.map_some]
def pW (l:List UInt8):Option (List Int):=if l.length≤2^45 then some (nA l) else none
theorem CH {α :Type} {E:aF} {a b e:TypeId} {ta tb te:TI} {l:List UInt8} {f:List Int→Option α} {r: α} (hS:ap H L) (ha:E a=some ta) (hb:E b=some tb) (hu:tb.au= .sl e) (he:E e=some te) (hk:te.au= .it .u8) (h1:te.sz=1) (h2:te.bytes=1)
 (hh:(pW l).bind f=some r) (h: ∀v H' m,aJ v→pW l=some m→f m=some r→ap H' (⟨v,1,m.map (AV.int .u8)⟩::L)→K v H'):jF E a b (.str l) H K:=by
 unfold pW at hh h;split at hh
 ·rename_i hl;simp only [jF,ha,hb,hu,he,hk,h1,h2,hl,and_self,if_true,cq];refine h _ _ _ (eW ..) (by rw [if_pos hl]) hh (hS.iU (by simp only [nA,List.map_map];exact List.take_of_length_le (by simp)) (by simp [nA]) ?_)
  simp [bm,AV.cells,nA]
 ·simp at hh
theorem CI {E:aF} {a b e:TypeId} {ta tb te:TI} {v:AV} {l:List Int} (ha:E a=some ta) (hb:E b=some tb) (hu:ta.au= .sl e) (aQ:tb.au= .str) (he:E e=some te) (hk:te.au= .it .u8) (h1:te.sz=1)
 (hv:b6 H v=some (l.map (AV.int .u8))) (hn: ∀j,v≠ .str j) (h:K (.str (pV l)) H):jF E a b v H K:=by
 have hi: ∀k n,v≠ .int k n:=by rintro k n rfl;simp [b6] at hv
 simp only [jF,ha,hb];cases v with
 |int k n=>exact absurd rfl (hi k n)
 |str j=>exact absurd rfl (hn j)
 |_=>simp only [hu,aQ,he,hk,h1,if_true,hv,z6,Option.map_some];exact h
def cy {α :Type} (l:List α) (lo hi:Int):Option (List α):=if 0≤lo∧lo≤hi∧hi≤l.length then some ((l.drop lo.toNat).take (hi.toNat-lo.toNat)) else none
def cT (E:aF) (t:TypeId) (x:AV) (lo hi mx:Option (Option Int)) (H:J) (K:AV→J→Prop):Prop:=match lo,hi,mx with
 |some lo,some hi,some mx=>cz (dq E t x lo hi mx H) H K
 |_,_,_=>False
theorem uU (t:TypeId) (x:Operand) (lo hi mx:Option Operand):aU (aw C) C q th (.slice t x lo hi mx) s H K=cT C.E t (ev s x) (ep (lo.map (ev s))) (ep (hi.map (ev s))) (ep (mx.map (ev s))) H K:=by
 rw [dg _ rfl];simp only [aP,cT];generalize ep (lo.map (ev s))=a;generalize ep (hi.map (ev s))=b;generalize ep (mx.map (ev s))=c;cases a<;>cases b<;>cases c<;>first|rfl|(simp only;rename_i lo hi mx;generalize dq C.E t (ev s x) lo hi mx H=z;cases z<;>rfl)
theorem uV:ep none=some none:=rfl
theorem uW (k:IntKind) (n:Int):ep (some (.int k n))=some (some n):=rfl
theorem CJ {α :Type} {E:aF} {t:TypeId} {ti:TI} {l:List UInt8} {lo hi:Option Int} {f:List UInt8→Option α} {r: α} (ht:E t=some ti) (hu:ti.au= .str) (hh:(cy l (lo.getD 0) (hi.getD l.length)).bind f=some r)
 (h: ∀m,cy l (lo.getD 0) (hi.getD l.length)=some m→f m=some r→K (.str m) H):cT E t (.str l) (some lo) (some hi) (some none) H K:=by
 cases hm:cy l (lo.getD 0) (hi.getD l.length) with
 |none=>rw [hm] at hh;simp at hh
 |some m=>
  rw [hm] at hh;have hk:=h m hm hh;unfold cy at hm;split at hm
  ·rename_i hc;simp only [Option.some.injEq] at hm;simp only [cT,dq,ht,hu,if_pos hc,cz,hm];exact hk
  ·simp at hm
theorem kz {α :Type} {c: α →AV} {sz:Nat} (hc: ∀x,(c x).cells.length=sz) (l:List α):bm sz (l.map c)=true:=by
 simp [bm,hc]
theorem CK {α β :Type} {E:aF} {t e:TypeId} {ti te:TI} {l:List α} {c: α →AV} {lo hi:Option Int} {f:List α →Option β} {r: β} (ht:E t=some ti) (hu:ti.au= .sl e) (he:E e=some te) (hc: ∀x,(c x).cells.length=te.sz) (hh:(cy l (lo.getD 0) (hi.getD l.length)).bind f=some r)
 (h: ∀m,cy l (lo.getD 0) (hi.getD l.length)=some m→f m=some r→K (.fz (m.map c)) H):cT E t (.fz (l.map c)) (some lo) (some hi) (some none) H K:=by
 cases hm:cy l (lo.getD 0) (hi.getD l.length) with
 |none=>rw [hm] at hh;simp at hh
 |some m=>
  rw [hm] at hh;have hk:=h m hm hh;unfold cy at hm;split at hm
  ·rename_i z7;simp only [Option.some.injEq] at hm;simp only [cT,dq,ht,hu,he,kz hc,Bool.not_true,Bool.false_eq_true,if_false,List.length_map,if_pos z7,cz];rw [←hm,List.map_take,List.map_drop] at hk;exact hk
  ·simp at hm
theorem CL {α β :Type} {E:aF} {t e:TypeId} {ti te:TI} {v:AV} {l:List α} {c: α →AV} {lo hi:Option Int} {f:List α →Option β} {r: β} (j:Nat) (hS:ap H L) (hj:L[j]? =some ⟨v,te.sz,l.map c⟩) (hp:aJ v) (ht:E t=some ti) (hu:ti.au= .sl e) (he:E e=some te) (hh:(cy l (lo.getD 0) (hi.getD l.length)).bind f=some r)
 (h: ∀v' m,aJ v' →cy l (lo.getD 0) (hi.getD l.length)=some m→f m=some r→ap H (L.set j ⟨v',te.sz,m.map c⟩)→K v' H):cT E t v (some lo) (some hi) (some none) H K:=by
 cases hm:cy l (lo.getD 0) (hi.getD l.length) with
 |none=>rw [hm] at hh;simp at hh
 |some m=>
  rw [hm] at hh;have hk:=fun v' br=>h v' m br hm hh
  unfold cy at hm;split at hm
  ·rename_i hc;obtain ⟨cJ,dc,gG⟩:=hc;simp only [Option.some.injEq] at hm;have af:=hS.ok j _ hj;obtain ⟨k0,af⟩:=af;have fj:L.set j ⟨v,te.sz,l.map c⟩=L:=List.ext_getElem? fun k=>by
    rw [List.getElem?_set];split
    ·rename_i e;subst e;have:=(List.getElem?_eq_some_iff.1 hj).1;simp only [this,if_true];exact hj.symm
    ·rfl
   have z8:bm te.sz (m.map c)=true:=by
    simp only [bm,List.all_eq_true,List.mem_map] at k0⊢;rintro z ⟨y,hy,rfl⟩;rw [←hm] at hy;exact k0 _ ⟨y,List.mem_of_mem_drop (List.mem_of_mem_take hy),rfl⟩
   have empty:l.map c=[]→m=[]∧l=[]∧lo.getD 0=0∧hi.getD l.length=0:=by
    intro e;rw [List.map_eq_nil_iff] at e;subst e;have e0:(([]:List α).length:Int)=0:=rfl;rw [e0] at gG dc⊢;exact ⟨by rw [←hm];simp,rfl,by omega,by omega⟩
   simp only at af k0;split at af
   ·obtain ⟨rfl,rfl,e1,e2⟩:=empty af;have ii:hi.getD 0=0:=by cases hi with|none=>rfl|some x=>simpa using e2
    simp only [cT,dq,ht,hu,he];rw [if_pos ⟨e1,ii,rfl,by simp⟩]
    exact hk .nil lN (by rw [fj];exact hS)
   ·obtain ⟨rfl,rfl,e1,e2⟩:=empty af;have ii:hi.getD 0=0:=by cases hi with|none=>rfl|some x=>simpa using e2
    simp only [cT,dq,ht,hu,he];rw [if_pos ⟨e1,ii,rfl,by simp⟩]
    exact hk .e0 nw (by rw [fj];exact hS)
   ·rename_i id ad off len;obtain ⟨k1,b,hb,k2,k3,k4,k5⟩:=af;simp only [List.length_map] at k1;subst k1;simp only [cT,dq,ht,hu,hb,he,k2,ne_eq,not_true_eq_false,if_false];rw [if_pos ⟨cJ,dc,by omega⟩]
    have g9:(hi.getD (l.length:Int)).toNat-(lo.getD 0).toNat=m.length:=by
     rw [←hm,List.length_take,List.length_drop];omega
    refine hk _ (eW ..) (hS.bg hj rfl (fun _ _ _ _=>rfl) ⟨z8,?_,b,hb,k2,k3,?_,?_⟩ (fun k hk=>by simpa [bY] using hk.symm))
    ·simp only [List.length_map];exact g9
    ·omega
    ·simp only [aH] at k5⊢;rw [←hm,List.map_take,List.map_drop,←k5,List.drop_take,List.drop_drop,List.take_take];congr 1;omega
   ·rename_i id ad ix off;obtain ⟨rfl,rfl,_⟩:=af;exact absurd rfl (hp.ne id ad)
   ·exact af.elim
  ·simp at hm
def eX {α :Type} (nt:Nat) (n:Int) (d: α):Option (List α):=if 0≤n∧roomy n.toNat nt then some (List.replicate n.toNat d) else none
theorem z9 {α β :Type} {t:TypeId} {x y:Operand} {te:TI} {z:AV} {n:Int} {c: α →AV} {d: α} {f:List α →Option β} {r: β} (hS:ap H L) (ht:cd C.E t=some te) (hx:ev s x= .int .i64 n) (hy:ev s y= .int .i64 n) (hz:fS te=some z) (hd:c d=z) (h0:(te.sz==0)=false)
 (hh:(eX te.bytes n d).bind f=some r) (h: ∀v H' l,aJ v→eX te.bytes n d=some l→f l=some r→ap H' (⟨v,te.sz,l.map c⟩::L)→K v H'):aU (aw C) C q th (.makeSlice t x y) s H K:=by
 refine zV hS ht hx hy hz hd (by simpa using h0) hh fun v H' hv h1 h2 h3 h4=>h v H' _ hv (by unfold eX;rw [if_pos ⟨h1,h2⟩]) h3 h4
theorem CM {α β :Type} {E:aF} {t u:TypeId} {te tu:TI} {e:TypeId} {v x:AV} {l m:List α} {c: α →AV} {f:List α →Option β} {r: β} (j:Nat) (hS:ap H L) (hj:L[j]? =some ⟨v,te.sz,l.map c⟩) (hp:aJ v) (ht:cd E t=some te) (hu:E u=some tu) (hi:tu.au= .sl e)
 (hx:b6 H x=some (m.map c)) (aC: ∀x,(c x).cells.length=te.sz) (h0:(te.sz==0)=false) (hh:(app te.bytes l m).bind f=some r) (h: ∀v' H' lm,aJ v' →app te.bytes l m=some lm→f lm=some r→ap H' (L.set j ⟨v',te.sz,lm.map c⟩)→K v' H'):
 cq (cj E .append #[t,u] [v,x] H) K:=
 zW j hS hj hp ht hu hi hx (kz aC m) h0 hh fun v' H' h1 h2 h3 h4=>h v' H' _ h1 h2 h3 h4
theorem ap.perm {L' :List It} (h:ap H L) (hp:L.Perm L'):ap H L' :=by
 have nd: ∀{L:List It},ap H L↔(∀it∈L,fv H it)∧(L.filterMap (fun it=>bY it.v)).Nodup:=by
  intro L;constructor
  ·intro h;refine ⟨fun it hi=> ?_,?_⟩
   ·obtain ⟨i,ez⟩:=List.mem_iff_getElem?.1 hi;exact h.ok i it ez
   ·induction L with
    |nil=>simp
    |cons a L ih=>
     have ih:=ih h.tl;rw [List.filterMap_cons];cases ha:bY a.v with
     |none=>exact ih
     |some id=>
      refine List.nodup_cons.2 ⟨fun hm=> ?_,ih⟩;obtain ⟨b,hb,bU⟩:=List.mem_filterMap.1 hm;obtain ⟨j,hj⟩:=List.mem_iff_getElem?.1 hb;have:=h.b_ 0 (j+1) a b id rfl hj ha bU;omega
  ·rintro ⟨h1,h2⟩;refine ⟨fun i it hi=>h1 it (List.mem_of_getElem? hi),?_⟩;clear h1;induction L with
   |nil=>intro i j a b id h;simp at h
   |cons a L ih=>
    have li:(L.filterMap (fun it=>bY it.v)).Nodup:=by
     rw [List.filterMap_cons] at h2;split at h2
     ·exact h2
     ·exact (List.nodup_cons.1 h2).2
    have no: ∀(j:Nat) (b:It) (id:Nat),L[j]? =some b→bY a.v=some id→bY b.v≠some id:=by
     intro j b id hj ha hb;rw [List.filterMap_cons,ha] at h2;exact (List.nodup_cons.1 h2).1 (List.mem_filterMap.2 ⟨b,List.mem_of_getElem? hj,hb⟩)
    intro i j x y id hi hj hx hy;cases i with
    |zero=>
     simp at hi;subst hi;cases j with
     |zero=>rfl
     |succ j=>exact absurd hy (no j y id (by simpa using hj) hx)
    |succ i=>
     cases j with
     |zero=>simp at hj;subst hj;exact absurd hx (no i x id (by simpa using hi) hy)
     |succ j=>have:=ih li i j x y id (by simpa using hi) (by simpa using hj) hx hy;omega
 rw [nd] at h⊢;exact ⟨fun it hi=>h.1 it (hp.mem_iff.2 hi),(hp.filterMap _).nodup_iff.1 h.2⟩
theorem ap.front (h:ap H L) (j:Nat) {it:It} (hj:L[j]? =some it):ap H (it::L.eraseIdx j):=by
 refine h.perm ?_;have ax:=(List.getElem?_eq_some_iff.1 hj).1;have he:=(List.getElem?_eq_some_iff.1 hj).2;have:L=L.take j ++ it::L.drop (j+1):=by
  rw [←he,List.getElem_cons_drop,List.take_append_drop]
 rw [List.eraseIdx_eq_take_drop_succ]
 conv=>lhs;rw [this]
 exact List.perm_middle
theorem ap.uX (h:ap H L) (sz:Nat):ap H (⟨.nil,sz,[]⟩::L):=
 h.new (fun _ _ _=>rfl) ⟨rfl,rfl⟩ (fun k hk=>by simp [bY] at hk)
theorem ap.z_ (h:ap H L) (sz:Nat):ap H (⟨.e0,sz,[]⟩::L):=
 h.new (fun _ _ _=>rfl) ⟨rfl,rfl⟩ (fun k hk=>by simp [bY] at hk)
theorem ap.drop (h:ap H L) (j:Nat):ap H (L.eraseIdx j):=by
 cases hj:L[j]? with
 |none=>
  rw [List.eraseIdx_of_length_le (List.getElem?_eq_none_iff.1 hj)];exact h
 |some it=>exact (h.front j hj).tl
theorem ap.CN (hS:ap H L) {id ad sz:Nat} {a:AV} (hm:⟨.ptr id ad 0 0,sz,[a]⟩∈L):H.aq id ad=some ⟨ad,sz,false,[a]⟩:=by
 obtain ⟨j,hj⟩:=List.mem_iff_getElem?.1 hm;exact hS.var j hj
theorem pX {α β :Type} {g:FuncId} {bO args ys:List AV} {bZ:Bool} {o:Option α} {f: α →Option β} {r: β} {bC:List (List Sh)} (h:o.bind f=some r) (hr:(C.fW g).bC=bC) (hp:cb [] (args ++ bO) H=some (ys,bZ))
 (hk: ∀x,o=some x→f x=some r→ ∃y,aw C g ys ⟨0,[]⟩ (fun v L=> ∃rs zs L2,v=cc rs∧di bC rs L=some (zs,L2)∧y=cc zs)∧(bZ=false∨cf y=true)∧if th||bZ then K (aE y H).1 (aE y H).2 else K (bn y) H):ky C q th (.fn g bO) args H K:=by
 cases ho:o with
 |none=>rw [ho] at h;simp at h
 |some x=>
  rw [ho] at h;have hq:dF (aw C) C g (args ++ bO) th H K:=by
   unfold dF;rw [hp,hr];exact hk x ho h
  cases q with
  |true=>exact hq
  |false=>exact .inr hq
end
end Go.VS
