import Derived.Test.YtmmomohapflagaaVaC
import Derived.StillTail
namespace Go.VS
structure hG (ops:Array Oper) (ay:List Nat):Prop where
 back: ∀(i:Nat) (o:Oper),ops[i]? =some o→ ∀e∈o.after,Region.binds .any e=true→e.on<i
 gw: ∀(i j:Nat) (o p:Oper) (d:Tmp),i≠j→ops[i]? =some o→ops[j]? =some p→p.dst=some d→o.dst≠some d
 ord: ∀(i j:Nat) (o p:Oper) (d:Tmp),i≠j→ops[i]? =some o→ops[j]? =some p→p.dst=some d→d∈Oper.looksAt ops o→((e8 ops.toList).getD (max i j) 0).testBit (min i j)=true
 after: ∀(i j:Nat) (o p:Oper),ops[i]? =some o→ops[j]? =some p→i∈ay→i<j→((e8 ops.toList).getD j 0).testBit i=true∨(j∉ay∧p.guard=none∧iN p.op=true∧ ∃d,p.dst=some d)
 late: ∀(i j:Nat) (o p:Oper),ops[i]? =some o→ops[j]? =some p→i∈ay→j<i→((e8 ops.toList).getD i 0).testBit j=false→j∉ay∧p.guard=none∧kf p.op=true∧(∃d,p.dst=some d)∧
  ∀(k:Nat) (r:Oper) (d:Tmp),ops[k]? =some r→r.dst=some d→j≤k→d∉Oper.looksAt ops p
theorem yS {ops:Array Oper} {ay:List Nat} (h:ig ops ay=true):hG ops ay:=by
 have lt: ∀{i:Nat} {o:Oper},ops[i]? =some o→i<ops.toList.length:=fun h=>by have:=(Array.getElem?_eq_some_iff.1 h).1;simpa using this
 have tl: ∀{i:Nat} {o:Oper},ops[i]? =some o→ops.toList[i]? =some o:=fun h=>by simpa using h
 have one: ∀(i:Nat) (o:Oper),ops[i]? =some o→(∀e∈o.after,Region.binds .any e=true→e.on<i)∧ ∀(j:Nat) (p:Oper),ops[j]? =some p→i≠j→
  (∀d,p.dst=some d→o.dst≠some d∧(d∈Oper.looksAt ops o→((e8 ops.toList).getD (max i j) 0).testBit (min i j)=true))∧
  (i∈ay→i<j→((e8 ops.toList).getD j 0).testBit i=true∨(j∉ay∧p.guard=none∧iN p.op=true∧ ∃d,p.dst=some d))∧
  (i∈ay→j<i→((e8 ops.toList).getD i 0).testBit j=false→j∉ay∧p.guard=none∧kf p.op=true∧(∃d,p.dst=some d)∧ ∀(k:Nat) (r:Oper) (d:Tmp),ops[k]? =some r→r.dst=some d→j≤k→d∉Oper.looksAt ops p):=by
  intro i o ho;simp only [ig,List.all_eq_true,List.mem_range] at h;have hi:=h i (lt ho);rw [tl ho] at hi;simp only [Bool.and_eq_true,Array.all_eq_true_iff_forall_mem,List.all_eq_true,List.mem_range,Bool.or_eq_true,Bool.not_eq_true',decide_eq_true_eq] at hi;obtain ⟨ha,hb⟩:=hi;refine ⟨fun e he ph=>(ha e he).resolve_left (by simp [ph]),fun j p hp ji=> ?_⟩
  have hj:=hb j (lt hp);rw [tl hp] at hj;simp only [Bool.or_eq_true,beq_iff_eq,Bool.and_eq_true,Bool.not_eq_true'] at hj;rcases hj with hj|⟨⟨my,jG⟩,jR⟩
  ·exact absurd hj ji
  refine ⟨fun d hd=> ?_,fun hl aw=> ?_,fun hl aw ph=> ?_⟩
  ·rw [hd] at my;simp only [Bool.and_eq_true,bne_iff_ne,ne_eq,Bool.or_eq_true,Bool.not_eq_true'] at my;exact ⟨my.1,fun hm=>my.2.resolve_left (by simp [hm])⟩
  ·rcases jG with (jG|jG)|⟨⟨⟨q1,q2⟩,q3⟩,q4⟩
   ·simp [hl,aw] at jG
   ·exact .inl jG
   ·exact .inr ⟨by simpa using q1,by simpa using q2,q3,Option.isSome_iff_exists.1 q4⟩
  ·rcases jR with (jR|jR)|⟨⟨⟨⟨q1,q2⟩,q3⟩,q4⟩,q5⟩
   ·simp [hl,aw] at jR
   ·rw [ph] at jR;simp at jR
   ·refine ⟨by simpa using q1,by simpa using q2,q3,Option.isSome_iff_exists.1 q4,fun k r d hk hr yT hm=> ?_⟩
    simp only [List.all_eq_true,List.mem_range] at q5;have:=q5 k (lt hk);rw [tl hk] at this;simp only [hr] at this;simp [yT,hm] at this
 exact ⟨fun i o ho=>(one i o ho).1,fun i j o p d ji ho hp hd=>(((one i o ho).2 j p hp ji).1 d hd).1,fun i j o p d ji ho hp hd=>(((one i o ho).2 j p hp ji).1 d hd).2,
  fun i j o p ho hp hl aw=>((one i o ho).2 j p hp (by omega)).2.1 hl aw,fun i j o p ho hp hl aw=>((one i o ho).2 j p hp (by omega)).2.2 hl aw⟩
theorem pj (ay:List Nat) (n:Nat): ∀(m b:Nat),m=n-b→b≤n→ ∃c,b≤c∧c≤n∧(c=n∨c∈ay)∧ ∀i,b≤i→i<c→i∉ay
 |0,b,hm,hb=>⟨b,Nat.le_refl _,hb,.inl (by omega),fun i h1 h2=>by omega⟩
 |m+1,b,hm,hb=>by
  by_cases h:b∈ay
  ·exact ⟨b,Nat.le_refl _,hb,.inr h,fun i h1 h2=>by omega⟩
  ·obtain ⟨c,h1,h2,h3,h4⟩:=pj ay n m (b+1) (by omega) (by omega)
   refine ⟨c,by omega,h2,h3,fun i k1 k2=> ?_⟩
   by_cases hi:i=b
   ·subst hi;exact h
   ·exact h4 i (by omega) k2
section draw
variable {P:Program} {C:aI} {X:bz} {ops:Array Oper} {ay:List Nat} {th:List Nat} {K:aj→J→Prop} {s:Nat→aj} {H:Nat→J} {v:Nat→AV} {act:Nat→Bool}
abbrev iA (X:bz) (C:aI) (ops:Array Oper) (ay:List Nat) (th:List Nat) (K:aj→J→Prop) (s:Nat→aj) (H:Nat→J) (v:Nat→AV) (act:Nat→Bool):Prop:=
 Tr X C ops (fun i=> !ay.contains i) (fD ops ay) th K ops.toList 0 s H v act
theorem hI (t:iA X C ops ay th K s H v act): ∀(m i:Nat),i+m≤ops.size→(∀k,i≤k→k<i+m→k∉ay)→QG (H i) (H (i+m))
 |0,i,_,_=> .refl _
 |m+1,i,hn,hl=>by
  have h1:=hI t m i (by omega) (fun k h1 h2=>hl k h1 (by omega))
  have ho:=Array.getElem?_eq_getElem (xs:=ops) (show i+m<ops.size by omega)
  obtain ⟨_,_,h3,h4,_⟩:=t.step (i+m) _ (by rw [Array.getElem?_toList];exact ho)
  refine h1.trans ?_;cases ha:act (i+m) with
  |true=>
   have:=h3 ha;have iB:(!ay.contains (0+(i+m)))=true:=by simp only [Nat.zero_add];simpa using hl (i+m) (by omega) (by omega)
   rw [iB] at this;exact yQ this
  |false=>have:=(h4 ha).2;rw [show i+(m+1)=i+m+1 by omega,this];exact .refl _
theorem mz (dk:hG ops ay) (t:iA X C ops ay th K s H v act): ∀(i:Nat),i≤ops.size→(s i).length=(s 0).length∧ ∀x,x<(s 0).length→
 (∀k o,k<i→ops[k]? =some o→o.dst=some x→(s i).getD x .undef=v k)∧((∀k o,k<i→ops[k]? =some o→o.dst≠some x)→(s i).getD x .undef=(s 0).getD x .undef)
 |0,_=>⟨rfl,fun x hx=>⟨fun k o h=>by omega,fun _=>rfl⟩⟩
 |i+1,hi=>by
  obtain ⟨h1,h2⟩:=mz dk t i (by omega)
  have ho:=Array.getElem?_eq_getElem (xs:=ops) (show i<ops.size by omega)
  obtain ⟨hs,_⟩:=t.step i _ (by rw [Array.getElem?_toList];exact ho)
  have hlen:(s (i+1)).length=(s 0).length:=by
   rw [hs];unfold bf;split
   ·simpa using h1
   ·exact h1
  refine ⟨hlen,fun x hx=>⟨fun k o hk ag hd=> ?_,fun eS=> ?_⟩⟩
  ·rw [hs];by_cases bP:k=i
   ·subst bP;rw [ho] at ag;simp only [Option.some.injEq] at ag;subst ag;rw [hd];simp only [bf];rw [←h1] at hx;simp [List.getD,hx]
   ·have aN:=dk.gw i k _ o x (fun h=>bP h.symm) ho ag hd;have:=(h2 x hx).1 k o (by omega) ag hd
    rw [←this];unfold bf;split
    ·rename_i d bY;have:d≠x:=fun h=>aN (by rw [bY,h])
     simp [List.getD,List.getElem?_set_ne this]
    ·rfl
  ·rw [hs];have aN:=eS i _ (Nat.lt_succ_self _) ho;rw [←(h2 x hx).2 (fun k o hk ag=>eS k o (by omega) ag)]
   unfold bf;split
   ·rename_i d bY;have:d≠x:=fun h=>aN (by rw [bY,h])
    simp [List.getD,List.getElem?_set_ne this]
   ·rfl
structure pk (C:aI) (o:Op) (sz:Nat) (el:List AV) (x:Nat→Nat→AV) (u:Nat→Value):Prop where
 ev: ∀(X:bz) (q th:Bool) (o' :Oper) (s:aj) (H:J) (K:AV→J→Prop),o'.op=o→wpOp X C q th o' s H K→K (x H.bs.length H.st) (H.new sz false el)
 yU: ∀(i:Nat) (y:AV),el[i]? =some y→y.cells.length=sz
 rel: ∀(w:World) (G:J) (φ :af) (A:ah) (id ad c:Nat),G.get id=some ⟨ad,sz,false,el⟩→ad<G.st→ φ id=some (.at_ c 0)→el.length*sz≤a7 w c→R w G φ A (x id ad) (u c)
def mA (el:List AV) (sz:Nat) (arr:Array Value):Prop:=el.length*sz≤arr.size∧
 ∀(i:Nat) (x:AV) (j:Nat) (y:AV) (v:Value),el[i]? =some x→x.cells[j]? =some y→arr[i*sz+j]? =some v→(∀(w:World) (G:J) (φ :af) (A:ah),R w G φ A y v)∧v.oneCell' =true
theorem yV {P:Program} {C:aI} (hE: ∀t ti,C.E t=some ti→aQ P t ti) {X:bz} {q th:Bool} {o:Oper} {s:aj} {H:J} {K:AV→J→Prop} (he:iN o.op=true) (h:wpOp X C q th o s H K):
 ∃sz el x u,pk C o.op sz el x u∧ ∀(a:Act) (w:World),∃arr T,(execOp a.eval o).run P w= .ok (.value (u w.heap.size)) (w.alloc (.cells arr T))∧mA el sz arr:=by
 obtain ⟨dst,op,ty,pos,after,guard⟩:=o;simp only at he⊢;cases op with
 |alloc tt=>
  unfold wpOp at h;simp only [aL] at h;cases kY:C.E tt with
  |none=>rw [kY] at h;exact h.2.elim
  |some ti=>
   rw [kY] at h;cases hz:ew ti with
   |none=>simp only [hz] at h;exact h.2.elim
   |some z=>
    have cp:z.cells.length=ti.sz:=by
     obtain ⟨zv,e1,e2,e3,e4,_,e5⟩:=iQ (hE _ _ kY) hz default;rw [e3,e4]
    refine ⟨ti.sz,[z],fun id ad=> .ptr id ad 0 0,fun c=> .pointer (some ⟨c,0,none⟩),⟨fun X q th o' s H K ho h=> ?_,fun i y hy=> ?_,fun w G φ A id ad c _ hv aW _=>nB hv aW⟩,fun a w=> ?_⟩
    ·obtain ⟨dst,op,ty,pos,after,guard⟩:=o';simp only at ho;subst ho;unfold wpOp at h;simp only [aL,kY,hz] at h;exact h.2
    ·cases i with
     |zero=>simp at hy;subst hy;exact cp
     |succ i=>simp at hy
    ·obtain ⟨zv,e1,e2,e3,e4,_,e5⟩:=iQ (hE _ _ kY) hz w;refine ⟨zv.cells,tt,?_,by simp [e2],fun i x j y v hx hy hv=> ?_⟩
     ·show ((do pure (.value (←Instr.alloc tt true (.tuple #[]))):Sem Next).run P w)=_
      simp [Instr.alloc,e1,newVar,newRow]
     ·cases i with
      |zero=>
       simp only [List.getElem?_cons_zero,Option.some.injEq,Nat.zero_mul,Nat.zero_add] at hx hv;subst hx;rw [e3] at hy;have hh:=fun (w:World) (A:ah)=>e5 w A j y v hy hv;exact ⟨fun w G φ A=> .fr _ _ (hh w A).1,(hh w (fun _=>False)).2⟩
      |succ i=>simp at hx
 |buildSlice t n ps=>
  simp only [iN,Bool.and_eq_true,bne_iff_ne,ne_eq,List.all_eq_true] at he;obtain ⟨hn,hc⟩:=he;have yW: ∀(s s' :aj),(ps.toList.map fun p=>(p.1,ev s p.2))=ps.toList.map fun p=>(p.1,ev s' p.2):=fun s s' =>List.map_congr_left fun p hp=>by
   have:=hc p hp;cases hq:p.2 with
   |const v=>rfl
   |tmp x=>rw [hq] at this;simp [kg] at this
   |global x=>rfl
   |func x=>rfl
  unfold wpOp at h;simp only [aL,if_neg hn] at h;cases bg:cS C.E t with
  |none=>rw [bg] at h;exact h.2.elim
  |some te=>
   rw [bg] at h;obtain ⟨ti,e,ht,hu,ci⟩:=iT bg;cases hz:ew te with
   |none=>simp only [hz] at h;exact h.2.elim
   |some zA=>
    simp only [hz] at h;by_cases hcnd:n*te.sz≤1000000∧te.sz≠0
    ·rw [if_pos hcnd] at h;cases cj:ib te.sz (List.replicate n zA) (ps.toList.map fun p=>(p.1,ev s p.2)) with
     |none=>rw [cj] at h;exact h.2.elim
     |some el=>
      have parts: ∀(ρ :Operand→Value),(∀v,ρ (.const v)=v)→ ∀(w:World) (G:J) (φ :af) (A:ah),∀p∈ps.toList,R w G φ A (ev s p.2) (ρ p.2):=fun ρ aR w G φ A p hp=>by
       have:=hc p hp;cases hq:p.2 with
       |const v=>rw [aR];exact .fr _ _ (FR.ofValue w A v)
       |tmp x=>rw [hq] at this;simp [kg] at this
       |global x=>rw [hq] at this;simp [kg] at this
       |func x=>rw [hq] at this;simp [kg] at this
      have fill: ∀(ρ :Operand→Value),(∀v,ρ (.const v)=v)→ ∀(w0:World),∃(zv:Value) (b5:Array Value),(zeroValue e).run P w0= .ok zv w0∧Instr.fill (fun i=>some (i*te.sz,te.sz)) ((Array.range (n*te.sz)).map (fun k=>zv.cells[k % zv.cells.size]!)) ((ps.map fun (i,x)=>(i,ρ x)).toList)=some b5∧b5.size=el.length*te.sz∧el.length=n∧
       (∀(i:Nat) (x:AV),el[i]? =some x→x.cells.length=te.sz)∧mA el te.sz b5:=fun ρ aR w0=>by
       obtain ⟨zv,z1,z2,z3,z4,_,z5⟩:=iQ (hE _ _ ci) hz w0;have go: ∀(w:World) (G:J) (φ :af) (A:ah),_:=fun w G φ A=>nR (w:=w) (G:=G) (φ := φ) (A:=A) hcnd.2 _ _ (List.replicate n zA) ((Array.range (n*te.sz)).map (fun k=>zv.cells[k % zv.cells.size]!)) _ (lK (_E:=C.E) (parts ρ aR w G φ A)).1 (lK (_E:=C.E) (parts ρ aR w G φ A)).2
        (by simp) (fun i x hx=>by
         simp only [List.getElem?_replicate] at hx;split at hx
         ·simp only [Option.some.injEq] at hx;subst hx;rw [z3,z4]
         ·simp at hx)
        (fun i x j y v hx hy hv=>by
         simp only [List.getElem?_replicate] at hx;split at hx
         ·rename_i hi;simp only [Option.some.injEq] at hx;subst hx;rw [z3] at hy;have hj:j<te.sz:=by rw [←z4];exact (List.getElem?_eq_some_iff.1 hy).1
          have:=z5 w A j y v hy (kz z2 hi hj hv);exact ⟨.fr _ _ this.1,this.2⟩
         ·simp at hx) cj
       obtain ⟨b5,f1,f2,f3,f4,f5⟩:=go w0 ⟨0,[]⟩ (fun _=>none) (fun _=>False);refine ⟨zv,b5,z1,f1,f2,by rw [f3];simp,f4,by rw [f2];exact Nat.le_refl _,fun i x j y v hx hy hv=>⟨fun w G φ A=> ?_,(f5 i x j y v hx hy hv).2⟩⟩
       obtain ⟨A_,g1,_,_,_,g5⟩:=go w G φ A;rw [f1] at g1;simp only [Option.some.injEq] at g1;subst g1;exact (g5 i x j y v hx hy hv).1
      obtain ⟨_,_,_,_,_,hlen,yX,_⟩:=fill (fun o=>match o with| .const v=>v|_=>undef) (fun _=>rfl) default
      refine ⟨te.sz,el,fun id ad=> .ref id ad 0 n,fun c=> .slice (some ⟨c,0,none⟩) n n,⟨fun X q th o' s' H K ho h=> ?_,yX,fun w G φ A id ad c hg hv aW hb=> ?_⟩,fun a w=> ?_⟩
      ·obtain ⟨dst,op,ty,pos,after,guard⟩:=o';simp only at ho;subst ho;unfold wpOp at h;simp only [aL,if_neg hn,bg,hz,if_pos hcnd,yW s' s,cj] at h
       exact h.2
      ·exact jF hg hv aW (by simp [hlen]) (Nat.le_refl _) (by simp [hlen]) (by rw [←hlen];exact hb)
      ·obtain ⟨zv,b5,z1,f1,f2,_,_,kZ⟩:=fill a.eval (fun _=>rfl) w;have ij:=(hE _ _ ht).sl w hu;have aN: ¬(n*te.sz=0):=by
        intro h0;rcases Nat.mul_eq_zero.1 h0 with h0|h0<;>omega
       have nT: ¬(n*te.sz>2^24):=by omega
       refine ⟨b5,e,?_,kZ⟩;show ((do pure (.value (←Instr.buildSlice t n (ps.map fun (i,x)=>(i,a.eval x)))):Sem Next).run P w)=_
       simp only [Instr.buildSlice,Sem.run_bind,ij,Result.andThen_ok,(hE _ _ ci).sizeOf,nT,aN,if_false,z1,f1,Sem.run_pure,newRow,run_newObj,World.alloc_eq]
    ·rw [if_neg hcnd] at h;exact h.2.elim
 |_=>simp [iN] at he
structure mB (w0 w:World) (φ :af) (A:ah) (el:List AV) (sz n:Nat):Prop where
 old:w0.heap.size≤n
 lt:n<w.heap.size
 av:A n
 ow: ¬Ow φ n
 here: ∃arr T fr,w.heap[n]? =some (.cells arr T fr)∧(∀j,j<arr.size→ ¬(fr.1≤j∧j<fr.2))∧mA el sz arr
theorem mB.mono {w0 w w' :World} {G G' :J} {φ ak:af} {A A' :ah} {el:List AV} {sz n:Nat} (h:mB w0 w φ A el sz n) (o:Out w G φ A w' G' ak A'):mB w0 w' ak A' el sz n:=by
 refine ⟨h.old,Nat.lt_of_lt_of_le h.lt o.post.size,o.bJ n h.av h.ow,fun hw=> ?_,?_⟩
 ·rcases o.post.own n hw with k|k
  ·exact h.ow k
  ·have:=h.lt;omega
 ·rw [o.post.kept n h.lt h.ow];exact h.here
def jj (C:aI) (ops:Array Oper) (ay:List Nat) (w0 w:World) (φ :af) (A:ah) (a:Act) (j n:Nat):Prop:=
 j∉ay∧ ∃(o:Oper) (d:Tmp) (sz:Nat) (el:List AV) (x:Nat→Nat→AV) (uv:Nat→Value),ops[j]? =some o∧o.guard=none∧o.dst=some d∧pk C o.op sz el x uv∧mB w0 w φ A el sz n∧
  ∀u,a.tmps[d]? =some u→u=uv n
theorem jj.mono {C:aI} {ops:Array Oper} {ay:List Nat} {w0 w w' :World} {G G' :J} {φ ak:af} {A A' :ah} {a a' :Act} {j n:Nat} (h:jj C ops ay w0 w φ A a j n) (o:Out w G φ A w' G' ak A')
 (ht: ∀(r:Oper) (d:Tmp),ops[j]? =some r→r.dst=some d→a'.tmps[d]? =a.tmps[d]?):jj C ops ay w0 w' ak A' a' j n:=by
 obtain ⟨h0,r,d,sz,el,x,uv,h1,h2,h4,h5,h7,h8⟩:=h;exact ⟨h0,r,d,sz,el,x,uv,h1,h2,h4,h5,h7.mono o,fun u hu=>h8 u (by rw [←ht r d h1 h4];exact hu)⟩
structure Inv (C:aI) (ops:Array Oper) (ay:List Nat) (s:Nat→aj) (H:Nat→J) (v:Nat→AV) (w0:World) (az:af) (A0:ah) (listed:Array Bool) (a:Act) (w:World) (b c:Nat) (φ :af) (A:ah) (pn:Nat→Nat):Prop where
 size:listed.size=ops.size
 shut:rM ops (fun i=>listed.getD i false=true)
 bc:b≤c
 cn:c≤ops.size
 cl:c=ops.size∨c∈ay
 hJ: ∀i,b≤i→i<c→i∉ay
 iC: ∀i,i∈ay→i<ops.size→(listed.getD i false=true↔i<b)
 base:b=0∨(b-1∈ay∧0<b)
 out:Out w0 (H 0) az A0 w (H c) φ A
 none: ∀i,b≤i→i<c→listed.getD i false=false→ ∀id,(H i).bs.length≤id→id<(H (i+1)).bs.length→ φ id=none
 eD:a.defers=[]
 len:(s 0).length=a.tmps.size
 wr: ∀(k:Nat) (o:Oper) (d:Tmp) (u:Value),ops[k]? =some o→o.dst=some d→listed.getD k false=true→k<c→a.tmps[d]? =some u→R w (H c) φ A (v k) u
 early: ∀(k:Nat),c≤k→listed.getD k false=true→jj C ops ay w0 w φ A a k (pn k)
 mC: ∀(j k:Nat),c≤j→c≤k→listed.getD j false=true→listed.getD k false=true→pn j=pn k→j=k
 un: ∀(x:Tmp) (u:Value),(∀(k:Nat) (o:Oper),ops[k]? =some o→o.dst=some x→listed.getD k false=false)→a.tmps[x]? =some u→R w (H c) φ A ((s 0).getD x .undef) u
theorem mD {listed:Array Bool} {i:Nat} (hi:i<listed.size) (k:Nat):(listed.setIfInBounds i true).getD k false=true↔(k=i∨listed.getD k false=true):=by
 by_cases hk:k=i
 ·subst hk;simp [hi]
 ·rw [getD_set_ne false (fun h=>hk h.symm)];simp [hk]
variable {w0:World} {az:af} {A0:ah} {listed:Array Bool} {a:Act} {w:World} {b c:Nat} {φ :af} {A:ah} {pn:Nat→Nat}
theorem Inv.look (inv:Inv C ops ay s H v w0 az A0 listed a w b c φ A pn) (dk:hG ops ay) (t:iA X C ops ay th K s H v act) {i:Nat} {o:Oper} (fR:i≤c) (ho:ops[i]? =some o) (hu:listed.getD i false=false) (ha: ∀e∈o.after,Region.binds .any e=true→listed.getD e.on false=true)
 {m:Nat} (hm:m≤ops.size) (rP:i≤m) (iD:m=i∨ ∀(k:Nat) (r:Oper) (d:Tmp),ops[k]? =some r→r.dst=some d→i≤k→d∉Oper.looksAt ops o) {x:Tmp} (hx:x∈Oper.looksAt ops o):R w (H c) φ A (ev (s m) (.tmp x)) (a.eval (.tmp x)):=by
 obtain ⟨hl,hg⟩:=mz dk t m hm;simp only [ev,Act.eval];by_cases aw:x<(s 0).length
 ·have yY:x<a.tmps.size:=by rw [←inv.len];exact aw
  have aK:=Array.getElem?_eq_getElem yY
  rw [Array.getD_eq_getD_getElem?,aK,Option.getD_some];by_cases hw: ∃(k:Nat) (r:Oper),ops[k]? =some r∧r.dst=some x
  ·obtain ⟨k,r,hk,hr⟩:=hw;rcases Nat.lt_trichotomy k i with bP|bP|bP
   ·have hb:=dk.ord i k o r x (by omega) ho hk hr hx
    rw [show max i k=i by omega,show min i k=k by omega] at hb
    have bI:=mw inv.shut dk.back i o ho ha k hb;rw [(hg x aw).1 k r (by omega) hk hr]
    exact inv.wr k r x _ hk hr bI (by omega) aK
   ·subst bP;rw [ho] at hk;simp only [Option.some.injEq] at hk;subst hk;rcases iD with rfl|iD
    ·rw [(hg x aw).2 (fun k' o' bD ep=>dk.gw k' m o' o x (by omega) ep ho hr)]
     refine inv.un x _ (fun k' o' ep bY=> ?_) aK
     by_cases k9:k' =m
     ·subst k9;exact hu
     ·exact absurd bY (dk.gw k' m o' o x k9 ep ho hr)
    ·exact absurd hx (iD k o x ho hr (Nat.le_refl _))
   ·rcases iD with rfl|iD
    ·have hb:=dk.ord m k o r x (by omega) ho hk hr hx
     rw [show max m k=k by omega,show min m k=m by omega] at hb
     have yZ:listed.getD k false=false:=by
      cases hq:listed.getD k false with
      |false=>rfl
      |true=>
       have:=mw inv.shut dk.back k r hk (inv.shut k r hk hq) m hb;rw [hu] at this;simp at this
     rw [(hg x aw).2 (fun k' o' bD ep=>dk.gw k' k o' r x (by omega) ep hk hr)]
     refine inv.un x _ (fun k' o' ep bY=> ?_) aK
     by_cases k9:k' =k
     ·subst k9;exact yZ
     ·exact absurd bY (dk.gw k' k o' r x k9 ep hk hr)
    ·exact absurd hx (iD k r x hk hr (by omega))
  ·rw [(hg x aw).2 (fun k' o' _ ep bY=>hw ⟨k',o',ep,bY⟩)]
   exact inv.un x _ (fun k' o' ep bY=>absurd ⟨k',o',ep,bY⟩ hw) aK
 ·have:(s m).getD x .undef= .undef:=by simp [List.getD,List.getElem?_eq_none (show (s m).length≤x by rw [hl];exact Nat.le_of_not_lt aw)]
  rw [this];exact .fr _ _ (.undef _)
theorem Inv.po (inv:Inv C ops ay s H v w0 az A0 listed a w b c φ A pn) (dk:hG ops ay) (t:iA X C ops ay th K s H v act) {i:Nat} {o:Oper} (fR:i≤c) (ho:ops[i]? =some o) (hu:listed.getD i false=false) (ha: ∀e∈o.after,Region.binds .any e=true→listed.getD e.on false=true)
 {m:Nat} (hm:m≤ops.size) (rP:i≤m) (iD:m=i∨ ∀(k:Nat) (r:Oper) (d:Tmp),ops[k]? =some r→r.dst=some d→i≤k→d∉Oper.looksAt ops o): ∀y∈o.op.operands,R w (H c) φ A (ev (s m) y) (a.eval y):=by
 intro y hy;cases y with
 |tmp x=>
  refine inv.look dk t fR ho hu ha hm rP iD ?_;unfold Oper.looksAt;refine List.mem_append.2 (.inl (List.mem_filterMap.2 ⟨.tmp x,by simpa using hy,rfl⟩))
 |const v=>exact .fr _ _ (FR.ofValue w A v)
 |global g=>exact .fr _ _ (.undef _)
 |func f=>exact .fr _ _ (.fn f [] #[] rfl (by simp))
theorem Inv.kW (inv:Inv C ops ay s H v w0 az A0 listed a w b c φ A pn) (cP:St w0 (H 0) az A0) (dk:hG ops ay) (t:iA X C ops ay th K s H v act) {i:Nat} {o:Oper} (fR:i<c) (ho:ops[i]? =some o) (hl:i∉ay) (ha: ∀e∈o.after,Region.binds .any e=true→listed.getD e.on false=true)
 {u:Value} {w' :World} {φ1:af} {A1:ah} (bF:Out w (H c) φ A w' (H c) φ1 A1) (hr: ∀d,o.dst=some d→d<a.tmps.size→R w' (H c) φ1 A1 (v i) u)
 (bq: ∀id loc,φ1 id=some loc→ φ id=some loc∨(b≤i∧i<c∧(H i).bs.length≤id∧id<(H (i+1)).bs.length)):Inv C ops ay s H v w0 az A0 (listed.setIfInBounds i true) (a.put o.dst u) w' b c φ1 A1 pn:=by
 have hi:i<ops.size:=(Array.getElem?_eq_some_iff.1 ho).1;have aC:i<listed.size:=by rw [inv.size];exact hi
 have bK:=mD aC;have jk: ∀k,(listed.setIfInBounds i true).getD k false=false→k≠i∧listed.getD k false=false:=fun k hk=>by
  have:=(not_congr (bK k)).1 (by rw [hk];simp)
  refine ⟨fun h=>this (.inl h),?_⟩;cases hq:listed.getD k false with
  |false=>rfl
  |true=>exact absurd (.inr hq) this
 refine ⟨by simp [inv.size],fun k r hk bI e he hb=> ?_,inv.bc,inv.cn,inv.cl,inv.hJ,fun k hk k_=> ?_,inv.base,inv.out.trans cP bF,fun k h1 h2 h3 id h4 h5=> ?_,?_,?_,fun k r d u' hk bZ bI dV aK=> ?_,fun k jl bI=> ?_,fun j k hj hk iE bI hp=>inv.mC j k hj hk (((bK j).1 iE).resolve_left (by omega)) (((bK k).1 bI).resolve_left (by omega)) hp,fun x u' eS aK=> ?_⟩
 ·rcases (bK k).1 bI with rfl|bI
  ·rw [ho] at hk;simp only [Option.some.injEq] at hk;subst hk;exact (bK _).2 (.inr (ha e he hb))
  ·exact (bK _).2 (.inr (inv.shut k r hk bI e he hb))
 ·rw [bK,←inv.iC k hk k_];constructor
  ·rintro (rfl|h)
   ·exact absurd hk hl
   ·exact h
  ·exact .inr
 ·obtain ⟨bP,bI⟩:=jk k h3;have la:=inv.cn;cases hq: φ1 id with
  |none=>rfl
  |some loc=>
   rcases bq id loc hq with h|⟨h6,h7,h8,h9⟩
   ·rw [inv.none k h1 h2 bI id h4 h5] at h;simp at h
   ·exfalso;rcases Nat.lt_or_ge k i with aw|y0
    ·have:=(hI t (i-(k+1)) (k+1) (by omega) (fun j j1 j2=>inv.hJ j (by omega) (by omega))).1.2
     rw [show k+1+(i-(k+1))=i by omega] at this
     omega
    ·have:=(hI t (k-(i+1)) (i+1) (by omega) (fun j j1 j2=>inv.hJ j (by omega) (by omega))).1.2
     rw [show i+1+(k-(i+1))=k by omega] at this
     omega
 ·cases hd:o.dst<;>simp [Act.put,inv.eD]
 ·cases hd:o.dst<;>simp [Act.put,inv.len]
 ·by_cases bP:k=i
  ·subst bP;rw [ho] at hk;simp only [Option.some.injEq] at hk;subst hk;rw [bZ] at aK;simp only [Act.put,Array.getElem?_setIfInBounds] at aK;simp only [if_true] at aK;split at aK
   ·rename_i aw;simp only [Option.some.injEq] at aK;subst aK;exact hr d bZ aw
   ·simp at aK
  ·have bI:=((bK k).1 bI).resolve_left bP;have aN:o.dst≠some d:=dk.gw i k o r d (fun h=>bP h.symm) ho hk bZ;have:a.tmps[d]? =some u' :=by
    cases hd:o.dst with
    |none=>rw [hd] at aK;exact aK
    |some d' =>
     rw [hd] at aK;simp only [Act.put,Array.getElem?_setIfInBounds] at aK;rw [if_neg (by rintro rfl;exact aN hd)] at aK
     exact aK
   exact (inv.wr k r d u' hk bZ bI dV this).mono bF.bV
 ·have bP:k≠i:=by omega
  refine (inv.early k jl (((bK k).1 bI).resolve_left bP)).mono bF fun r d hk bZ=> ?_
  have aN:o.dst≠some d:=dk.gw i k o r d (fun h=>bP h.symm) ho hk bZ;cases hd:o.dst with
  |none=>rfl
  |some d' =>
   simp only [Act.put,Array.getElem?_setIfInBounds];rw [if_neg (by rintro rfl;exact aN hd)]
 ·have aN:o.dst≠some x:=fun hd=>by have:=eS i o ho hd;have h2:=(bK i).2 (.inl rfl);rw [this] at h2;simp at h2
  have:a.tmps[x]? =some u' :=by
   cases hd:o.dst with
   |none=>rw [hd] at aK;exact aK
   |some d' =>
    rw [hd] at aK;simp only [Act.put,Array.getElem?_setIfInBounds] at aK;rw [if_neg (by rintro rfl;exact aN hd)] at aK
    exact aK
  exact (inv.un x u' (fun k r hk bZ=>(jk k (eS k r hk bZ)).2) this).mono bF.bV
theorem y1 {w:World} {G:J} {φ :af} {A:ah} (ae:St w G φ A) (o:Obj):Out w G φ A (w.alloc o) G φ (fun c=>A c∨c=w.heap.size):=by
 have aT:bH w G φ A (w.alloc o) G φ (fun c=>A c∨c=w.heap.size):=⟨fun c a t fr hc hn=>⟨⟨fr,by rw [heap_alloc_old w _ (eM hc)];exact hc⟩,fun h=>by have:=eM hc;rcases h with h|h;exact hn h;omega⟩,Nat.le_refl _,
  fun i b' ax _=>⟨b',ax,rfl,rfl,rfl,rfl,fun loc hl=>hl⟩,fun c hc=>by unfold a7;rw [heap_alloc_old w _ (Ow.lt ae hc)]⟩
 refine ⟨⟨ae.inj,fun c hc=> .inl (ae.own c hc),fun c hc=> ?_,fun i loc hl=> ?_⟩,
  ⟨rfl,rfl,rfl,by simp,fun c hc _=>heap_alloc_old w _ hc,fun c hc=>by unfold a7;rw [heap_alloc_old w _ hc],fun c hc=> .inl hc⟩,aT,fun c hc _=> .inl hc⟩
 ·simp only [World.size_alloc];rcases hc with h|h
  ·have:=ae.b4 c h;omega
  ·omega
 obtain ⟨b',cE,ax⟩:=ae.ap i loc hl;refine ⟨b',cE,ax.ad,ax.sized,ax.aO,fun c b0 h=> ?_⟩;obtain ⟨a,t,fr,h1,h2,h3,h4⟩:=ax.here c b0 h;exact ⟨a,t,fr,by rw [heap_alloc_old w _ (eM h1)];exact h1,h2,h3,fun i x j y v hx hy hv=>⟨(h4 i x j y v hx hy hv).1.mono aT,(h4 i x j y v hx hy hv).2⟩⟩
theorem Inv.y2 (inv:Inv C ops ay s H v w0 az A0 listed a w b c φ A pn) (cP:St w0 (H 0) az A0) (dk:hG ops ay) {i:Nat} {o:Oper} (Ba:c≤i) (ho:ops[i]? =some o) (Bb:listed.getD i false=false) (hl:i∉ay) (hg:o.guard=Option.none) {d:Tmp} (hd:o.dst=some d)
 {sz:Nat} {el:List AV} {x:Nat→Nat→AV} {uv:Nat→Value} (bB:pk C o.op sz el x uv) (ha: ∀e∈o.after,Region.binds .any e=true→listed.getD e.on false=true) {arr:Array Value} {T:TypeId} (kZ:mA el sz arr):
 Inv C ops ay s H v w0 az A0 (listed.setIfInBounds i true) (a.put o.dst (uv w.heap.size)) (w.alloc (.cells arr T)) b c φ (fun k=>A k∨k=w.heap.size) (fun k=>if k=i then w.heap.size else pn k):=by
 have hi:i<ops.size:=(Array.getElem?_eq_some_iff.1 ho).1;have y3:i<listed.size:=by rw [inv.size];exact hi
 have bK:=mD y3;have bF:=y1 inv.out.st (.cells arr T);have jk: ∀k,(listed.setIfInBounds i true).getD k false=false→k≠i∧listed.getD k false=false:=fun k hk=>by
  have:=(not_congr (bK k)).1 (by rw [hk];simp)
  refine ⟨fun h=>this (.inl h),?_⟩;cases hq:listed.getD k false with
  |false=>rfl
  |true=>exact absurd (.inr hq) this
 have jS: ∀(x:Tmp),o.dst≠some x→(a.put o.dst (uv w.heap.size)).tmps[x]? =a.tmps[x]? :=fun x aN=>by
  rw [hd] at aN⊢;simp only [Act.put,Array.getElem?_setIfInBounds];rw [if_neg (by rintro rfl;exact aN rfl)]
 refine ⟨by simp [inv.size],fun k r hk bI e he hb=> ?_,inv.bc,inv.cn,inv.cl,inv.hJ,fun k hk k_=> ?_,inv.base,inv.out.trans cP bF,fun k h1 h2 h3 id h4 h5=>inv.none k h1 h2 (jk k h3).2 id h4 h5,?_,?_,fun k r d' u' hk bZ bI dV aK=> ?_,fun k jl bI=> ?_,fun j k hj hk iE bI hp=> ?_,fun x u' eS aK=> ?_⟩
 ·rcases (bK k).1 bI with rfl|bI
  ·rw [ho] at hk;simp only [Option.some.injEq] at hk;subst hk;exact (bK _).2 (.inr (ha e he hb))
  ·exact (bK _).2 (.inr (inv.shut k r hk bI e he hb))
 ·rw [bK,←inv.iC k hk k_];constructor
  ·rintro (rfl|h)
   ·exact absurd hk hl
   ·exact h
  ·exact .inr
 ·rw [hd];simp [Act.put,inv.eD]
 ·rw [hd];simp [Act.put,inv.len]
 ·have bP:k≠i:=by omega
  have aN:o.dst≠some d' :=dk.gw i k o r d' (fun h=>bP h.symm) ho hk bZ
  rw [jS d' aN] at aK
  exact (inv.wr k r d' u' hk bZ (((bK k).1 bI).resolve_left bP) dV aK).mono bF.bV
 ·by_cases bP:k=i
  ·subst bP;simp only [if_true];refine ⟨hl,o,d,sz,el,x,uv,ho,hg,hd,bB,⟨inv.out.post.size,by simp,.inr rfl,fun h=>by have:=Ow.lt inv.out.st h;omega,arr,T,(0,0),heap_alloc_new w _,fun j _ h=>absurd h.2 (Nat.not_lt_zero j),kZ⟩,fun u hu=> ?_⟩
   rw [hd] at hu;simp only [Act.put,Array.getElem?_setIfInBounds,if_true] at hu;split at hu
   ·simpa using hu.symm
   ·simp at hu
  ·simp only [if_neg bP];exact (inv.early k jl (((bK k).1 bI).resolve_left bP)).mono bF fun r d' hk bZ=>jS d' (dk.gw i k o r d' (fun h=>bP h.symm) ho hk bZ)
 ·have one: ∀k,c≤k→(listed.setIfInBounds i true).getD k false=true→k≠i→pn k≠w.heap.size:=fun k jl bI bP he=>by
   obtain ⟨_,_,_,_,_,_,_,_,_,_,_,hp,_⟩:=inv.early k jl (((bK k).1 bI).resolve_left bP);have:=hp.lt;omega
  by_cases jT:j=i
  ·by_cases bP:k=i
   ·rw [jT,bP]
   ·simp only [jT,if_true,if_neg bP] at hp;exact absurd hp.symm (one k hk bI bP)
  ·by_cases bP:k=i
   ·simp only [bP,if_true,if_neg jT] at hp;exact absurd hp (one j hj iE jT)
   ·simp only [if_neg jT,if_neg bP] at hp;exact inv.mC j k hj hk (((bK j).1 iE).resolve_left jT) (((bK k).1 bI).resolve_left bP) hp
 ·have aN:o.dst≠some x:=fun hd=>by have:=eS i o ho hd;have h2:=(bK i).2 (.inl rfl);rw [this] at h2;simp at h2
  rw [jS x aN] at aK;exact (inv.un x u' (fun k r hk bZ=>(jk k (eS k r hk bZ)).2) aK).mono bF.bV
theorem fill (t:iA X C ops ay th K s H v act) (cP:St w0 (H 0) az A0) {lst:Nat→Prop} {lo hi:Nat} (hq: ∀j,lo≤j→j≤hi→QG (H j) (H hi)) (hlen: ∀j k,lo≤j→j≤k→k≤hi→(H j).bs.length≤(H k).bs.length)
 (hinj: ∀j k,lo≤j→lo≤k→lst j→lst k→pn j=pn k→j=k) (bF:Out w0 (H 0) az A0 w (H hi) φ A) (hE: ∀j,lo≤j→lst j→jj C ops ay w0 w φ A a j (pn j)) (gS: ∀id,(H lo).bs.length≤id→ φ id=none):
 ∀m,lo≤m→m≤hi→ ∃a8,Out w0 (H 0) az A0 w (H hi) a8 A∧bH w (H hi) φ A w (H hi) a8 A∧(∀j,lo≤j→j<m→lst j→ ∀(o:Oper) (d:Tmp) (u:Value),ops[j]? =some o→o.dst=some d→a.tmps[d]? =some u→R w (H hi) a8 A (v j) u)∧
  (∀id loc,a8 id=some loc→ φ id=some loc∨ ∃j,lo≤j∧j<m∧lst j∧(H j).bs.length≤id∧id<(H (j+1)).bs.length)∧(∀j,m≤j→lst j→jj C ops ay w0 w a8 A a j (pn j)):=by
 intro m hm;obtain ⟨k,rfl⟩:=Nat.exists_eq_add_of_le hm;clear hm;induction k with
 |zero=>exact fun _=>⟨φ,bF,.refl _ _ _ _,fun j h1 h2=>by omega,fun id loc h=> .inl h,hE⟩
 |succ k ih=>
  intro rQ;obtain ⟨a8,k1,k2,k3,k4,k5⟩:=ih (by omega)
  rw [show lo+(k+1)=lo+k+1 by omega] at rQ⊢
  have hm:lo≤lo+k:=Nat.le_add_right _ _;generalize lo+k=m at hm rQ k3 k4 k5⊢;by_cases hL:lst m
  ·obtain ⟨iB,o,d,sz,el,x,uv,e1,e2,e4,e5,hp,hu⟩:=k5 m (Nat.le_refl _) hL;obtain ⟨_,s2,s3,_,_⟩:=t.step m o (by rw [Array.getElem?_toList];exact e1)
   have eT:act m=true:=by
    simp only [dl,e2,Option.some.injEq] at s2;exact s2.symm
   have hw:=s3 eT;obtain ⟨hv,hH⟩:v m=x (H m).bs.length (H m).st∧H (m+1)=(H m).new sz false el:=by
    have:=e5.ev _ _ _ _ _ _ _ rfl hw;exact ⟨this.1.symm,this.2.symm⟩
   have cF:=hq (m+1) (by omega) (by omega)
   have hb:(H hi).get (H m).bs.length=some ⟨(H m).st,sz,false,el⟩:=by
    refine cF.1.1.1 _ _ ?_;rw [hH];simp [J.get,J.new]
   have bM:(H m).st<(H hi).st:=by
    have:=cF.1.1.2;rw [hH] at this;exact this
   have aW:a8 (H m).bs.length=none:=by
    cases hc:a8 (H m).bs.length with
    |none=>rfl
    |some loc=>
     exfalso;rcases k4 _ _ hc with h|⟨j,h1,h2,_,_,h4⟩
     ·rw [gS _ (hlen lo m (Nat.le_refl _) hm (by omega))] at h;simp at h
     ·have:=hlen (j+1) m (by omega) (by omega) (by omega)
      omega
   obtain ⟨arr,T,fr,h1,h2,h3,h5⟩:=hp.here
   let cQ:af:=fun i=>if i=(H m).bs.length then some (.at_ (pn m) 0) else a8 i
   have dF: ∀c,Ow cQ c→Ow a8 c∨c=pn m:=by
    rintro c ⟨i,b0,h⟩;simp only [cQ] at h;split at h
    ·simp only [Option.some.injEq,Loc.at_.injEq] at h;exact .inr h.1.symm
    ·exact .inl ⟨i,b0,h⟩
   have aT:bH w (H hi) a8 A w (H hi) cQ A:=by
    refine ⟨fun c a t fr hc hn=>⟨⟨fr,hc⟩,hn⟩,Nat.le_refl _,fun i b' ax _=>⟨b',ax,rfl,rfl,rfl,rfl,fun loc hl=> ?_⟩,fun _ _=>rfl⟩
    simp only [cQ];split
    ·rename_i h;subst h;rw [aW] at hl;simp at hl
    ·exact hl
   have lb:St w (H hi) cQ A:=by
    refine ⟨fun i i' c b0 b1 h1 h2=> ?_,fun c hc=> ?_,k1.st.b4,fun i loc hl=> ?_⟩
    ·simp only [cQ] at h1 h2;split at h1
     ·rename_i fm;split at h2
      ·rename_i Bc;omega
      ·simp only [Option.some.injEq,Loc.at_.injEq] at h1;exact absurd ⟨i',b1,by rw [h1.1];exact h2⟩ hp.ow
     ·split at h2
      ·simp only [Option.some.injEq,Loc.at_.injEq] at h2;exact absurd ⟨i,b0,by rw [h2.1];exact h1⟩ hp.ow
      ·exact k1.st.inj i i' c b0 b1 h1 h2
    ·rcases dF c hc with h|h
     ·exact k1.st.own c h
     ·rw [h];exact hp.av
    ·simp only [cQ] at hl;split at hl
     ·rename_i fm;subst fm;simp only [Option.some.injEq] at hl;subst hl;refine ⟨_,hb,bM,e5.yU,by simp,fun c b0 h=> ?_⟩
      simp only [Loc.at_.injEq] at h;obtain ⟨rfl,rfl⟩:=h;refine ⟨arr,T,fr,h1,h2,by rw [Nat.zero_add];exact h3,fun i x j y v hx hy hv=> ?_⟩
      rw [Nat.zero_add] at hv;obtain ⟨g1,g2⟩:=h5 i x j y v hx hy hv;exact ⟨g1 _ _ _ _,g2⟩
     ·obtain ⟨b',cE,ax⟩:=k1.st.ap i loc hl;refine ⟨b',cE,ax.ad,ax.sized,ax.aO,fun c b0 h=> ?_⟩;obtain ⟨a,t,fr,h1,h2,h3,h4⟩:=ax.here c b0 h;exact ⟨a,t,fr,h1,h2,h3,fun i x j y v hx hy hv=>⟨(h4 i x j y v hx hy hv).1.mono aT,(h4 i x j y v hx hy hv).2⟩⟩
   have y4:Out w0 (H 0) az A0 w (H hi) cQ A:=by
    refine ⟨lb,⟨k1.post.os,k1.post.tape,k1.post.output,k1.post.size,k1.post.kept,k1.post.a7,fun c hc=> ?_⟩,k1.bV.trans aT (fun c hc=>k1.post.a7 c (Ow.lt cP hc)),k1.bJ⟩;rcases dF c hc with h|h
    ·exact k1.post.own c h
    ·right;rw [h];exact hp.old
   refine ⟨cQ,y4,k2.trans aT (fun _ _=>rfl),fun j j1 j2 j3 o' d' u' q1 q2 q3=> ?_,fun id loc h=> ?_,fun j j1 j2=> ?_⟩
   ·by_cases pq:j=m
    ·subst pq;rw [e1] at q1;simp only [Option.some.injEq] at q1;subst q1;rw [e4] at q2;simp only [Option.some.injEq] at q2;subst q2;rw [hu u' q3,hv]
     exact e5.rel _ _ _ _ _ _ _ hb bM (by simp [cQ]) (by unfold a7;rw [h1];exact h3)
    ·exact (k3 j j1 (by omega) j3 o' d' u' q1 q2 q3).mono aT
   ·simp only [cQ] at h;split at h
    ·rename_i bO;refine .inr ⟨m,hm,Nat.lt_succ_self _,hL,by omega,?_⟩
     rw [hH];simp [J.new];omega
    ·rcases k4 id loc h with h|⟨j,q1,q2,q3⟩
     ·exact .inl h
     ·exact .inr ⟨j,q1,by omega,q3⟩
   ·obtain ⟨g0,r,d',y5,gk,x',y6,g1,g2,g4,g5,g7,g8⟩:=k5 j (by omega) j2
    refine ⟨g0,r,d',y5,gk,x',y6,g1,g2,g4,g5,⟨g7.old,g7.lt,g7.av,fun h=> ?_,g7.here⟩,g8⟩;rcases dF _ h with h|h
    ·exact g7.ow h
    ·have:=hinj j m (by omega) hm j2 hL h
     omega
  ·refine ⟨a8,k1,k2,fun j j1 j2 j3=> ?_,fun id loc h=> ?_,fun j j1 j2=>k5 j (by omega) j2⟩
   ·by_cases pq:j=m
    ·subst pq;exact absurd j3 hL
    ·exact k3 j j1 (by omega) j3
   ·rcases k4 id loc h with h|⟨j,q1,q2,q3⟩
    ·exact .inl h
    ·exact .inr ⟨j,q1,by omega,q3⟩
end draw
end Go.VS
namespace Go.VS
section draw
variable {P:Program} {C:aI} {X:bz} {ops:Array Oper} {ay:List Nat} {th:List Nat} {K:aj→J→Prop} {s:Nat→aj} {H:Nat→J} {v:Nat→AV} {act:Nat→Bool}
variable {w0:World} {az:af} {A0:ah} {listed:Array Bool} {a:Act} {w:World} {b c:Nat} {φ :af} {A:ah} {pn:Nat→Nat}
theorem Inv.y7 (inv:Inv C ops ay s H v w0 az A0 listed a w b c φ A pn) (dk:hG ops ay) {i:Nat} {o:Oper} (ho:ops[i]? =some o) (ha: ∀e∈o.after,Region.binds .any e=true→listed.getD e.on false=true):i≤c∨(i∉ay∧o.guard=Option.none∧iN o.op=true∧ ∃d,o.dst=some d):=by
 rcases Nat.lt_or_ge c i with h|h
 ·have hi:i<ops.size:=(Array.getElem?_eq_some_iff.1 ho).1;rcases inv.cl with hc|hc
  ·omega
  ·have y8:=Array.getElem?_eq_getElem (xs:=ops) (show c<ops.size by omega)
   rcases dk.after c i _ o y8 ho hc h with hb|hb
   ·exfalso;have hL:=mw inv.shut dk.back i o ho ha c hb;have:=(inv.iC c hc (by omega)).1 hL
    have:=inv.bc;omega
   ·exact .inr hb
 ·exact .inl h
theorem Inv.rR (inv:Inv C ops ay s H v w0 az A0 listed a w b c φ A pn) (cP:St w0 (H 0) az A0) (dk:hG ops ay) (t:iA X C ops ay th K s H v act) {o:Oper} (ho:ops[c]? =some o) (hl:c∈ay) (ha: ∀e∈o.after,Region.binds .any e=true→listed.getD e.on false=true)
 {u:Value} {w' :World} {φ1:af} {A1:ah} (bF:Out w (H c) φ A w' (H (c+1)) φ1 A1) (hr:R w' (H (c+1)) φ1 A1 (v c) u): ∃c' a8,Inv C ops ay s H v w0 az A0 (listed.setIfInBounds c true) (a.put o.dst u) w' (c+1) c' a8 A1 pn:=by
 have hi:c<ops.size:=(Array.getElem?_eq_some_iff.1 ho).1;have aC:c<listed.size:=by rw [inv.size];exact hi
 have bK:=mD aC;have y9:=inv.bc;have Bd:listed.getD c false=false:=by
  cases hq:listed.getD c false with
  |false=>rfl
  |true=>have:=(inv.iC c hl hi).1 hq;omega
 have jk: ∀k,(listed.setIfInBounds c true).getD k false=false→k≠c∧listed.getD k false=false:=fun k hk=>by
  have:=(not_congr (bK k)).1 (by rw [hk];simp)
  refine ⟨fun h=>this (.inl h),?_⟩;cases hq:listed.getD k false with
  |false=>rfl
  |true=>exact absurd (.inr hq) this
 have jS: ∀(k:Nat) (r:Oper) (d:Tmp),k≠c→ops[k]? =some r→r.dst=some d→(a.put o.dst u).tmps[d]? =a.tmps[d]? :=fun k r d dV hk bZ=>by
  have aN:o.dst≠some d:=dk.gw c k o r d (fun h=>dV h.symm) ho hk bZ;cases hd:o.dst with
  |none=>rfl
  |some d' =>
   simp only [Act.put,Array.getElem?_setIfInBounds];rw [if_neg (by rintro rfl;exact aN hd)]
 obtain ⟨c',k1,k2,k3,k4⟩:=pj ay ops.size (ops.size-(c+1)) (c+1) rfl (by omega)
 have hQ: ∀j k,c+1≤j→j≤k→k≤c' →QG (H j) (H k):=fun j k h1 h2 h3=>by
  have:=hI t (k-j) j (by omega) (fun i i1 i2=>k4 i (by omega) (by omega))
  rwa [show j+(k-j)=k by omega] at this
 have gx:=hQ (c+1) c' (Nat.le_refl _) k1 (Nat.le_refl _)
 have hlen: ∀j k,c+1≤j→j≤k→k≤c' →(H j).bs.length≤(H k).bs.length:=fun j k h1 h2 h3=>(hQ j k h1 h2 h3).1.2
 have hex:=iY bF.st gx.1.1 gx.2;have aT:=bF.bV.trans hex.bV (fun k hk=>by rw [(bF.post.trans hex.post).a7 k (Ow.lt inv.out.st hk)])
 have hE: ∀j,c+1≤j→(listed.setIfInBounds c true).getD j false=true→jj C ops ay w0 w' φ1 A1 (a.put o.dst u) j (pn j):=fun j hj hL=>
  (inv.early j (by omega) (((bK j).1 hL).resolve_left (by omega))).mono bF fun r d hk bZ=>jS j r d (by omega) hk bZ
 obtain ⟨a8,o2,pr,r2,m2,e2⟩:=fill (lst:=fun j=>(listed.setIfInBounds c true).getD j false=true) t cP (fun j h1 h2=>hQ j c' h1 h2 (Nat.le_refl _)) hlen
  (fun j k hj hk iE bI hp=>inv.mC j k (by omega) (by omega) (((bK j).1 iE).resolve_left (by omega)) (((bK k).1 bI).resolve_left (by omega)) hp) ((inv.out.trans cP bF).trans cP hex) hE (fun id h=>bF.st.new h) c' k1 (Nat.le_refl _)
 refine ⟨c',a8,by simp [inv.size],fun k r hk bI e he hb=> ?_,k1,k2,k3,k4,fun k hk k_=> ?_,.inr ⟨by simpa using hl,Nat.succ_pos _⟩,o2,fun k h1 h2 h3 id h4 h5=> ?_,?_,?_,fun k r d u' hk bZ bI y_ aK=> ?_,fun k jl bI=>e2 k jl bI,
  fun j k hj hk iE bI hp=>inv.mC j k (by omega) (by omega) (((bK j).1 iE).resolve_left (by omega)) (((bK k).1 bI).resolve_left (by omega)) hp,fun x u' eS aK=> ?_⟩
 ·by_cases dV:k=c
  ·subst dV;rw [ho] at hk;simp only [Option.some.injEq] at hk;subst hk;exact (bK _).2 (.inr (ha e he hb))
  ·exact (bK _).2 (.inr (inv.shut k r hk (((bK k).1 bI).resolve_left dV) e he hb))
 ·rw [bK,inv.iC k hk k_];constructor
  ·rintro (h|h)<;>omega
  ·intro h;by_cases dV:k=c
   ·exact .inl dV
   ·right;rcases Nat.lt_or_ge k b with h' |h'
    ·exact h'
    ·exact absurd hk (inv.hJ k h' (by omega))
 ·cases hp:a8 id with
  |none=>rfl
  |some loc=>
   exfalso;rcases m2 id loc hp with h|⟨j,j1,j2,j3,j4,j5⟩
   ·rw [bF.st.new (Nat.le_trans (hlen (c+1) k (Nat.le_refl _) h1 (by omega)) h4)] at h;simp at h
   ·have:j=k:=by
     rcases Nat.lt_trichotomy j k with h|h|h
     ·have:=hlen (j+1) k (by omega) (by omega) (by omega);omega
     ·exact h
     ·have:=hlen (k+1) j (by omega) (by omega) (by omega);omega
    subst this;rw [h3] at j3;simp at j3
 ·cases hd:o.dst<;>simp [Act.put,inv.eD]
 ·cases hd:o.dst<;>simp [Act.put,inv.len]
 ·by_cases bP:k=c
  ·subst bP;rw [ho] at hk;simp only [Option.some.injEq] at hk;subst hk;rw [bZ] at aK;simp only [Act.put,Array.getElem?_setIfInBounds] at aK;simp only [if_true] at aK;split at aK
   ·rename_i aw;simp only [Option.some.injEq] at aK;subst aK;exact (hr.mono hex.bV).mono pr
   ·simp at aK
  ·rcases Nat.lt_or_ge k c with aw|y0
   ·rw [jS k r d bP hk bZ] at aK;exact ((inv.wr k r d u' hk bZ (((bK k).1 bI).resolve_left bP) aw aK).mono aT).mono pr
   ·exact r2 k (by omega) y_ bI r d u' hk bZ aK
 ·have aN:o.dst≠some x:=fun hd=>by have:=eS c o ho hd;have h2:=(bK c).2 (.inl rfl);rw [this] at h2;simp at h2
  have:a.tmps[x]? =some u' :=by
   cases hd:o.dst with
   |none=>rw [hd] at aK;exact aK
   |some d' =>
    rw [hd] at aK;simp only [Act.put,Array.getElem?_setIfInBounds] at aK;rw [if_neg (by rintro rfl;exact aN hd)] at aK
    exact aK
  exact ((inv.un x u' (fun k r hk bZ=>(jk k (eS k r hk bZ)).2) this).mono aT).mono pr
theorem za {op:Op} (h:kf op=true):dD op=true:=by
 cases op<;>first|rfl|(simp [kf] at h)
def left (ops:Array Oper) (listed:Array Bool):Nat:=((List.range ops.size).filter fun k=> !listed.getD k false).length
theorem zb {ops:Array Oper} {listed:Array Bool} {i:Nat} (hs:listed.size=ops.size) (hi:i<ops.size) (hu:listed.getD i false=false):left ops (listed.setIfInBounds i true)<left ops listed:=by
 have bK:=mD (listed:=listed) (i:=i) (by omega)
 have he:((List.range ops.size).filter fun k=> !(listed.setIfInBounds i true).getD k false)=(((List.range ops.size).filter fun k=> !listed.getD k false).filter fun k=> !(listed.setIfInBounds i true).getD k false):=by
  rw [List.filter_filter];refine List.filter_congr fun k _=> ?_;cases hq:(listed.setIfInBounds i true).getD k false with
  |true=>simp
  |false=>
   have:listed.getD k false=false:=by
    cases mE:listed.getD k false with
    |false=>rfl
    |true=>rw [(bK k).2 (.inr mE)] at hq;simp at hq
   simp only [this,Bool.not_false,Bool.and_self]
 unfold left;rw [he];refine List.length_filter_lt_length_iff_exists.2 ⟨i,List.mem_filter.2 ⟨List.mem_range.2 hi,by rw [hu];rfl⟩,?_⟩
 rw [(bK i).2 (.inl rfl)];simp
theorem zd (hE: ∀t ti,C.E t=some ti→aQ P t ti) (hX: ∀f ys H K,X f ys H K→cz P f ys H K) (dk:hG ops ay) (t:iA X C ops ay th K s H v act) (cP:St w0 (H 0) az A0) {Q:Exit→Act→World→Prop}
 (hq: ∀s' H' ak A' a' w',Out w0 (H 0) az A0 w' H' ak A' →SF w' H' ak A' s' a' →K s' H' →Q .normal a' w'):
 ∀(fuel:Nat) (listed:Array Bool) (a:Act) (w:World) (b c:Nat) (φ :af) (A:ah) (pn:Nat→Nat),Inv C ops ay s H v w0 az A0 listed a w b c φ A pn→left ops listed≤fuel→wpAny P .any ops Q fuel listed a w:=by
 have done: ∀(listed:Array Bool) (a:Act) (w:World) (b c:Nat) (φ :af) (A:ah) (pn:Nat→Nat),Inv C ops ay s H v w0 az A0 listed a w b c φ A pn→Region.ready .any ops listed=[]→Q .normal a w:=by
  intro listed a w b c φ A pn inv hr;have all: ∀k,k<ops.size→listed.getD k false=true:=by
   intro k;induction k using Nat.strongRecOn with
   |_ k ih=>
    intro hk;cases hq:listed.getD k false with
    |true=>rfl
    |false=>
     exfalso;have ho:=Array.getElem?_eq_getElem (xs:=ops) hk;have:k∈Region.ready .any ops listed:=mem_ready.2 ⟨getD_in (by rw [inv.size];exact hk) hq,_,ho,fun e he hb=>by
      have aw:=dk.back k _ ho e he hb;exact ih e.on aw (by omega)⟩
     rw [hr] at this;cases this
  have la:c=ops.size:=by
   rcases inv.cl with h|h
   ·exact h
   ·rcases Nat.lt_or_ge c ops.size with h' |h'
    ·have:=(inv.iC c h h').1 (all c h');have:=inv.bc;omega
    ·have:=inv.cn;omega
  obtain ⟨hl,hg⟩:=mz dk t ops.size (Nat.le_refl _);have rS:=t.fin;rw [Array.length_toList] at rS;have bF:=inv.out;rw [la] at bF;refine hq (s ops.size) (H ops.size) φ A a w bF ⟨by rw [hl,inv.len],fun x y u hx hu=> ?_,inv.eD⟩ rS
  have ck:x<(s 0).length:=by rw [←hl];exact (List.getElem?_eq_some_iff.1 hx).1
  have hy:(s ops.size).getD x .undef=y:=by simp [List.getD,hx]
  by_cases hw: ∃(k:Nat) (r:Oper),ops[k]? =some r∧r.dst=some x
  ·obtain ⟨k,r,hk,hr⟩:=hw;have rT:k<ops.size:=(Array.getElem?_eq_some_iff.1 hk).1;rw [(hg x ck).1 k r rT hk hr] at hy;subst hy;have:=inv.wr k r x u hk hr (all k rT) (by omega) hu
   rw [la] at this;exact this
  ·rw [(hg x ck).2 (fun k' o' _ ep bY=>hw ⟨k',o',ep,bY⟩)] at hy
   subst hy;have:=inv.un x u (fun k' o' ep bY=>absurd ⟨k',o',ep,bY⟩ hw) hu
   rw [la] at this;exact this
 intro fuel;induction fuel with
 |zero=>
  intro listed a w b c φ A pn inv hle;have hr:Region.ready .any ops listed=[]:=by
   cases hq:Region.ready .any ops listed with
   |nil=>rfl
   |cons i rs=>
    exfalso;have hm:i∈Region.ready .any ops listed:=by rw [hq];simp
    obtain ⟨hu,o,ho,_⟩:=mem_ready.1 hm;have hi:i<ops.size:=(Array.getElem?_eq_some_iff.1 ho).1;have:i∈((List.range ops.size).filter fun k=> !listed.getD k false):=List.mem_filter.2 ⟨List.mem_range.2 hi,by rw [getD_both hu];rfl⟩
    have:=List.length_pos_of_mem this;unfold left at hle;omega
  exact ⟨hr,done listed a w b c φ A pn inv hr⟩
 |succ fuel ih=>
  intro listed a w b c φ A pn inv hle;refine ⟨done listed a w b c φ A pn inv,fun i hi=> ?_⟩;obtain ⟨ij,o,ho,ha⟩:=mem_ready.1 hi;have hu:=getD_both ij;have cr:i<ops.size:=(Array.getElem?_eq_some_iff.1 ho).1;have Be:=zb inv.size cr hu;have jm:=inv.y7 dk ho ha;obtain ⟨st1,st2,mF,rU,Bf⟩:=t.step i o (by rw [Array.getElem?_toList];exact ho)
  rw [Nat.zero_add] at mF;by_cases rV:i≤c
  case neg=>
   obtain ⟨iB,hg,he,d,hd⟩:=jm.resolve_left rV;have eT:act i=true:=by
    simp only [dl,hg,Option.some.injEq] at st2;exact st2.symm
   obtain ⟨sz,el,x,uv,bB,cL⟩:=yV hE he (mF eT);obtain ⟨arr,T,cL,kZ⟩:=cL a w;unfold Go.wpOp;rw [ho];simp only;have hw:Region.wanted o (yielded ops a.tmps)=true:=by simp [Region.wanted,hg]
   rw [if_pos hw];refine .inl ?_;show o.upon P a _ Q _;rw [cL];exact ih _ _ _ _ _ _ _ _ (inv.y2 cP dk (by omega) ho hu iB hg hd bB ha kZ) (by omega)
  replace jm:=rV;unfold Go.wpOp;rw [ho];simp only;by_cases fS:i∈ay
  ·
   have fR:i=c:=by
    rcases Nat.lt_or_ge i c with h|h
    ·exfalso;have hb: ¬i<b:=fun h=>by have:=(inv.iC i fS cr).2 h;rw [hu] at this;simp at this
     exact inv.hJ i (by omega) h fS
    ·omega
   subst fR;have bB:=inv.po dk t jm ho hu ha (m:=i) (by omega) (Nat.le_refl _) (.inl rfl)
   have hw:=o_ (H:=H i) (φ := φ) (A:=A) (w:=w) (s:=s i) (a:=a) (fun j want x hg hx=>inv.look dk t jm ho hu ha (m:=i) (by omega) (Nat.le_refl _) (.inl rfl) (by
    unfold Oper.looksAt;refine List.mem_append.2 (.inr ?_);rw [hg];simp only;rw [hx];simp)) st2
   cases eT:act i with
   |true=>
    rw [eT] at hw;rw [if_pos hw];have h3:=mF eT;rw [show (!ay.contains i)=false by simpa using fS] at h3
    refine .inl (mg hE hX inv.out.st bB h3 fun x u w' H' ak A' k1 k2 k3=> ?_)
    obtain ⟨rfl,rfl⟩:=k3;obtain ⟨c',a8,pu⟩:=inv.rR cP dk t ho fS ha k1 k2;exact ih _ _ _ _ _ _ _ _ pu (by omega)
   |false=>
    rw [eT] at hw;rw [if_neg (by rw [hw];simp)]
    obtain ⟨h4,h5⟩:=rU eT;obtain ⟨c',a8,pu⟩:=inv.rR cP dk t ho fS ha (u:=undef) (w' :=w) (φ1:= φ) (A1:=A) (by rw [h5];exact .refl inv.out.st) (by rw [h4];exact .fr _ _ (.aB [] #[] rfl (by simp)))
    exact ih _ _ _ _ _ _ _ _ pu (by omega)
  ·have fR:i<c:=by
    rcases Nat.lt_or_ge i c with h|h
    ·exact h
    ·have:i=c:=by omega
     subst this;rcases inv.cl with h' |h'
     ·omega
     ·exact absurd h' fS
   have la:=inv.cn;rcases Nat.lt_or_ge i b with mG|mG
   ·
    obtain ⟨mH,il⟩:b-1∈ay∧0<b:=by
     rcases inv.base with h|h
     ·omega
     ·exact h
    have y9:=inv.bc;have mI:=Array.getElem?_eq_getElem (xs:=ops) (show b-1<ops.size by omega)
    have ze:=(inv.iC (b-1) mH (by omega)).2 (by omega)
    have rW:i<b-1:=by
     rcases Nat.lt_or_ge i (b-1) with h|h
     ·exact h
     ·have:i=b-1:=by omega
      subst this;exact absurd mH fS
    have rX:((e8 ops.toList).getD (b-1) 0).testBit i=false:=by
     cases hq:((e8 ops.toList).getD (b-1) 0).testBit i with
     |false=>rfl
     |true=>
      have:=mw inv.shut dk.back (b-1) _ mI (inv.shut (b-1) _ mI ze) i hq;rw [hu] at this;simp at this
    obtain ⟨_,hg,dx,⟨d,hd⟩,zf⟩:=dk.late (b-1) i _ o mI ho mH rW rX
    obtain ⟨_,_,_,_,rY⟩:=t.step (b-1) _ (by rw [Array.getElem?_toList];exact mI)
    rw [Nat.zero_add,show b-1+1=b by omega] at rY
    have mJ:=rY i (by
     unfold fD;rw [if_pos (by simpa using mH)]
     exact List.mem_filter.2 ⟨List.mem_range.2 rW,by rw [rX];rfl⟩)
    unfold jz at mJ;rw [ho] at mJ;simp only [hd] at mJ;have bB:=inv.po dk t jm ho hu ha (m:=b) (by omega) (by omega) (.inr zf)
    have gx:=hI t (c-b) b (by omega) (fun k h1 h2=>inv.hJ k h1 (by omega))
    rw [show b+(c-b)=c by omega] at gx
    have hw:Region.wanted o (yielded ops a.tmps)=true:=by simp [Region.wanted,hg]
    rw [if_pos hw];refine .inl ((n4 hE inv.out.st gx.1.1 gx.1.1 (fun h=>absurd h (Nat.lt_irrefl _)) (za dx) bB mJ).upon fun u w' ak A' k1 k2 k3=> ?_)
    refine ih _ _ _ _ _ _ _ _ (inv.kW cP dk t fR ho fS ha k1 (fun d' bY aw=> ?_) (fun id loc h=> ?_)) (by omega)
    ·rw [hd] at bY;simp only [Option.some.injEq] at bY;subst bY;rw [←((mz dk t b (by omega)).2 d (by rw [inv.len];exact aw)).1 i o mG ho hd]
     exact k2
    ·rcases k3 id loc h with h|⟨h1,h2⟩
     ·exact .inl h
     ·omega
   ·
    have bB:=inv.po dk t jm ho hu ha (m:=i) (by omega) (Nat.le_refl _) (.inl rfl)
    have hw:=o_ (H:=H c) (φ := φ) (A:=A) (w:=w) (s:=s i) (a:=a) (fun j want x hg hx=>inv.look dk t jm ho hu ha (m:=i) (by omega) (Nat.le_refl _) (.inl rfl) (by
     unfold Oper.looksAt;refine List.mem_append.2 (.inr ?_);rw [hg];simp only;rw [hx];simp)) st2
    cases eT:act i with
    |true=>
     rw [eT] at hw;rw [if_pos hw];have h3:=mF eT;have iB:(!ay.contains i)=true:=by simpa using fS
     rw [iB] at h3;have gZ:=hI t (c-i) i (by omega) (fun k h1 h2=>inv.hJ k (by omega) (by omega))
     rw [show i+(c-i)=c by omega] at gZ
     have mE:=hI t (c-(i+1)) (i+1) (by omega) (fun k h1 h2=>inv.hJ k (by omega) (by omega))
     rw [show i+1+(c-(i+1))=c by omega] at mE
     refine .inl (VS.kW hE hX inv.out.st bB gZ.1.1 ⟨mE.1.1,fun id h1 h2=>inv.none i mG fR hu id h1 h2⟩ h3 fun u w' ak A' k1 k2 k3=> ?_)
     refine ih _ _ _ _ _ _ _ _ (inv.kW cP dk t fR ho fS ha k1 (fun d' _ _=>k2) (fun id loc h=> ?_)) (by omega)
     rcases k3 id loc h with h|h
     ·exact .inl h
     ·exact .inr ⟨mG,fR,h⟩
    |false=>
     rw [eT] at hw;rw [if_neg (by rw [hw];simp)]
     obtain ⟨h4,h5⟩:=rU eT;refine ih _ _ _ _ _ _ _ _ (inv.kW cP dk t fR ho fS ha (.refl inv.out.st) (fun d' _ _=>by rw [h4];exact .fr _ _ (.aB [] #[] rfl (by simp))) (fun id loc h=> .inl h)) (by omega)
theorem rZ (df:Exact X) (_hm:P.follows .mixedOrders=true) (hE: ∀t ti,C.E t=some ti→aQ P t ti) (hX: ∀f ys H K,X f ys H K→cz P f ys H K):mn P C X:=by
 intro ops ay th s0 H0 K Q w φ A a hd h ae hs hq;have dk:=yS hd;obtain ⟨s,H,v,act,rfl,rfl,t⟩:=rJ df ops.toList 0 s0 H0 h;have aT:bH w (H 0) φ A {w with drawn:=w.drawn+1} (H 0) φ A:=⟨fun c arr T fr hc hn=>⟨⟨fr,hc⟩,hn⟩,Nat.le_refl _,fun id b h _=>⟨b,h,rfl,rfl,rfl,rfl,fun _ h=>h⟩,fun _ _=>rfl⟩;have jn:St {w with drawn:=w.drawn+1} (H 0) φ A:=by
  refine ⟨ae.inj,ae.own,ae.b4,fun id loc hl=> ?_⟩;obtain ⟨b,hb,ag⟩:=ae.ap id loc hl;refine ⟨b,hb,ag.ad,ag.sized,ag.aO,fun c b0 he=> ?_⟩;obtain ⟨arr,T,fr,k1,k2,k3,k4⟩:=ag.here c b0 he;exact ⟨arr,T,fr,k1,k2,k3,fun i x j y v hx hy hv=>⟨(k4 i x j y v hx hy hv).1.mono aT,(k4 i x j y v hx hy hv).2⟩⟩
 have r6:Out w (H 0) φ A {w with drawn:=w.drawn+1} (H 0) φ A:=⟨jn,⟨rfl,rfl,rfl,Nat.le_refl _,fun _ _ _=>rfl,fun _ _=>rfl,fun _ h=> .inl h⟩,aT,fun _ h _=>h⟩;obtain ⟨c,k1,k2,k3,k4⟩:=pj ay ops.size (ops.size-0) 0 rfl (Nat.zero_le _);have gx:=hI t c 0 (by omega) (fun k h1 h2=>k4 k h1 (by omega))
 rw [Nat.zero_add] at gx;have hex:=iY jn gx.1.1 gx.2;refine zd hE hX dk t ae hq ops.size _ a _ 0 c φ A (fun _=>0) ⟨by simp,fun i o ho hl=>by have cW:(Array.replicate ops.size false).getD i false=true:=hl;rw [getD_replicate_false] at cW;simp at cW,k1,k2,k3,k4,fun i _ _=>by rw [getD_replicate_false];simp,.inl rfl,r6.trans ae hex,fun i _ _ _ id h4 h5=> ?_,hs.eD,hs.len,fun k o d u _ _ hl=>by rw [getD_replicate_false] at hl;simp at hl,fun k _ hl=>by rw [getD_replicate_false] at hl;simp at hl,fun j k _ _ hl=>by rw [getD_replicate_false] at hl;simp at hl,fun x u _ hu=> ?_⟩ ?_
 ·refine ae.new ?_;rename_i h1 h2 h3;have:=(hI t i 0 (by omega) (fun k h1 h2=>k4 k h1 (by omega))).1.2
  rw [Nat.zero_add] at this;omega
 ·have hx:=(hs.mono (r6.bV.trans hex.bV (fun _ _=>rfl))).ev (.tmp x);simp only [ev,Act.eval] at hx;rw [Array.getD_eq_getD_getElem?,hu] at hx;exact hx
 ·unfold left;exact Nat.le_trans (List.length_filter_le _ _) (by simp)
end draw
end Go.VS
namespace Go.VS
section mono
variable {X X' :bz} {C:aI} (hX: ∀f ys H (K K' :AV→J→Prop),(∀v H,K v H→K' v H)→X f ys H K→X' f ys H K')
include hX
theorem r7 {f:FuncId} {args:List AV} {th:Bool} {H:J} {K K' :AV→J→Prop} (hK: ∀v H,K v H→K' v H) (h:dj X C f args th H K):dj X' C f args th H K' :=by
 unfold dj at h⊢;split at h
 ·exact h.elim
 rename_i ys bT hy;obtain ⟨y,h1,h2,h3⟩:=h;refine ⟨y,hX _ _ _ _ _ (fun _ _ h=>h) h1,h2,?_⟩;split at h3
 ·rename_i ht;rw [if_pos ht];exact hK _ _ h3
 ·rename_i ht;rw [if_neg ht];exact hK _ _ h3
theorem hM {q th:Bool} {o:Oper} {s:aj} {H:J} {K K' :AV→J→Prop} (hK: ∀v H,K v H→K' v H) (h:wpOp X C q th o s H K):wpOp X' C q th o s H K' :=by
 unfold wpOp at h⊢;split at h
 ·obtain ⟨hq,h⟩:=h;refine ⟨hq,?_⟩;split at h
  ·exact hK _ _ h
  ·exact h.elim
 ·split at h
  ·cases q with
   |true=>exact r7 hX hK h
   |false=>
    rcases h with h|h
    ·exact .inl (hX _ _ _ _ _ hK h)
    ·exact .inr (r7 hX hK h)
  ·exact h.elim
 ·obtain ⟨hq,h⟩:=h;refine ⟨hq,?_⟩;split at h
  ·exact hK _ _ h
  ·exact h.elim
omit hX in
theorem lf {ops:Array Oper} {s:aj} {H:J} {K K' :Prop} (hK:K→K'): ∀(l:List Nat),eZ C ops s H K l→eZ C ops s H K' l
 |[],h=>hK h
 |_j::js,h=>⟨h.1,lf hK js h.2⟩
theorem mK {ops:Array Oper} {q:Nat→Bool} {late:Nat→List Nat} {th:List Nat} {K K' :aj→J→Prop} (hK: ∀s H,K s H→K' s H): ∀(l:List Oper) (i:Nat) (s:aj) (H:J),cV X C ops q late th K l i s H→cV X' C ops q late th K' l i s H
 |[],i,s,H,h=>hK s H h
 |o::rest,i,s,H,h=>by
  simp only [cV] at h⊢;cases hg:o.guard with
  |none=>
   rw [hg] at h;exact hM hX (fun v H' hv=>lf (mK hK rest (i+1) _ _) _ hv) h
  |some p=>
   rw [hg] at h;obtain ⟨v,H',h1,h2⟩:=h;refine ⟨v,H',?_,lf (mK hK rest (i+1) _ _) _ h2⟩;split at h1
   ·split at h1
    ·rename_i hb;simp only [hb,if_true];exact hM hX (fun _ _ h=>h) h1
    ·rename_i hb;simp only [hb];exact h1
   ·exact h1.elim
theorem mL {ops:Array Oper} {th:List Nat} {fz:List (Nat×List (List Nat×List Sh))} {K K' :aj→J→Prop} (hK: ∀s H,K s H→K' s H): ∀(l:List Oper) (i:Nat) (s:aj) (H:J),cK X C ops th fz K l i s H→cK X' C ops th fz K' l i s H
 |[],i,s,H,h=>hK s H h
 |o::rest,i,s,H,h=>by
  simp only [cK] at h⊢;obtain ⟨s1,H1,hf,h⟩:=h;refine ⟨s1,H1,hf,?_⟩;cases hg:o.guard with
  |none=>
   rw [hg] at h;exact hM hX (fun v H' hv=>mL hK rest (i+1) _ _ hv) h
  |some p=>
   rw [hg] at h;obtain ⟨v,H',h1,h2⟩:=h;refine ⟨v,H',?_,mL hK rest (i+1) _ _ h2⟩;split at h1
   ·split at h1
    ·rename_i hb;simp only [hb,if_true];exact hM hX (fun _ _ h=>h) h1
    ·rename_i hb;simp only [hb];exact h1
   ·exact h1.elim
theorem er: ∀(c:AC) (s:aj) (H:J) (K K' :Ex→aj→J→Prop),(∀e s H,K e s H→K' e s H)→aJ X C c s H K→aJ X' C c s H K' :=by
 intro c;induction c with
 |skip=>intro s H K K' hK h;exact hK _ _ _ h
 |ret=>intro s H K K' hK h;exact hK _ _ _ h
 |exit id=>intro s H K K' hK h;exact hK _ _ _ h
 |seq a b fT fU=>
  intro s H K K' hK h
  simp only [aJ] at h⊢;refine fT s H _ _ (fun e s' H' h=> ?_) h
  cases e with
  |normal=>exact fU s' H' K K' hK h
  |exit id=>exact hK _ _ _ h
  |ret=>exact hK _ _ _ h
 |cond c a b fT fU=>
  intro s H K K' hK h
  simp only [aJ] at h⊢;split at h
  ·split at h
   ·rename_i hb;simp only [hb,if_true];exact fT s H K K' hK h
   ·rename_i hb;simp only [hb];exact fU s H K K' hK h
  ·exact h.elim
 |block id bJ a ih=>
  intro s H K K' hK h
  simp only [aJ] at h⊢;refine ih s H _ _ (fun e s' H' h=> ?_) h
  cases e with
  |normal=>exact hK _ _ _ h
  |ret=>exact hK _ _ _ h
  |exit j=>
   simp only at h⊢;split at h
   ·rename_i hj;rw [if_pos hj];exact hK _ _ _ h
   ·rename_i hj;rw [if_neg hj];exact hK _ _ _ h
 |loop sp a ih=>
  intro s H K K' hK h
  simp only [aJ] at h⊢;intro Y hY;refine h Y fun s' H' hB=>hY s' H' (ih s' H' _ _ (fun e s2 H2 h=> ?_) hB)
  cases e with
  |normal=>exact h
  |exit id=>exact hK _ _ _ h
  |ret=>exact hK _ _ _ h
 |region id ops draw ay th fz=>
  intro s H K K' hK h
  cases draw with
  |true=>
   simp only [aJ] at h⊢;exact ⟨h.1,mK hX (fun s H h=>hK _ s H h) _ _ _ _ h.2⟩
  |false=>
   simp only [aJ] at h⊢;exact mL hX (fun s H h=>hK _ s H h) _ _ _ _ h
 |fA l kp=>
  intro s H K K' hK h
  simp only [aJ] at h⊢;split at h
  ·exact hK _ _ _ h
  ·exact h
 |bad=>intro s H K K' hK h;exact h
end mono
def Up (X:bz):Prop:= ∀f ys H (K K' :AV→J→Prop),(∀v H,K v H→K' v H)→X f ys H K→X f ys H K'
theorem iM.round {X:bz} (hU:Up X) {C:aI} {c:AC} {next:aj→J→aj×J} {K:Ex→aj→J→Prop} {s:aj} {H:J}
 (h:aJ X C c s H (fun e s' H' =>match e with
  | .normal=>iM (aJ X C c) next K (next s' H').1 (next s' H').2
  |e=>K e s' H')):iM (aJ X C c) next K s H:=by
 intro Y hY;refine hY s H (er hU c s H _ _ (fun e s' H' h=> ?_) h)
 cases e with
 |normal=>exact h Y hY
 |exit id=>exact h
 |ret=>exact h
theorem r8 {X:bz} {C:aI} (hU:Up X) (df:Exact X) {ops:Array Oper} {q:Nat→Bool} {late:Nat→List Nat} {th:List Nat} {K:aj→J→Prop}: ∀(l:List Oper) (i:Nat) (s:aj) (H:J),cV X C ops q late th K l i s H→ ∃s' H',cV X C ops q late th (fun s1 H1=>s1=s' ∧H1=H') l i s H∧K s' H'
 |[],i,s,H,h=>⟨s,H,⟨rfl,rfl⟩,h⟩
 |o::rest,i,s,H,h=>by
  have r9: ∀(ls:List Nat) (s1:aj) (H1:J),eZ C ops s1 H1 (cV X C ops q late th K rest (i+1) s1 H1) ls→ ∃s' H',eZ C ops s1 H1 (cV X C ops q late th (fun s1 H1=>s1=s' ∧H1=H') rest (i+1) s1 H1) ls∧K s' H' :=by
   intro ls s1 H1 h;obtain ⟨h1,h2⟩:=mv _ _ _ _ _ _ h;obtain ⟨s',H',h3,h4⟩:=r8 hU df rest (i+1) s1 H1 h2;refine ⟨s',H',?_,h4⟩;clear h h2 h4;induction ls with
   |nil=>exact h3
   |cons j js ih=>exact ⟨h1 j (by simp),ih fun k hk=>h1 k (by simp [hk])⟩
  simp only [cV] at h⊢;cases hg:o.guard with
  |none=>
   rw [hg] at h;simp only at h⊢;obtain ⟨v,H1,h1,h2⟩:=kX df h;obtain ⟨s',H',h3,h4⟩:=r9 _ _ _ h2;exact ⟨s',H',hM hU (fun v1 H2 e=>by obtain ⟨rfl,rfl⟩:=e;exact h3) h1,h4⟩
  |some p=>
   rw [hg] at h;simp only at h⊢;obtain ⟨v,H1,h1,h2⟩:=h;obtain ⟨s',H',h3,h4⟩:=r9 _ _ _ h2;exact ⟨s',H',⟨v,H1,h1,h3⟩,h4⟩
theorem pv {X:bz} {C:aI} (hU:Up X) (df:Exact X) {ops:Array Oper} {th:List Nat} {fz:List (Nat×List (List Nat×List Sh))} {K:aj→J→Prop}: ∀(l:List Oper) (i:Nat) (s:aj) (H:J),cK X C ops th fz K l i s H→ ∃s' H',cK X C ops th fz (fun s1 H1=>s1=s' ∧H1=H') l i s H∧K s' H'
 |[],i,s,H,h=>⟨s,H,⟨rfl,rfl⟩,h⟩
 |o::rest,i,s,H,h=>by
  simp only [cK] at h⊢;obtain ⟨s0,H0,hf,h⟩:=h;cases hg:o.guard with
  |none=>
   rw [hg] at h;simp only at h⊢;obtain ⟨v,H1,h1,h2⟩:=kX df h;obtain ⟨s',H',h3,h4⟩:=pv hU df rest (i+1) _ _ h2;exact ⟨s',H',⟨s0,H0,hf,hM hU (fun v1 H2 e=>by obtain ⟨rfl,rfl⟩:=e;exact h3) h1⟩,h4⟩
  |some p=>
   rw [hg] at h;simp only at h⊢;obtain ⟨v,H1,h1,h2⟩:=h;obtain ⟨s',H',h3,h4⟩:=pv hU df rest (i+1) _ _ h2;exact ⟨s',H',⟨s0,H0,hf,v,H1,h1,h3⟩,h4⟩
theorem zg {X:bz} {C:aI} (hU:Up X) (df:Exact X): ∀(c:AC) (s:aj) (H:J) (K:Ex→aj→J→Prop),aJ X C c s H K→ ∃e s' H',aJ X C c s H (fun e1 s1 H1=>e1=e∧s1=s' ∧H1=H')∧K e s' H' :=by
 intro c;induction c with
 |skip=>intro s H K h;exact ⟨_,_,_,⟨rfl,rfl,rfl⟩,h⟩
 |ret=>intro s H K h;exact ⟨_,_,_,⟨rfl,rfl,rfl⟩,h⟩
 |exit id=>intro s H K h;exact ⟨_,_,_,⟨rfl,rfl,rfl⟩,h⟩
 |seq a b fT fU=>
  intro s H K h;simp only [aJ] at h⊢;obtain ⟨e,s1,H1,h1,h2⟩:=fT s H _ h;cases e with
  |normal=>
   obtain ⟨e,s2,H2,h3,h4⟩:=fU s1 H1 K h2;exact ⟨e,s2,H2,er hU a s H _ _ (fun e1 s' H' q=>by obtain ⟨rfl,rfl,rfl⟩:=q;exact h3) h1,h4⟩
  |exit id=>exact ⟨.exit id,s1,H1,er hU a s H _ _ (fun e1 s' H' q=>by obtain ⟨rfl,rfl,rfl⟩:=q;exact ⟨rfl,rfl,rfl⟩) h1,h2⟩
  |ret=>exact ⟨.ret,s1,H1,er hU a s H _ _ (fun e1 s' H' q=>by obtain ⟨rfl,rfl,rfl⟩:=q;exact ⟨rfl,rfl,rfl⟩) h1,h2⟩
 |cond c a b fT fU=>
  intro s H K h;simp only [aJ] at h⊢;split at h
  ·split at h
   ·rename_i hb;simp only [hb,if_true];exact fT s H K h
   ·rename_i hb;simp only [hb];exact fU s H K h
  ·exact h.elim
 |block id bJ a ih=>
  intro s H K h;simp only [aJ] at h⊢;obtain ⟨e,s1,H1,h1,h2⟩:=ih s H _ h;cases e with
  |normal=>exact ⟨.normal,dS bJ s1,H1,er hU a s H _ _ (fun e1 s' H' q=>by obtain ⟨rfl,rfl,rfl⟩:=q;exact ⟨rfl,rfl,rfl⟩) h1,h2⟩
  |ret=>exact ⟨.ret,s1,H1,er hU a s H _ _ (fun e1 s' H' q=>by obtain ⟨rfl,rfl,rfl⟩:=q;exact ⟨rfl,rfl,rfl⟩) h1,h2⟩
  |exit j=>
   simp only at h2;split at h2
   ·rename_i hj;exact ⟨.normal,dS bJ s1,H1,er hU a s H _ _ (fun e1 s' H' q=>by obtain ⟨rfl,rfl,rfl⟩:=q;simp [hj]) h1,h2⟩
   ·rename_i hj;exact ⟨.exit j,s1,H1,er hU a s H _ _ (fun e1 s' H' q=>by obtain ⟨rfl,rfl,rfl⟩:=q;simp [hj]) h1,h2⟩
 |loop sp a ih=>
  intro s H K h;simp only [aJ] at h⊢;refine h (fun s1 H1=> ∃e s' H',iM (aJ X C a) (gH sp H.bs.length) (fun e1 s2 H2=>e1=e∧s2=s' ∧H2=H') s1 H1∧K e s' H') fun s1 H1 hB=> ?_
  obtain ⟨e,s2,H2,h1,h2⟩:=ih s1 H1 _ hB;cases e with
  |normal=>
   obtain ⟨e,s',H',h3,h4⟩:=h2;exact ⟨e,s',H',.round hU (er hU a s1 H1 _ _ (fun e1 s' H' q=>by obtain ⟨rfl,rfl,rfl⟩:=q;exact h3) h1),h4⟩
  |exit id=>exact ⟨_,_,_,.round hU (er hU a s1 H1 _ _ (fun e1 s' H' q=>by obtain ⟨rfl,rfl,rfl⟩:=q;exact ⟨rfl,rfl,rfl⟩) h1),h2⟩
  |ret=>exact ⟨_,_,_,.round hU (er hU a s1 H1 _ _ (fun e1 s' H' q=>by obtain ⟨rfl,rfl,rfl⟩:=q;exact ⟨rfl,rfl,rfl⟩) h1),h2⟩
 |region id ops draw ay th fz=>
  intro s H K h;cases draw with
  |true=>
   simp only [aJ] at h⊢;obtain ⟨s',H',h1,h2⟩:=r8 hU df _ _ _ _ h.2;exact ⟨.normal,s',H',⟨h.1,mK hU (fun s H q=>⟨rfl,q⟩) _ _ _ _ h1⟩,h2⟩
  |false=>
   simp only [aJ] at h⊢;obtain ⟨s',H',h1,h2⟩:=pv hU df _ _ _ _ h;exact ⟨.normal,s',H',mL hU (fun s H q=>⟨rfl,q⟩) _ _ _ _ h1,h2⟩
 |fA l kp=>
  intro s H K h;simp only [aJ] at h⊢;split at h
  ·rename_i s' H' he;exact ⟨_,_,_,⟨rfl,rfl,rfl⟩,h⟩
  ·exact h.elim
 |bad=>intro s H K h;exact h.elim
theorem eI.mono {E:aM} {res:List ResultVar} {K K' :AV→J→Prop} (hK: ∀v H,K v H→K' v H): ∀e s H,eI E res K e s H→eI E res K' e s H
 | .normal,_,_,⟨rs,h1,h2⟩=>⟨rs,h1,hK _ _ h2⟩
 | .ret,_,_,⟨rs,h1,h2⟩=>⟨rs,h1,hK _ _ h2⟩
 | .exit _,_,_,h=>h
theorem eI.exact {E:aM} {res:List ResultVar} {K:AV→J→Prop}: ∀e s H,eI E res K e s H→ ∃v H',eI E res (fun v1 H1=>v1=v∧H1=H') e s H∧K v H'
 | .normal,_,_,⟨rs,h1,h2⟩=>⟨_,_,⟨rs,h1,rfl,rfl⟩,h2⟩
 | .ret,_,_,⟨rs,h1,h2⟩=>⟨_,_,⟨rs,h1,rfl,rfl⟩,h2⟩
 | .exit _,_,_,h=>h.elim
theorem r_ {X:bz} {C:aI} (hU:Up X) (df:Exact X) {f:FuncId} {ys:List AV} {H:J} {K:AV→J→Prop} (h:Body X C f ys H K): ∃v H',Body X C f ys H (fun v1 H1=>v1=v∧H1=H')∧K v H' :=by
 unfold Body at h⊢;split at h
 ·exact h.elim
 ·rename_i fn kn;split at h
  ·exact h.elim
  ·rename_i c hc;obtain ⟨e,s',H',h1,h2⟩:=zg hU df _ _ _ _ h;obtain ⟨v,H2,h3,h4⟩:=eI.exact _ _ _ h2;refine ⟨v,H2,?_,h4⟩;exact er hU _ _ _ _ _ (fun e1 s1 H1 q=>by obtain ⟨rfl,rfl,rfl⟩:=q;exact h3) h1
theorem Body.mono {X X' :bz} {C:aI} (hX: ∀f ys H (K K' :AV→J→Prop),(∀v H,K v H→K' v H)→X f ys H K→X' f ys H K') {f:FuncId} {ys:List AV} {H:J} {K K' :AV→J→Prop} (hK: ∀v H,K v H→K' v H) (h:Body X C f ys H K):Body X' C f ys H K' :=by
 unfold Body at h⊢;split at h
 ·exact h.elim
 ·rename_i fn kn;split at h
  ·exact h.elim
  ·rename_i c hc;exact er hX _ _ _ _ _ (eI.mono hK) h
def mM (C:aI):Prop:=Up C.ext
theorem aq.up {C:aI} (hE:mM C):Up (aq C):=by
 intro f ys H K K' hK h
 refine h (fun f ys H K=> ∀K',(∀v H,K v H→K' v H)→aq C f ys H K') ⟨fun f ys H K h K' hK X hX=>hX.1 _ _ _ _ (hE _ _ _ _ _ hK h),fun f ys H K h K' hK X hX=> ?_⟩ K' hK
 refine hX.2 _ _ _ _ (Body.mono (fun f ys H K K2 zh h=> ?_) hK h);exact h K2 zh X hX
theorem aq.intro {C:aI} (hE:mM C) {f:FuncId} {ys:List AV} {H:J} {K:AV→J→Prop} (h:Body (aq C) C f ys H K):aq C f ys H K:=by
 intro X hX;refine hX.2 _ _ _ _ (Body.mono (fun f ys H K K' hK hc=> ?_) (fun _ _ h=>h) h)
 exact aq.up hE _ _ _ _ _ hK hc X hX
theorem aq.exact {C:aI} (hE:mM C) (hX:Exact C.ext):Exact (aq C):=by
 intro f ys H K h;refine h (fun f ys H K=> ∃v H',aq C f ys H (fun v1 H1=>v1=v∧H1=H')∧K v H') ⟨fun f ys H K h=> ?_,fun f ys H K h=> ?_⟩
 ·obtain ⟨v,H',h1,h2⟩:=hX _ _ _ _ h;exact ⟨v,H',fun X hX=>hX.1 _ _ _ _ h1,h2⟩
 ·obtain ⟨v,H',h1,h2⟩:=r_ (X:=fun f ys H K=> ∃v H',aq C f ys H (fun v1 H1=>v1=v∧H1=H')∧K v H') (fun f ys H K K' hK ⟨v,H',h1,h2⟩=>⟨v,H',h1,hK _ _ h2⟩) (fun f ys H K ⟨v,H',h1,h2⟩=>⟨v,H',⟨v,H',h1,rfl,rfl⟩,h2⟩) h
  refine ⟨v,H',aq.intro hE (Body.mono (fun f ys H K K' hK ⟨v,H',h1,h2⟩=> ?_) (fun _ _ h=>h) h1),h2⟩
  exact aq.up hE _ _ _ _ _ (fun v1 H1 q=>by obtain ⟨rfl,rfl⟩:=q;exact hK _ _ h2) h1
theorem aq.ext {C:aI} {f:FuncId} {ys:List AV} {H:J} {K:AV→J→Prop} (h:C.ext f ys H K):aq C f ys H K:=fun _ hX=>hX.1 _ _ _ _ h
theorem Bg {P:Program} {C:aI} (hm:P.follows .mixedOrders=true) (hE: ∀t ti,C.E t=some ti→aQ P t ti) (hC: ∀f fn,C.code f=some fn→P.funcs[f]? =some fn∧(fn.name== "runtime.NumGoroutine")=false∧np (C.gb f) fn=true)
 (zi: ∀f ys H K,C.ext f ys H K→ ∃v H',cz P f ys H (fun v1 H1=>v1=v∧H1=H')∧K v H')
 {f:FuncId} {ys:List AV} {H:J} {K:AV→J→Prop} (h:aq C f ys H K):cz P f ys H K:=by
 have hY: ∃v H',cz P f ys H (fun v1 H1=>v1=v∧H1=H')∧K v H' :=by
  let Y:bz:=fun f ys H K=> ∃v H',cz P f ys H (fun v1 H1=>v1=v∧H1=H')∧K v H'
  have sa:Exact Y:=fun f ys H K ⟨v,H',h1,h2⟩=>⟨v,H',⟨v,H',h1,rfl,rfl⟩,h2⟩;have zj:Up Y:=fun f ys H K K' hK ⟨v,H',h1,h2⟩=>⟨v,H',h1,hK _ _ h2⟩
  have sb: ∀f ys H K,Y f ys H K→cz P f ys H K:=fun f ys H K ⟨v,H',h1,h2⟩=>h1.mono fun v1 H1 q=>by obtain ⟨rfl,rfl⟩:=q;exact h2
  refine h Y ⟨zi,fun f ys H K hb=> ?_⟩;obtain ⟨v,H',h1,h2⟩:=r_ zj sa hb;exact ⟨v,H',yI hm hE hC sb (rZ sa hm hE sb) h1,h2⟩
 obtain ⟨v,H',h1,h2⟩:=hY;exact h1.mono fun v1 H1 q=>by obtain ⟨rfl,rfl⟩:=q;exact h2
end Go.VS
namespace Go.VS
structure Good (C:aI):Prop where
 up:mM C
 exact:Exact C.ext
def lg (C:aI) (b:AC) (K:Ex→aj→J→Prop):Ex→aj→J→Prop
 | .normal,s,H=>aJ (aq C) C b s H K
 | .exit i,s,H=>K (.exit i) s H
 | .ret,s,H=>K .ret s H
def jo (id:Nat) (bJ:Option (List Nat)) (K:Ex→aj→J→Prop):Ex→aj→J→Prop
 | .normal,s,H=>K .normal (dS bJ s) H
 | .exit j,s,H=>if j=id then K .normal (dS bJ s) H else K (.exit j) s H
 | .ret,s,H=>K .ret s H
def sd (C:aI) (v:AV) (a b:AC) (s:aj) (H:J) (K:Ex→aj→J→Prop):Prop:=
 match v with
 | .bool t=>if t then aJ (aq C) C a s H K else aJ (aq C) C b s H K
 |_=>False
section
variable {C:aI} {K K1:Ex→aj→J→Prop} {s:aj} {H:J}
theorem Bh {a b:AC} (h: ∀K1,K1=lg C b K→aJ (aq C) C a s H K1):aJ (aq C) C (.seq a b) s H K:=by
 have:=h _ rfl;have e:lg C b K=(fun e s' H' =>match e with| .normal=>aJ (aq C) C b s' H' K|e=>K e s' H'):=by
  funext e s H;cases e<;>rfl
 rw [e] at this;exact this
theorem Bi {id:Nat} {kp:Option (List Nat)} {a:AC} (h: ∀K1,K1=jo id kp K→aJ (aq C) C a s H K1):aJ (aq C) C (.block id kp a) s H K:=by
 have:=h _ rfl;have e:jo id kp K=(fun e s' H' =>match e with
  | .exit j=>if j=id then K .normal (dS kp s') H' else K (.exit j) s' H'
  | .normal=>K .normal (dS kp s') H'
  | .ret=>K .ret s' H'):=by funext e s H;cases e<;>rfl
 rw [e] at this;exact this
theorem Bj (h:K .normal s H):aJ (aq C) C .skip s H K:=h
theorem Bk (h:K .ret s H):aJ (aq C) C .ret s H K:=h
theorem Bl {id:Nat} (h:K (.exit id) s H):aJ (aq C) C (.exit id) s H K:=h
theorem Bm {c:Operand} {a b:AC} (h:sd C (ev s c) a b s H K):aJ (aq C) C (.cond c a b) s H K:=h
theorem zk {l:List (List Nat×List Sh)} {kp:Option (List Nat)} {s' :aj} {H' :J} (he:dm l s H=some (s',H')) (h:K .normal (dS kp s') H'):aJ (aq C) C (.fA l kp) s H K:=by
 simp only [aJ,he];exact h
theorem Bn {kp:List Nat} (h:K .normal (ez kp s) H):aJ (aq C) C (.fA [] (some kp)) s H K:=h
theorem Bo {b:AC} (hK:K1=lg C b K) (h:aJ (aq C) C b s H K):K1 .normal s H:=by rw [hK];exact h
theorem Bp {b:AC} (hK:K1=lg C b K) (h:K .ret s H):K1 .ret s H:=by rw [hK];exact h
theorem Bq {b:AC} {i:Nat} (hK:K1=lg C b K) (h:K (.exit i) s H):K1 (.exit i) s H:=by rw [hK];exact h
theorem Br {id:Nat} {kp:Option (List Nat)} (hK:K1=jo id kp K) (h:K .normal (dS kp s) H):K1 .normal s H:=by rw [hK];exact h
theorem Bs {id:Nat} (hK:K1=jo id none K) (h:K .normal s H):K1 .normal s H:=by rw [hK];exact h
theorem Bt {id:Nat} {kp:Option (List Nat)} (hK:K1=jo id kp K) (h:K .normal (dS kp s) H):K1 (.exit id) s H:=by rw [hK];simp only [jo,if_true];exact h
theorem Bu {id:Nat} {kp:Option (List Nat)} (hK:K1=jo id kp K) (h:K .ret s H):K1 .ret s H:=by rw [hK];exact h
theorem Bv {E:aM} {res:List ResultVar} {P:AV→J→Prop} {rs:List AV} (hK:K1=eI E res P) (hr:eb E s H res=some rs) (h:P (cg rs) H):K1 .ret s H:=by rw [hK];exact ⟨rs,hr,h⟩
theorem Bw {E:aM} {a:Tmp} {P:AV→J→Prop} (hK:K1=eI E [.tmp a] P) {x:AV} (hx:s.getD a .undef=x) (h:P x H):K1 .ret s H:=by
 rw [hK];exact ⟨[s.getD a .undef],rfl,by rw [hx];exact h⟩
theorem Bx {E:aM} {a b:Tmp} {P:AV→J→Prop} (hK:K1=eI E [.tmp a,.tmp b] P) {x y:AV} (hx:s.getD a .undef=x) (hy:s.getD b .undef=y) (h:P (.aB [x,y]) H):K1 .ret s H:=by
 rw [hK];exact ⟨[s.getD a .undef,s.getD b .undef],rfl,by rw [hx,hy];exact h⟩
theorem By {α :Type} {c:Bool} {x y:Option α} {r: α} {a b:AC} (h:(bif c then x else y)=some r) (ht:c=true→x=some r→aJ (aq C) C a s H K) (hf:c=false→y=some r→aJ (aq C) C b s H K):sd C (.bool c) a b s H K:=by
 cases c with
 |true=>exact ht rfl h
 |false=>exact hf rfl h
theorem zl {a:AC} (h:aJ (aq C) C a s H K1) (hK: ∀e s H,K1 e s H→K e s H) (gC:Good C):aJ (aq C) C a s H K:=er (aq.up gC.up) a s H _ _ hK h
end
structure GO where
 d:Option Tmp
 op:Op
 g:Option (Option Tmp×Bool)
 late:List (Op×Option Tmp)
 th:Bool
 q:Bool
def lk:List Oper→Nat→Option Tmp
 |[],_=>none
 |o::_,0=>o.dst
 |_::os,n+1=>lk os n
def bh (X:bz) (C:aI) (q ga:Bool) (op:Op) (s:aj) (H:J) (K:AV→J→Prop):Prop:=wpOp X C q ga ⟨none,op,0,"",#[],none⟩ s H K
theorem se (X:bz) (C:aI) (q ga:Bool) (o:Oper) (s:aj) (H:J) (K:AV→J→Prop):wpOp X C q ga o s H K=bh X C q ga o.op s H K:=by
 cases o;rfl
def dN (C:aI) (s:aj) (H:J) (K:Prop):List (Op×Option Tmp)→Prop
 |[]=>K
 |(op,d)::js=>(∃t,d=some t∧aL C.E op s H=some (s.getD t .undef,H))∧dN C s H K js
def gY (g:Option (Option Tmp×Bool)) (s:aj) (a b:Prop):Prop:=
 match g with
 |none=>a
 |some (none,_)=>False
 |some (some t,want)=>match s.getD t .undef with
  | .bool c=>if c=want then a else b
  | .aB _=>b
  |_=>False
def dY (C:aI) (K:aj→J→Prop):List GO→aj→J→Prop
 |[],s,H=>K s H
 |o::rest,s,H=>gY o.g s (bh (aq C) C o.q o.th o.op s H fun v H' =>dN C (bf s o.d v) H' (dY C K rest (bf s o.d v) H') o.late)
  (dN C (bf s o.d (.aB [])) H (dY C K rest (bf s o.d (.aB [])) H) o.late)
def jU (ops:List Oper) (j:Nat):Op×Option Tmp:=match ops[j]? with|some o=>(o.op,o.dst)|none=>(.move (.tmp 0),none)
def dO (all:List Oper) (q:Nat→Bool) (late:Nat→List Nat) (th:List Nat):List Oper→Nat→List GO
 |[],_=>[]
 |o::rest,i=>⟨o.dst,o.op,o.guard.map fun p=>(lk all p.1,p.2),(late i).map (jU all),th.contains i,q i⟩::dO all q late th rest (i+1)
theorem pw: ∀(l:List Oper) (j:Nat),lk l j=(l[j]?).bind (·.dst)
 |[],j=>by simp [lk]
 |o::os,0=>by simp [lk]
 |o::os,j+1=>by simp [lk,pw os j]
theorem px {C:aI} {ops:Array Oper} {s:aj} {H:J} {K:Prop}: ∀(l:List Nat),dN C s H K (l.map (jU ops.toList))→eZ C ops s H K l
 |[],h=>h
 |j::js,h=>by
  simp only [List.map_cons,dN] at h;refine ⟨?_,px js h.2⟩;unfold jz;have h1:=h.1;unfold jU at h1;rw [Array.getElem?_toList] at h1;cases ho:ops[j]? with
  |none=>rw [ho] at h1;simp at h1
  |some o=>
   rw [ho] at h1;obtain ⟨t,ht,he⟩:=h1;simp only at ht he⊢;rw [ht];exact he
theorem mN {C:aI} (gC:Good C) {ops:Array Oper} {q:Nat→Bool} {late:Nat→List Nat} {th:List Nat} {K:aj→J→Prop}: ∀(l:List Oper) (i:Nat) (s:aj) (H:J),dY C K (dO ops.toList q late th l i) s H→cV (aq C) C ops q late th K l i s H
 |[],i,s,H,h=>h
 |o::rest,i,s,H,h=>by
  simp only [dO,dY] at h;have yes:(bh (aq C) C (q i) (th.contains i) o.op s H fun v H' =>dN C (bf s o.dst v) H' (dY C K (dO ops.toList q late th rest (i+1)) (bf s o.dst v) H') ((late i).map (jU ops.toList)))→
   wpOp (aq C) C (q i) (th.contains i) o s H fun v H' =>eZ C ops (bf s o.dst v) H' (cV (aq C) C ops q late th K rest (i+1) (bf s o.dst v) H') (late i):=by
   intro h;rw [←se] at h;refine hM (aq.up gC.up) (fun v H' h=> ?_) h
   exact lf (mN gC rest (i+1) _ _) _ (px _ h)
  simp only [cV];cases hg:o.guard with
  |none=>
   rw [hg] at h;simp only [Option.map_none,gY] at h⊢;exact yes h
  |some p=>
   obtain ⟨j,want⟩:=p;rw [hg] at h;simp only [Option.map_some,pw,Array.getElem?_toList] at h⊢;cases hd:(ops[j]?).bind (·.dst) with
   |none=>rw [hd] at h;exact h.elim
   |some t=>
    rw [hd] at h;simp only [gY] at h;have no:(dN C (bf s o.dst (.aB [])) H (dY C K (dO ops.toList q late th rest (i+1)) (bf s o.dst (.aB [])) H) ((late i).map (jU ops.toList)))→dl ops o s=some false→ ∃v H',(match dl ops o s with
     |some b=>if b then wpOp (aq C) C (q i) (th.contains i) o s H (fun v1 H1=>v1=v∧H1=H') else v= .aB []∧H' =H
     |none=>False)∧eZ C ops (bf s o.dst v) H' (cV (aq C) C ops q late th K rest (i+1) (bf s o.dst v) H') (late i):=by
     intro h hb;refine ⟨.aB [],H,?_,lf (mN gC rest (i+1) _ _) _ (px _ h)⟩;rw [hb];simp
    split at h
    ·rename_i c hc;have lh:dl ops o s=some (c==want):=by
      unfold dl;rw [hg];simp only [hd,hc]
     split at h
     ·rename_i jp;obtain ⟨v,H',h1,h2⟩:=kX (aq.exact gC.up gC.exact) (yes h);refine ⟨v,H',?_,h2⟩;rw [lh,jp];simp only [beq_self_eq_true,if_true];exact h1
     ·rename_i jp;exact no h (by rw [lh];simpa using jp)
    ·rename_i hc;exact no h (by unfold dl;rw [hg];simp only [hd,hc])
    ·exact h.elim
section
variable {C:aI} {K K1:Ex→aj→J→Prop} {s:aj} {H:J}
def iF (K:Ex→aj→J→Prop):aj→J→Prop:=fun s H=>K .normal s H
theorem Bz (gC:Good C) {id:Nat} {ops:List Oper} {ls th:List Nat} (h:dY C (iF K) (dO ops (fun _=>false) (fun _=>[]) th ops 0) s H):aJ (aq C) C (.region id ops.toArray false ls th []) s H K:=by
 have h2:=mN gC (ops:=ops.toArray) (q:=fun _=>false) (late:=fun _=>[]) (th:=th) ops 0 s H h;have key: ∀(l:List Oper) (i:Nat) (s:aj) (H:J),cV (aq C) C ops.toArray (fun _=>false) (fun _=>[]) th (iF K) l i s H→cK (aq C) C ops.toArray th [] (iF K) l i s H:=by
  intro l;induction l with
  |nil=>intro i s H h;exact h
  |cons o rest ih=>
   intro i s H h;simp only [cV,eZ] at h;simp only [cK];refine ⟨s,H,rfl,?_⟩;cases hg:o.guard with
   |none=>
    rw [hg] at h;exact hM (aq.up gC.up) (fun v H' hv=>ih (i+1) _ _ hv) h
   |some p=>
    rw [hg] at h;obtain ⟨v,H',h1,h2⟩:=h;exact ⟨v,H',h1,ih (i+1) _ _ h2⟩
 exact key _ _ _ _ h2
def fV (C:aI) (fz:List (Nat×List (List Nat×List Sh))) (K:aj→J→Prop):List GO→Nat→aj→J→Prop
 |[],_,s,H=>K s H
 |o::rest,i,s0,H0=> ∃s H,dm ((fz.lookup i).getD []) s0 H0=some (s,H)∧
  gY o.g s (bh (aq C) C o.q o.th o.op s H fun v H' =>fV C fz K rest (i+1) (bf s o.d v) H') (fV C fz K rest (i+1) (bf s o.d (.aB [])) H)
theorem py (gC:Good C) {ops:Array Oper} {th:List Nat} {fz:List (Nat×List (List Nat×List Sh))} {K:aj→J→Prop}: ∀(l:List Oper) (i:Nat) (s:aj) (H:J),fV C fz K (dO ops.toList (fun _=>false) (fun _=>[]) th l i) i s H→cK (aq C) C ops th fz K l i s H
 |[],i,s,H,h=>h
 |o::rest,i,s0,H0,h=>by
  simp only [dO,fV] at h;obtain ⟨s,H,hf,h⟩:=h;simp only [cK];refine ⟨s,H,hf,?_⟩;have yes:(bh (aq C) C false (th.contains i) o.op s H fun v H' =>fV C fz K (dO ops.toList (fun _=>false) (fun _=>[]) th rest (i+1)) (i+1) (bf s o.dst v) H')→
   wpOp (aq C) C false (th.contains i) o s H fun v H' =>cK (aq C) C ops th fz K rest (i+1) (bf s o.dst v) H' :=by
   intro h;rw [←se] at h;exact hM (aq.up gC.up) (fun v H' h=>py gC rest (i+1) _ _ h) h
  cases hg:o.guard with
  |none=>
   rw [hg] at h;simp only [Option.map_none,gY] at h⊢;exact yes h
  |some p=>
   obtain ⟨j,want⟩:=p;rw [hg] at h;simp only [Option.map_some,pw,Array.getElem?_toList] at h⊢;cases hd:(ops[j]?).bind (·.dst) with
   |none=>rw [hd] at h;exact h.elim
   |some t=>
    rw [hd] at h;simp only [gY] at h;have no:fV C fz K (dO ops.toList (fun _=>false) (fun _=>[]) th rest (i+1)) (i+1) (bf s o.dst (.aB [])) H→dl ops o s=some false→ ∃v H',(match dl ops o s with
     |some b=>if b then wpOp (aq C) C false (th.contains i) o s H (fun v1 H1=>v1=v∧H1=H') else v= .aB []∧H' =H
     |none=>False)∧cK (aq C) C ops th fz K rest (i+1) (bf s o.dst v) H' :=by
     intro h hb;refine ⟨.aB [],H,?_,py gC rest (i+1) _ _ h⟩;rw [hb];simp
    split at h
    ·rename_i c hc;have lh:dl ops o s=some (c==want):=by
      unfold dl;rw [hg];simp only [hd,hc]
     split at h
     ·rename_i jp;obtain ⟨v,H',h1,h2⟩:=kX (aq.exact gC.up gC.exact) (yes h);refine ⟨v,H',?_,h2⟩;rw [lh,jp];simp only [beq_self_eq_true,if_true];exact h1
     ·rename_i jp;exact no h (by rw [lh];simpa using jp)
    ·rename_i hc;exact no h (by unfold dl;rw [hg];simp only [hd,hc])
    ·exact h.elim
theorem BA (gC:Good C) {id:Nat} {ops:List Oper} {ls th:List Nat} {fz:List (Nat×List (List Nat×List Sh))} (h:fV C fz (iF K) (dO ops (fun _=>false) (fun _=>[]) th ops 0) 0 s H):aJ (aq C) C (.region id ops.toArray false ls th fz) s H K:=
 py gC (ops:=ops.toArray) ops 0 s H h
theorem sf (gC:Good C) {id:Nat} {ops:List Oper} {ls th:List Nat} {fz:List (Nat×List (List Nat×List Sh))} (hd:ig ops.toArray ls=true) (h:dY C (iF K) (dO ops (fun i=> !ls.contains i) (fD ops.toArray ls) th ops 0) s H):aJ (aq C) C (.region id ops.toArray true ls th fz) s H K:=by
 have:=mN gC (ops:=ops.toArray) (q:=fun i=> !ls.contains i) (late:=fD ops.toArray ls) (th:=th) ops 0 s H h;exact ⟨hd,this⟩
theorem zm (ops:Array Oper):fD ops []=fun _=>[]:=by funext i;rfl
theorem BB (gC:Good C) {id:Nat} {ops:List Oper} {th:List Nat} {fz:List (Nat×List (List Nat×List Sh))} (hd:ig ops.toArray []=true) (h:dY C (iF K) (dO ops (fun _=>true) (fun _=>[]) th ops 0) s H):aJ (aq C) C (.region id ops.toArray true [] th fz) s H K:=
 sf gC hd (by rw [zm];exact h)
end
theorem BC {C:aI} (gC:Good C) {f:FuncId} {fn:Func} {c:Code} {res:List ResultVar} {n:Nat} (hc:C.code f=some fn) (hb:fn.body=some c) (hr:fn.results=res.toArray) (hn:fn.ntmps=n) {ys:List AV} {H:J} {P:AV→J→Prop}
 (h: ∀K0,K0=eI C.E res P→aJ (aq C) C (cU (C.gb f) 0 c) (ys ++ List.replicate (n-ys.length) .undef) H K0):aq C f ys H P:=by
 refine aq.intro gC.up ?_;unfold Body;rw [hc];simp only [hb,hr,hn];exact h _ rfl
end Go.VS
namespace Go.VS
def cR (v:Option AV) (H:J) (K:AV→J→Prop):Prop:=match v with|some v=>K v H|none=>False
def et (r:Option (AV×J)) (K:AV→J→Prop):Prop:=match r with|some (v,H)=>K v H|none=>False
section
variable {C:aI} {q th:Bool} {s:aj} {H:J} {K:AV→J→Prop}
theorem c8 (op:Op) (h:dD op=true):bh (aq C) C q th op s H K=et (aL C.E op s H) K:=by
 have: ∀c,op≠ .call c:=by rintro c rfl;simp [dD] at h
 unfold bh wpOp;split
 ·rename_i bB;exact absurd bB (this _)
 ·rename_i bB;exact absurd bB (this _)
 ·simp only [h,implies_true,true_and];rfl
theorem sg (op:Op) (h: ∀c,op≠ .call c):bh (aq C) C false th op s H K=et (aL C.E op s H) K:=by
 unfold bh wpOp;split
 ·rename_i bB;exact absurd bB (h _)
 ·rename_i bB;exact absurd bB (h _)
 ·simp only [Bool.false_eq_true,false_implies,true_and];rfl
theorem si (K:aj→J→Prop):dY C K [] s H=K s H:=rfl
def gy (v:AV) (w:Bool) (a b:Prop):Prop:=match v with| .bool c=>if c=w then a else b| .aB _=>b|_=>False
theorem sj (a b:Prop):gy (.bool true) true a b=a:=by simp [gy]
theorem sk (a b:Prop):gy (.bool false) false a b=a:=by simp [gy]
theorem sm (a b:Prop):gy (.bool true) false a b=b:=by simp [gy]
theorem sn (a b:Prop):gy (.bool false) true a b=b:=by simp [gy]
theorem so (K:Prop):dN C s H K []=K:=rfl
theorem sq (K:Prop) (op:Op) (t:Tmp) (js:List (Op×Option Tmp)):dN C s H K ((op,some t)::js)=(aL C.E op s H=some (s.getD t .undef,H)∧dN C s H K js):=by
 simp [dN]
theorem ss (t:Tmp) (v:AV):bf s (some t) v=s.set t v:=rfl
theorem su (v:AV):bf s none v=s:=rfl
theorem sw (t:Tmp):ev s (.tmp t)=s.getD t .undef:=rfl
theorem sx (v:Value):ev s (.const v)=ofValue v:=rfl
theorem sy (f:FuncId):ev s (.func f)= .fn f []:=rfl
theorem sA (k:IntKind) (n:Int):ofValue (.int k n)= .int k n:=rfl
theorem sB (b:Bool):ofValue (.bool b)= .bool b:=rfl
theorem sC:ofValue (.slice none 0 0)= .nil:=rfl
theorem sD:ofValue .nilIface= .cf false:=rfl
theorem sE:ofValue (.pointer none)= .dr:=rfl
theorem sF (b:ByteArray):ofValue (.string b)= .str b.data.toList:=rfl
theorem sG (v:AV):cR (some v) H K=K v H:=rfl
theorem sH (x:Operand):bh (aq C) C q th (.move x) s H K=K (ev s x) H:=by rw [c8 _ rfl];rfl
theorem sI (x:Operand):bh (aq C) C q th (.assign x) s H K=K (ev s x) H:=by rw [c8 _ rfl];rfl
theorem sJ (b:BinOp) (t:TypeId) (x:Operand) (c:Value) (w:TypeId):bh (aq C) C q th (.binOp b t x (.const c) w) s H K=cR (aH C.E b t (ev s x) (ofValue c)) H K:=by
 rw [c8 _ rfl];simp only [aL,show ev s (.const c)=ofValue c from rfl];generalize aH C.E b t (ev s x) (ofValue c)=r;cases r<;>rfl
def jV (E:aM) (b:BinOp) (t:TypeId) (x y:AV) (H:J) (K:AV→J→Prop):Prop:=match y with| .cf _=>False|y=>cR (aH E b t x y) H K
theorem sK (b:BinOp) (t:TypeId) (x:Operand) (n:Tmp) (w:TypeId):bh (aq C) C q th (.binOp b t x (.tmp n) w) s H K=jV C.E b t (ev s x) (ev s (.tmp n)) H K:=by
 rw [c8 _ rfl];simp only [aL];generalize ev s (.tmp n)=y;unfold jV;cases y
 all_goals (first|rfl|(simp only;generalize aH C.E b t (ev s x) _=r;cases r<;>rfl))
theorem sL (E:aM) (b:BinOp) (t:TypeId) (x:AV) (k:IntKind) (n:Int):jV E b t x (.int k n) H K=cR (aH E b t x (.int k n)) H K:=rfl
theorem sM (E:aM) (b:BinOp) (t:TypeId) (x:AV) (n:Bool):jV E b t x (.bool n) H K=cR (aH E b t x (.bool n)) H K:=rfl
theorem sN (E:aM) (b:BinOp) (t:TypeId) (x:AV) (n:List UInt8):jV E b t x (.str n) H K=cR (aH E b t x (.str n)) H K:=rfl
theorem sO (E:aM) (b:BinOp) (t:TypeId) (x:AV) (n:List AV):jV E b t x (.agg n) H K=cR (aH E b t x (.agg n)) H K:=rfl
variable (E:aM) (t:TypeId) (k:IntKind) (a b:Int) (c d:Bool) (u v:List UInt8)
theorem sP:aH E .add t (.int k a) (.int k b)=some (.int k (k.wrap (a+b))):=by simp [aH,da]
theorem sQ:aH E .sub t (.int k a) (.int k b)=some (.int k (k.wrap (a-b))):=by simp [aH,da]
theorem sR:aH E .mul t (.int k a) (.int k b)=some (.int k (k.wrap (a*b))):=by simp [aH,da]
theorem zn:aH E .and t (.int k a) (.int k b)=some (.int k (k.wrap (BitVec.ofInt k.bits a&&&BitVec.ofInt k.bits b).toNat)):=by simp [aH,da]
theorem zo:aH E .or t (.int k a) (.int k b)=some (.int k (k.wrap (BitVec.ofInt k.bits a|||BitVec.ofInt k.bits b).toNat)):=by simp [aH,da]
theorem zp:aH E .xor t (.int k a) (.int k b)=some (.int k (k.wrap (BitVec.ofInt k.bits a^^^BitVec.ofInt k.bits b).toNat)):=by simp [aH,da]
theorem sT:aH E .eql t (.int k a) (.int k b)=some (.bool (a==b)):=by simp [aH,da]
theorem sU:aH E .neq t (.int k a) (.int k b)=some (.bool (a !=b)):=by simp [aH,da]
theorem sV:aH E .lss t (.int k a) (.int k b)=some (.bool (decide (a<b))):=by simp [aH,da]
theorem sW:aH E .leq t (.int k a) (.int k b)=some (.bool (decide (a≤b))):=by simp [aH,da]
theorem sY:aH E .gtr t (.int k a) (.int k b)=some (.bool (decide (b<a))):=by simp [aH,da]
theorem sZ:aH E .geq t (.int k a) (.int k b)=some (.bool (decide (b≤a))):=by simp [aH,da]
def dv (k:IntKind) (a b:Int):Option Int:=if b=0 then none else some (k.wrap (a.tdiv b))
def md (a b:Int):Option Int:=if b=0 then none else some (a.tmod b)
theorem s4:aH E .quo t (.int k a) (.int k b)=(dv k a b).map (.int k):=by simp [aH,da,dv];split<;>rfl
theorem s7:aH E .rem t (.int k a) (.int k b)=(md a b).map (.int k):=by simp [aH,da,md];split<;>rfl
def sl (k:IntKind) (a b:Int):Option Int:=if b<0 then none else some (k.wrap (a*2^(min b.toNat k.bits)))
def sr (k:IntKind) (a b:Int):Option Int:=if b<0 then none else some (a.fdiv (2^(min b.toNat k.bits)))
theorem s8 (j:IntKind):aH E .shl t (.int k a) (.int j b)=(sl k a b).map (.int k):=by simp [aH,sl];split<;>rfl
theorem s9 (j:IntKind):aH E .shr t (.int k a) (.int j b)=(sr k a b).map (.int k):=by simp [aH,sr];split<;>rfl
theorem tc:aH E .eql t (.str u) (.str v)=some (.bool (u==v)):=by simp [aH,iK]
theorem tg:aH E .neq t (.str u) (.str v)=some (.bool (!(u==v))):=by simp [aH,iK]
def cat (u v:List UInt8):Option (List UInt8):=if u.length+v.length≤2^45 then some (u ++ v) else none
theorem tj:aH E .add t (.str u) (.str v)=(cat u v).map .str:=by simp only [aH,iK,cat];split<;>rfl
theorem BD {ti:TI} (h:E t=some ti) (hu:ti.au= .bl):aH E .eql t (.bool c) (.bool d)=some (.bool (c==d)):=by simp [aH,h,hu]
theorem BE {ti:TI} (h:E t=some ti) (hu:ti.au= .bl):aH E .neq t (.bool c) (.bool d)=some (.bool (!(c==d))):=by simp [aH,h,hu]
def li (ti:Option TI) (r:Option Bool) (neg:Bool):Option AV:=match ti with|some ti=>if ti.agg then (match r with|some b=>some (.bool (if neg then !b else b))|none=>none) else none|none=>none
theorem tn (xs ys:List AV):aH E .eql t (.agg xs) (.agg ys)=li (E t) (dA E 8 t xs ys) false:=by
 simp only [aH,li];cases E t<;>rfl
theorem tp (xs ys:List AV):aH E .neq t (.agg xs) (.agg ys)=li (E t) (dA E 8 t xs ys) true:=by
 simp only [aH,li];cases E t<;>rfl
def hN (ti:Option TI) (x y:AV) (neg:Bool):Option AV:=match ti with|some ti=>(match isNil ti.au x y with|some b=>some (.bool (if neg then !b else b))|none=>none)|none=>none
theorem tq:aH E .eql t .nil .nil=hN (E t) .nil .nil false:=by simp only [aH,hN];cases E t<;>rfl
theorem tv:aH E .neq t .nil .nil=hN (E t) .nil .nil true:=by simp only [aH,hN];cases E t<;>rfl
theorem tw (x:Bool):aH E .eql t (.cf x) (.cf false)=hN (E t) (.cf x) (.cf false) false:=by simp only [aH,hN];cases E t<;>rfl
theorem tz (x:Bool):aH E .neq t (.cf x) (.cf false)=hN (E t) (.cf x) (.cf false) true:=by simp only [aH,hN];cases E t<;>rfl
theorem w_num {α :Type} {o:Option Int} {f:Int→Option α} {r: α} (h:o.bind f=some r) (hk: ∀n,o=some n→f n=some r→K (.int k n) H):cR (o.map (.int k)) H K:=by
 cases o with
 |none=>simp at h
 |some n=>exact hk n rfl h
theorem tA (op:UnOp) (x:Operand):bh (aq C) C q th (.unOp op t x) s H K=cR (iL op (ev s x)) H K:=by
 rw [c8 _ rfl];simp only [aL];generalize iL op (ev s x)=r;cases r<;>rfl
theorem tB:iL .not (.bool c)=some (.bool !c):=rfl
theorem tC:iL .neg (.int k a)=some (.int k (k.wrap (0-a))):=rfl
def mO (c:AV) (x y:AV) (H:J) (K:AV→J→Prop):Prop:=match c with| .bool t=>K (if t then x else y) H|_=>False
theorem tD (x y z:Operand):bh (aq C) C q th (.pick x y z) s H K=mO (ev s x) (ev s y) (ev s z) H K:=by
 rw [c8 _ rfl];simp only [aL];generalize ev s x=r;cases r<;>rfl
theorem tE (x y:AV):mO (.bool true) x y H K=K x H:=rfl
theorem tF (x y:AV):mO (.bool false) x y H K=K y H:=rfl
theorem tG (p:Bool):mO (.bool p) (.bool c) (.bool d) H K=K (.bool (if p then c else d)) H:=by cases p<;>rfl
def pz (x:AV) (i:Nat) (H:J) (K:AV→J→Prop):Prop:=match x with| .aB vs=>cR vs[i]? H K|_=>False
theorem tH (x:Operand) (i:Nat):bh (aq C) C q th (.extract x i) s H K=pz (ev s x) i H K:=by
 rw [c8 _ rfl];simp only [aL,pz];generalize ev s x=r;cases r<;>first|rfl|(simp only;rename_i vs;cases vs[i]? <;>rfl)
theorem tI (vs:List AV) (i:Nat):pz (.aB vs) i H K=cR vs[i]? H K:=rfl
def mP (ti:TI) (x:Option AV) (off:Nat) (H:J) (K:AV→J→Prop):Prop:=match x with|some y=>cR (bL ti y off) H K|none=>False
def mQ (ti:TI) (b:Option bE) (idx off:Nat) (H:J) (K:AV→J→Prop):Prop:=match b with|some b=>mP ti b.el[idx]? off H K|none=>False
def mR (ti:Option TI) (x:AV) (H:J) (K:AV→J→Prop):Prop:=
 match ti with
 |some ti=>match x with
  | .fe y off=>cR (bL ti y off) H K
  | .ptr id ad idx off=>mQ ti (H.ap id ad) idx off H K
  |_=>False
 |none=>False
theorem o_load (x:Operand):bh (aq C) C q th (.load t x) s H K=mR (C.E t) (ev s x) H K:=by
 rw [c8 _ rfl];simp only [aL,mR];cases C.E t with
 |none=>rfl
 |some ti=>
  simp only;generalize ev s x=r;cases r<;>first|rfl|skip
  ·rename_i id ad idx off;simp only [mQ];cases H.ap id ad with
   |none=>rfl
   |some b=>
    simp only [mP];cases b.el[idx]? with
    |none=>rfl
    |some y=>simp only;generalize bL ti y off=z;cases z<;>rfl
  ·rename_i y off;simp only;generalize bL ti y off=z;cases z<;>rfl
theorem tJ (ti:TI) (y:AV) (off:Nat):mR (some ti) (.fe y off) H K=cR (bL ti y off) H K:=rfl
theorem tK (ti:TI) (id ad idx off:Nat):mR (some ti) (.ptr id ad idx off) H K=mQ ti (H.ap id ad) idx off H K:=rfl
theorem tL (ti:TI) (b:bE) (idx off:Nat):mQ ti (some b) idx off H K=mP ti b.el[idx]? off H K:=rfl
theorem tM (ti:TI) (y:AV) (off:Nat):mP ti (some y) off H K=cR (bL ti y off) H K:=rfl
def lj (E:aM) (t:TypeId) (f:Nat):Option (Nat×TI):=match E t with
 |some ti=>match ti.au with
  | .st fs=>match fs[f]? with
   |some (o,ft)=>match E ft with
    |some tf=>some (o,tf)
    |none=>none
   |none=>none
  |_=>none
 |none=>none
def iG (p:Option (Nat×TI)) (x:AV) (H:J) (K:AV→J→Prop):Prop:=match p with
 |some (o,tf)=>if tf.sz=0 then False else match x with
  | .ptr id ad idx off=>match H.ap id ad with
   |some _=>K (.ptr id ad idx (off+o)) H
   |none=>False
  | .fe y off=>K (.fe y (off+o)) H
  |_=>False
 |none=>False
theorem tN (x:Operand) (f:Nat):bh (aq C) C q th (.fieldAddr t x f) s H K=iG (lj C.E t f) (ev s x) H K:=by
 rw [c8 _ rfl];simp only [aL,iG,lj];cases C.E t with
 |none=>rfl
 |some ti=>
  simp only;cases ti.au<;>try rfl
  rename_i fs;simp only;cases fs[f]? with
  |none=>rfl
  |some p=>
   obtain ⟨o,ft⟩:=p;simp only;cases C.E ft with
   |none=>rfl
   |some tf=>
    simp only;split
    ·rfl
    ·generalize ev s x=r;cases r<;>try rfl
     rename_i id ad idx off;simp only;cases H.ap id ad<;>rfl
theorem zq (o:Nat) (tf:TI) (h:(tf.sz==0)=false) (y:AV) (off:Nat):iG (some (o,tf)) (.fe y off) H K=K (.fe y (off+o)) H:=by
 simp at h;simp [iG,h]
theorem zr (o:Nat) (tf:TI) (h:(tf.sz==0)=false) (id ad idx off:Nat):iG (some (o,tf)) (.ptr id ad idx off) H K=(match H.ap id ad with|some _=>K (.ptr id ad idx (off+o)) H|none=>False):=by
 simp at h;simp [iG,h]
def pA (p:Option (Nat×TI)) (x:AV) (H:J) (K:AV→J→Prop):Prop:=match x with
 | .agg cs=>(match p with|some (o,tf)=>cR (bL tf (.agg cs) o) H K|none=>False)
 |_=>False
theorem tO (x:Operand) (f:Nat):bh (aq C) C q th (.field t x f) s H K=pA (lj C.E t f) (ev s x) H K:=by
 rw [c8 _ rfl];simp only [aL,pA,lj];cases C.E t with
 |none=>simp only;generalize ev s x=r;cases r<;>rfl
 |some ti=>
  simp only;generalize ev s x=r;cases r
  case agg cs=>
   simp only;cases ti.au<;>try rfl
   rename_i fs;simp only;cases fs[f]? with
   |none=>rfl
   |some p=>
    obtain ⟨o,ft⟩:=p;simp only;cases C.E ft with
    |none=>rfl
    |some tf=>simp only;generalize bL tf (.agg cs) o=z;cases z<;>rfl
  all_goals rfl
theorem tP (o:Nat) (tf:TI) (cs:List AV):pA (some (o,tf)) (.agg cs) H K=cR (bL tf (.agg cs) o) H K:=rfl
theorem tQ (x:Operand):bh (aq C) C q th (.call {callee:= .builtin .len,args:= #[x],argTypes:= #[t]}) s H K=et (dt C.E .len #[t] [ev s x] H) K:=by
 unfold bh wpOp;simp only [eY,implies_true,true_and];rfl
def dZ (ti:Option TI) (x:AV) (n:Option Nat) (H:J) (K:AV→J→Prop):Prop:=match ti,n with
 |some ti,some n=>match ti.au,x with
  | .str,.str _=>K (.int .i64 n) H
  | .sl _,.str _=>False
  | .sl _,_=>K (.int .i64 n) H
  |_,_=>False
 |_,_=>False
theorem tR (E:aM) (t:TypeId) (x:AV):et (dt E .len #[t] [x] H) K=dZ (E t) x (lenOf H x) H K:=by
 simp only [dt,dZ];have:(#[t]:Array TypeId)[0]?.bind E=E t:=rfl;rw [this];cases E t with
 |none=>rfl
 |some ti=>
  obtain ⟨sz,agg,z,mS,au,eq⟩:=ti;cases lenOf H x with
  |none=>rfl
  |some n=>cases au<;>cases x<;>rfl
theorem tS (xs:Array Operand) (tys:Array TypeId):bh (aq C) C q th (.call {callee:= .builtin .min,args:=xs,argTypes:=tys}) s H K=cR (jw (xs.toList.map (ev s))) H K:=by
 unfold bh wpOp;simp only [eY,implies_true,true_and,dt];generalize jw _=r;cases r<;>rfl
theorem tT (xs:Array Operand) (tys:Array TypeId):bh (aq C) C q th (.call {callee:= .builtin .max,args:=xs,argTypes:=tys}) s H K=cR (jx (xs.toList.map (ev s))) H K:=by
 unfold bh wpOp;simp only [eY,implies_true,true_and,dt];generalize jx _=r;cases r<;>rfl
theorem min2:jw [.int k a,.int k b]=some (.int k (if b<a then b else a)):=rfl
theorem max2:jx [.int k a,.int k b]=some (.int k (if b>a then b else a)):=rfl
end
end Go.VS
namespace Go.VS
structure It where
 v:AV
 sz:Nat
 el:List AV
def b7:AV→Option Nat
 | .ref id _ _ _=>some id
 | .ptr id _ _ _=>some id
 |_=>none
def gA (H:J) (it:It):Prop:=bU it.sz it.el=true∧match it.v with
 | .nil=>it.el=[]
 | .e0=>it.el=[]
 | .ref id ad off len=>len=it.el.length∧ ∃b,H.ap id ad=some b∧b.sz=it.sz∧b.fix=false∧off+len≤b.el.length∧aE b.el off len=it.el
 | .ptr id ad idx off=>idx=0∧off=0∧it.el.length=1∧H.ap id ad=some ⟨ad,it.sz,false,it.el⟩
 |_=>False
structure aD (H:J) (L:List It):Prop where
 ok: ∀(i:Nat) (it:It),L[i]? =some it→gA H it
 b8: ∀(i j:Nat) (a b:It) (id:Nat),L[i]? =some a→L[j]? =some b→b7 a.v=some id→b7 b.v=some id→i=j
theorem gA.lt {H:J} {it:It} (h:gA H it) {id:Nat} (hi:b7 it.v=some id):id<H.bs.length:=by
 obtain ⟨_,h⟩:=h;cases hv:it.v with
 |ref i ad off len=>
  rw [hv] at h hi;simp only [b7,Option.some.injEq] at hi;subst hi;obtain ⟨_,b,hb,_⟩:=h;exact J.gI (J.bp hb).1
 |ptr i ad ix off=>
  rw [hv] at h hi;simp only [b7,Option.some.injEq] at hi;subst hi;obtain ⟨_,_,_,hb⟩:=h;exact J.gI (J.bp hb).1
 |_=>rw [hv] at hi;simp [b7] at hi
theorem gA.frame {H H' :J} {it:It} (h:gA H it) (hk: ∀id ad,b7 it.v=some id→H'.ap id ad=H.ap id ad):gA H' it:=by
 obtain ⟨h0,h⟩:=h;refine ⟨h0,?_⟩;cases hv:it.v with
 |ref i ad off len=>
  rw [hv] at h hk;obtain ⟨h1,b,hb,h2⟩:=h;exact ⟨h1,b,by rw [hk i ad rfl];exact hb,h2⟩
 |ptr i ad ix off=>
  rw [hv] at h hk;obtain ⟨h1,h2,h3,hb⟩:=h;exact ⟨h1,h2,h3,by rw [hk i ad rfl];exact hb⟩
 |_=>rw [hv] at h;exact h
theorem aD.tl {H:J} {a:It} {L:List It} (h:aD H (a::L)):aD H L:=
 ⟨fun i it hi=>h.ok (i+1) it hi,fun i j x y id h1 h2 h3 h4=>by have:=h.b8 (i+1) (j+1) x y id h1 h2 h3 h4;omega⟩
theorem aD.nil (H:J):aD H []:=⟨by simp,by simp⟩
theorem aD.bj {H H' :J} {L:List It} (h:aD H L) {j:Nat} {it it' :It} (hj:L[j]? =some it) {i:Nat} (hi:b7 it.v=some i) (hk: ∀id ad,id≠i→id<H.bs.length→H'.ap id ad=H.ap id ad) (hn:gA H' it') (bO: ∀k,b7 it'.v=some k→k=i):aD H' (L.set j it'):=by
 have aw:j<L.length:=(List.getElem?_eq_some_iff.1 hj).1;refine ⟨fun k a bD=> ?_,fun k l a b id h1 h2 h3 h4=> ?_⟩
 ·rw [List.getElem?_set] at bD;split at bD
  ·simp only [Option.some.injEq] at bD;subst bD;exact hn
  ·rename_i aN;have ho:=h.ok k a bD;refine ho.frame fun id ad tU=>hk id ad (fun e=> ?_) (ho.lt tU)
   subst e;exact aN (h.b8 j k it a id hj bD hi tU)
 ·rw [List.getElem?_set] at h1 h2;split at h1
  ·rename_i e1;subst e1;simp only [Option.some.injEq] at h1;subst h1;split at h2
   ·rename_i e2;exact e2
   ·have:=bO id h3;subst this;exact h.b8 j l it b id hj h2 hi h4
  ·split at h2
   ·rename_i e2;subst e2;simp only [Option.some.injEq] at h2;subst h2;have:=bO id h4;subst this;exact h.b8 k j a it id h1 hj h3 hi
   ·exact h.b8 k l a b id h1 h2 h3 h4
theorem aD.new {H H' :J} {L:List It} (h:aD H L) (hk: ∀id ad,id<H.bs.length→H'.ap id ad=H.ap id ad) {it:It} (hn:gA H' it) (bO: ∀k,b7 it.v=some k→H.bs.length≤k):aD H' (it::L):=by
 refine ⟨fun k a bD=> ?_,fun k l a b id h1 h2 h3 h4=> ?_⟩
 ·cases k with
  |zero=>simp at bD;subst bD;exact hn
  |succ k=>have ho:=h.ok k a (by simpa using bD);exact ho.frame fun id ad hi=>hk id ad (ho.lt hi)
 ·cases k with
  |zero=>
   simp at h1;subst h1;cases l with
   |zero=>rfl
   |succ l=>
    have:=(h.ok l b (by simpa using h2)).lt h4
    have:=bO id h3;omega
  |succ k=>
   cases l with
   |zero=>
    simp at h2;subst h2;have:=(h.ok k a (by simpa using h1)).lt h3
    have:=bO id h4;omega
   |succ l=>have:=h.b8 k l a b id (by simpa using h1) (by simpa using h2) h3 h4;omega
theorem aD.tV {H H' :J} {L:List It} (h:aD H L) (hk: ∀id ad,id<H.bs.length→H'.ap id ad=H.ap id ad) {j:Nat} {it' :It} (hn:gA H' it') (bO: ∀k,b7 it'.v=some k→H.bs.length≤k):aD H' (L.set j it'):=by
 refine ⟨fun k a bD=> ?_,fun k l a b id h1 h2 h3 h4=> ?_⟩
 ·rw [List.getElem?_set] at bD;split at bD
  ·split at bD
   ·simp only [Option.some.injEq] at bD;subst bD;exact hn
   ·simp at bD
  ·have ho:=h.ok k a bD;exact ho.frame fun id ad hi=>hk id ad (ho.lt hi)
 ·rw [List.getElem?_set] at h1 h2;split at h1
  ·rename_i e1;subst e1;split at h1
   ·simp only [Option.some.injEq] at h1;subst h1;split at h2
    ·rename_i e2;exact e2
    ·have:=(h.ok l b h2).lt h4;have:=bO id h3;omega
   ·simp at h1
  ·split at h2
   ·rename_i e2;subst e2;split at h2
    ·simp only [Option.some.injEq] at h2;subst h2;have:=(h.ok k a h1).lt h3;have:=bO id h4;omega
    ·simp at h2
   ·exact h.b8 k l a b id h1 h2 h3 h4
theorem mT {H:J} {sz:Nat} {fx:Bool} {el:List AV} {id ad:Nat} (h:id<H.bs.length):(H.new sz fx el).ap id ad=H.ap id ad:=by
 simp only [J.ap,J.new,List.getElem?_append_left h]
theorem mU {H:J} {sz:Nat} {fx:Bool} {el:List AV}:(H.new sz fx el).ap H.bs.length H.st=some ⟨H.st,sz,fx,el⟩:=by
 simp [J.ap,J.new]
theorem mV {H:J} {i id ad:Nat} {b:bE} (h:id≠i):(H.bj i b).ap id ad=H.ap id ad:=by
 have h' : ¬i=id:=fun e=>h e.symm
 simp only [J.ap,J.bj,List.getElem?_set,if_neg h']
theorem mW {H:J} {id:Nat} {b:bE} (h:id<H.bs.length):(H.bj id b).ap id b.ad=some b:=by
 simp [J.ap,J.bj,h]
section
variable {C:aI} {th:Bool} {s:aj} {H:J} {K:AV→J→Prop} {L:List It}
theorem aD.pB (hS:aD H L) {sz n:Nat} {el all:List AV} (he:all.take n=el) (hn:n=el.length) (aC:bU sz el=true):aD (H.new sz false all) (⟨.ref H.bs.length H.st 0 n,sz,el⟩::L):=by
 refine hS.new (fun id ad h=>mT h) ⟨aC,hn,_,mU,rfl,rfl,?_,by simpa [aE] using he⟩ (fun k hk=>by simp [b7] at hk;omega)
 have:=congrArg List.length he;simp at this;simp only;omega
theorem aD.newVar (hS:aD H L) {sz:Nat} {a:AV} (aC:a.cells.length=sz):aD (H.new sz false [a]) (⟨.ptr H.bs.length H.st 0 0,sz,[a]⟩::L):=
 hS.new (fun id ad h=>mT h) ⟨by simp [bU,aC],rfl,rfl,rfl,mU⟩ (fun k hk=>by simp [b7] at hk;omega)
theorem aD.var (hS:aD H L) (j:Nat) {id ad sz:Nat} {a:AV} (hj:L[j]? =some ⟨.ptr id ad 0 0,sz,[a]⟩):H.ap id ad=some ⟨ad,sz,false,[a]⟩:=(hS.ok j _ hj).2.2.2.2
theorem BF {t:TypeId} {x:Operand} {ti:TI} {a:AV} (hS:aD H L) (ht:C.E t=some ti) (hx:ev s x=a) (h1:a.cells.length=ti.sz) (h2:dQ a=true)
 (h: ∀id ad H',aD H' (⟨.ptr id ad 0 0,ti.sz,[a]⟩::L)→K (.ptr id ad 0 0) H') {q:Bool}:bh (aq C) C q th (.box t x) s H K:=by
 rw [c8 _ rfl];simp only [aL,ht,hx,h1,h2,and_self,if_true,et];exact h _ _ _ (hS.newVar h1)
theorem zt {ti:TI} {z:AV} (h:ew ti=some z):z.cells.length=ti.sz:=by
 unfold ew at h;split at h
 ·rename_i hc;rcases kq h with ⟨_,rfl⟩|⟨_,hz⟩
  ·exact hc.2
  ·have:cA z=true:=by have:=hc.1;rw [hz] at this;simpa using this
   have hl:=hc.2;rw [hz] at hl;cases z<;>first|exact hl|simp [cA] at this
 ·simp at h
theorem BG {t:TypeId} {ti:TI} {z:AV} (hS:aD H L) (ht:C.E t=some ti) (hz:ew ti=some z)
 (h: ∀id ad H',aD H' (⟨.ptr id ad 0 0,ti.sz,[z]⟩::L)→K (.ptr id ad 0 0) H') {q:Bool}:bh (aq C) C q th (.alloc t) s H K:=by
 rw [c8 _ rfl];simp only [aL,ht,hz,et];exact h _ _ _ (hS.newVar (zt hz))
theorem BH {t:TypeId} {x v:Operand} {ti:TI} {id ad sz o:Nat} {y y' a:AV} (j:Nat) (hS:aD H L) (hj:L[j]? =some ⟨.ptr id ad 0 0,sz,[y]⟩) (ht:C.E t=some ti) (hx:ev s x= .ptr id ad 0 o) (hv:ev s v=a)
 (h1:a.cells.length=ti.sz) (h2:dQ a=true) (hw:fY y o a=some y') (h3:y'.cells.length=sz) (h: ∀H',aD H' (L.set j ⟨.ptr id ad 0 0,sz,[y']⟩)→K (.aB []) H'):bh (aq C) C false th (.store t x v) s H K:=by
 rw [sg _ (by simp)]
 have hb:=hS.var j hj;simp only [aL,ht,hx,hv,hb,List.getElem?_cons_zero,h1,h2,and_self,if_true,hw,List.set_cons_zero,et];refine h _ (hS.bj hj rfl (fun gf gV aN _=>mV aN) ⟨by simp [bU,h3],rfl,rfl,rfl,?_⟩ (fun k hk=>by simpa [b7] using hk.symm))
 exact mW ((hS.ok j _ hj).lt rfl)
end
def idx {α :Type} (l:List α) (i:Int):Option α :=if 0≤i then l[i.toNat]? else none
theorem ll {α :Type} {l:List α} {i:Int} {x: α} (h:idx l i=some x):0≤i∧i<l.length∧l[i.toNat]? =some x:=by
 unfold idx at h;split at h
 ·rename_i h0;have:=(List.getElem?_eq_some_iff.1 h).1;exact ⟨h0,by omega,h⟩
 ·simp at h
def BI (E:aM) (t:TypeId):Option TI:=match E t with
 |some ti=>match ti.au with| .sl e=>E e|_=>none
 |none=>none
section
variable {C:aI} {q th:Bool} {s:aj} {H:J} {K:AV→J→Prop} {L:List It}
def pC (l:List UInt8) (n:Int) (H:J) (K:AV→J→Prop):Prop:=match idx l n with|some b=>K (.int .u8 b.toNat) H|none=>False
def jW (E:aM) (ti:Option TI) (x i:AV) (H:J) (K:AV→J→Prop):Prop:=match ti,i with
 |some ti,.int _ n=>match ti.au,x with
  | .str,.str l=>pC l n H K
  | .ar m e,.agg cs=>match E e with
   |some te=>if 0≤n∧n<m then cR (bL te (.agg cs) (n.toNat*te.sz)) H K else False
   |none=>False
  |_,_=>False
 |_,_=>False
theorem tW (t:TypeId) (x i:Operand):bh (aq C) C q th (.index t x i) s H K=jW C.E (C.E t) (ev s x) (ev s i) H K:=by
 rw [c8 _ rfl];simp only [aL,jW];generalize ev s i=n;generalize ev s x=a;cases C.E t with
 |none=>rfl
 |some ti=>
  cases n
  case int k n=>
   simp only;cases ti.au<;>cases a<;>try rfl
   ·rename_i m e cs;simp only;cases C.E e with
    |none=>rfl
    |some te=>
     simp only;split
     ·generalize bL te (.agg cs) (n.toNat*te.sz)=z;cases z<;>rfl
     ·rfl
   ·rename_i l;simp only [pC,idx];split
    ·cases l[n.toNat]? <;>rfl
    ·rfl
  all_goals rfl
def ln:UD→Bool
 | .str=>true
 |_=>false
theorem tX:ln .str=true:=rfl
def jq:UD→Bool
 | .sl _=>true
 |_=>false
theorem tY (e:TypeId):jq (.sl e)=true:=rfl
theorem tZ (E:aM) (ti:TI) (hu:ln ti.au=true) (l:List UInt8) (k:IntKind) (n:Int):jW E (some ti) (.str l) (.int k n) H K=pC l n H K:=by
 cases h:ti.au<;>rw [h] at hu<;>simp [ln] at hu
 simp only [jW,h]
def lp (E:aM) (t:TypeId) (x i:AV) (H:J) (K:AV→J→Prop):Prop:=et (match E t,i with
 |some ti,.int _ n=>match ti.au with
  | .sl e=>match E e with
   |some te=>match x with
    | .fz xs=>if 0≤n then match xs[n.toNat]? with
     |some y=>if y.cells.length=te.sz then some (.fe y 0,H) else none
     |none=>none
     else none
    | .ref id ad off len=>match H.ap id ad with
     |some b=>if b.sz=te.sz∧0≤n∧n<len∧off+len≤b.el.length then some (.ptr id ad (off+n.toNat) 0,H) else none
     |none=>none
    |_=>none
   |none=>none
  | .ar m e=>match E e with
   |some te=>if 0≤n∧n<m then match x with
    | .ptr id ad idx off=>match H.ap id ad with
     |some _=>some (.ptr id ad idx (off+n.toNat*te.sz),H)
     |none=>none
    | .fe y off=>some (.fe y (off+n.toNat*te.sz),H)
    |_=>none
    else none
   |none=>none
  |_=>none
 |_,_=>none) K
theorem t_ (t:TypeId) (x i:Operand):bh (aq C) C q th (.indexAddr t x i) s H K=lp C.E t (ev s x) (ev s i) H K:=by
 rw [c8 _ rfl];rfl
theorem BJ {α β :Type} {E:aM} {t:TypeId} {ti te:TI} {e:TypeId} (ht:E t=some ti) (hu:ti.au= .sl e) (he:E e=some te) {l:List α} {c: α →AV} (hc: ∀x,(c x).cells.length=te.sz) {k:IntKind} {n:Int} {f: α →Option β} {r: β} (h:(idx l n).bind f=some r)
 (hk: ∀x,idx l n=some x→f x=some r→K (.fe (c x) 0) H):lp E t (.fz (l.map c)) (.int k n) H K:=by
 cases hi:idx l n with
 |none=>rw [hi] at h;simp at h
 |some x=>
  rw [hi] at h;obtain ⟨h0,_,h1⟩:=ll hi;simp only [lp,ht,hu,he,h0,if_true,List.getElem?_map,h1,Option.map_some,hc,et];exact hk x hi h
theorem BK {α β :Type} {E:aM} {t:TypeId} {ti te:TI} {e:TypeId} (j:Nat) (hS:aD H L) {v:AV} {l:List α} {c: α →AV} {sz:Nat} (hj:L[j]? =some ⟨v,sz,l.map c⟩) (ht:E t=some ti) (hu:ti.au= .sl e) (he:E e=some te) (aC:sz=te.sz) {k:IntKind} {n:Int} {f: α →Option β} {r: β}
 (h:(idx l n).bind f=some r) (hk: ∀x id ad off,idx l n=some x→f x=some r→v= .ref id ad off l.length→K (.ptr id ad (off+n.toNat) 0) H) (hp: ∀id ad,v≠ .ptr id ad 0 0):lp E t v (.int k n) H K:=by
 cases hi:idx l n with
 |none=>rw [hi] at h;simp at h
 |some x=>
  rw [hi] at h;obtain ⟨h0,h2,h1⟩:=ll hi;have ag:=(hS.ok j _ hj).2;simp only at ag;have aN:l.map c≠[]:=by intro e;rw [List.map_eq_nil_iff] at e;subst e;simp at h1
  split at ag
  ·exact absurd ag aN
  ·exact absurd ag aN
  ·rename_i id ad off len;obtain ⟨h3,b,hb,h4,_,h5,h6⟩:=ag;simp only [List.length_map] at h3;subst h3;simp only [lp,ht,hu,he,hb];rw [if_pos ⟨by rw [h4,aC],h0,h2,h5⟩]
   exact hk x id ad off hi h rfl
  ·rename_i id ad ix off;obtain ⟨rfl,rfl,_⟩:=ag;exact absurd rfl (hp id ad)
  ·exact ag.elim
theorem aD.elem {α :Type} (hS:aD H L) (j:Nat) {id ad off n sz:Nat} {v:AV} {l:List α} {c: α →AV} (hj:L[j]? =some ⟨v,sz,l.map c⟩) (hv:v= .ref id ad off n) {i:Int} {x: α} (hx:idx l i=some x): ∃b,H.ap id ad=some b∧b.el[off+i.toNat]? =some (c x):=by
 obtain ⟨h0,h2,h1⟩:=ll hx;subst hv;obtain ⟨_,h3,b,hb,h4,_,h5,h6⟩:=hS.ok j _ hj;refine ⟨b,hb,?_⟩;simp only at h3 h6;have:=congrArg (·[i.toNat]?) h6;simp only [List.getElem?_map,h1,Option.map_some,aE] at this;rw [←this,List.getElem?_take,List.getElem?_drop,if_pos (by simp at h3;omega)]
theorem BL {α :Type} {t:TypeId} {x w:Operand} {ti:TI} {id ad off n sz o:Nat} {v a:AV} {l:List α} {c: α →AV} {i:Int} {y y' : α} (j:Nat) (hS:aD H L) (hj:L[j]? =some ⟨v,sz,l.map c⟩) (hv:v= .ref id ad off n) (hi:idx l i=some y) (ht:C.E t=some ti) (hx:ev s x= .ptr id ad (off+i.toNat) o) (hw:ev s w=a)
 (h1:a.cells.length=ti.sz) (h2:dQ a=true) (hr:fY (c y) o a=some (c y')) (h3:(c y').cells.length=sz) (h: ∀H',aD H' (L.set j ⟨v,sz,(l.set i.toNat y').map c⟩)→K (.aB []) H'):bh (aq C) C false th (.store t x w) s H K:=by
 rw [sg _ (by simp)]
 obtain ⟨b,hb,he⟩:=hS.elem j hj hv hi;simp only [aL,ht,hx,hw,hb,he,h1,h2,and_self,if_true,hr,et];subst hv;obtain ⟨k0,k1,b',ax,k2,k3,k4,k5⟩:=hS.ok j _ hj;rw [hb] at ax;simp only [Option.some.injEq] at ax;subst ax;simp only at k1 k5;obtain ⟨i0,i1,i2⟩:=ll hi;have bM:=(J.bp hb).2;refine h _ (hS.bj hj rfl (fun gf gV aN _=>mV aN) ⟨?_,by simpa using k1,{b with el:=b.el.set (off+i.toNat) (c y')},?_,k2,k3,by simpa using k4,?_⟩ (fun k hk=>by simpa [b7] using hk.symm))
 ·simp only [bU,List.all_eq_true,List.mem_map] at k0⊢;rintro z ⟨z',hz,rfl⟩;rcases List.mem_or_eq_of_mem_set hz with h' |rfl
  ·exact k0 _ ⟨z',h',rfl⟩
  ·simpa using h3
 ·have:=mW (b:={b with el:=b.el.set (off+i.toNat) (c y')}) ((hS.ok j _ hj).lt rfl);simpa only [bM] using this
 ·simp only [aE,List.map_set] at k5⊢;rw [←k5,List.drop_set,if_neg (by omega),List.take_set]
  congr 1;omega
end
end Go.VS
namespace Go.VS
structure bQ (v:AV):Prop where
 ok:v= .nil∨v= .e0∨ ∃id ad off len,v= .ref id ad off len
theorem jr (id ad off len:Nat):bQ (.ref id ad off len):=⟨.inr (.inr ⟨id,ad,off,len,rfl⟩)⟩
theorem zu:bQ .nil:=⟨.inl rfl⟩
theorem ua:bQ .e0:=⟨.inr (.inl rfl)⟩
theorem bQ.ne {v:AV} (h:bQ v) (id ad:Nat):v≠ .ptr id ad 0 0:=by
 rcases h.ok with rfl|rfl|⟨_,_,_,_,rfl⟩<;>simp
theorem bQ.cells {v:AV} (h:bQ v):v.cells=[v]:=by
 rcases h.ok with rfl|rfl|⟨_,_,_,_,rfl⟩<;>rfl
theorem bQ.pW {v:AV} (h:bQ v):cA v=true:=by
 rcases h.ok with rfl|rfl|⟨_,_,_,_,rfl⟩<;>rfl
theorem bQ.rd {v:AV} (h:bQ v) (z:List AV) (b:Nat) (w:UD) (e:Bool):bL ⟨1,false,z,b,w,e⟩ v 0=some v:=by
 rcases h.ok with rfl|rfl|⟨_,_,_,_,rfl⟩<;>rfl
theorem bQ.same {v:AV} (h:bQ v):e9 v v=true:=by
 rcases h.ok with rfl|rfl|⟨_,_,_,_,rfl⟩<;>simp [e9]
theorem bQ.wr {v:AV} (h:bQ v) (cs:List AV) (o:Nat) (ho:o<cs.length):fY (.agg cs) o v=some (.agg (cs.set o v)):=by
 simp only [fY,h.cells,List.length_cons,List.length_nil];rw [if_pos (by omega)]
 simp only [splice,List.length_cons,List.length_nil,List.append_assoc,List.cons_append,List.nil_append,Option.some.injEq,AV.agg.injEq];rw [List.set_eq_take_append_cons_drop,if_pos ho]
section
variable {C:aI} {q th:Bool} {s:aj} {H:J} {K:AV→J→Prop} {L:List It}
theorem aD.len (hS:aD H L) (j:Nat) {v:AV} {sz:Nat} {el:List AV} (hj:L[j]? =some ⟨v,sz,el⟩) (hp:bQ v):lenOf H v=some el.length:=by
 have ag:=(hS.ok j _ hj).2;simp only at ag;split at ag
 ·subst ag;rfl
 ·subst ag;rfl
 ·rename_i id ad off len;obtain ⟨h3,b,hb,_⟩:=ag;simp only [lenOf,h3]
 ·rename_i id ad ix off;obtain ⟨rfl,rfl,_⟩:=ag;exact absurd rfl (hp.ne id ad)
 ·exact ag.elim
theorem aD.hZ (hS:aD H L) (j:Nat) {v:AV} {sz:Nat} {el:List AV} (hj:L[j]? =some ⟨v,sz,el⟩) (hp:bQ v):cJ H v=some el:=by
 have ag:=(hS.ok j _ hj).2;simp only at ag;split at ag
 ·subst ag;rfl
 ·subst ag;rfl
 ·rename_i id ad off len;obtain ⟨h3,b,hb,_,_,h5,h6⟩:=ag;simp only [cJ,hb,h5,if_true,h6]
 ·rename_i id ad ix off;obtain ⟨rfl,rfl,_⟩:=ag;exact absurd rfl (hp.ne id ad)
 ·exact ag.elim
theorem aD.zw (hS:aD H L) (j:Nat) {v:AV} {sz:Nat} {el:List AV} (hj:L[j]? =some ⟨v,sz,el⟩) (l:List UInt8):v≠ .str l:=by
 rintro rfl;exact (hS.ok j _ hj).2
theorem BM (j:Nat) (hS:aD H L) {v:AV} {sz:Nat} {el:List AV} (hj:L[j]? =some ⟨v,sz,el⟩) (hp:bQ v) {ti:TI} {e:TypeId} (hu:ti.au= .sl e) (h:K (.int .i64 el.length) H):dZ (some ti) v (lenOf H v) H K:=by
 rw [hS.len j hj hp];have hn:=hS.zw j hj;simp only [dZ,hu];cases v with
 |str l=>exact absurd rfl (hn l)
 |_=>exact h
theorem ub (xs:List AV):lenOf H (.fz xs)=some xs.length:=rfl
theorem uc (l:List UInt8):lenOf H (.str l)=some l.length:=rfl
theorem ud:lenOf H .nil=some 0:=rfl
theorem uf:lenOf H .e0=some 0:=rfl
theorem zx (ti:TI) {e:TypeId} (hu:ti.au= .sl e) (xs:List AV) (n:Nat):dZ (some ti) (.fz xs) (some n) H K=K (.int .i64 n) H:=by simp [dZ,hu]
theorem zy (ti:TI) {e:TypeId} (hu:ti.au= .sl e) (n:Nat):dZ (some ti) .nil (some n) H K=K (.int .i64 n) H:=by simp [dZ,hu]
theorem zB (ti:TI) {e:TypeId} (hu:ti.au= .sl e) (n:Nat):dZ (some ti) .e0 (some n) H K=K (.int .i64 n) H:=by simp [dZ,hu]
theorem zC (ti:TI) (hu:ti.au= .str) (l:List UInt8) (n:Nat):dZ (some ti) (.str l) (some n) H K=K (.int .i64 n) H:=by simp [dZ,hu]
theorem BN {t:TypeId} {ps:Array (Nat×Operand)} {te:TI} (ht:cS C.E t=some te) (hp:ps.size=0) (h:K .e0 H):bh (aq C) C q th (.buildSlice t 0 ps) s H K:=by
 rw [c8 _ rfl];simp only [aL,ht,hp,if_true];exact h
theorem BO {t:TypeId} {n:Nat} {ps:Array (Nat×Operand)} {te:TI} {z:AV} {el:List AV} (hS:aD H L) (ht:cS C.E t=some te) (hz:ew te=some z) (hn:(n==0)=false) (hb:(decide (n*te.sz≤1000000)&&te.sz !=0)=true)
 (he:ib te.sz (List.replicate n z) (ps.toList.map fun p=>(p.1,ev s p.2))=some el) (hl:el.length=n) (aC:bU te.sz el=true) (h: ∀v H',bQ v→aD H' (⟨v,te.sz,el⟩::L)→K v H'):bh (aq C) C q th (.buildSlice t n ps) s H K:=by
 rw [c8 _ rfl];simp at hn hb;simp only [aL,ht,if_neg hn,hz];rw [if_pos hb];simp only [he];exact h _ _ (jr ..) (hS.pB (by rw [←hl];simp) hl.symm aC)
theorem ug {sz:Nat} {a b:List AV} (ha:bU sz a=true) (hb:bU sz b=true):bU sz (a ++ b)=true:=by
 unfold bU at*;rw [List.all_append,ha,hb];rfl
theorem zD (hS:aD H L) (j:Nat) {te:TI} {v x:AV} {el xs:List AV} (hj:L[j]? =some ⟨v,te.sz,el⟩) (hp:bQ v) (hx:cJ H x=some xs) (aC:bU te.sz xs=true) (h0:te.sz≠0) (hr:roomy (el.length+xs.length) te.bytes=true):
 ∃v' H',ea te v x H=some (v',H')∧bQ v' ∧aD H' (L.set j ⟨v',te.sz,el ++ xs⟩):=by
 have ag:=hS.ok j _ hj;obtain ⟨k0,ag⟩:=ag;have kD: ∀it:It,L[j]? =some it→L.set j it=L:=fun it h=>List.ext_getElem? fun k=>by
  rw [List.getElem?_set];split
  ·rename_i e;subst e;have:=(List.getElem?_eq_some_iff.1 h).1;simp only [this,if_true];exact h.symm
  ·rfl
 simp only [ea,hx,aC,Bool.not_true,if_neg h0];simp only at ag k0;split at ag
 ·subst ag;by_cases hn:xs.length=0
  ·have:xs=[]:=List.eq_nil_of_length_eq_zero hn;subst this;refine ⟨.nil,H,by simp,zu,?_⟩
   rw [List.append_nil,kD _ hj];exact hS
  ·have bZ:roomy xs.length te.bytes=true:=by simpa using hr
   refine ⟨.ref H.bs.length H.st 0 xs.length,H.new te.sz false xs,by simp [hn,bZ],jr ..,?_⟩
   exact hS.tV (fun id ad h=>mT h) ⟨by simpa using aC,by simp,_,mU,rfl,rfl,by simp,by simp [aE]⟩ (fun k hk=>by simp [b7] at hk;omega)
 ·subst ag;by_cases hn:xs.length=0
  ·have:xs=[]:=List.eq_nil_of_length_eq_zero hn;subst this;refine ⟨.e0,H,by simp,ua,?_⟩
   rw [List.append_nil,kD _ hj];exact hS
  ·have bZ:roomy xs.length te.bytes=true:=by simpa using hr
   refine ⟨.ref H.bs.length H.st 0 xs.length,H.new te.sz false xs,by simp [hn,bZ],jr ..,?_⟩
   exact hS.tV (fun id ad h=>mT h) ⟨by simpa using aC,by simp,_,mU,rfl,rfl,by simp,by simp [aE]⟩ (fun k hk=>by simp [b7] at hk;omega)
 ·rename_i id ad off len;obtain ⟨k1,b,hb,k2,k3,k4,k5⟩:=ag;have aw:=(hS.ok j _ hj).lt rfl;have bM:=(J.bp hb).2;subst k1;by_cases cr:off+el.length+xs.length≤b.el.length
  ·refine ⟨.ref id ad off (el.length+xs.length),H.bj id {b with el:=splice b.el (off+el.length) xs},by simp [hb,k2,cr],jr ..,?_⟩
   refine hS.bj hj rfl (fun gf gV aN _=>mV aN) ⟨ug k0 aC,by simp,{b with el:=splice b.el (off+el.length) xs},?_,k2,k3,?_,?_⟩ (fun k hk=>by simpa [b7] using hk.symm)
   ·have:=mW (b:={b with el:=splice b.el (off+el.length) xs}) aw;simpa only [bM] using this
   ·simp only [kx _ _ _ cr];omega
   ·simp only [aE] at k5⊢;have e1:(splice b.el (off+el.length) xs).drop off=el ++ (xs ++ b.el.drop (off+el.length+xs.length)):=by
     unfold splice;rw [List.append_assoc,List.drop_append_of_le_length (by simp;omega)]
     congr 1;rw [List.drop_take];have:off+el.length-off=el.length:=by omega
     rw [this,k5]
    rw [e1,←List.append_assoc,List.take_append_of_le_length (by simp),List.take_of_length_le (by simp)]
  ·refine ⟨.ref id H.st 0 (el.length+xs.length),⟨H.st+1,H.bs.set id (some ⟨H.st,b.sz,false,aE b.el off el.length ++ xs⟩)⟩,by simp [hb,k2,cr,k3,k4,hr],jr ..,?_⟩
   refine hS.bj hj rfl (fun gf gV aN _=> ?_) ⟨ug k0 aC,by simp,⟨H.st,te.sz,false,el ++ xs⟩,?_,rfl,rfl,by simp,by simp only [aE,List.drop_zero];exact List.take_of_length_le (by simp)⟩ (fun k hk=>by simpa [b7] using hk.symm)
   ·have h' : ¬id=gf:=fun e=>aN e.symm
    simp only [J.ap,List.getElem?_set,if_neg h']
   ·simp only [J.ap,List.getElem?_set,aw,if_true,k2,aE] at k5⊢;rw [k5]
 ·rename_i id ad ix off;obtain ⟨rfl,rfl,_⟩:=ag;exact absurd rfl (hp.ne id ad)
 ·exact ag.elim
def app {α :Type} (mS:Nat) (l m:List α):Option (List α):=if roomy (l.length+m.length) mS then some (l ++ m) else none
theorem uh (a b:Operand) (t u:TypeId):bh (aq C) C false th (.call {callee:= .builtin .append,args:= #[a,b],argTypes:= #[t,u]}) s H K=et (dt C.E .append #[t,u] [ev s a,ev s b] H) K:=by
 unfold bh wpOp;simp only [Bool.false_eq_true,false_implies,true_and];rfl
theorem zE {α β :Type} {E:aM} {t u:TypeId} {te tu:TI} {e:TypeId} {v x:AV} {l m:List α} {c: α →AV} {f:List α →Option β} {r: β} (j:Nat) (hS:aD H L) (hj:L[j]? =some ⟨v,te.sz,l.map c⟩) (hp:bQ v) (ht:cS E t=some te) (hu:E u=some tu) (hi:tu.au= .sl e)
 (hx:cJ H x=some (m.map c)) (aC:bU te.sz (m.map c)=true) (h0:(te.sz==0)=false) (hh:(app te.bytes l m).bind f=some r) (h: ∀v' H',bQ v' →app te.bytes l m=some (l ++ m)→f (l ++ m)=some r→aD H' (L.set j ⟨v',te.sz,(l ++ m).map c⟩)→K v' H'):
 et (dt E .append #[t,u] [v,x] H) K:=by
 cases hr:app te.bytes l m with
 |none=>rw [hr] at hh;simp at hh
 |some lm=>
  have bZ:=hr
  unfold app at hr;split at hr
  ·rename_i lM;simp only [Option.some.injEq] at hr;subst hr;rw [bZ] at hh;obtain ⟨v',H',h1,h2,h3⟩:=zD hS j hj hp hx aC (by simpa using h0) (by simpa using lM)
   have e1:(#[t,u]:Array TypeId)[0]? =some t:=rfl;have e2:((#[t,u]:Array TypeId)[1]?).bind E=E u:=rfl;simp only [dt,e1,e2,ht,hu,hi,h1,et];exact h v' H' h2 bZ hh (by rw [List.map_append];exact h3)
  ·simp at hr
def lq (C:aI) (q th:Bool) (f:AV) (args:List AV) (H:J) (K:AV→J→Prop):Prop:=
 match f with
 | .fn g bR=>if q then dj (aq C) C g (args ++ bR) th H K else aq C g (args ++ bR) H K∨dj (aq C) C g (args ++ bR) th H K
 |_=>False
theorem ui (f:Operand) (args:Array Operand) (tys:Array TypeId):bh (aq C) C q th (.call {callee:= .value f,args,argTypes:=tys}) s H K=lq C q th (ev s f) (args.toList.map (ev s)) H K:=rfl
theorem BP {α β :Type} {g:FuncId} {bR args:List AV} {o:Option α} {f: α →Option β} {r: β} (h:o.bind f=some r) (hk: ∀x,o=some x→f x=some r→aq C g (args ++ bR) H K):lq C false th (.fn g bR) args H K:=by
 cases ho:o with
 |none=>rw [ho] at h;simp at h
 |some x=>rw [ho] at h;exact .inl (hk x ho h)
end
inductive LR (σ ρ :Type) where
 |next (x: σ)
 |done (r: ρ)
def iter {σ ρ :Type} (f: σ →Option (LR σ ρ)):Nat→ σ →Option ρ
 |0,_=>none
 |n+1,x=>(f x).bind fun y=>match y with| .next x' =>iter f n x' | .done r=>some r
open Classical in
noncomputable def fu {σ ρ :Type} (f: σ →Option (LR σ ρ)) (x: σ):Option ρ :=if h: ∃n,(iter f n x).isSome then iter f h.choose x else none
theorem pD {σ ρ :Type} {f: σ →Option (LR σ ρ)}: ∀{n m:Nat} {x: σ} {r: ρ},iter f n x=some r→n≤m→iter f m x=some r
 |0,_,_,_,h,_=>by simp [iter] at h
 |n+1,0,_,_,_,h=>by omega
 |n+1,m+1,x,r,h,hle=>by
  simp only [iter] at h⊢;cases hf:f x with
  |none=>rw [hf] at h;simp at h
  |some y=>
   rw [hf] at h;cases y with
   |next x' =>exact pD (m:=m) h (by omega)
   |done r' =>exact h
theorem mX {σ ρ :Type} {f: σ →Option (LR σ ρ)} {x: σ} {r: ρ}:fu f x=some r↔ ∃n,iter f n x=some r:=by
 unfold fu;constructor
 ·intro h;split at h
  ·exact ⟨_,h⟩
  ·simp at h
 ·rintro ⟨n,h⟩;have hex: ∃n,(iter f n x).isSome:=⟨n,by simp [h]⟩
  rw [dif_pos hex];cases hc:iter f hex.choose x with
  |none=>have:=hex.choose_spec;rw [hc] at this;simp at this
  |some r' =>
   have h1:=pD hc (Nat.le_max_left hex.choose n);have h2:=pD h (Nat.le_max_right hex.choose n);rw [h1] at h2;exact h2
theorem pE {σ ρ :Type} (f: σ →Option (LR σ ρ)) (x: σ):fu f x=(f x).bind fun y=>match y with| .next x' =>fu f x' | .done r=>some r:=by
 refine Option.ext fun r=> ?_;rw [mX];constructor
 ·rintro ⟨n,h⟩;cases n with
  |zero=>simp [iter] at h
  |succ n=>
   simp only [iter] at h;cases hf:f x with
   |none=>rw [hf] at h;simp at h
   |some y=>
    rw [hf] at h;cases y with
    |next x' =>exact mX.2 ⟨n,h⟩
    |done r' =>exact h
 ·intro h;cases hf:f x with
  |none=>rw [hf] at h;simp at h
  |some y=>
   rw [hf] at h;cases y with
   |next x' =>obtain ⟨n,hn⟩:=mX.1 h;exact ⟨n+1,by simp only [iter,hf];exact hn⟩
   |done r' =>exact ⟨1,by simp only [iter,hf];exact h⟩
def mY {σ ρ :Type} (bJ:List Nat) (Inv: σ →aj→J→Prop) (y:LR σ ρ) (K:Ex→aj→J→Prop):Ex→aj→J→Prop
 | .normal,s,H=> ∃x',y= .next x' ∧Inv x' (ez bJ s) H
 | .exit i,s,H=>K (.exit i) s H
 | .ret,s,H=>K .ret s H
section
variable {C:aI} {K K1:Ex→aj→J→Prop} {s:aj} {H:J}
theorem BQ {σ ρ :Type} (gC:Good C) {f: σ →Option (LR σ ρ)} {x: σ} {r: ρ} {bJ:List Nat} {a:AC} (hw:fu f x=some r) (Inv: σ →aj→J→Prop) (h0:Inv x (ez bJ s) H)
 (hb: ∀x y s H,f x=some y→(∀r',y= .done r' →r' =r)→Inv x s H→ ∀K1,K1=mY bJ Inv y K→aJ (aq C) C a s H K1):aJ (aq C) C (.loop ⟨bJ,false⟩ a) s H K:=by
 obtain ⟨n,hn⟩:=mX.1 hw;have key: ∀(n:Nat) (x: σ) (s:aj) (H:J),iter f n x=some r→Inv x s H→ ∀m,iM (aJ (aq C) C a) (gH ⟨bJ,false⟩ m) K s H:=by
  intro n;induction n with
  |zero=>intro x s H h;simp [iter] at h
  |succ n ih=>
   intro x s H h hi m;simp only [iter] at h;cases hf:f x with
   |none=>rw [hf] at h;simp at h
   |some y=>
    rw [hf] at h;simp only [Option.bind_some] at h;refine iM.round (aq.up gC.up) (er (aq.up gC.up) _ _ _ _ _ (fun e s' H' he=> ?_) (hb x y s H hf (fun r' e=>by subst e;simpa using h) hi _ rfl))
    cases e with
    |normal=>
     obtain ⟨x',rfl,eE⟩:=he;exact ih x' _ _ h eE m
    |exit i=>exact he
    |ret=>exact he
 exact key n x _ _ hn h0 _
theorem BR {σ ρ :Type} {bJ:List Nat} {Inv: σ →aj→J→Prop} {y:LR σ ρ} {x' : σ} (hK:K1=mY bJ Inv y K) (hy:some (LR.next x')=some y) (hi:Inv x' (ez bJ s) H):K1 .normal s H:=by
 rw [hK];exact ⟨x',(Option.some.inj hy).symm,hi⟩
theorem BS {σ ρ :Type} {bJ:List Nat} {Inv: σ →aj→J→Prop} {y:LR σ ρ} {i:Nat} (hK:K1=mY bJ Inv y K) (h:K (.exit i) s H):K1 (.exit i) s H:=by rw [hK];exact h
theorem BT {σ ρ :Type} {bJ:List Nat} {Inv: σ →aj→J→Prop} {y:LR σ ρ} (hK:K1=mY bJ Inv y K) (h:K .ret s H):K1 .ret s H:=by rw [hK];exact h
def pF (Q:aj→J→Prop) (K:Ex→aj→J→Prop):Ex→aj→J→Prop
 | .normal,s,H=>Q s H
 | .exit i,s,H=>K (.exit i) s H
 | .ret,s,H=>K .ret s H
theorem BU (gC:Good C) {a:AC} (Q:aj→J→Prop) (h: ∀K1,K1=pF Q K→aJ (aq C) C a s H K1) (hq: ∀s H,Q s H→K .normal s H):aJ (aq C) C a s H K:=by
 refine zl (h _ rfl) (fun e s H he=> ?_) gC;cases e with
 |normal=>exact hq s H he
 |exit i=>exact he
 |ret=>exact he
theorem BV {Q:aj→J→Prop} (hK:K1=pF Q K) (h:Q s H):K1 .normal s H:=by rw [hK];exact h
theorem BW {Q:aj→J→Prop} (hK:K1=pF Q K) (h:K .ret s H):K1 .ret s H:=by rw [hK];exact h
end
end Go.VS
namespace Go.VS
section
variable {C:aI} {q th:Bool} {s:aj} {H:J} {K:AV→J→Prop} {L:List It}
theorem uj:dS none s=s:=rfl
def zF (k:IntKind) (a b:Int):Int:=k.wrap (BitVec.ofInt k.bits a&&&BitVec.ofInt k.bits b).toNat
def zG (k:IntKind) (a b:Int):Int:=k.wrap (BitVec.ofInt k.bits a|||BitVec.ofInt k.bits b).toNat
def zH (k:IntKind) (a b:Int):Int:=k.wrap (BitVec.ofInt k.bits a^^^BitVec.ofInt k.bits b).toNat
def BX (k:IntKind) (a b:Int):Int:=k.wrap (a*2^(min b.toNat k.bits))
def uk (k:IntKind) (a b:Int):Int:=a.fdiv (2^(min b.toNat k.bits))
theorem ul (E:aM) (t:TypeId) (k:IntKind) (a b:Int):aH E .and t (.int k a) (.int k b)=some (.int k (zF k a b)):=zn ..
theorem um (E:aM) (t:TypeId) (k:IntKind) (a b:Int):aH E .or t (.int k a) (.int k b)=some (.int k (zG k a b)):=zo ..
theorem uo (E:aM) (t:TypeId) (k:IntKind) (a b:Int):aH E .xor t (.int k a) (.int k b)=some (.int k (zH k a b)):=zp ..
theorem BY (k:IntKind) (a b:Int) (h:decide (b<0)=false):sr k a b=some (uk k a b):=by simp at h;simp [sr,uk,Int.not_lt.2 h]
def pG (E:aM) (src dst:TypeId) (x:AV) (H:J) (K:AV→J→Prop):Prop:=et (match E src,E dst,x with
 |some _,some td,.int _ n=>match td.au with
  | .it k=>some (.int k (k.wrap n),H)
  |_=>none
 |some _,some td,.str l=>match td.au with
  | .str=>some (.str l,H)
  | .sl e=>match E e with
   |some te=>match te.au with
    | .it .u8=>if te.sz=1∧te.bytes=1∧l.length≤2^45 then some (.ref H.bs.length H.st 0 l.length,H.new 1 false (l.map fun b=> .int .u8 b.toNat)) else none
    |_=>none
   |none=>none
  |_=>none
 |some ts,some td,x=>match ts.au,td.au with
  | .sl e,.str=>match E e with
   |some te=>match te.au with
    | .it .u8=>match cJ H x with
     |some xs=>if te.sz=1 then (match (bytesOf xs).map AV.str with|some v=>some (v,H)|none=>none) else none
     |none=>none
    |_=>none
   |none=>none
  |_,_=>none
 |_,_,_=>none) K
theorem uq (a b:TypeId) (x:Operand):bh (aq C) C q th (.convert a b x) s H K=pG C.E a b (ev s x) H K:=by
 rw [c8 _ rfl];rfl
def pH (ta tb:Option TI) (n:Int) (H:J) (K:AV→J→Prop):Prop:=match ta,tb with
 |some _,some td=>match td.au with| .it k=>K (.int k (k.wrap n)) H|_=>False
 |_,_=>False
theorem ur (E:aM) (a b:TypeId) (j:IntKind) (n:Int):pG E a b (.int j n) H K=pH (E a) (E b) n H K:=by
 simp only [pG,pH];cases E a with
 |none=>rfl
 |some ta=>
  cases E b with
  |none=>rfl
  |some tb=>simp only;cases tb.au<;>rfl
def zI (l:List UInt8):List Int:=l.map fun b=>(b.toNat:Int)
def BZ (l:List Int):List UInt8:=l.map fun n=>UInt8.ofNat n.toNat
def B0 (l:List UInt8):Option (List Int):=if l.length≤2^45 then some (zI l) else none
def B1 {α :Type} (l:List α) (lo hi:Int):Option (List α):=if 0≤lo∧lo≤hi∧hi≤l.length then some ((l.drop lo.toNat).take (hi.toNat-lo.toNat)) else none
def uu (E:aM) (t:TypeId) (x:AV) (lo hi mx:Option (Option Int)) (H:J) (K:AV→J→Prop):Prop:=match lo,hi,mx with
 |some lo,some hi,some mx=>cR (kb E t x lo hi mx H) H K
 |_,_,_=>False
theorem uw (t:TypeId) (x:Operand) (lo hi mx:Option Operand):bh (aq C) C q th (.slice t x lo hi mx) s H K=uu C.E t (ev s x) (dR (lo.map (ev s))) (dR (hi.map (ev s))) (dR (mx.map (ev s))) H K:=by
 rw [c8 _ rfl];simp only [aL,uu];generalize dR (lo.map (ev s))=a;generalize dR (hi.map (ev s))=b;generalize dR (mx.map (ev s))=c;cases a<;>cases b<;>cases c<;>first|rfl|(simp only;rename_i lo hi mx;generalize kb C.E t (ev s x) lo hi mx H=z;cases z<;>rfl)
theorem ux:dR none=some none:=rfl
theorem uy (k:IntKind) (n:Int):dR (some (.int k n))=some (some n):=rfl
theorem pI {α :Type} {c: α →AV} {sz:Nat} (hc: ∀x,(c x).cells.length=sz) (l:List α):bU sz (l.map c)=true:=by
 simp [bU,hc]
def B2 {α :Type} (mS:Nat) (n:Int) (d: α):Option (List α):=if 0≤n∧roomy n.toNat mS then some (List.replicate n.toNat d) else none
theorem B3 {α β :Type} {E:aM} {t u:TypeId} {te tu:TI} {e:TypeId} {v x:AV} {l m:List α} {c: α →AV} {f:List α →Option β} {r: β} (j:Nat) (hS:aD H L) (hj:L[j]? =some ⟨v,te.sz,l.map c⟩) (hp:bQ v) (ht:cS E t=some te) (hu:E u=some tu) (hi:tu.au= .sl e)
 (hx:cJ H x=some (m.map c)) (aC: ∀x,(c x).cells.length=te.sz) (h0:(te.sz==0)=false) (hh:(app te.bytes l m).bind f=some r) (h: ∀v' H' lm,bQ v' →app te.bytes l m=some lm→f lm=some r→aD H' (L.set j ⟨v',te.sz,lm.map c⟩)→K v' H'):
 et (dt E .append #[t,u] [v,x] H) K:=
 zE j hS hj hp ht hu hi hx (pI aC m) h0 hh fun v' H' h1 h2 h3 h4=>h v' H' _ h1 h2 h3 h4
theorem aD.perm {L' :List It} (h:aD H L) (hp:L.Perm L'):aD H L' :=by
 have nd: ∀{L:List It},aD H L↔(∀it∈L,gA H it)∧(L.filterMap (fun it=>b7 it.v)).Nodup:=by
  intro L;constructor
  ·intro h;refine ⟨fun it hi=> ?_,?_⟩
   ·obtain ⟨i,eE⟩:=List.mem_iff_getElem?.1 hi;exact h.ok i it eE
   ·induction L with
    |nil=>simp
    |cons a L ih=>
     have ih:=ih h.tl;rw [List.filterMap_cons];cases ha:b7 a.v with
     |none=>exact ih
     |some id=>
      refine List.nodup_cons.2 ⟨fun hm=> ?_,ih⟩;obtain ⟨b,hb,bO⟩:=List.mem_filterMap.1 hm;obtain ⟨j,hj⟩:=List.mem_iff_getElem?.1 hb;have:=h.b8 0 (j+1) a b id rfl hj ha bO;omega
  ·rintro ⟨h1,h2⟩;refine ⟨fun i it hi=>h1 it (List.mem_of_getElem? hi),?_⟩;clear h1;induction L with
   |nil=>intro i j a b id h;simp at h
   |cons a L ih=>
    have kO:(L.filterMap (fun it=>b7 it.v)).Nodup:=by
     rw [List.filterMap_cons] at h2;split at h2
     ·exact h2
     ·exact (List.nodup_cons.1 h2).2
    have no: ∀(j:Nat) (b:It) (id:Nat),L[j]? =some b→b7 a.v=some id→b7 b.v≠some id:=by
     intro j b id hj ha hb;rw [List.filterMap_cons,ha] at h2;exact (List.nodup_cons.1 h2).1 (List.mem_filterMap.2 ⟨b,List.mem_of_getElem? hj,hb⟩)
    intro i j x y id hi hj hx hy;cases i with
    |zero=>
     simp at hi;subst hi;cases j with
     |zero=>rfl
     |succ j=>exact absurd hy (no j y id (by simpa using hj) hx)
    |succ i=>
     cases j with
     |zero=>simp at hj;subst hj;exact absurd hx (no i x id (by simpa using hi) hy)
     |succ j=>have:=ih kO i j x y id (by simpa using hi) (by simpa using hj) hx hy;omega
 rw [nd] at h⊢;exact ⟨fun it hi=>h.1 it (hp.mem_iff.2 hi),(hp.filterMap _).nodup_iff.1 h.2⟩
theorem aD.front (h:aD H L) (j:Nat) {it:It} (hj:L[j]? =some it):aD H (it::L.eraseIdx j):=by
 refine h.perm ?_;have aw:=(List.getElem?_eq_some_iff.1 hj).1;have he:=(List.getElem?_eq_some_iff.1 hj).2;have:L=L.take j ++ it::L.drop (j+1):=by
  rw [←he,List.getElem_cons_drop,List.take_append_drop]
 rw [List.eraseIdx_eq_take_drop_succ]
 conv=>lhs;rw [this]
 exact List.perm_middle
theorem aD.B4 (h:aD H L) (sz:Nat):aD H (⟨.nil,sz,[]⟩::L):=
 h.new (fun _ _ _=>rfl) ⟨rfl,rfl⟩ (fun k hk=>by simp [b7] at hk)
theorem aD.zJ (h:aD H L) (sz:Nat):aD H (⟨.e0,sz,[]⟩::L):=
 h.new (fun _ _ _=>rfl) ⟨rfl,rfl⟩ (fun k hk=>by simp [b7] at hk)
theorem aD.drop (h:aD H L) (j:Nat):aD H (L.eraseIdx j):=by
 cases hj:L[j]? with
 |none=>
  rw [List.eraseIdx_of_length_le (List.getElem?_eq_none_iff.1 hj)];exact h
 |some it=>exact (h.front j hj).tl
theorem aD.B5 (hS:aD H L) {id ad sz:Nat} {a:AV} (hm:⟨.ptr id ad 0 0,sz,[a]⟩∈L):H.ap id ad=some ⟨ad,sz,false,[a]⟩:=by
 obtain ⟨j,hj⟩:=List.mem_iff_getElem?.1 hm;exact hS.var j hj
theorem uz {α β :Type} {g:FuncId} {bR args ys:List AV} {bT:Bool} {o:Option α} {f: α →Option β} {r: β} {cb:List (List Sh)} (h:o.bind f=some r) (hr:(C.gb g).cb=cb) (hp:b_ [] (args ++ bR) H=some (ys,bT))
 (hk: ∀x,o=some x→f x=some r→ ∃y,aq C g ys ⟨0,[]⟩ (fun v L=> ∃rs zs L2,v=cg rs∧db cb rs L=some (zs,L2)∧y=cg zs)∧(bT=false∨cB y=true)∧if th||bT then K (aG y H).1 (aG y H).2 else K (br y) H):lq C q th (.fn g bR) args H K:=by
 cases ho:o with
 |none=>rw [ho] at h;simp at h
 |some x=>
  rw [ho] at h;have hq:dj (aq C) C g (args ++ bR) th H K:=by
   unfold dj;rw [hp,hr];exact hk x ho h
  cases q with
  |true=>exact hq
  |false=>exact .inr hq
end
end Go.VS
