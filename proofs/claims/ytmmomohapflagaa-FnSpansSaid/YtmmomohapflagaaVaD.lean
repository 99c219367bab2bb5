import Derived.Test.YtmmomohapflagaaVaC
import Derived.StillTail
namespace Go.VS
structure h_ (ops:Array Oper) (az:List Nat):Prop where
 back: ∀(i:Nat) (o:Oper),ops[i]? =some o→ ∀e∈o.after,Region.binds .any e=true→e.on<i
 gw: ∀(i j:Nat) (o p:Oper) (d:Tmp),i≠j→ops[i]? =some o→ops[j]? =some p→p.dst=some d→o.dst≠some d
 ord: ∀(i j:Nat) (o p:Oper) (d:Tmp),i≠j→ops[i]? =some o→ops[j]? =some p→p.dst=some d→d∈Oper.looksAt ops o→((eY ops.toList).getD (max i j) 0).testBit (min i j)=true
 after: ∀(i j:Nat) (o p:Oper),ops[i]? =some o→ops[j]? =some p→i∈az→i<j→((eY ops.toList).getD j 0).testBit i=true∨(j∉az∧p.guard=none∧iX p.op=true∧ ∃d,p.dst=some d)
 late: ∀(i j:Nat) (o p:Oper),ops[i]? =some o→ops[j]? =some p→i∈az→j<i→((eY ops.toList).getD i 0).testBit j=false→j∉az∧p.guard=none∧kn p.op=true∧(∃d,p.dst=some d)∧
  ∀(k:Nat) (r:Oper) (d:Tmp),ops[k]? =some r→r.dst=some d→j≤k→d∉Oper.looksAt ops p
theorem y8 {ops:Array Oper} {az:List Nat} (h:iA ops az=true):h_ ops az:=by
 have lt: ∀{i:Nat} {o:Oper},ops[i]? =some o→i<ops.toList.length:=fun h=>by have:=(Array.getElem?_eq_some_iff.1 h).1;simpa using this
 have tl: ∀{i:Nat} {o:Oper},ops[i]? =some o→ops.toList[i]? =some o:=fun h=>by simpa using h
 have one: ∀(i:Nat) (o:Oper),ops[i]? =some o→(∀e∈o.after,Region.binds .any e=true→e.on<i)∧ ∀(j:Nat) (p:Oper),ops[j]? =some p→i≠j→
  (∀d,p.dst=some d→o.dst≠some d∧(d∈Oper.looksAt ops o→((eY ops.toList).getD (max i j) 0).testBit (min i j)=true))∧
  (i∈az→i<j→((eY ops.toList).getD j 0).testBit i=true∨(j∉az∧p.guard=none∧iX p.op=true∧ ∃d,p.dst=some d))∧
  (i∈az→j<i→((eY ops.toList).getD i 0).testBit j=false→j∉az∧p.guard=none∧kn p.op=true∧(∃d,p.dst=some d)∧ ∀(k:Nat) (r:Oper) (d:Tmp),ops[k]? =some r→r.dst=some d→j≤k→d∉Oper.looksAt ops p):=by
  intro i o ho;simp only [iA,List.all_eq_true,List.mem_range] at h;have hi:=h i (lt ho);rw [tl ho] at hi;simp only [Bool.and_eq_true,Array.all_eq_true_iff_forall_mem,List.all_eq_true,List.mem_range,Bool.or_eq_true,Bool.not_eq_true',decide_eq_true_eq] at hi;obtain ⟨ha,hb⟩:=hi;refine ⟨fun e he pA=>(ha e he).resolve_left (by simp [pA]),fun j p hp jq=> ?_⟩
  have hj:=hb j (lt hp);rw [tl hp] at hj;simp only [Bool.or_eq_true,beq_iff_eq,Bool.and_eq_true,Bool.not_eq_true'] at hj;rcases hj with hj|⟨⟨mD,jP⟩,j0⟩
  ·exact absurd hj jq
  refine ⟨fun d hd=> ?_,fun hl ax=> ?_,fun hl ax pA=> ?_⟩
  ·rw [hd] at mD;simp only [Bool.and_eq_true,bne_iff_ne,ne_eq,Bool.or_eq_true,Bool.not_eq_true'] at mD;exact ⟨mD.1,fun hm=>mD.2.resolve_left (by simp [hm])⟩
  ·rcases jP with (jP|jP)|⟨⟨⟨q1,q2⟩,q3⟩,q4⟩
   ·simp [hl,ax] at jP
   ·exact .inl jP
   ·exact .inr ⟨by simpa using q1,by simpa using q2,q3,Option.isSome_iff_exists.1 q4⟩
  ·rcases j0 with (j0|j0)|⟨⟨⟨⟨q1,q2⟩,q3⟩,q4⟩,q5⟩
   ·simp [hl,ax] at j0
   ·rw [pA] at j0;simp at j0
   ·refine ⟨by simpa using q1,by simpa using q2,q3,Option.isSome_iff_exists.1 q4,fun k r d hk hr y9 hm=> ?_⟩
    simp only [List.all_eq_true,List.mem_range] at q5;have:=q5 k (lt hk);rw [tl hk] at this;simp only [hr] at this;simp [y9,hm] at this
 exact ⟨fun i o ho=>(one i o ho).1,fun i j o p d jq ho hp hd=>(((one i o ho).2 j p hp jq).1 d hd).1,fun i j o p d jq ho hp hd=>(((one i o ho).2 j p hp jq).1 d hd).2,
  fun i j o p ho hp hl ax=>((one i o ho).2 j p hp (by omega)).2.1 hl ax,fun i j o p ho hp hl ax=>((one i o ho).2 j p hp (by omega)).2.2 hl ax⟩
theorem pB (az:List Nat) (n:Nat): ∀(m b:Nat),m=n-b→b≤n→ ∃c,b≤c∧c≤n∧(c=n∨c∈az)∧ ∀i,b≤i→i<c→i∉az
 |0,b,hm,hb=>⟨b,Nat.le_refl _,hb,.inl (by omega),fun i h1 h2=>by omega⟩
 |m+1,b,hm,hb=>by
  by_cases h:b∈az
  ·exact ⟨b,Nat.le_refl _,hb,.inr h,fun i h1 h2=>by omega⟩
  ·obtain ⟨c,h1,h2,h3,h4⟩:=pB az n m (b+1) (by omega) (by omega)
   refine ⟨c,by omega,h2,h3,fun i k1 k2=> ?_⟩
   by_cases hi:i=b
   ·subst hi;exact h
   ·exact h4 i (by omega) k2
section draw
variable {P:Program} {C:aI} {X:bw} {ops:Array Oper} {az:List Nat} {th:List Nat} {K:aj→J→Prop} {s:Nat→aj} {H:Nat→J} {v:Nat→AV} {act:Nat→Bool}
abbrev iM (X:bw) (C:aI) (ops:Array Oper) (az:List Nat) (th:List Nat) (K:aj→J→Prop) (s:Nat→aj) (H:Nat→J) (v:Nat→AV) (act:Nat→Bool):Prop:=
 Tr X C ops (fun i=> !az.contains i) (fD ops az) th K ops.toList 0 s H v act
theorem ia (t:iM X C ops az th K s H v act): ∀(m i:Nat),i+m≤ops.size→(∀k,i≤k→k<i+m→k∉az)→QG (H i) (H (i+m))
 |0,i,_,_=> .refl _
 |m+1,i,hn,hl=>by
  have h1:=ia t m i (by omega) (fun k h1 h2=>hl k h1 (by omega))
  have ho:=Array.getElem?_eq_getElem (xs:=ops) (show i+m<ops.size by omega)
  obtain ⟨_,_,h3,h4,_⟩:=t.step (i+m) _ (by rw [Array.getElem?_toList];exact ho)
  refine h1.trans ?_;cases ha:act (i+m) with
  |true=>
   have:=h3 ha;have gx:(!az.contains (0+(i+m)))=true:=by simp only [Nat.zero_add];simpa using hl (i+m) (by omega) (by omega)
   rw [gx] at this;exact y6 this
  |false=>have:=(h4 ha).2;rw [show i+(m+1)=i+m+1 by omega,this];exact .refl _
theorem mE (dk:h_ ops az) (t:iM X C ops az th K s H v act): ∀(i:Nat),i≤ops.size→(s i).length=(s 0).length∧ ∀x,x<(s 0).length→
 (∀k o,k<i→ops[k]? =some o→o.dst=some x→(s i).getD x .undef=v k)∧((∀k o,k<i→ops[k]? =some o→o.dst≠some x)→(s i).getD x .undef=(s 0).getD x .undef)
 |0,_=>⟨rfl,fun x hx=>⟨fun k o h=>by omega,fun _=>rfl⟩⟩
 |i+1,hi=>by
  obtain ⟨h1,h2⟩:=mE dk t i (by omega)
  have ho:=Array.getElem?_eq_getElem (xs:=ops) (show i<ops.size by omega)
  obtain ⟨hs,_⟩:=t.step i _ (by rw [Array.getElem?_toList];exact ho)
  have hlen:(s (i+1)).length=(s 0).length:=by
   rw [hs];unfold bj;split
   ·simpa using h1
   ·exact h1
  refine ⟨hlen,fun x hx=>⟨fun k o hk af hd=> ?_,fun eS=> ?_⟩⟩
  ·rw [hs];by_cases bP:k=i
   ·subst bP;rw [ho] at af;simp only [Option.some.injEq] at af;subst af;rw [hd];simp only [bj];rw [←h1] at hx;simp [List.getD,hx]
   ·have aM:=dk.gw i k _ o x (fun h=>bP h.symm) ho af hd;have:=(h2 x hx).1 k o (by omega) af hd
    rw [←this];unfold bj;split
    ·rename_i d bZ;have:d≠x:=fun h=>aM (by rw [bZ,h])
     simp [List.getD,List.getElem?_set_ne this]
    ·rfl
  ·rw [hs];have aM:=eS i _ (Nat.lt_succ_self _) ho;rw [←(h2 x hx).2 (fun k o hk af=>eS k o (by omega) af)]
   unfold bj;split
   ·rename_i d bZ;have:d≠x:=fun h=>aM (by rw [bZ,h])
    simp [List.getD,List.getElem?_set_ne this]
   ·rfl
structure pC (C:aI) (o:Op) (sz:Nat) (el:List AV) (x:Nat→Nat→AV) (u:Nat→Value):Prop where
 ev: ∀(X:bw) (q th:Bool) (o' :Oper) (s:aj) (H:J) (K:AV→J→Prop),o'.op=o→wpOp X C q th o' s H K→K (x H.bs.length H.st) (H.new sz false el)
 y_: ∀(i:Nat) (y:AV),el[i]? =some y→y.cells.length=sz
 rel: ∀(w:World) (G:J) (φ :ag) (A:ah) (id ad c:Nat),G.get id=some ⟨ad,sz,false,el⟩→ad<G.st→ φ id=some (.at_ c 0)→el.length*sz≤aZ w c→R w G φ A (x id ad) (u c)
def mF (el:List AV) (sz:Nat) (arr:Array Value):Prop:=el.length*sz≤arr.size∧
 ∀(i:Nat) (x:AV) (j:Nat) (y:AV) (v:Value),el[i]? =some x→x.cells[j]? =some y→arr[i*sz+j]? =some v→(∀(w:World) (G:J) (φ :ag) (A:ah),R w G φ A y v)∧v.oneCell' =true
theorem za {P:Program} {C:aI} (hE: ∀t ti,C.E t=some ti→aR P t ti) {X:bw} {q th:Bool} {o:Oper} {s:aj} {H:J} {K:AV→J→Prop} (he:iX o.op=true) (h:wpOp X C q th o s H K):
 ∃sz el x u,pC C o.op sz el x u∧ ∀(a:Act) (w:World),∃arr T,(execOp a.eval o).run P w= .ok (.value (u w.heap.size)) (w.alloc (.cells arr T))∧mF el sz arr:=by
 obtain ⟨dst,op,ty,pos,after,guard⟩:=o;simp only at he⊢;cases op with
 |alloc tt=>
  unfold wpOp at h;simp only [aN] at h;cases la:C.E tt with
  |none=>rw [la] at h;exact h.2.elim
  |some ti=>
   rw [la] at h;cases hz:ey ti with
   |none=>simp only [hz] at h;exact h.2.elim
   |some z=>
    have ct:z.cells.length=ti.sz:=by
     obtain ⟨zv,e1,e2,e3,e4,_,e5⟩:=i_ (hE _ _ la) hz default;rw [e3,e4]
    refine ⟨ti.sz,[z],fun id ad=> .ptr id ad 0 0,fun c=> .pointer (some ⟨c,0,none⟩),⟨fun X q th o' s H K ho h=> ?_,fun i y hy=> ?_,fun w G φ A id ad c _ hv aU _=>nP hv aU⟩,fun a w=> ?_⟩
    ·obtain ⟨dst,op,ty,pos,after,guard⟩:=o';simp only at ho;subst ho;unfold wpOp at h;simp only [aN,la,hz] at h;exact h.2
    ·cases i with
     |zero=>simp at hy;subst hy;exact ct
     |succ i=>simp at hy
    ·obtain ⟨zv,e1,e2,e3,e4,_,e5⟩:=i_ (hE _ _ la) hz w;refine ⟨zv.cells,tt,?_,by simp [e2],fun i x j y v hx hy hv=> ?_⟩
     ·show ((do pure (.value (←Instr.alloc tt true (.tuple #[]))):Sem Next).run P w)=_
      simp [Instr.alloc,e1,newVar,newRow]
     ·cases i with
      |zero=>
       simp only [List.getElem?_cons_zero,Option.some.injEq,Nat.zero_mul,Nat.zero_add] at hx hv;subst hx;rw [e3] at hy;have hh:=fun (w:World) (A:ah)=>e5 w A j y v hy hv;exact ⟨fun w G φ A=> .fr _ _ (hh w A).1,(hh w (fun _=>False)).2⟩
      |succ i=>simp at hx
 |buildSlice t n ps=>
  simp only [iX,Bool.and_eq_true,bne_iff_ne,ne_eq,List.all_eq_true] at he;obtain ⟨hn,hc⟩:=he;have zb: ∀(s s' :aj),(ps.toList.map fun p=>(p.1,ev s p.2))=ps.toList.map fun p=>(p.1,ev s' p.2):=fun s s' =>List.map_congr_left fun p hp=>by
   have:=hc p hp;cases hq:p.2 with
   |const v=>rfl
   |tmp x=>rw [hq] at this;simp [ko] at this
   |global x=>rfl
   |func x=>rfl
  unfold wpOp at h;simp only [aN,if_neg hn] at h;cases bh:cL C.E t with
  |none=>rw [bh] at h;exact h.2.elim
  |some te=>
   rw [bh] at h;obtain ⟨ti,e,ht,hu,ck⟩:=jc bh;cases hz:ey te with
   |none=>simp only [hz] at h;exact h.2.elim
   |some zA=>
    simp only [hz] at h;by_cases hcnd:n*te.sz≤1000000∧te.sz≠0
    ·rw [if_pos hcnd] at h;cases cb:iu te.sz (List.replicate n zA) (ps.toList.map fun p=>(p.1,ev s p.2)) with
     |none=>rw [cb] at h;exact h.2.elim
     |some el=>
      have parts: ∀(ρ :Operand→Value),(∀v,ρ (.const v)=v)→ ∀(w:World) (G:J) (φ :ag) (A:ah),∀p∈ps.toList,R w G φ A (ev s p.2) (ρ p.2):=fun ρ aS w G φ A p hp=>by
       have:=hc p hp;cases hq:p.2 with
       |const v=>rw [aS];exact .fr _ _ (FR.ofValue w A v)
       |tmp x=>rw [hq] at this;simp [ko] at this
       |global x=>rw [hq] at this;simp [ko] at this
       |func x=>rw [hq] at this;simp [ko] at this
      have fill: ∀(ρ :Operand→Value),(∀v,ρ (.const v)=v)→ ∀(w0:World),∃(zv:Value) (b6:Array Value),(zeroValue e).run P w0= .ok zv w0∧Instr.fill (fun i=>some (i*te.sz,te.sz)) ((Array.range (n*te.sz)).map (fun k=>zv.cells[k % zv.cells.size]!)) ((ps.map fun (i,x)=>(i,ρ x)).toList)=some b6∧b6.size=el.length*te.sz∧el.length=n∧
       (∀(i:Nat) (x:AV),el[i]? =some x→x.cells.length=te.sz)∧mF el te.sz b6:=fun ρ aS w0=>by
       obtain ⟨zv,z1,z2,z3,z4,_,z5⟩:=i_ (hE _ _ ck) hz w0;have go: ∀(w:World) (G:J) (φ :ag) (A:ah),_:=fun w G φ A=>n5 (w:=w) (G:=G) (φ := φ) (A:=A) hcnd.2 _ _ (List.replicate n zA) ((Array.range (n*te.sz)).map (fun k=>zv.cells[k % zv.cells.size]!)) _ (lO (_E:=C.E) (parts ρ aS w G φ A)).1 (lO (_E:=C.E) (parts ρ aS w G φ A)).2
        (by simp) (fun i x hx=>by
         simp only [List.getElem?_replicate] at hx;split at hx
         ·simp only [Option.some.injEq] at hx;subst hx;rw [z3,z4]
         ·simp at hx)
        (fun i x j y v hx hy hv=>by
         simp only [List.getElem?_replicate] at hx;split at hx
         ·rename_i hi;simp only [Option.some.injEq] at hx;subst hx;rw [z3] at hy;have hj:j<te.sz:=by rw [←z4];exact (List.getElem?_eq_some_iff.1 hy).1
          have:=z5 w A j y v hy (kE z2 hi hj hv);exact ⟨.fr _ _ this.1,this.2⟩
         ·simp at hx) cb
       obtain ⟨b6,f1,f2,f3,f4,f5⟩:=go w0 ⟨0,[]⟩ (fun _=>none) (fun _=>False);refine ⟨zv,b6,z1,f1,f2,by rw [f3];simp,f4,by rw [f2];exact Nat.le_refl _,fun i x j y v hx hy hv=>⟨fun w G φ A=> ?_,(f5 i x j y v hx hy hv).2⟩⟩
       obtain ⟨Bv,g1,_,_,_,g5⟩:=go w G φ A;rw [f1] at g1;simp only [Option.some.injEq] at g1;subst g1;exact (g5 i x j y v hx hy hv).1
      obtain ⟨_,_,_,_,_,hlen,zd,_⟩:=fill (fun o=>match o with| .const v=>v|_=>undef) (fun _=>rfl) default
      refine ⟨te.sz,el,fun id ad=> .ref id ad 0 n,fun c=> .slice (some ⟨c,0,none⟩) n n,⟨fun X q th o' s' H K ho h=> ?_,zd,fun w G φ A id ad c hg hv aU hb=> ?_⟩,fun a w=> ?_⟩
      ·obtain ⟨dst,op,ty,pos,after,guard⟩:=o';simp only at ho;subst ho;unfold wpOp at h;simp only [aN,if_neg hn,bh,hz,if_pos hcnd,zb s' s,cb] at h
       exact h.2
      ·exact jO hg hv aU (by simp [hlen]) (Nat.le_refl _) (by simp [hlen]) (by rw [←hlen];exact hb)
      ·obtain ⟨zv,b6,z1,f1,f2,_,_,lb⟩:=fill a.eval (fun _=>rfl) w;have iC:=(hE _ _ ht).sl w hu;have aM: ¬(n*te.sz=0):=by
        intro h0;rcases Nat.mul_eq_zero.1 h0 with h0|h0<;>omega
       have n_: ¬(n*te.sz>2^24):=by omega
       refine ⟨b6,e,?_,lb⟩;show ((do pure (.value (←Instr.buildSlice t n (ps.map fun (i,x)=>(i,a.eval x)))):Sem Next).run P w)=_
       simp only [Instr.buildSlice,Sem.run_bind,iC,Result.andThen_ok,(hE _ _ ck).sizeOf,n_,aM,if_false,z1,f1,Sem.run_pure,newRow,run_newObj,World.alloc_eq]
    ·rw [if_neg hcnd] at h;exact h.2.elim
 |_=>simp [iX] at he
structure mG (w0 w:World) (φ :ag) (A:ah) (el:List AV) (sz n:Nat):Prop where
 old:w0.heap.size≤n
 lt:n<w.heap.size
 av:A n
 ow: ¬Ow φ n
 here: ∃arr T fr,w.heap[n]? =some (.cells arr T fr)∧(∀j,j<arr.size→ ¬(fr.1≤j∧j<fr.2))∧mF el sz arr
theorem mG.mono {w0 w w' :World} {G G' :J} {φ ak:ag} {A A' :ah} {el:List AV} {sz n:Nat} (h:mG w0 w φ A el sz n) (o:Out w G φ A w' G' ak A'):mG w0 w' ak A' el sz n:=by
 refine ⟨h.old,Nat.lt_of_lt_of_le h.lt o.post.size,o.bK n h.av h.ow,fun hw=> ?_,?_⟩
 ·rcases o.post.own n hw with k|k
  ·exact h.ow k
  ·have:=h.lt;omega
 ·rw [o.post.kept n h.lt h.ow];exact h.here
def jr (C:aI) (ops:Array Oper) (az:List Nat) (w0 w:World) (φ :ag) (A:ah) (a:Act) (j n:Nat):Prop:=
 j∉az∧ ∃(o:Oper) (d:Tmp) (sz:Nat) (el:List AV) (x:Nat→Nat→AV) (uv:Nat→Value),ops[j]? =some o∧o.guard=none∧o.dst=some d∧pC C o.op sz el x uv∧mG w0 w φ A el sz n∧
  ∀u,a.tmps[d]? =some u→u=uv n
theorem jr.mono {C:aI} {ops:Array Oper} {az:List Nat} {w0 w w' :World} {G G' :J} {φ ak:ag} {A A' :ah} {a a' :Act} {j n:Nat} (h:jr C ops az w0 w φ A a j n) (o:Out w G φ A w' G' ak A')
 (ht: ∀(r:Oper) (d:Tmp),ops[j]? =some r→r.dst=some d→a'.tmps[d]? =a.tmps[d]?):jr C ops az w0 w' ak A' a' j n:=by
 obtain ⟨h0,r,d,sz,el,x,uv,h1,h2,h4,h5,h7,h8⟩:=h;exact ⟨h0,r,d,sz,el,x,uv,h1,h2,h4,h5,h7.mono o,fun u hu=>h8 u (by rw [←ht r d h1 h4];exact hu)⟩
structure Inv (C:aI) (ops:Array Oper) (az:List Nat) (s:Nat→aj) (H:Nat→J) (v:Nat→AV) (w0:World) (aA:ag) (A0:ah) (listed:Array Bool) (a:Act) (w:World) (b c:Nat) (φ :ag) (A:ah) (pn:Nat→Nat):Prop where
 size:listed.size=ops.size
 shut:r8 ops (fun i=>listed.getD i false=true)
 bc:b≤c
 cn:c≤ops.size
 cl:c=ops.size∨c∈az
 ib: ∀i,b≤i→i<c→i∉az
 iN: ∀i,i∈az→i<ops.size→(listed.getD i false=true↔i<b)
 base:b=0∨(b-1∈az∧0<b)
 out:Out w0 (H 0) aA A0 w (H c) φ A
 none: ∀i,b≤i→i<c→listed.getD i false=false→ ∀id,(H i).bs.length≤id→id<(H (i+1)).bs.length→ φ id=none
 eG:a.defers=[]
 len:(s 0).length=a.tmps.size
 wr: ∀(k:Nat) (o:Oper) (d:Tmp) (u:Value),ops[k]? =some o→o.dst=some d→listed.getD k false=true→k<c→a.tmps[d]? =some u→R w (H c) φ A (v k) u
 early: ∀(k:Nat),c≤k→listed.getD k false=true→jr C ops az w0 w φ A a k (pn k)
 mH: ∀(j k:Nat),c≤j→c≤k→listed.getD j false=true→listed.getD k false=true→pn j=pn k→j=k
 un: ∀(x:Tmp) (u:Value),(∀(k:Nat) (o:Oper),ops[k]? =some o→o.dst=some x→listed.getD k false=false)→a.tmps[x]? =some u→R w (H c) φ A ((s 0).getD x .undef) u
theorem mI {listed:Array Bool} {i:Nat} (hi:i<listed.size) (k:Nat):(listed.setIfInBounds i true).getD k false=true↔(k=i∨listed.getD k false=true):=by
 by_cases hk:k=i
 ·subst hk;simp [hi]
 ·rw [getD_set_ne false (fun h=>hk h.symm)];simp [hk]
variable {w0:World} {aA:ag} {A0:ah} {listed:Array Bool} {a:Act} {w:World} {b c:Nat} {φ :ag} {A:ah} {pn:Nat→Nat}
theorem Inv.look (inv:Inv C ops az s H v w0 aA A0 listed a w b c φ A pn) (dk:h_ ops az) (t:iM X C ops az th K s H v act) {i:Nat} {o:Oper} (fR:i≤c) (ho:ops[i]? =some o) (hu:listed.getD i false=false) (ha: ∀e∈o.after,Region.binds .any e=true→listed.getD e.on false=true)
 {m:Nat} (hm:m≤ops.size) (sa:i≤m) (iO:m=i∨ ∀(k:Nat) (r:Oper) (d:Tmp),ops[k]? =some r→r.dst=some d→i≤k→d∉Oper.looksAt ops o) {x:Tmp} (hx:x∈Oper.looksAt ops o):R w (H c) φ A (ev (s m) (.tmp x)) (a.eval (.tmp x)):=by
 obtain ⟨hl,hg⟩:=mE dk t m hm;simp only [ev,Act.eval];by_cases ax:x<(s 0).length
 ·have ze:x<a.tmps.size:=by rw [←inv.len];exact ax
  have aL:=Array.getElem?_eq_getElem ze
  rw [Array.getD_eq_getD_getElem?,aL,Option.getD_some];by_cases hw: ∃(k:Nat) (r:Oper),ops[k]? =some r∧r.dst=some x
  ·obtain ⟨k,r,hk,hr⟩:=hw;rcases Nat.lt_trichotomy k i with bP|bP|bP
   ·have hb:=dk.ord i k o r x (by omega) ho hk hr hx
    rw [show max i k=i by omega,show min i k=k by omega] at hb
    have bI:=mC inv.shut dk.back i o ho ha k hb;rw [(hg x ax).1 k r (by omega) hk hr]
    exact inv.wr k r x _ hk hr bI (by omega) aL
   ·subst bP;rw [ho] at hk;simp only [Option.some.injEq] at hk;subst hk;rcases iO with rfl|iO
    ·rw [(hg x ax).2 (fun k' o' bE eu=>dk.gw k' m o' o x (by omega) eu ho hr)]
     refine inv.un x _ (fun k' o' eu bZ=> ?_) aL
     by_cases lf:k' =m
     ·subst lf;exact hu
     ·exact absurd bZ (dk.gw k' m o' o x lf eu ho hr)
    ·exact absurd hx (iO k o x ho hr (Nat.le_refl _))
   ·rcases iO with rfl|iO
    ·have hb:=dk.ord m k o r x (by omega) ho hk hr hx
     rw [show max m k=k by omega,show min m k=m by omega] at hb
     have zf:listed.getD k false=false:=by
      cases hq:listed.getD k false with
      |false=>rfl
      |true=>
       have:=mC inv.shut dk.back k r hk (inv.shut k r hk hq) m hb;rw [hu] at this;simp at this
     rw [(hg x ax).2 (fun k' o' bE eu=>dk.gw k' k o' r x (by omega) eu hk hr)]
     refine inv.un x _ (fun k' o' eu bZ=> ?_) aL
     by_cases lf:k' =k
     ·subst lf;exact zf
     ·exact absurd bZ (dk.gw k' k o' r x lf eu hk hr)
    ·exact absurd hx (iO k r x hk hr (by omega))
  ·rw [(hg x ax).2 (fun k' o' _ eu bZ=>hw ⟨k',o',eu,bZ⟩)]
   exact inv.un x _ (fun k' o' eu bZ=>absurd ⟨k',o',eu,bZ⟩ hw) aL
 ·have:(s m).getD x .undef= .undef:=by simp [List.getD,List.getElem?_eq_none (show (s m).length≤x by rw [hl];exact Nat.le_of_not_lt ax)]
  rw [this];exact .fr _ _ (.undef _)
theorem Inv.pD (inv:Inv C ops az s H v w0 aA A0 listed a w b c φ A pn) (dk:h_ ops az) (t:iM X C ops az th K s H v act) {i:Nat} {o:Oper} (fR:i≤c) (ho:ops[i]? =some o) (hu:listed.getD i false=false) (ha: ∀e∈o.after,Region.binds .any e=true→listed.getD e.on false=true)
 {m:Nat} (hm:m≤ops.size) (sa:i≤m) (iO:m=i∨ ∀(k:Nat) (r:Oper) (d:Tmp),ops[k]? =some r→r.dst=some d→i≤k→d∉Oper.looksAt ops o): ∀y∈o.op.operands,R w (H c) φ A (ev (s m) y) (a.eval y):=by
 intro y hy;cases y with
 |tmp x=>
  refine inv.look dk t fR ho hu ha hm sa iO ?_;unfold Oper.looksAt;refine List.mem_append.2 (.inl (List.mem_filterMap.2 ⟨.tmp x,by simpa using hy,rfl⟩))
 |const v=>exact .fr _ _ (FR.ofValue w A v)
 |global g=>exact .fr _ _ (.undef _)
 |func f=>exact .fr _ _ (.fn f [] #[] rfl (by simp))
theorem Inv.k9 (inv:Inv C ops az s H v w0 aA A0 listed a w b c φ A pn) (cS:St w0 (H 0) aA A0) (dk:h_ ops az) (t:iM X C ops az th K s H v act) {i:Nat} {o:Oper} (fR:i<c) (ho:ops[i]? =some o) (hl:i∉az) (ha: ∀e∈o.after,Region.binds .any e=true→listed.getD e.on false=true)
 {u:Value} {w' :World} {φ1:ag} {A1:ah} (bG:Out w (H c) φ A w' (H c) φ1 A1) (hr: ∀d,o.dst=some d→d<a.tmps.size→R w' (H c) φ1 A1 (v i) u)
 (bm: ∀id loc,φ1 id=some loc→ φ id=some loc∨(b≤i∧i<c∧(H i).bs.length≤id∧id<(H (i+1)).bs.length)):Inv C ops az s H v w0 aA A0 (listed.setIfInBounds i true) (a.put o.dst u) w' b c φ1 A1 pn:=by
 have hi:i<ops.size:=(Array.getElem?_eq_some_iff.1 ho).1;have aB:i<listed.size:=by rw [inv.size];exact hi
 have bL:=mI aB;have jt: ∀k,(listed.setIfInBounds i true).getD k false=false→k≠i∧listed.getD k false=false:=fun k hk=>by
  have:=(not_congr (bL k)).1 (by rw [hk];simp)
  refine ⟨fun h=>this (.inl h),?_⟩;cases hq:listed.getD k false with
  |false=>rfl
  |true=>exact absurd (.inr hq) this
 refine ⟨by simp [inv.size],fun k r hk bI e he hb=> ?_,inv.bc,inv.cn,inv.cl,inv.ib,fun k hk lg=> ?_,inv.base,inv.out.trans cS bG,fun k h1 h2 h3 id h4 h5=> ?_,?_,?_,fun k r d u' hk b4 bI dY aL=> ?_,fun k ju bI=> ?_,fun j k hj hk iP bI hp=>inv.mH j k hj hk (((bL j).1 iP).resolve_left (by omega)) (((bL k).1 bI).resolve_left (by omega)) hp,fun x u' eS aL=> ?_⟩
 ·rcases (bL k).1 bI with rfl|bI
  ·rw [ho] at hk;simp only [Option.some.injEq] at hk;subst hk;exact (bL _).2 (.inr (ha e he hb))
  ·exact (bL _).2 (.inr (inv.shut k r hk bI e he hb))
 ·rw [bL,←inv.iN k hk lg];constructor
  ·rintro (rfl|h)
   ·exact absurd hk hl
   ·exact h
  ·exact .inr
 ·obtain ⟨bP,bI⟩:=jt k h3;have lh:=inv.cn;cases hq: φ1 id with
  |none=>rfl
  |some loc=>
   rcases bm id loc hq with h|⟨h6,h7,h8,h9⟩
   ·rw [inv.none k h1 h2 bI id h4 h5] at h;simp at h
   ·exfalso;rcases Nat.lt_or_ge k i with ax|zg
    ·have:=(ia t (i-(k+1)) (k+1) (by omega) (fun j j1 j2=>inv.ib j (by omega) (by omega))).1.2
     rw [show k+1+(i-(k+1))=i by omega] at this
     omega
    ·have:=(ia t (k-(i+1)) (i+1) (by omega) (fun j j1 j2=>inv.ib j (by omega) (by omega))).1.2
     rw [show i+1+(k-(i+1))=k by omega] at this
     omega
 ·cases hd:o.dst<;>simp [Act.put,inv.eG]
 ·cases hd:o.dst<;>simp [Act.put,inv.len]
 ·by_cases bP:k=i
  ·subst bP;rw [ho] at hk;simp only [Option.some.injEq] at hk;subst hk;rw [b4] at aL;simp only [Act.put,Array.getElem?_setIfInBounds] at aL;simp only [if_true] at aL;split at aL
   ·rename_i ax;simp only [Option.some.injEq] at aL;subst aL;exact hr d b4 ax
   ·simp at aL
  ·have bI:=((bL k).1 bI).resolve_left bP;have aM:o.dst≠some d:=dk.gw i k o r d (fun h=>bP h.symm) ho hk b4;have:a.tmps[d]? =some u' :=by
    cases hd:o.dst with
    |none=>rw [hd] at aL;exact aL
    |some d' =>
     rw [hd] at aL;simp only [Act.put,Array.getElem?_setIfInBounds] at aL;rw [if_neg (by rintro rfl;exact aM hd)] at aL
     exact aL
   exact (inv.wr k r d u' hk b4 bI dY this).mono bG.bU
 ·have bP:k≠i:=by omega
  refine (inv.early k ju (((bL k).1 bI).resolve_left bP)).mono bG fun r d hk b4=> ?_
  have aM:o.dst≠some d:=dk.gw i k o r d (fun h=>bP h.symm) ho hk b4;cases hd:o.dst with
  |none=>rfl
  |some d' =>
   simp only [Act.put,Array.getElem?_setIfInBounds];rw [if_neg (by rintro rfl;exact aM hd)]
 ·have aM:o.dst≠some x:=fun hd=>by have:=eS i o ho hd;have h2:=(bL i).2 (.inl rfl);rw [this] at h2;simp at h2
  have:a.tmps[x]? =some u' :=by
   cases hd:o.dst with
   |none=>rw [hd] at aL;exact aL
   |some d' =>
    rw [hd] at aL;simp only [Act.put,Array.getElem?_setIfInBounds] at aL;rw [if_neg (by rintro rfl;exact aM hd)] at aL
    exact aL
  exact (inv.un x u' (fun k r hk b4=>(jt k (eS k r hk b4)).2) this).mono bG.bU
theorem zh {w:World} {G:J} {φ :ag} {A:ah} (ae:St w G φ A) (o:Obj):Out w G φ A (w.alloc o) G φ (fun c=>A c∨c=w.heap.size):=by
 have aP:bF w G φ A (w.alloc o) G φ (fun c=>A c∨c=w.heap.size):=⟨fun c a t fr hc hn=>⟨⟨fr,by rw [heap_alloc_old w _ (dV hc)];exact hc⟩,fun h=>by have:=dV hc;rcases h with h|h;exact hn h;omega⟩,Nat.le_refl _,
  fun i b' aw _=>⟨b',aw,rfl,rfl,rfl,rfl,fun loc hl=>hl⟩,fun c hc=>by unfold aZ;rw [heap_alloc_old w _ (Ow.lt ae hc)]⟩
 refine ⟨⟨ae.inj,fun c hc=> .inl (ae.own c hc),fun c hc=> ?_,fun i loc hl=> ?_⟩,
  ⟨rfl,rfl,rfl,by simp,fun c hc _=>heap_alloc_old w _ hc,fun c hc=>by unfold aZ;rw [heap_alloc_old w _ hc],fun c hc=> .inl hc⟩,aP,fun c hc _=> .inl hc⟩
 ·simp only [World.size_alloc];rcases hc with h|h
  ·have:=ae.bW c h;omega
  ·omega
 obtain ⟨b',cA,aw⟩:=ae.ap i loc hl;refine ⟨b',cA,aw.ad,aw.sized,aw.aO,fun c b0 h=> ?_⟩;obtain ⟨a,t,fr,h1,h2,h3,h4⟩:=aw.here c b0 h;exact ⟨a,t,fr,by rw [heap_alloc_old w _ (dV h1)];exact h1,h2,h3,fun i x j y v hx hy hv=>⟨(h4 i x j y v hx hy hv).1.mono aP,(h4 i x j y v hx hy hv).2⟩⟩
theorem Inv.zi (inv:Inv C ops az s H v w0 aA A0 listed a w b c φ A pn) (cS:St w0 (H 0) aA A0) (dk:h_ ops az) {i:Nat} {o:Oper} (Bw:c≤i) (ho:ops[i]? =some o) (Bx:listed.getD i false=false) (hl:i∉az) (hg:o.guard=Option.none) {d:Tmp} (hd:o.dst=some d)
 {sz:Nat} {el:List AV} {x:Nat→Nat→AV} {uv:Nat→Value} (bC:pC C o.op sz el x uv) (ha: ∀e∈o.after,Region.binds .any e=true→listed.getD e.on false=true) {arr:Array Value} {T:TypeId} (lb:mF el sz arr):
 Inv C ops az s H v w0 aA A0 (listed.setIfInBounds i true) (a.put o.dst (uv w.heap.size)) (w.alloc (.cells arr T)) b c φ (fun k=>A k∨k=w.heap.size) (fun k=>if k=i then w.heap.size else pn k):=by
 have hi:i<ops.size:=(Array.getElem?_eq_some_iff.1 ho).1;have zj:i<listed.size:=by rw [inv.size];exact hi
 have bL:=mI zj;have bG:=zh inv.out.st (.cells arr T);have jt: ∀k,(listed.setIfInBounds i true).getD k false=false→k≠i∧listed.getD k false=false:=fun k hk=>by
  have:=(not_congr (bL k)).1 (by rw [hk];simp)
  refine ⟨fun h=>this (.inl h),?_⟩;cases hq:listed.getD k false with
  |false=>rfl
  |true=>exact absurd (.inr hq) this
 have j6: ∀(x:Tmp),o.dst≠some x→(a.put o.dst (uv w.heap.size)).tmps[x]? =a.tmps[x]? :=fun x aM=>by
  rw [hd] at aM⊢;simp only [Act.put,Array.getElem?_setIfInBounds];rw [if_neg (by rintro rfl;exact aM rfl)]
 refine ⟨by simp [inv.size],fun k r hk bI e he hb=> ?_,inv.bc,inv.cn,inv.cl,inv.ib,fun k hk lg=> ?_,inv.base,inv.out.trans cS bG,fun k h1 h2 h3 id h4 h5=>inv.none k h1 h2 (jt k h3).2 id h4 h5,?_,?_,fun k r d' u' hk b4 bI dY aL=> ?_,fun k ju bI=> ?_,fun j k hj hk iP bI hp=> ?_,fun x u' eS aL=> ?_⟩
 ·rcases (bL k).1 bI with rfl|bI
  ·rw [ho] at hk;simp only [Option.some.injEq] at hk;subst hk;exact (bL _).2 (.inr (ha e he hb))
  ·exact (bL _).2 (.inr (inv.shut k r hk bI e he hb))
 ·rw [bL,←inv.iN k hk lg];constructor
  ·rintro (rfl|h)
   ·exact absurd hk hl
   ·exact h
  ·exact .inr
 ·rw [hd];simp [Act.put,inv.eG]
 ·rw [hd];simp [Act.put,inv.len]
 ·have bP:k≠i:=by omega
  have aM:o.dst≠some d' :=dk.gw i k o r d' (fun h=>bP h.symm) ho hk b4
  rw [j6 d' aM] at aL
  exact (inv.wr k r d' u' hk b4 (((bL k).1 bI).resolve_left bP) dY aL).mono bG.bU
 ·by_cases bP:k=i
  ·subst bP;simp only [if_true];refine ⟨hl,o,d,sz,el,x,uv,ho,hg,hd,bC,⟨inv.out.post.size,by simp,.inr rfl,fun h=>by have:=Ow.lt inv.out.st h;omega,arr,T,(0,0),heap_alloc_new w _,fun j _ h=>absurd h.2 (Nat.not_lt_zero j),lb⟩,fun u hu=> ?_⟩
   rw [hd] at hu;simp only [Act.put,Array.getElem?_setIfInBounds,if_true] at hu;split at hu
   ·simpa using hu.symm
   ·simp at hu
  ·simp only [if_neg bP];exact (inv.early k ju (((bL k).1 bI).resolve_left bP)).mono bG fun r d' hk b4=>j6 d' (dk.gw i k o r d' (fun h=>bP h.symm) ho hk b4)
 ·have one: ∀k,c≤k→(listed.setIfInBounds i true).getD k false=true→k≠i→pn k≠w.heap.size:=fun k ju bI bP he=>by
   obtain ⟨_,_,_,_,_,_,_,_,_,_,_,hp,_⟩:=inv.early k ju (((bL k).1 bI).resolve_left bP);have:=hp.lt;omega
  by_cases j7:j=i
  ·by_cases bP:k=i
   ·rw [j7,bP]
   ·simp only [j7,if_true,if_neg bP] at hp;exact absurd hp.symm (one k hk bI bP)
  ·by_cases bP:k=i
   ·simp only [bP,if_true,if_neg j7] at hp;exact absurd hp (one j hj iP j7)
   ·simp only [if_neg j7,if_neg bP] at hp;exact inv.mH j k hj hk (((bL j).1 iP).resolve_left j7) (((bL k).1 bI).resolve_left bP) hp
 ·have aM:o.dst≠some x:=fun hd=>by have:=eS i o ho hd;have h2:=(bL i).2 (.inl rfl);rw [this] at h2;simp at h2
  rw [j6 x aM] at aL;exact (inv.un x u' (fun k r hk b4=>(jt k (eS k r hk b4)).2) aL).mono bG.bU
theorem fill (t:iM X C ops az th K s H v act) (cS:St w0 (H 0) aA A0) {lst:Nat→Prop} {lo hi:Nat} (hq: ∀j,lo≤j→j≤hi→QG (H j) (H hi)) (hlen: ∀j k,lo≤j→j≤k→k≤hi→(H j).bs.length≤(H k).bs.length)
 (hinj: ∀j k,lo≤j→lo≤k→lst j→lst k→pn j=pn k→j=k) (bG:Out w0 (H 0) aA A0 w (H hi) φ A) (hE: ∀j,lo≤j→lst j→jr C ops az w0 w φ A a j (pn j)) (gV: ∀id,(H lo).bs.length≤id→ φ id=none):
 ∀m,lo≤m→m≤hi→ ∃a8,Out w0 (H 0) aA A0 w (H hi) a8 A∧bF w (H hi) φ A w (H hi) a8 A∧(∀j,lo≤j→j<m→lst j→ ∀(o:Oper) (d:Tmp) (u:Value),ops[j]? =some o→o.dst=some d→a.tmps[d]? =some u→R w (H hi) a8 A (v j) u)∧
  (∀id loc,a8 id=some loc→ φ id=some loc∨ ∃j,lo≤j∧j<m∧lst j∧(H j).bs.length≤id∧id<(H (j+1)).bs.length)∧(∀j,m≤j→lst j→jr C ops az w0 w a8 A a j (pn j)):=by
 intro m hm;obtain ⟨k,rfl⟩:=Nat.exists_eq_add_of_le hm;clear hm;induction k with
 |zero=>exact fun _=>⟨φ,bG,.refl _ _ _ _,fun j h1 h2=>by omega,fun id loc h=> .inl h,hE⟩
 |succ k ih=>
  intro sb;obtain ⟨a8,k1,k2,k3,k4,k5⟩:=ih (by omega)
  rw [show lo+(k+1)=lo+k+1 by omega] at sb⊢
  have hm:lo≤lo+k:=Nat.le_add_right _ _;generalize lo+k=m at hm sb k3 k4 k5⊢;by_cases hL:lst m
  ·obtain ⟨gx,o,d,sz,el,x,uv,e1,e2,e4,e5,hp,hu⟩:=k5 m (Nat.le_refl _) hL;obtain ⟨_,s2,s3,_,_⟩:=t.step m o (by rw [Array.getElem?_toList];exact e1)
   have eT:act m=true:=by
    simp only [dm,e2,Option.some.injEq] at s2;exact s2.symm
   have hw:=s3 eT;obtain ⟨hv,hH⟩:v m=x (H m).bs.length (H m).st∧H (m+1)=(H m).new sz false el:=by
    have:=e5.ev _ _ _ _ _ _ _ rfl hw;exact ⟨this.1.symm,this.2.symm⟩
   have cF:=hq (m+1) (by omega) (by omega)
   have hb:(H hi).get (H m).bs.length=some ⟨(H m).st,sz,false,el⟩:=by
    refine cF.1.1.1 _ _ ?_;rw [hH];simp [J.get,J.new]
   have bN:(H m).st<(H hi).st:=by
    have:=cF.1.1.2;rw [hH] at this;exact this
   have aU:a8 (H m).bs.length=none:=by
    cases hc:a8 (H m).bs.length with
    |none=>rfl
    |some loc=>
     exfalso;rcases k4 _ _ hc with h|⟨j,h1,h2,_,_,h4⟩
     ·rw [gV _ (hlen lo m (Nat.le_refl _) hm (by omega))] at h;simp at h
     ·have:=hlen (j+1) m (by omega) (by omega) (by omega)
      omega
   obtain ⟨arr,T,fr,h1,h2,h3,h5⟩:=hp.here
   let cT:ag:=fun i=>if i=(H m).bs.length then some (.at_ (pn m) 0) else a8 i
   have dH: ∀c,Ow cT c→Ow a8 c∨c=pn m:=by
    rintro c ⟨i,b0,h⟩;simp only [cT] at h;split at h
    ·simp only [Option.some.injEq,Loc.at_.injEq] at h;exact .inr h.1.symm
    ·exact .inl ⟨i,b0,h⟩
   have aP:bF w (H hi) a8 A w (H hi) cT A:=by
    refine ⟨fun c a t fr hc hn=>⟨⟨fr,hc⟩,hn⟩,Nat.le_refl _,fun i b' aw _=>⟨b',aw,rfl,rfl,rfl,rfl,fun loc hl=> ?_⟩,fun _ _=>rfl⟩
    simp only [cT];split
    ·rename_i h;subst h;rw [aU] at hl;simp at hl
    ·exact hl
   have li:St w (H hi) cT A:=by
    refine ⟨fun i i' c b0 b1 h1 h2=> ?_,fun c hc=> ?_,k1.st.bW,fun i loc hl=> ?_⟩
    ·simp only [cT] at h1 h2;split at h1
     ·rename_i fl;split at h2
      ·rename_i By;omega
      ·simp only [Option.some.injEq,Loc.at_.injEq] at h1;exact absurd ⟨i',b1,by rw [h1.1];exact h2⟩ hp.ow
     ·split at h2
      ·simp only [Option.some.injEq,Loc.at_.injEq] at h2;exact absurd ⟨i,b0,by rw [h2.1];exact h1⟩ hp.ow
      ·exact k1.st.inj i i' c b0 b1 h1 h2
    ·rcases dH c hc with h|h
     ·exact k1.st.own c h
     ·rw [h];exact hp.av
    ·simp only [cT] at hl;split at hl
     ·rename_i fl;subst fl;simp only [Option.some.injEq] at hl;subst hl;refine ⟨_,hb,bN,e5.y_,by simp,fun c b0 h=> ?_⟩
      simp only [Loc.at_.injEq] at h;obtain ⟨rfl,rfl⟩:=h;refine ⟨arr,T,fr,h1,h2,by rw [Nat.zero_add];exact h3,fun i x j y v hx hy hv=> ?_⟩
      rw [Nat.zero_add] at hv;obtain ⟨g1,g2⟩:=h5 i x j y v hx hy hv;exact ⟨g1 _ _ _ _,g2⟩
     ·obtain ⟨b',cA,aw⟩:=k1.st.ap i loc hl;refine ⟨b',cA,aw.ad,aw.sized,aw.aO,fun c b0 h=> ?_⟩;obtain ⟨a,t,fr,h1,h2,h3,h4⟩:=aw.here c b0 h;exact ⟨a,t,fr,h1,h2,h3,fun i x j y v hx hy hv=>⟨(h4 i x j y v hx hy hv).1.mono aP,(h4 i x j y v hx hy hv).2⟩⟩
   have zk:Out w0 (H 0) aA A0 w (H hi) cT A:=by
    refine ⟨li,⟨k1.post.os,k1.post.tape,k1.post.output,k1.post.size,k1.post.kept,k1.post.aZ,fun c hc=> ?_⟩,k1.bU.trans aP (fun c hc=>k1.post.aZ c (Ow.lt cS hc)),k1.bK⟩;rcases dH c hc with h|h
    ·exact k1.post.own c h
    ·right;rw [h];exact hp.old
   refine ⟨cT,zk,k2.trans aP (fun _ _=>rfl),fun j j1 j2 j3 o' d' u' q1 q2 q3=> ?_,fun id loc h=> ?_,fun j j1 j2=> ?_⟩
   ·by_cases pE:j=m
    ·subst pE;rw [e1] at q1;simp only [Option.some.injEq] at q1;subst q1;rw [e4] at q2;simp only [Option.some.injEq] at q2;subst q2;rw [hu u' q3,hv]
     exact e5.rel _ _ _ _ _ _ _ hb bN (by simp [cT]) (by unfold aZ;rw [h1];exact h3)
    ·exact (k3 j j1 (by omega) j3 o' d' u' q1 q2 q3).mono aP
   ·simp only [cT] at h;split at h
    ·rename_i bO;refine .inr ⟨m,hm,Nat.lt_succ_self _,hL,by omega,?_⟩
     rw [hH];simp [J.new];omega
    ·rcases k4 id loc h with h|⟨j,q1,q2,q3⟩
     ·exact .inl h
     ·exact .inr ⟨j,q1,by omega,q3⟩
   ·obtain ⟨g0,r,d',zl,gk,x',zm,g1,g2,g4,g5,g7,g8⟩:=k5 j (by omega) j2
    refine ⟨g0,r,d',zl,gk,x',zm,g1,g2,g4,g5,⟨g7.old,g7.lt,g7.av,fun h=> ?_,g7.here⟩,g8⟩;rcases dH _ h with h|h
    ·exact g7.ow h
    ·have:=hinj j m (by omega) hm j2 hL h
     omega
  ·refine ⟨a8,k1,k2,fun j j1 j2 j3=> ?_,fun id loc h=> ?_,fun j j1 j2=>k5 j (by omega) j2⟩
   ·by_cases pE:j=m
    ·subst pE;exact absurd j3 hL
    ·exact k3 j j1 (by omega) j3
   ·rcases k4 id loc h with h|⟨j,q1,q2,q3⟩
    ·exact .inl h
    ·exact .inr ⟨j,q1,by omega,q3⟩
end draw
end Go.VS
namespace Go.VS
section draw
variable {P:Program} {C:aI} {X:bw} {ops:Array Oper} {az:List Nat} {th:List Nat} {K:aj→J→Prop} {s:Nat→aj} {H:Nat→J} {v:Nat→AV} {act:Nat→Bool}
variable {w0:World} {aA:ag} {A0:ah} {listed:Array Bool} {a:Act} {w:World} {b c:Nat} {φ :ag} {A:ah} {pn:Nat→Nat}
theorem Inv.zn (inv:Inv C ops az s H v w0 aA A0 listed a w b c φ A pn) (dk:h_ ops az) {i:Nat} {o:Oper} (ho:ops[i]? =some o) (ha: ∀e∈o.after,Region.binds .any e=true→listed.getD e.on false=true):i≤c∨(i∉az∧o.guard=Option.none∧iX o.op=true∧ ∃d,o.dst=some d):=by
 rcases Nat.lt_or_ge c i with h|h
 ·have hi:i<ops.size:=(Array.getElem?_eq_some_iff.1 ho).1;rcases inv.cl with hc|hc
  ·omega
  ·have zo:=Array.getElem?_eq_getElem (xs:=ops) (show c<ops.size by omega)
   rcases dk.after c i _ o zo ho hc h with hb|hb
   ·exfalso;have hL:=mC inv.shut dk.back i o ho ha c hb;have:=(inv.iN c hc (by omega)).1 hL
    have:=inv.bc;omega
   ·exact .inr hb
 ·exact .inl h
theorem Inv.sd (inv:Inv C ops az s H v w0 aA A0 listed a w b c φ A pn) (cS:St w0 (H 0) aA A0) (dk:h_ ops az) (t:iM X C ops az th K s H v act) {o:Oper} (ho:ops[c]? =some o) (hl:c∈az) (ha: ∀e∈o.after,Region.binds .any e=true→listed.getD e.on false=true)
 {u:Value} {w' :World} {φ1:ag} {A1:ah} (bG:Out w (H c) φ A w' (H (c+1)) φ1 A1) (hr:R w' (H (c+1)) φ1 A1 (v c) u): ∃c' a8,Inv C ops az s H v w0 aA A0 (listed.setIfInBounds c true) (a.put o.dst u) w' (c+1) c' a8 A1 pn:=by
 have hi:c<ops.size:=(Array.getElem?_eq_some_iff.1 ho).1;have aB:c<listed.size:=by rw [inv.size];exact hi
 have bL:=mI aB;have zp:=inv.bc;have Bz:listed.getD c false=false:=by
  cases hq:listed.getD c false with
  |false=>rfl
  |true=>have:=(inv.iN c hl hi).1 hq;omega
 have jt: ∀k,(listed.setIfInBounds c true).getD k false=false→k≠c∧listed.getD k false=false:=fun k hk=>by
  have:=(not_congr (bL k)).1 (by rw [hk];simp)
  refine ⟨fun h=>this (.inl h),?_⟩;cases hq:listed.getD k false with
  |false=>rfl
  |true=>exact absurd (.inr hq) this
 have j6: ∀(k:Nat) (r:Oper) (d:Tmp),k≠c→ops[k]? =some r→r.dst=some d→(a.put o.dst u).tmps[d]? =a.tmps[d]? :=fun k r d dY hk b4=>by
  have aM:o.dst≠some d:=dk.gw c k o r d (fun h=>dY h.symm) ho hk b4;cases hd:o.dst with
  |none=>rfl
  |some d' =>
   simp only [Act.put,Array.getElem?_setIfInBounds];rw [if_neg (by rintro rfl;exact aM hd)]
 obtain ⟨c',k1,k2,k3,k4⟩:=pB az ops.size (ops.size-(c+1)) (c+1) rfl (by omega)
 have hQ: ∀j k,c+1≤j→j≤k→k≤c' →QG (H j) (H k):=fun j k h1 h2 h3=>by
  have:=ia t (k-j) j (by omega) (fun i i1 i2=>k4 i (by omega) (by omega))
  rwa [show j+(k-j)=k by omega] at this
 have gy:=hQ (c+1) c' (Nat.le_refl _) k1 (Nat.le_refl _)
 have hlen: ∀j k,c+1≤j→j≤k→k≤c' →(H j).bs.length≤(H k).bs.length:=fun j k h1 h2 h3=>(hQ j k h1 h2 h3).1.2
 have hex:=jg bG.st gy.1.1 gy.2;have aP:=bG.bU.trans hex.bU (fun k hk=>by rw [(bG.post.trans hex.post).aZ k (Ow.lt inv.out.st hk)])
 have hE: ∀j,c+1≤j→(listed.setIfInBounds c true).getD j false=true→jr C ops az w0 w' φ1 A1 (a.put o.dst u) j (pn j):=fun j hj hL=>
  (inv.early j (by omega) (((bL j).1 hL).resolve_left (by omega))).mono bG fun r d hk b4=>j6 j r d (by omega) hk b4
 obtain ⟨a8,o2,pF,r2,m2,e2⟩:=fill (lst:=fun j=>(listed.setIfInBounds c true).getD j false=true) t cS (fun j h1 h2=>hQ j c' h1 h2 (Nat.le_refl _)) hlen
  (fun j k hj hk iP bI hp=>inv.mH j k (by omega) (by omega) (((bL j).1 iP).resolve_left (by omega)) (((bL k).1 bI).resolve_left (by omega)) hp) ((inv.out.trans cS bG).trans cS hex) hE (fun id h=>bG.st.new h) c' k1 (Nat.le_refl _)
 refine ⟨c',a8,by simp [inv.size],fun k r hk bI e he hb=> ?_,k1,k2,k3,k4,fun k hk lg=> ?_,.inr ⟨by simpa using hl,Nat.succ_pos _⟩,o2,fun k h1 h2 h3 id h4 h5=> ?_,?_,?_,fun k r d u' hk b4 bI zq aL=> ?_,fun k ju bI=>e2 k ju bI,
  fun j k hj hk iP bI hp=>inv.mH j k (by omega) (by omega) (((bL j).1 iP).resolve_left (by omega)) (((bL k).1 bI).resolve_left (by omega)) hp,fun x u' eS aL=> ?_⟩
 ·by_cases dY:k=c
  ·subst dY;rw [ho] at hk;simp only [Option.some.injEq] at hk;subst hk;exact (bL _).2 (.inr (ha e he hb))
  ·exact (bL _).2 (.inr (inv.shut k r hk (((bL k).1 bI).resolve_left dY) e he hb))
 ·rw [bL,inv.iN k hk lg];constructor
  ·rintro (h|h)<;>omega
  ·intro h;by_cases dY:k=c
   ·exact .inl dY
   ·right;rcases Nat.lt_or_ge k b with h' |h'
    ·exact h'
    ·exact absurd hk (inv.ib k h' (by omega))
 ·cases hp:a8 id with
  |none=>rfl
  |some loc=>
   exfalso;rcases m2 id loc hp with h|⟨j,j1,j2,j3,j4,j5⟩
   ·rw [bG.st.new (Nat.le_trans (hlen (c+1) k (Nat.le_refl _) h1 (by omega)) h4)] at h;simp at h
   ·have:j=k:=by
     rcases Nat.lt_trichotomy j k with h|h|h
     ·have:=hlen (j+1) k (by omega) (by omega) (by omega);omega
     ·exact h
     ·have:=hlen (k+1) j (by omega) (by omega) (by omega);omega
    subst this;rw [h3] at j3;simp at j3
 ·cases hd:o.dst<;>simp [Act.put,inv.eG]
 ·cases hd:o.dst<;>simp [Act.put,inv.len]
 ·by_cases bP:k=c
  ·subst bP;rw [ho] at hk;simp only [Option.some.injEq] at hk;subst hk;rw [b4] at aL;simp only [Act.put,Array.getElem?_setIfInBounds] at aL;simp only [if_true] at aL;split at aL
   ·rename_i ax;simp only [Option.some.injEq] at aL;subst aL;exact (hr.mono hex.bU).mono pF
   ·simp at aL
  ·rcases Nat.lt_or_ge k c with ax|zg
   ·rw [j6 k r d bP hk b4] at aL;exact ((inv.wr k r d u' hk b4 (((bL k).1 bI).resolve_left bP) ax aL).mono aP).mono pF
   ·exact r2 k (by omega) zq bI r d u' hk b4 aL
 ·have aM:o.dst≠some x:=fun hd=>by have:=eS c o ho hd;have h2:=(bL c).2 (.inl rfl);rw [this] at h2;simp at h2
  have:a.tmps[x]? =some u' :=by
   cases hd:o.dst with
   |none=>rw [hd] at aL;exact aL
   |some d' =>
    rw [hd] at aL;simp only [Act.put,Array.getElem?_setIfInBounds] at aL;rw [if_neg (by rintro rfl;exact aM hd)] at aL
    exact aL
  exact ((inv.un x u' (fun k r hk b4=>(jt k (eS k r hk b4)).2) this).mono aP).mono pF
theorem zr {op:Op} (h:kn op=true):dG op=true:=by
 cases op<;>first|rfl|(simp [kn] at h)
def left (ops:Array Oper) (listed:Array Bool):Nat:=((List.range ops.size).filter fun k=> !listed.getD k false).length
theorem zt {ops:Array Oper} {listed:Array Bool} {i:Nat} (hs:listed.size=ops.size) (hi:i<ops.size) (hu:listed.getD i false=false):left ops (listed.setIfInBounds i true)<left ops listed:=by
 have bL:=mI (listed:=listed) (i:=i) (by omega)
 have he:((List.range ops.size).filter fun k=> !(listed.setIfInBounds i true).getD k false)=(((List.range ops.size).filter fun k=> !listed.getD k false).filter fun k=> !(listed.setIfInBounds i true).getD k false):=by
  rw [List.filter_filter];refine List.filter_congr fun k _=> ?_;cases hq:(listed.setIfInBounds i true).getD k false with
  |true=>simp
  |false=>
   have:listed.getD k false=false:=by
    cases mJ:listed.getD k false with
    |false=>rfl
    |true=>rw [(bL k).2 (.inr mJ)] at hq;simp at hq
   simp only [this,Bool.not_false,Bool.and_self]
 unfold left;rw [he];refine List.length_filter_lt_length_iff_exists.2 ⟨i,List.mem_filter.2 ⟨List.mem_range.2 hi,by rw [hu];rfl⟩,?_⟩
 rw [(bL i).2 (.inl rfl)];simp
theorem zu (hE: ∀t ti,C.E t=some ti→aR P t ti) (hX: ∀f ys H K,X f ys H K→cq P f ys H K) (dk:h_ ops az) (t:iM X C ops az th K s H v act) (cS:St w0 (H 0) aA A0) {Q:Exit→Act→World→Prop}
 (hq: ∀s' H' ak A' a' w',Out w0 (H 0) aA A0 w' H' ak A' →SF w' H' ak A' s' a' →K s' H' →Q .normal a' w'):
 ∀(fuel:Nat) (listed:Array Bool) (a:Act) (w:World) (b c:Nat) (φ :ag) (A:ah) (pn:Nat→Nat),Inv C ops az s H v w0 aA A0 listed a w b c φ A pn→left ops listed≤fuel→wpAny P .any ops Q fuel listed a w:=by
 have done: ∀(listed:Array Bool) (a:Act) (w:World) (b c:Nat) (φ :ag) (A:ah) (pn:Nat→Nat),Inv C ops az s H v w0 aA A0 listed a w b c φ A pn→Region.ready .any ops listed=[]→Q .normal a w:=by
  intro listed a w b c φ A pn inv hr;have all: ∀k,k<ops.size→listed.getD k false=true:=by
   intro k;induction k using Nat.strongRecOn with
   |_ k ih=>
    intro hk;cases hq:listed.getD k false with
    |true=>rfl
    |false=>
     exfalso;have ho:=Array.getElem?_eq_getElem (xs:=ops) hk;have:k∈Region.ready .any ops listed:=mem_ready.2 ⟨getD_in (by rw [inv.size];exact hk) hq,_,ho,fun e he hb=>by
      have ax:=dk.back k _ ho e he hb;exact ih e.on ax (by omega)⟩
     rw [hr] at this;cases this
  have lh:c=ops.size:=by
   rcases inv.cl with h|h
   ·exact h
   ·rcases Nat.lt_or_ge c ops.size with h' |h'
    ·have:=(inv.iN c h h').1 (all c h');have:=inv.bc;omega
    ·have:=inv.cn;omega
  obtain ⟨hl,hg⟩:=mE dk t ops.size (Nat.le_refl _);have se:=t.fin;rw [Array.length_toList] at se;have bG:=inv.out;rw [lh] at bG;refine hq (s ops.size) (H ops.size) φ A a w bG ⟨by rw [hl,inv.len],fun x y u hx hu=> ?_,inv.eG⟩ se
  have cm:x<(s 0).length:=by rw [←hl];exact (List.getElem?_eq_some_iff.1 hx).1
  have hy:(s ops.size).getD x .undef=y:=by simp [List.getD,hx]
  by_cases hw: ∃(k:Nat) (r:Oper),ops[k]? =some r∧r.dst=some x
  ·obtain ⟨k,r,hk,hr⟩:=hw;have sf:k<ops.size:=(Array.getElem?_eq_some_iff.1 hk).1;rw [(hg x cm).1 k r sf hk hr] at hy;subst hy;have:=inv.wr k r x u hk hr (all k sf) (by omega) hu
   rw [lh] at this;exact this
  ·rw [(hg x cm).2 (fun k' o' _ eu bZ=>hw ⟨k',o',eu,bZ⟩)] at hy
   subst hy;have:=inv.un x u (fun k' o' eu bZ=>absurd ⟨k',o',eu,bZ⟩ hw) hu
   rw [lh] at this;exact this
 intro fuel;induction fuel with
 |zero=>
  intro listed a w b c φ A pn inv hle;have hr:Region.ready .any ops listed=[]:=by
   cases hq:Region.ready .any ops listed with
   |nil=>rfl
   |cons i rs=>
    exfalso;have hm:i∈Region.ready .any ops listed:=by rw [hq];simp
    obtain ⟨hu,o,ho,_⟩:=mem_ready.1 hm;have hi:i<ops.size:=(Array.getElem?_eq_some_iff.1 ho).1;have:i∈((List.range ops.size).filter fun k=> !listed.getD k false):=List.mem_filter.2 ⟨List.mem_range.2 hi,by rw [getD_both hu];rfl⟩
    have:=List.length_pos_of_mem this;unfold left at hle;omega
  exact ⟨hr,done listed a w b c φ A pn inv hr⟩
 |succ fuel ih=>
  intro listed a w b c φ A pn inv hle;refine ⟨done listed a w b c φ A pn inv,fun i hi=> ?_⟩;obtain ⟨iC,o,ho,ha⟩:=mem_ready.1 hi;have hu:=getD_both iC;have cw:i<ops.size:=(Array.getElem?_eq_some_iff.1 ho).1;have BA:=zt inv.size cw hu;have jv:=inv.zn dk ho ha;obtain ⟨st1,st2,mK,sg,BB⟩:=t.step i o (by rw [Array.getElem?_toList];exact ho)
  rw [Nat.zero_add] at mK;by_cases si:i≤c
  case neg=>
   obtain ⟨gx,hg,he,d,hd⟩:=jv.resolve_left si;have eT:act i=true:=by
    simp only [dm,hg,Option.some.injEq] at st2;exact st2.symm
   obtain ⟨sz,el,x,uv,bC,cN⟩:=za hE he (mK eT);obtain ⟨arr,T,cN,lb⟩:=cN a w;unfold Go.wpOp;rw [ho];simp only;have hw:Region.wanted o (yielded ops a.tmps)=true:=by simp [Region.wanted,hg]
   rw [if_pos hw];refine .inl ?_;show o.upon P a _ Q _;rw [cN];exact ih _ _ _ _ _ _ _ _ (inv.zi cS dk (by omega) ho hu gx hg hd bC ha lb) (by omega)
  replace jv:=si;unfold Go.wpOp;rw [ho];simp only;by_cases fS:i∈az
  ·
   have fR:i=c:=by
    rcases Nat.lt_or_ge i c with h|h
    ·exfalso;have hb: ¬i<b:=fun h=>by have:=(inv.iN i fS cw).2 h;rw [hu] at this;simp at this
     exact inv.ib i (by omega) h fS
    ·omega
   subst fR;have bC:=inv.pD dk t jv ho hu ha (m:=i) (by omega) (Nat.le_refl _) (.inl rfl)
   have hw:=pq (H:=H i) (φ := φ) (A:=A) (w:=w) (s:=s i) (a:=a) (fun j want x hg hx=>inv.look dk t jv ho hu ha (m:=i) (by omega) (Nat.le_refl _) (.inl rfl) (by
    unfold Oper.looksAt;refine List.mem_append.2 (.inr ?_);rw [hg];simp only;rw [hx];simp)) st2
   cases eT:act i with
   |true=>
    rw [eT] at hw;rw [if_pos hw];have h3:=mK eT;rw [show (!az.contains i)=false by simpa using fS] at h3
    refine .inl (mn hE hX inv.out.st bC h3 fun x u w' H' ak A' k1 k2 k3=> ?_)
    obtain ⟨rfl,rfl⟩:=k3;obtain ⟨c',a8,pG⟩:=inv.sd cS dk t ho fS ha k1 k2;exact ih _ _ _ _ _ _ _ _ pG (by omega)
   |false=>
    rw [eT] at hw;rw [if_neg (by rw [hw];simp)]
    obtain ⟨h4,h5⟩:=sg eT;obtain ⟨c',a8,pG⟩:=inv.sd cS dk t ho fS ha (u:=undef) (w' :=w) (φ1:= φ) (A1:=A) (by rw [h5];exact .refl inv.out.st) (by rw [h4];exact .fr _ _ (.ay [] #[] rfl (by simp)))
    exact ih _ _ _ _ _ _ _ _ pG (by omega)
  ·have fR:i<c:=by
    rcases Nat.lt_or_ge i c with h|h
    ·exact h
    ·have:i=c:=by omega
     subst this;rcases inv.cl with h' |h'
     ·omega
     ·exact absurd h' fS
   have lh:=inv.cn;rcases Nat.lt_or_ge i b with mL|mL
   ·
    obtain ⟨mM,iE⟩:b-1∈az∧0<b:=by
     rcases inv.base with h|h
     ·omega
     ·exact h
    have zp:=inv.bc;have mN:=Array.getElem?_eq_getElem (xs:=ops) (show b-1<ops.size by omega)
    have zw:=(inv.iN (b-1) mM (by omega)).2 (by omega)
    have sj:i<b-1:=by
     rcases Nat.lt_or_ge i (b-1) with h|h
     ·exact h
     ·have:i=b-1:=by omega
      subst this;exact absurd mM fS
    have sk:((eY ops.toList).getD (b-1) 0).testBit i=false:=by
     cases hq:((eY ops.toList).getD (b-1) 0).testBit i with
     |false=>rfl
     |true=>
      have:=mC inv.shut dk.back (b-1) _ mN (inv.shut (b-1) _ mN zw) i hq;rw [hu] at this;simp at this
    obtain ⟨_,hg,dz,⟨d,hd⟩,zx⟩:=dk.late (b-1) i _ o mN ho mM sj sk
    obtain ⟨_,_,_,_,sm⟩:=t.step (b-1) _ (by rw [Array.getElem?_toList];exact mN)
    rw [Nat.zero_add,show b-1+1=b by omega] at sm
    have mO:=sm i (by
     unfold fD;rw [if_pos (by simpa using mM)]
     exact List.mem_filter.2 ⟨List.mem_range.2 sj,by rw [sk];rfl⟩)
    unfold jI at mO;rw [ho] at mO;simp only [hd] at mO;have bC:=inv.pD dk t jv ho hu ha (m:=b) (by omega) (by omega) (.inr zx)
    have gy:=ia t (c-b) b (by omega) (fun k h1 h2=>inv.ib k h1 (by omega))
    rw [show b+(c-b)=c by omega] at gy
    have hw:Region.wanted o (yielded ops a.tmps)=true:=by simp [Region.wanted,hg]
    rw [if_pos hw];refine .inl ((om hE inv.out.st gy.1.1 gy.1.1 (fun h=>absurd h (Nat.lt_irrefl _)) (zr dz) bC mO).upon fun u w' ak A' k1 k2 k3=> ?_)
    refine ih _ _ _ _ _ _ _ _ (inv.k9 cS dk t fR ho fS ha k1 (fun d' bZ ax=> ?_) (fun id loc h=> ?_)) (by omega)
    ·rw [hd] at bZ;simp only [Option.some.injEq] at bZ;subst bZ;rw [←((mE dk t b (by omega)).2 d (by rw [inv.len];exact ax)).1 i o mL ho hd]
     exact k2
    ·rcases k3 id loc h with h|⟨h1,h2⟩
     ·exact .inl h
     ·omega
   ·
    have bC:=inv.pD dk t jv ho hu ha (m:=i) (by omega) (Nat.le_refl _) (.inl rfl)
    have hw:=pq (H:=H c) (φ := φ) (A:=A) (w:=w) (s:=s i) (a:=a) (fun j want x hg hx=>inv.look dk t jv ho hu ha (m:=i) (by omega) (Nat.le_refl _) (.inl rfl) (by
     unfold Oper.looksAt;refine List.mem_append.2 (.inr ?_);rw [hg];simp only;rw [hx];simp)) st2
    cases eT:act i with
    |true=>
     rw [eT] at hw;rw [if_pos hw];have h3:=mK eT;have gx:(!az.contains i)=true:=by simpa using fS
     rw [gx] at h3;have hN:=ia t (c-i) i (by omega) (fun k h1 h2=>inv.ib k (by omega) (by omega))
     rw [show i+(c-i)=c by omega] at hN
     have mJ:=ia t (c-(i+1)) (i+1) (by omega) (fun k h1 h2=>inv.ib k (by omega) (by omega))
     rw [show i+1+(c-(i+1))=c by omega] at mJ
     refine .inl (VS.k9 hE hX inv.out.st bC hN.1.1 ⟨mJ.1.1,fun id h1 h2=>inv.none i mL fR hu id h1 h2⟩ h3 fun u w' ak A' k1 k2 k3=> ?_)
     refine ih _ _ _ _ _ _ _ _ (inv.k9 cS dk t fR ho fS ha k1 (fun d' _ _=>k2) (fun id loc h=> ?_)) (by omega)
     rcases k3 id loc h with h|h
     ·exact .inl h
     ·exact .inr ⟨mL,fR,h⟩
    |false=>
     rw [eT] at hw;rw [if_neg (by rw [hw];simp)]
     obtain ⟨h4,h5⟩:=sg eT;refine ih _ _ _ _ _ _ _ _ (inv.k9 cS dk t fR ho fS ha (.refl inv.out.st) (fun d' _ _=>by rw [h4];exact .fr _ _ (.ay [] #[] rfl (by simp))) (fun id loc h=> .inl h)) (by omega)
theorem sn (dg:Exact X) (_hm:P.follows .mixedOrders=true) (hE: ∀t ti,C.E t=some ti→aR P t ti) (hX: ∀f ys H K,X f ys H K→cq P f ys H K):mv P C X:=by
 intro ops az th s0 H0 K Q w φ A a hd h ae hs hq;have dk:=y8 hd;obtain ⟨s,H,v,act,rfl,rfl,t⟩:=rZ dg ops.toList 0 s0 H0 h;have aP:bF w (H 0) φ A {w with drawn:=w.drawn+1} (H 0) φ A:=⟨fun c arr T fr hc hn=>⟨⟨fr,hc⟩,hn⟩,Nat.le_refl _,fun id b h _=>⟨b,h,rfl,rfl,rfl,rfl,fun _ h=>h⟩,fun _ _=>rfl⟩;have jw:St {w with drawn:=w.drawn+1} (H 0) φ A:=by
  refine ⟨ae.inj,ae.own,ae.bW,fun id loc hl=> ?_⟩;obtain ⟨b,hb,af⟩:=ae.ap id loc hl;refine ⟨b,hb,af.ad,af.sized,af.aO,fun c b0 he=> ?_⟩;obtain ⟨arr,T,fr,k1,k2,k3,k4⟩:=af.here c b0 he;exact ⟨arr,T,fr,k1,k2,k3,fun i x j y v hx hy hv=>⟨(k4 i x j y v hx hy hv).1.mono aP,(k4 i x j y v hx hy hv).2⟩⟩
 have so:Out w (H 0) φ A {w with drawn:=w.drawn+1} (H 0) φ A:=⟨jw,⟨rfl,rfl,rfl,Nat.le_refl _,fun _ _ _=>rfl,fun _ _=>rfl,fun _ h=> .inl h⟩,aP,fun _ h _=>h⟩;obtain ⟨c,k1,k2,k3,k4⟩:=pB az ops.size (ops.size-0) 0 rfl (Nat.zero_le _);have gy:=ia t c 0 (by omega) (fun k h1 h2=>k4 k h1 (by omega))
 rw [Nat.zero_add] at gy;have hex:=jg jw gy.1.1 gy.2;refine zu hE hX dk t ae hq ops.size _ a _ 0 c φ A (fun _=>0) ⟨by simp,fun i o ho hl=>by have cX:(Array.replicate ops.size false).getD i false=true:=hl;rw [getD_replicate_false] at cX;simp at cX,k1,k2,k3,k4,fun i _ _=>by rw [getD_replicate_false];simp,.inl rfl,so.trans ae hex,fun i _ _ _ id h4 h5=> ?_,hs.eG,hs.len,fun k o d u _ _ hl=>by rw [getD_replicate_false] at hl;simp at hl,fun k _ hl=>by rw [getD_replicate_false] at hl;simp at hl,fun j k _ _ hl=>by rw [getD_replicate_false] at hl;simp at hl,fun x u _ hu=> ?_⟩ ?_
 ·refine ae.new ?_;rename_i h1 h2 h3;have:=(ia t i 0 (by omega) (fun k h1 h2=>k4 k h1 (by omega))).1.2
  rw [Nat.zero_add] at this;omega
 ·have hx:=(hs.mono (so.bU.trans hex.bU (fun _ _=>rfl))).ev (.tmp x);simp only [ev,Act.eval] at hx;rw [Array.getD_eq_getD_getElem?,hu] at hx;exact hx
 ·unfold left;exact Nat.le_trans (List.length_filter_le _ _) (by simp)
end draw
end Go.VS
namespace Go.VS
section mono
variable {X X' :bw} {C:aI} (hX: ∀f ys H (K K' :AV→J→Prop),(∀v H,K v H→K' v H)→X f ys H K→X' f ys H K')
include hX
theorem sq {f:FuncId} {args:List AV} {th:Bool} {H:J} {K K' :AV→J→Prop} (hK: ∀v H,K v H→K' v H) (h:dl X C f args th H K):dl X' C f args th H K' :=by
 unfold dl at h⊢;split at h
 ·exact h.elim
 rename_i ys bT hy;obtain ⟨y,h1,h2,h3⟩:=h;refine ⟨y,hX _ _ _ _ _ (fun _ _ h=>h) h1,h2,?_⟩;split at h3
 ·rename_i ht;rw [if_pos ht];exact hK _ _ h3
 ·rename_i ht;rw [if_neg ht];exact hK _ _ h3
theorem ic {q th:Bool} {o:Oper} {s:aj} {H:J} {K K' :AV→J→Prop} (hK: ∀v H,K v H→K' v H) (h:wpOp X C q th o s H K):wpOp X' C q th o s H K' :=by
 unfold wpOp at h⊢;split at h
 ·obtain ⟨hq,h⟩:=h;refine ⟨hq,?_⟩;split at h
  ·exact hK _ _ h
  ·exact h.elim
 ·split at h
  ·cases q with
   |true=>exact sq hX hK h
   |false=>
    rcases h with h|h
    ·exact .inl (hX _ _ _ _ _ hK h)
    ·exact .inr (sq hX hK h)
  ·exact h.elim
 ·obtain ⟨hq,h⟩:=h;refine ⟨hq,?_⟩;split at h
  ·exact hK _ _ h
  ·exact h.elim
omit hX in
theorem lj {ops:Array Oper} {s:aj} {H:J} {K K' :Prop} (hK:K→K'): ∀(l:List Nat),eX C ops s H K l→eX C ops s H K' l
 |[],h=>hK h
 |_j::js,h=>⟨h.1,lj hK js h.2⟩
theorem mP {ops:Array Oper} {q:Nat→Bool} {late:Nat→List Nat} {th:List Nat} {K K' :aj→J→Prop} (hK: ∀s H,K s H→K' s H): ∀(l:List Oper) (i:Nat) (s:aj) (H:J),cW X C ops q late th K l i s H→cW X' C ops q late th K' l i s H
 |[],i,s,H,h=>hK s H h
 |o::rest,i,s,H,h=>by
  simp only [cW] at h⊢;cases hg:o.guard with
  |none=>
   rw [hg] at h;exact ic hX (fun v H' hv=>lj (mP hK rest (i+1) _ _) _ hv) h
  |some p=>
   rw [hg] at h;obtain ⟨v,H',h1,h2⟩:=h;refine ⟨v,H',?_,lj (mP hK rest (i+1) _ _) _ h2⟩;split at h1
   ·split at h1
    ·rename_i hb;simp only [hb,if_true];exact ic hX (fun _ _ h=>h) h1
    ·rename_i hb;simp only [hb];exact h1
   ·exact h1.elim
theorem mQ {ops:Array Oper} {th:List Nat} {fz:List (Nat×List (List Nat×List Sh))} {K K' :aj→J→Prop} (hK: ∀s H,K s H→K' s H): ∀(l:List Oper) (i:Nat) (s:aj) (H:J),cM X C ops th fz K l i s H→cM X' C ops th fz K' l i s H
 |[],i,s,H,h=>hK s H h
 |o::rest,i,s,H,h=>by
  simp only [cM] at h⊢;obtain ⟨s1,H1,hf,h⟩:=h;refine ⟨s1,H1,hf,?_⟩;cases hg:o.guard with
  |none=>
   rw [hg] at h;exact ic hX (fun v H' hv=>mQ hK rest (i+1) _ _ hv) h
  |some p=>
   rw [hg] at h;obtain ⟨v,H',h1,h2⟩:=h;refine ⟨v,H',?_,mQ hK rest (i+1) _ _ h2⟩;split at h1
   ·split at h1
    ·rename_i hb;simp only [hb,if_true];exact ic hX (fun _ _ h=>h) h1
    ·rename_i hb;simp only [hb];exact h1
   ·exact h1.elim
theorem ew: ∀(c:AC) (s:aj) (H:J) (K K' :Ex→aj→J→Prop),(∀e s H,K e s H→K' e s H)→aJ X C c s H K→aJ X' C c s H K' :=by
 intro c;induction c with
 |skip=>intro s H K K' hK h;exact hK _ _ _ h
 |ret=>intro s H K K' hK h;exact hK _ _ _ h
 |exit id=>intro s H K K' hK h;exact hK _ _ _ h
 |seq a b fT fU=>
  intro s H K K' hK h
  simp only [aJ] at h⊢;refine fT s H _ _ (fun e s' H' h=> ?_) h
  cases e with
  |normal=>exact fU s' H' K K' hK h
  |exit id=>exact hK _ _ _ h
  |ret=>exact hK _ _ _ h
 |cond c a b fT fU=>
  intro s H K K' hK h
  simp only [aJ] at h⊢;split at h
  ·split at h
   ·rename_i hb;simp only [hb,if_true];exact fT s H K K' hK h
   ·rename_i hb;simp only [hb];exact fU s H K K' hK h
  ·exact h.elim
 |block id bK a ih=>
  intro s H K K' hK h
  simp only [aJ] at h⊢;refine ih s H _ _ (fun e s' H' h=> ?_) h
  cases e with
  |normal=>exact hK _ _ _ h
  |ret=>exact hK _ _ _ h
  |exit j=>
   simp only at h⊢;split at h
   ·rename_i hj;rw [if_pos hj];exact hK _ _ _ h
   ·rename_i hj;rw [if_neg hj];exact hK _ _ _ h
 |loop sp a ih=>
  intro s H K K' hK h
  simp only [aJ] at h⊢;intro Y hY;refine h Y fun s' H' hB=>hY s' H' (ih s' H' _ _ (fun e s2 H2 h=> ?_) hB)
  cases e with
  |normal=>exact h
  |exit id=>exact hK _ _ _ h
  |ret=>exact hK _ _ _ h
 |region id ops draw az th fz=>
  intro s H K K' hK h
  cases draw with
  |true=>
   simp only [aJ] at h⊢;exact ⟨h.1,mP hX (fun s H h=>hK _ s H h) _ _ _ _ h.2⟩
  |false=>
   simp only [aJ] at h⊢;exact mQ hX (fun s H h=>hK _ s H h) _ _ _ _ h
 |fA l kp=>
  intro s H K K' hK h
  simp only [aJ] at h⊢;split at h
  ·exact hK _ _ _ h
  ·exact h
 |bad=>intro s H K K' hK h;exact h
end mono
def Up (X:bw):Prop:= ∀f ys H (K K' :AV→J→Prop),(∀v H,K v H→K' v H)→X f ys H K→X f ys H K'
theorem iW.round {X:bw} (hU:Up X) {C:aI} {c:AC} {next:aj→J→aj×J} {K:Ex→aj→J→Prop} {s:aj} {H:J}
 (h:aJ X C c s H (fun e s' H' =>match e with
  | .normal=>iW (aJ X C c) next K (next s' H').1 (next s' H').2
  |e=>K e s' H')):iW (aJ X C c) next K s H:=by
 intro Y hY;refine hY s H (ew hU c s H _ _ (fun e s' H' h=> ?_) h)
 cases e with
 |normal=>exact h Y hY
 |exit id=>exact h
 |ret=>exact h
theorem ss {X:bw} {C:aI} (hU:Up X) (dg:Exact X) {ops:Array Oper} {q:Nat→Bool} {late:Nat→List Nat} {th:List Nat} {K:aj→J→Prop}: ∀(l:List Oper) (i:Nat) (s:aj) (H:J),cW X C ops q late th K l i s H→ ∃s' H',cW X C ops q late th (fun s1 H1=>s1=s' ∧H1=H') l i s H∧K s' H'
 |[],i,s,H,h=>⟨s,H,⟨rfl,rfl⟩,h⟩
 |o::rest,i,s,H,h=>by
  have su: ∀(ls:List Nat) (s1:aj) (H1:J),eX C ops s1 H1 (cW X C ops q late th K rest (i+1) s1 H1) ls→ ∃s' H',eX C ops s1 H1 (cW X C ops q late th (fun s1 H1=>s1=s' ∧H1=H') rest (i+1) s1 H1) ls∧K s' H' :=by
   intro ls s1 H1 h;obtain ⟨h1,h2⟩:=mB _ _ _ _ _ _ h;obtain ⟨s',H',h3,h4⟩:=ss hU dg rest (i+1) s1 H1 h2;refine ⟨s',H',?_,h4⟩;clear h h2 h4;induction ls with
   |nil=>exact h3
   |cons j js ih=>exact ⟨h1 j (by simp),ih fun k hk=>h1 k (by simp [hk])⟩
  simp only [cW] at h⊢;cases hg:o.guard with
  |none=>
   rw [hg] at h;simp only at h⊢;obtain ⟨v,H1,h1,h2⟩:=k_ dg h;obtain ⟨s',H',h3,h4⟩:=su _ _ _ h2;exact ⟨s',H',ic hU (fun v1 H2 e=>by obtain ⟨rfl,rfl⟩:=e;exact h3) h1,h4⟩
  |some p=>
   rw [hg] at h;simp only at h⊢;obtain ⟨v,H1,h1,h2⟩:=h;obtain ⟨s',H',h3,h4⟩:=su _ _ _ h2;exact ⟨s',H',⟨v,H1,h1,h3⟩,h4⟩
theorem pH {X:bw} {C:aI} (hU:Up X) (dg:Exact X) {ops:Array Oper} {th:List Nat} {fz:List (Nat×List (List Nat×List Sh))} {K:aj→J→Prop}: ∀(l:List Oper) (i:Nat) (s:aj) (H:J),cM X C ops th fz K l i s H→ ∃s' H',cM X C ops th fz (fun s1 H1=>s1=s' ∧H1=H') l i s H∧K s' H'
 |[],i,s,H,h=>⟨s,H,⟨rfl,rfl⟩,h⟩
 |o::rest,i,s,H,h=>by
  simp only [cM] at h⊢;obtain ⟨s0,H0,hf,h⟩:=h;cases hg:o.guard with
  |none=>
   rw [hg] at h;simp only at h⊢;obtain ⟨v,H1,h1,h2⟩:=k_ dg h;obtain ⟨s',H',h3,h4⟩:=pH hU dg rest (i+1) _ _ h2;exact ⟨s',H',⟨s0,H0,hf,ic hU (fun v1 H2 e=>by obtain ⟨rfl,rfl⟩:=e;exact h3) h1⟩,h4⟩
  |some p=>
   rw [hg] at h;simp only at h⊢;obtain ⟨v,H1,h1,h2⟩:=h;obtain ⟨s',H',h3,h4⟩:=pH hU dg rest (i+1) _ _ h2;exact ⟨s',H',⟨s0,H0,hf,v,H1,h1,h3⟩,h4⟩
theorem zy {X:bw} {C:aI} (hU:Up X) (dg:Exact X): ∀(c:AC) (s:aj) (H:J) (K:Ex→aj→J→Prop),aJ X C c s H K→ ∃e s' H',aJ X C c s H (fun e1 s1 H1=>e1=e∧s1=s' ∧H1=H')∧K e s' H' :=by
 intro c;induction c with
 |skip=>intro s H K h;exact ⟨_,_,_,⟨rfl,rfl,rfl⟩,h⟩
 |ret=>intro s H K h;exact ⟨_,_,_,⟨rfl,rfl,rfl⟩,h⟩
 |exit id=>intro s H K h;exact ⟨_,_,_,⟨rfl,rfl,rfl⟩,h⟩
 |seq a b fT fU=>
  intro s H K h;simp only [aJ] at h⊢;obtain ⟨e,s1,H1,h1,h2⟩:=fT s H _ h;cases e with
  |normal=>
   obtain ⟨e,s2,H2,h3,h4⟩:=fU s1 H1 K h2;exact ⟨e,s2,H2,ew hU a s H _ _ (fun e1 s' H' q=>by obtain ⟨rfl,rfl,rfl⟩:=q;exact h3) h1,h4⟩
  |exit id=>exact ⟨.exit id,s1,H1,ew hU a s H _ _ (fun e1 s' H' q=>by obtain ⟨rfl,rfl,rfl⟩:=q;exact ⟨rfl,rfl,rfl⟩) h1,h2⟩
  |ret=>exact ⟨.ret,s1,H1,ew hU a s H _ _ (fun e1 s' H' q=>by obtain ⟨rfl,rfl,rfl⟩:=q;exact ⟨rfl,rfl,rfl⟩) h1,h2⟩
 |cond c a b fT fU=>
  intro s H K h;simp only [aJ] at h⊢;split at h
  ·split at h
   ·rename_i hb;simp only [hb,if_true];exact fT s H K h
   ·rename_i hb;simp only [hb];exact fU s H K h
  ·exact h.elim
 |block id bK a ih=>
  intro s H K h;simp only [aJ] at h⊢;obtain ⟨e,s1,H1,h1,h2⟩:=ih s H _ h;cases e with
  |normal=>exact ⟨.normal,dU bK s1,H1,ew hU a s H _ _ (fun e1 s' H' q=>by obtain ⟨rfl,rfl,rfl⟩:=q;exact ⟨rfl,rfl,rfl⟩) h1,h2⟩
  |ret=>exact ⟨.ret,s1,H1,ew hU a s H _ _ (fun e1 s' H' q=>by obtain ⟨rfl,rfl,rfl⟩:=q;exact ⟨rfl,rfl,rfl⟩) h1,h2⟩
  |exit j=>
   simp only at h2;split at h2
   ·rename_i hj;exact ⟨.normal,dU bK s1,H1,ew hU a s H _ _ (fun e1 s' H' q=>by obtain ⟨rfl,rfl,rfl⟩:=q;simp [hj]) h1,h2⟩
   ·rename_i hj;exact ⟨.exit j,s1,H1,ew hU a s H _ _ (fun e1 s' H' q=>by obtain ⟨rfl,rfl,rfl⟩:=q;simp [hj]) h1,h2⟩
 |loop sp a ih=>
  intro s H K h;simp only [aJ] at h⊢;refine h (fun s1 H1=> ∃e s' H',iW (aJ X C a) (gK sp H.bs.length) (fun e1 s2 H2=>e1=e∧s2=s' ∧H2=H') s1 H1∧K e s' H') fun s1 H1 hB=> ?_
  obtain ⟨e,s2,H2,h1,h2⟩:=ih s1 H1 _ hB;cases e with
  |normal=>
   obtain ⟨e,s',H',h3,h4⟩:=h2;exact ⟨e,s',H',.round hU (ew hU a s1 H1 _ _ (fun e1 s' H' q=>by obtain ⟨rfl,rfl,rfl⟩:=q;exact h3) h1),h4⟩
  |exit id=>exact ⟨_,_,_,.round hU (ew hU a s1 H1 _ _ (fun e1 s' H' q=>by obtain ⟨rfl,rfl,rfl⟩:=q;exact ⟨rfl,rfl,rfl⟩) h1),h2⟩
  |ret=>exact ⟨_,_,_,.round hU (ew hU a s1 H1 _ _ (fun e1 s' H' q=>by obtain ⟨rfl,rfl,rfl⟩:=q;exact ⟨rfl,rfl,rfl⟩) h1),h2⟩
 |region id ops draw az th fz=>
  intro s H K h;cases draw with
  |true=>
   simp only [aJ] at h⊢;obtain ⟨s',H',h1,h2⟩:=ss hU dg _ _ _ _ h.2;exact ⟨.normal,s',H',⟨h.1,mP hU (fun s H q=>⟨rfl,q⟩) _ _ _ _ h1⟩,h2⟩
  |false=>
   simp only [aJ] at h⊢;obtain ⟨s',H',h1,h2⟩:=pH hU dg _ _ _ _ h;exact ⟨.normal,s',H',mQ hU (fun s H q=>⟨rfl,q⟩) _ _ _ _ h1,h2⟩
 |fA l kp=>
  intro s H K h;simp only [aJ] at h⊢;split at h
  ·rename_i s' H' he;exact ⟨_,_,_,⟨rfl,rfl,rfl⟩,h⟩
  ·exact h.elim
 |bad=>intro s H K h;exact h.elim
theorem eB.mono {E:aK} {res:List ResultVar} {K K' :AV→J→Prop} (hK: ∀v H,K v H→K' v H): ∀e s H,eB E res K e s H→eB E res K' e s H
 | .normal,_,_,⟨rs,h1,h2⟩=>⟨rs,h1,hK _ _ h2⟩
 | .ret,_,_,⟨rs,h1,h2⟩=>⟨rs,h1,hK _ _ h2⟩
 | .exit _,_,_,h=>h
theorem eB.exact {E:aK} {res:List ResultVar} {K:AV→J→Prop}: ∀e s H,eB E res K e s H→ ∃v H',eB E res (fun v1 H1=>v1=v∧H1=H') e s H∧K v H'
 | .normal,_,_,⟨rs,h1,h2⟩=>⟨_,_,⟨rs,h1,rfl,rfl⟩,h2⟩
 | .ret,_,_,⟨rs,h1,h2⟩=>⟨_,_,⟨rs,h1,rfl,rfl⟩,h2⟩
 | .exit _,_,_,h=>h.elim
theorem sw {X:bw} {C:aI} (hU:Up X) (dg:Exact X) {f:FuncId} {ys:List AV} {H:J} {K:AV→J→Prop} (h:Body X C f ys H K): ∃v H',Body X C f ys H (fun v1 H1=>v1=v∧H1=H')∧K v H' :=by
 unfold Body at h⊢;split at h
 ·exact h.elim
 ·rename_i fn ku;split at h
  ·exact h.elim
  ·rename_i c hc;obtain ⟨e,s',H',h1,h2⟩:=zy hU dg _ _ _ _ h;obtain ⟨v,H2,h3,h4⟩:=eB.exact _ _ _ h2;refine ⟨v,H2,?_,h4⟩;exact ew hU _ _ _ _ _ (fun e1 s1 H1 q=>by obtain ⟨rfl,rfl,rfl⟩:=q;exact h3) h1
theorem Body.mono {X X' :bw} {C:aI} (hX: ∀f ys H (K K' :AV→J→Prop),(∀v H,K v H→K' v H)→X f ys H K→X' f ys H K') {f:FuncId} {ys:List AV} {H:J} {K K' :AV→J→Prop} (hK: ∀v H,K v H→K' v H) (h:Body X C f ys H K):Body X' C f ys H K' :=by
 unfold Body at h⊢;split at h
 ·exact h.elim
 ·rename_i fn ku;split at h
  ·exact h.elim
  ·rename_i c hc;exact ew hX _ _ _ _ _ (eB.mono hK) h
def mR (C:aI):Prop:=Up C.ext
theorem aq.up {C:aI} (hE:mR C):Up (aq C):=by
 intro f ys H K K' hK h
 refine h (fun f ys H K=> ∀K',(∀v H,K v H→K' v H)→aq C f ys H K') ⟨fun f ys H K h K' hK X hX=>hX.1 _ _ _ _ (hE _ _ _ _ _ hK h),fun f ys H K h K' hK X hX=> ?_⟩ K' hK
 refine hX.2 _ _ _ _ (Body.mono (fun f ys H K K2 zB h=> ?_) hK h);exact h K2 zB X hX
theorem aq.intro {C:aI} (hE:mR C) {f:FuncId} {ys:List AV} {H:J} {K:AV→J→Prop} (h:Body (aq C) C f ys H K):aq C f ys H K:=by
 intro X hX;refine hX.2 _ _ _ _ (Body.mono (fun f ys H K K' hK hc=> ?_) (fun _ _ h=>h) h)
 exact aq.up hE _ _ _ _ _ hK hc X hX
theorem aq.exact {C:aI} (hE:mR C) (hX:Exact C.ext):Exact (aq C):=by
 intro f ys H K h;refine h (fun f ys H K=> ∃v H',aq C f ys H (fun v1 H1=>v1=v∧H1=H')∧K v H') ⟨fun f ys H K h=> ?_,fun f ys H K h=> ?_⟩
 ·obtain ⟨v,H',h1,h2⟩:=hX _ _ _ _ h;exact ⟨v,H',fun X hX=>hX.1 _ _ _ _ h1,h2⟩
 ·obtain ⟨v,H',h1,h2⟩:=sw (X:=fun f ys H K=> ∃v H',aq C f ys H (fun v1 H1=>v1=v∧H1=H')∧K v H') (fun f ys H K K' hK ⟨v,H',h1,h2⟩=>⟨v,H',h1,hK _ _ h2⟩) (fun f ys H K ⟨v,H',h1,h2⟩=>⟨v,H',⟨v,H',h1,rfl,rfl⟩,h2⟩) h
  refine ⟨v,H',aq.intro hE (Body.mono (fun f ys H K K' hK ⟨v,H',h1,h2⟩=> ?_) (fun _ _ h=>h) h1),h2⟩
  exact aq.up hE _ _ _ _ _ (fun v1 H1 q=>by obtain ⟨rfl,rfl⟩:=q;exact hK _ _ h2) h1
theorem aq.ext {C:aI} {f:FuncId} {ys:List AV} {H:J} {K:AV→J→Prop} (h:C.ext f ys H K):aq C f ys H K:=fun _ hX=>hX.1 _ _ _ _ h
theorem BC {P:Program} {C:aI} (hm:P.follows .mixedOrders=true) (hE: ∀t ti,C.E t=some ti→aR P t ti) (hC: ∀f fn,C.code f=some fn→P.funcs[f]? =some fn∧(fn.name== "runtime.NumGoroutine")=false∧nE (C.gb f) fn=true)
 (zC: ∀f ys H K,C.ext f ys H K→ ∃v H',cq P f ys H (fun v1 H1=>v1=v∧H1=H')∧K v H')
 {f:FuncId} {ys:List AV} {H:J} {K:AV→J→Prop} (h:aq C f ys H K):cq P f ys H K:=by
 have hY: ∃v H',cq P f ys H (fun v1 H1=>v1=v∧H1=H')∧K v H' :=by
  let Y:bw:=fun f ys H K=> ∃v H',cq P f ys H (fun v1 H1=>v1=v∧H1=H')∧K v H'
  have sx:Exact Y:=fun f ys H K ⟨v,H',h1,h2⟩=>⟨v,H',⟨v,H',h1,rfl,rfl⟩,h2⟩;have zD:Up Y:=fun f ys H K K' hK ⟨v,H',h1,h2⟩=>⟨v,H',h1,hK _ _ h2⟩
  have sy: ∀f ys H K,Y f ys H K→cq P f ys H K:=fun f ys H K ⟨v,H',h1,h2⟩=>h1.mono fun v1 H1 q=>by obtain ⟨rfl,rfl⟩:=q;exact h2
  refine h Y ⟨zC,fun f ys H K hb=> ?_⟩;obtain ⟨v,H',h1,h2⟩:=sw zD sx hb;exact ⟨v,H',yY hm hE hC sy (sn sx hm hE sy) h1,h2⟩
 obtain ⟨v,H',h1,h2⟩:=hY;exact h1.mono fun v1 H1 q=>by obtain ⟨rfl,rfl⟩:=q;exact h2
end Go.VS
namespace Go.VS
structure Good (C:aI):Prop where
 up:mR C
 exact:Exact C.ext
def ll (C:aI) (b:AC) (K:Ex→aj→J→Prop):Ex→aj→J→Prop
 | .normal,s,H=>aJ (aq C) C b s H K
 | .exit i,s,H=>K (.exit i) s H
 | .ret,s,H=>K .ret s H
def ie (id:Nat) (bK:Option (List Nat)) (K:Ex→aj→J→Prop):Ex→aj→J→Prop
 | .normal,s,H=>K .normal (dU bK s) H
 | .exit j,s,H=>if j=id then K .normal (dU bK s) H else K (.exit j) s H
 | .ret,s,H=>K .ret s H
def sA (C:aI) (v:AV) (a b:AC) (s:aj) (H:J) (K:Ex→aj→J→Prop):Prop:=
 match v with
 | .bool t=>if t then aJ (aq C) C a s H K else aJ (aq C) C b s H K
 |_=>False
section
variable {C:aI} {K K1:Ex→aj→J→Prop} {s:aj} {H:J}
theorem BD {a b:AC} (h: ∀K1,K1=ll C b K→aJ (aq C) C a s H K1):aJ (aq C) C (.seq a b) s H K:=by
 have:=h _ rfl;have e:ll C b K=(fun e s' H' =>match e with| .normal=>aJ (aq C) C b s' H' K|e=>K e s' H'):=by
  funext e s H;cases e<;>rfl
 rw [e] at this;exact this
theorem BE {id:Nat} {kp:Option (List Nat)} {a:AC} (h: ∀K1,K1=ie id kp K→aJ (aq C) C a s H K1):aJ (aq C) C (.block id kp a) s H K:=by
 have:=h _ rfl;have e:ie id kp K=(fun e s' H' =>match e with
  | .exit j=>if j=id then K .normal (dU kp s') H' else K (.exit j) s' H'
  | .normal=>K .normal (dU kp s') H'
  | .ret=>K .ret s' H'):=by funext e s H;cases e<;>rfl
 rw [e] at this;exact this
theorem BF (h:K .normal s H):aJ (aq C) C .skip s H K:=h
theorem BG (h:K .ret s H):aJ (aq C) C .ret s H K:=h
theorem BH {id:Nat} (h:K (.exit id) s H):aJ (aq C) C (.exit id) s H K:=h
theorem BI {c:Operand} {a b:AC} (h:sA C (ev s c) a b s H K):aJ (aq C) C (.cond c a b) s H K:=h
theorem zE {l:List (List Nat×List Sh)} {kp:Option (List Nat)} {s' :aj} {H' :J} (he:dn l s H=some (s',H')) (h:K .normal (dU kp s') H'):aJ (aq C) C (.fA l kp) s H K:=by
 simp only [aJ,he];exact h
theorem BJ {kp:List Nat} (h:K .normal (eA kp s) H):aJ (aq C) C (.fA [] (some kp)) s H K:=h
theorem BK {b:AC} (hK:K1=ll C b K) (h:aJ (aq C) C b s H K):K1 .normal s H:=by rw [hK];exact h
theorem BL {b:AC} (hK:K1=ll C b K) (h:K .ret s H):K1 .ret s H:=by rw [hK];exact h
theorem BM {b:AC} {i:Nat} (hK:K1=ll C b K) (h:K (.exit i) s H):K1 (.exit i) s H:=by rw [hK];exact h
theorem BN {id:Nat} {kp:Option (List Nat)} (hK:K1=ie id kp K) (h:K .normal (dU kp s) H):K1 .normal s H:=by rw [hK];exact h
theorem BO {id:Nat} (hK:K1=ie id none K) (h:K .normal s H):K1 .normal s H:=by rw [hK];exact h
theorem BP {id:Nat} {kp:Option (List Nat)} (hK:K1=ie id kp K) (h:K .normal (dU kp s) H):K1 (.exit id) s H:=by rw [hK];simp only [ie,if_true];exact h
theorem BQ {id j:Nat} {kp:Option (List Nat)} (hK:K1=ie id kp K) (hj:j≠id) (h:K (.exit j) s H):K1 (.exit j) s H:=by rw [hK];simp only [ie,if_neg hj];exact h
theorem BR {id:Nat} {kp:Option (List Nat)} (hK:K1=ie id kp K) (h:K .ret s H):K1 .ret s H:=by rw [hK];exact h
theorem BS {E:aK} {res:List ResultVar} {P:AV→J→Prop} {rs:List AV} (hK:K1=eB E res P) (hr:dw E s H res=some rs) (h:P (ci rs) H):K1 .ret s H:=by rw [hK];exact ⟨rs,hr,h⟩
theorem BT {E:aK} {a:Tmp} {P:AV→J→Prop} (hK:K1=eB E [.tmp a] P) {x:AV} (hx:s.getD a .undef=x) (h:P x H):K1 .ret s H:=by
 rw [hK];exact ⟨[s.getD a .undef],rfl,by rw [hx];exact h⟩
theorem BU {E:aK} {a b:Tmp} {P:AV→J→Prop} (hK:K1=eB E [.tmp a,.tmp b] P) {x y:AV} (hx:s.getD a .undef=x) (hy:s.getD b .undef=y) (h:P (.ay [x,y]) H):K1 .ret s H:=by
 rw [hK];exact ⟨[s.getD a .undef,s.getD b .undef],rfl,by rw [hx,hy];exact h⟩
theorem BV {E:aK} {a b c:Tmp} {P:AV→J→Prop} (hK:K1=eB E [.tmp a,.tmp b,.tmp c] P) {x y z:AV} (hx:s.getD a .undef=x) (hy:s.getD b .undef=y) (hz:s.getD c .undef=z) (h:P (.ay [x,y,z]) H):K1 .ret s H:=by
 rw [hK];exact ⟨[s.getD a .undef,s.getD b .undef,s.getD c .undef],rfl,by rw [hx,hy,hz];exact h⟩
theorem BW {α :Type} {c:Bool} {x y:Option α} {r: α} {a b:AC} (h:(bif c then x else y)=some r) (ht:c=true→x=some r→aJ (aq C) C a s H K) (hf:c=false→y=some r→aJ (aq C) C b s H K):sA C (.bool c) a b s H K:=by
 cases c with
 |true=>exact ht rfl h
 |false=>exact hf rfl h
theorem zF {a:AC} (h:aJ (aq C) C a s H K1) (hK: ∀e s H,K1 e s H→K e s H) (gC:Good C):aJ (aq C) C a s H K:=ew (aq.up gC.up) a s H _ _ hK h
end
structure GO where
 d:Option Tmp
 op:Op
 g:Option (Option Tmp×Bool)
 late:List (Op×Option Tmp)
 th:Bool
 q:Bool
def lk:List Oper→Nat→Option Tmp
 |[],_=>none
 |o::_,0=>o.dst
 |_::os,n+1=>lk os n
def bf (X:bw) (C:aI) (q ga:Bool) (op:Op) (s:aj) (H:J) (K:AV→J→Prop):Prop:=wpOp X C q ga ⟨none,op,0,"",#[],none⟩ s H K
theorem sB (X:bw) (C:aI) (q ga:Bool) (o:Oper) (s:aj) (H:J) (K:AV→J→Prop):wpOp X C q ga o s H K=bf X C q ga o.op s H K:=by
 cases o;rfl
def eU (C:aI) (s:aj) (H:J) (K:Prop):List (Op×Option Tmp)→Prop
 |[]=>K
 |(op,d)::js=>(∃t,d=some t∧aN C.E op s H=some (s.getD t .undef,H))∧eU C s H K js
def hM (g:Option (Option Tmp×Bool)) (s:aj) (a b:Prop):Prop:=
 match g with
 |none=>a
 |some (none,_)=>False
 |some (some t,want)=>match s.getD t .undef with
  | .bool c=>if c=want then a else b
  | .ay _=>b
  |_=>False
def d_ (C:aI) (K:aj→J→Prop):List GO→aj→J→Prop
 |[],s,H=>K s H
 |o::rest,s,H=>hM o.g s (bf (aq C) C o.q o.th o.op s H fun v H' =>eU C (bj s o.d v) H' (d_ C K rest (bj s o.d v) H') o.late)
  (eU C (bj s o.d (.ay [])) H (d_ C K rest (bj s o.d (.ay [])) H) o.late)
def j8 (ops:List Oper) (j:Nat):Op×Option Tmp:=match ops[j]? with|some o=>(o.op,o.dst)|none=>(.move (.tmp 0),none)
def dQ (all:List Oper) (q:Nat→Bool) (late:Nat→List Nat) (th:List Nat):List Oper→Nat→List GO
 |[],_=>[]
 |o::rest,i=>⟨o.dst,o.op,o.guard.map fun p=>(lk all p.1,p.2),(late i).map (j8 all),th.contains i,q i⟩::dQ all q late th rest (i+1)
theorem pI: ∀(l:List Oper) (j:Nat),lk l j=(l[j]?).bind (·.dst)
 |[],j=>by simp [lk]
 |o::os,0=>by simp [lk]
 |o::os,j+1=>by simp [lk,pI os j]
theorem pJ {C:aI} {ops:Array Oper} {s:aj} {H:J} {K:Prop}: ∀(l:List Nat),eU C s H K (l.map (j8 ops.toList))→eX C ops s H K l
 |[],h=>h
 |j::js,h=>by
  simp only [List.map_cons,eU] at h;refine ⟨?_,pJ js h.2⟩;unfold jI;have h1:=h.1;unfold j8 at h1;rw [Array.getElem?_toList] at h1;cases ho:ops[j]? with
  |none=>rw [ho] at h1;simp at h1
  |some o=>
   rw [ho] at h1;obtain ⟨t,ht,he⟩:=h1;simp only at ht he⊢;rw [ht];exact he
theorem mS {C:aI} (gC:Good C) {ops:Array Oper} {q:Nat→Bool} {late:Nat→List Nat} {th:List Nat} {K:aj→J→Prop}: ∀(l:List Oper) (i:Nat) (s:aj) (H:J),d_ C K (dQ ops.toList q late th l i) s H→cW (aq C) C ops q late th K l i s H
 |[],i,s,H,h=>h
 |o::rest,i,s,H,h=>by
  simp only [dQ,d_] at h;have yes:(bf (aq C) C (q i) (th.contains i) o.op s H fun v H' =>eU C (bj s o.dst v) H' (d_ C K (dQ ops.toList q late th rest (i+1)) (bj s o.dst v) H') ((late i).map (j8 ops.toList)))→
   wpOp (aq C) C (q i) (th.contains i) o s H fun v H' =>eX C ops (bj s o.dst v) H' (cW (aq C) C ops q late th K rest (i+1) (bj s o.dst v) H') (late i):=by
   intro h;rw [←sB] at h;refine ic (aq.up gC.up) (fun v H' h=> ?_) h
   exact lj (mS gC rest (i+1) _ _) _ (pJ _ h)
  simp only [cW];cases hg:o.guard with
  |none=>
   rw [hg] at h;simp only [Option.map_none,hM] at h⊢;exact yes h
  |some p=>
   obtain ⟨j,want⟩:=p;rw [hg] at h;simp only [Option.map_some,pI,Array.getElem?_toList] at h⊢;cases hd:(ops[j]?).bind (·.dst) with
   |none=>rw [hd] at h;exact h.elim
   |some t=>
    rw [hd] at h;simp only [hM] at h;have no:(eU C (bj s o.dst (.ay [])) H (d_ C K (dQ ops.toList q late th rest (i+1)) (bj s o.dst (.ay [])) H) ((late i).map (j8 ops.toList)))→dm ops o s=some false→ ∃v H',(match dm ops o s with
     |some b=>if b then wpOp (aq C) C (q i) (th.contains i) o s H (fun v1 H1=>v1=v∧H1=H') else v= .ay []∧H' =H
     |none=>False)∧eX C ops (bj s o.dst v) H' (cW (aq C) C ops q late th K rest (i+1) (bj s o.dst v) H') (late i):=by
     intro h hb;refine ⟨.ay [],H,?_,lj (mS gC rest (i+1) _ _) _ (pJ _ h)⟩;rw [hb];simp
    split at h
    ·rename_i c hc;have ln:dm ops o s=some (c==want):=by
      unfold dm;rw [hg];simp only [hd,hc]
     split at h
     ·rename_i jx;obtain ⟨v,H',h1,h2⟩:=k_ (aq.exact gC.up gC.exact) (yes h);refine ⟨v,H',?_,h2⟩;rw [ln,jx];simp only [beq_self_eq_true,if_true];exact h1
     ·rename_i jx;exact no h (by rw [ln];simpa using jx)
    ·rename_i hc;exact no h (by unfold dm;rw [hg];simp only [hd,hc])
    ·exact h.elim
section
variable {C:aI} {K K1:Ex→aj→J→Prop} {s:aj} {H:J}
def iQ (K:Ex→aj→J→Prop):aj→J→Prop:=fun s H=>K .normal s H
theorem BX (gC:Good C) {id:Nat} {ops:List Oper} {ls th:List Nat} (h:d_ C (iQ K) (dQ ops (fun _=>false) (fun _=>[]) th ops 0) s H):aJ (aq C) C (.region id ops.toArray false ls th []) s H K:=by
 have h2:=mS gC (ops:=ops.toArray) (q:=fun _=>false) (late:=fun _=>[]) (th:=th) ops 0 s H h;have key: ∀(l:List Oper) (i:Nat) (s:aj) (H:J),cW (aq C) C ops.toArray (fun _=>false) (fun _=>[]) th (iQ K) l i s H→cM (aq C) C ops.toArray th [] (iQ K) l i s H:=by
  intro l;induction l with
  |nil=>intro i s H h;exact h
  |cons o rest ih=>
   intro i s H h;simp only [cW,eX] at h;simp only [cM];refine ⟨s,H,rfl,?_⟩;cases hg:o.guard with
   |none=>
    rw [hg] at h;exact ic (aq.up gC.up) (fun v H' hv=>ih (i+1) _ _ hv) h
   |some p=>
    rw [hg] at h;obtain ⟨v,H',h1,h2⟩:=h;exact ⟨v,H',h1,ih (i+1) _ _ h2⟩
 exact key _ _ _ _ h2
def fV (C:aI) (fz:List (Nat×List (List Nat×List Sh))) (K:aj→J→Prop):List GO→Nat→aj→J→Prop
 |[],_,s,H=>K s H
 |o::rest,i,s0,H0=> ∃s H,dn ((fz.lookup i).getD []) s0 H0=some (s,H)∧
  hM o.g s (bf (aq C) C o.q o.th o.op s H fun v H' =>fV C fz K rest (i+1) (bj s o.d v) H') (fV C fz K rest (i+1) (bj s o.d (.ay [])) H)
theorem pK (gC:Good C) {ops:Array Oper} {th:List Nat} {fz:List (Nat×List (List Nat×List Sh))} {K:aj→J→Prop}: ∀(l:List Oper) (i:Nat) (s:aj) (H:J),fV C fz K (dQ ops.toList (fun _=>false) (fun _=>[]) th l i) i s H→cM (aq C) C ops th fz K l i s H
 |[],i,s,H,h=>h
 |o::rest,i,s0,H0,h=>by
  simp only [dQ,fV] at h;obtain ⟨s,H,hf,h⟩:=h;simp only [cM];refine ⟨s,H,hf,?_⟩;have yes:(bf (aq C) C false (th.contains i) o.op s H fun v H' =>fV C fz K (dQ ops.toList (fun _=>false) (fun _=>[]) th rest (i+1)) (i+1) (bj s o.dst v) H')→
   wpOp (aq C) C false (th.contains i) o s H fun v H' =>cM (aq C) C ops th fz K rest (i+1) (bj s o.dst v) H' :=by
   intro h;rw [←sB] at h;exact ic (aq.up gC.up) (fun v H' h=>pK gC rest (i+1) _ _ h) h
  cases hg:o.guard with
  |none=>
   rw [hg] at h;simp only [Option.map_none,hM] at h⊢;exact yes h
  |some p=>
   obtain ⟨j,want⟩:=p;rw [hg] at h;simp only [Option.map_some,pI,Array.getElem?_toList] at h⊢;cases hd:(ops[j]?).bind (·.dst) with
   |none=>rw [hd] at h;exact h.elim
   |some t=>
    rw [hd] at h;simp only [hM] at h;have no:fV C fz K (dQ ops.toList (fun _=>false) (fun _=>[]) th rest (i+1)) (i+1) (bj s o.dst (.ay [])) H→dm ops o s=some false→ ∃v H',(match dm ops o s with
     |some b=>if b then wpOp (aq C) C false (th.contains i) o s H (fun v1 H1=>v1=v∧H1=H') else v= .ay []∧H' =H
     |none=>False)∧cM (aq C) C ops th fz K rest (i+1) (bj s o.dst v) H' :=by
     intro h hb;refine ⟨.ay [],H,?_,pK gC rest (i+1) _ _ h⟩;rw [hb];simp
    split at h
    ·rename_i c hc;have ln:dm ops o s=some (c==want):=by
      unfold dm;rw [hg];simp only [hd,hc]
     split at h
     ·rename_i jx;obtain ⟨v,H',h1,h2⟩:=k_ (aq.exact gC.up gC.exact) (yes h);refine ⟨v,H',?_,h2⟩;rw [ln,jx];simp only [beq_self_eq_true,if_true];exact h1
     ·rename_i jx;exact no h (by rw [ln];simpa using jx)
    ·rename_i hc;exact no h (by unfold dm;rw [hg];simp only [hd,hc])
    ·exact h.elim
theorem BY (gC:Good C) {id:Nat} {ops:List Oper} {ls th:List Nat} {fz:List (Nat×List (List Nat×List Sh))} (h:fV C fz (iQ K) (dQ ops (fun _=>false) (fun _=>[]) th ops 0) 0 s H):aJ (aq C) C (.region id ops.toArray false ls th fz) s H K:=
 pK gC (ops:=ops.toArray) ops 0 s H h
theorem sC (gC:Good C) {id:Nat} {ops:List Oper} {ls th:List Nat} {fz:List (Nat×List (List Nat×List Sh))} (hd:iA ops.toArray ls=true) (h:d_ C (iQ K) (dQ ops (fun i=> !ls.contains i) (fD ops.toArray ls) th ops 0) s H):aJ (aq C) C (.region id ops.toArray true ls th fz) s H K:=by
 have:=mS gC (ops:=ops.toArray) (q:=fun i=> !ls.contains i) (late:=fD ops.toArray ls) (th:=th) ops 0 s H h;exact ⟨hd,this⟩
theorem zG (ops:Array Oper):fD ops []=fun _=>[]:=by funext i;rfl
theorem BZ (gC:Good C) {id:Nat} {ops:List Oper} {th:List Nat} {fz:List (Nat×List (List Nat×List Sh))} (hd:iA ops.toArray []=true) (h:d_ C (iQ K) (dQ ops (fun _=>true) (fun _=>[]) th ops 0) s H):aJ (aq C) C (.region id ops.toArray true [] th fz) s H K:=
 sC gC hd (by rw [zG];exact h)
end
theorem B0 {C:aI} (gC:Good C) {f:FuncId} {fn:Func} {c:Code} {res:List ResultVar} {n:Nat} (hc:C.code f=some fn) (hb:fn.body=some c) (hr:fn.results=res.toArray) (hn:fn.ntmps=n) {ys:List AV} {H:J} {P:AV→J→Prop}
 (h: ∀K0,K0=eB C.E res P→aJ (aq C) C (cV (C.gb f) 0 c) (ys ++ List.replicate (n-ys.length) .undef) H K0):aq C f ys H P:=by
 refine aq.intro gC.up ?_;unfold Body;rw [hc];simp only [hb,hr,hn];exact h _ rfl
end Go.VS
namespace Go.VS
def cI (v:Option AV) (H:J) (K:AV→J→Prop):Prop:=match v with|some v=>K v H|none=>False
def ea (r:Option (AV×J)) (K:AV→J→Prop):Prop:=match r with|some (v,H)=>K v H|none=>False
section
variable {C:aI} {q th:Bool} {s:aj} {H:J} {K:AV→J→Prop}
theorem c9 (op:Op) (h:dG op=true):bf (aq C) C q th op s H K=ea (aN C.E op s H) K:=by
 have: ∀c,op≠ .call c:=by rintro c rfl;simp [dG] at h
 unfold bf wpOp;split
 ·rename_i bC;exact absurd bC (this _)
 ·rename_i bC;exact absurd bC (this _)
 ·simp only [h,implies_true,true_and];rfl
theorem sD (op:Op) (h: ∀c,op≠ .call c):bf (aq C) C false th op s H K=ea (aN C.E op s H) K:=by
 unfold bf wpOp;split
 ·rename_i bC;exact absurd bC (h _)
 ·rename_i bC;exact absurd bC (h _)
 ·simp only [Bool.false_eq_true,false_implies,true_and];rfl
theorem sE (K:aj→J→Prop):d_ C K [] s H=K s H:=rfl
def gA (v:AV) (w:Bool) (a b:Prop):Prop:=match v with| .bool c=>if c=w then a else b| .ay _=>b|_=>False
theorem sF (a b:Prop):gA (.bool true) true a b=a:=by simp [gA]
theorem sG (a b:Prop):gA (.bool false) false a b=a:=by simp [gA]
theorem sH (a b:Prop):gA (.bool true) false a b=b:=by simp [gA]
theorem sI (a b:Prop):gA (.bool false) true a b=b:=by simp [gA]
theorem sJ (K:Prop):eU C s H K []=K:=rfl
theorem sK (K:Prop) (op:Op) (t:Tmp) (js:List (Op×Option Tmp)):eU C s H K ((op,some t)::js)=(aN C.E op s H=some (s.getD t .undef,H)∧eU C s H K js):=by
 simp [eU]
theorem sL (t:Tmp) (v:AV):bj s (some t) v=s.set t v:=rfl
theorem sM (v:AV):bj s none v=s:=rfl
theorem sN (t:Tmp):ev s (.tmp t)=s.getD t .undef:=rfl
theorem sO (v:Value):ev s (.const v)=ofValue v:=rfl
theorem sP (f:FuncId):ev s (.func f)= .fn f []:=rfl
theorem sQ (k:IntKind) (n:Int):ofValue (.int k n)= .int k n:=rfl
theorem sR (b:Bool):ofValue (.bool b)= .bool b:=rfl
theorem sT:ofValue (.slice none 0 0)= .nil:=rfl
theorem sU:ofValue .nilIface= .cg false:=rfl
theorem sV:ofValue (.pointer none)= .dt:=rfl
theorem sW (b:ByteArray):ofValue (.string b)= .str b.data.toList:=rfl
theorem sY (v:AV):cI (some v) H K=K v H:=rfl
theorem sZ (x:Operand):bf (aq C) C q th (.move x) s H K=K (ev s x) H:=by rw [c9 _ rfl];rfl
theorem s4 (x:Operand):bf (aq C) C q th (.assign x) s H K=K (ev s x) H:=by rw [c9 _ rfl];rfl
theorem s7 (b:BinOp) (t:TypeId) (x:Operand) (c:Value) (w:TypeId):bf (aq C) C q th (.binOp b t x (.const c) w) s H K=cI (aH C.E b t (ev s x) (ofValue c)) H K:=by
 rw [c9 _ rfl];simp only [aN,show ev s (.const c)=ofValue c from rfl];generalize aH C.E b t (ev s x) (ofValue c)=r;cases r<;>rfl
def j9 (E:aK) (b:BinOp) (t:TypeId) (x y:AV) (H:J) (K:AV→J→Prop):Prop:=match y with| .cg _=>False|y=>cI (aH E b t x y) H K
theorem s8 (b:BinOp) (t:TypeId) (x:Operand) (n:Tmp) (w:TypeId):bf (aq C) C q th (.binOp b t x (.tmp n) w) s H K=j9 C.E b t (ev s x) (ev s (.tmp n)) H K:=by
 rw [c9 _ rfl];simp only [aN];generalize ev s (.tmp n)=y;unfold j9;cases y
 all_goals (first|rfl|(simp only;generalize aH C.E b t (ev s x) _=r;cases r<;>rfl))
theorem s9 (E:aK) (b:BinOp) (t:TypeId) (x:AV) (k:IntKind) (n:Int):j9 E b t x (.int k n) H K=cI (aH E b t x (.int k n)) H K:=rfl
theorem tc (E:aK) (b:BinOp) (t:TypeId) (x:AV) (n:Bool):j9 E b t x (.bool n) H K=cI (aH E b t x (.bool n)) H K:=rfl
theorem tg (E:aK) (b:BinOp) (t:TypeId) (x:AV) (n:List UInt8):j9 E b t x (.str n) H K=cI (aH E b t x (.str n)) H K:=rfl
theorem tj (E:aK) (b:BinOp) (t:TypeId) (x:AV) (n:List AV):j9 E b t x (.agg n) H K=cI (aH E b t x (.agg n)) H K:=rfl
variable (E:aK) (t:TypeId) (k:IntKind) (a b:Int) (c d:Bool) (u v:List UInt8)
theorem tn:aH E .add t (.int k a) (.int k b)=some (.int k (k.wrap (a+b))):=by simp [aH,db]
theorem tp:aH E .sub t (.int k a) (.int k b)=some (.int k (k.wrap (a-b))):=by simp [aH,db]
theorem tq:aH E .mul t (.int k a) (.int k b)=some (.int k (k.wrap (a*b))):=by simp [aH,db]
theorem zH:aH E .and t (.int k a) (.int k b)=some (.int k (k.wrap (BitVec.ofInt k.bits a&&&BitVec.ofInt k.bits b).toNat)):=by simp [aH,db]
theorem zI:aH E .or t (.int k a) (.int k b)=some (.int k (k.wrap (BitVec.ofInt k.bits a|||BitVec.ofInt k.bits b).toNat)):=by simp [aH,db]
theorem zJ:aH E .xor t (.int k a) (.int k b)=some (.int k (k.wrap (BitVec.ofInt k.bits a^^^BitVec.ofInt k.bits b).toNat)):=by simp [aH,db]
theorem tv:aH E .eql t (.int k a) (.int k b)=some (.bool (a==b)):=by simp [aH,db]
theorem tw:aH E .neq t (.int k a) (.int k b)=some (.bool (a !=b)):=by simp [aH,db]
theorem tz:aH E .lss t (.int k a) (.int k b)=some (.bool (decide (a<b))):=by simp [aH,db]
theorem tA:aH E .leq t (.int k a) (.int k b)=some (.bool (decide (a≤b))):=by simp [aH,db]
theorem tB:aH E .gtr t (.int k a) (.int k b)=some (.bool (decide (b<a))):=by simp [aH,db]
theorem tC:aH E .geq t (.int k a) (.int k b)=some (.bool (decide (b≤a))):=by simp [aH,db]
def dv (k:IntKind) (a b:Int):Option Int:=if b=0 then none else some (k.wrap (a.tdiv b))
def md (a b:Int):Option Int:=if b=0 then none else some (a.tmod b)
theorem tD:aH E .quo t (.int k a) (.int k b)=(dv k a b).map (.int k):=by simp [aH,db,dv];split<;>rfl
theorem tE:aH E .rem t (.int k a) (.int k b)=(md a b).map (.int k):=by simp [aH,db,md];split<;>rfl
theorem B1 (h:(b==0)=false):md a b=some (a.tmod b):=by simp at h;simp [md,h]
def sl (k:IntKind) (a b:Int):Option Int:=if b<0 then none else some (k.wrap (a*2^(min b.toNat k.bits)))
def sr (k:IntKind) (a b:Int):Option Int:=if b<0 then none else some (a.fdiv (2^(min b.toNat k.bits)))
theorem tF (j:IntKind):aH E .shl t (.int k a) (.int j b)=(sl k a b).map (.int k):=by simp [aH,sl];split<;>rfl
theorem tG (j:IntKind):aH E .shr t (.int k a) (.int j b)=(sr k a b).map (.int k):=by simp [aH,sr];split<;>rfl
theorem tH:aH E .eql t (.str u) (.str v)=some (.bool (u==v)):=by simp [aH,iU]
theorem tI:aH E .neq t (.str u) (.str v)=some (.bool (!(u==v))):=by simp [aH,iU]
def cat (u v:List UInt8):Option (List UInt8):=if u.length+v.length≤2^45 then some (u ++ v) else none
theorem tJ:aH E .add t (.str u) (.str v)=(cat u v).map .str:=by simp only [aH,iU,cat];split<;>rfl
theorem B2 {ti:TI} (h:E t=some ti) (hu:ti.au= .bl):aH E .neq t (.bool c) (.bool d)=some (.bool (!(c==d))):=by simp [aH,h,hu]
def lp (ti:Option TI) (r:Option Bool) (neg:Bool):Option AV:=match ti with|some ti=>if ti.agg then (match r with|some b=>some (.bool (if neg then !b else b))|none=>none) else none|none=>none
theorem tK (xs ys:List AV):aH E .eql t (.agg xs) (.agg ys)=lp (E t) (dC E 8 t xs ys) false:=by
 simp only [aH,lp];cases E t<;>rfl
theorem tL (xs ys:List AV):aH E .neq t (.agg xs) (.agg ys)=lp (E t) (dC E 8 t xs ys) true:=by
 simp only [aH,lp];cases E t<;>rfl
def ig (ti:Option TI) (x y:AV) (neg:Bool):Option AV:=match ti with|some ti=>(match isNil ti.au x y with|some b=>some (.bool (if neg then !b else b))|none=>none)|none=>none
theorem tM:aH E .eql t .nil .nil=ig (E t) .nil .nil false:=by simp only [aH,ig];cases E t<;>rfl
theorem tN:aH E .neq t .nil .nil=ig (E t) .nil .nil true:=by simp only [aH,ig];cases E t<;>rfl
theorem tO (x:Bool):aH E .eql t (.cg x) (.cg false)=ig (E t) (.cg x) (.cg false) false:=by simp only [aH,ig];cases E t<;>rfl
theorem tP (x:Bool):aH E .neq t (.cg x) (.cg false)=ig (E t) (.cg x) (.cg false) true:=by simp only [aH,ig];cases E t<;>rfl
theorem w_num {α :Type} {o:Option Int} {f:Int→Option α} {r: α} (h:o.bind f=some r) (hk: ∀n,o=some n→f n=some r→K (.int k n) H):cI (o.map (.int k)) H K:=by
 cases o with
 |none=>simp at h
 |some n=>exact hk n rfl h
theorem tQ (op:UnOp) (x:Operand):bf (aq C) C q th (.unOp op t x) s H K=cI (iV op (ev s x)) H K:=by
 rw [c9 _ rfl];simp only [aN];generalize iV op (ev s x)=r;cases r<;>rfl
theorem tR:iV .not (.bool c)=some (.bool !c):=rfl
theorem tS:iV .neg (.int k a)=some (.int k (k.wrap (0-a))):=rfl
def mT (c:AV) (x y:AV) (H:J) (K:AV→J→Prop):Prop:=match c with| .bool t=>K (if t then x else y) H|_=>False
theorem tT (x y z:Operand):bf (aq C) C q th (.pick x y z) s H K=mT (ev s x) (ev s y) (ev s z) H K:=by
 rw [c9 _ rfl];simp only [aN];generalize ev s x=r;cases r<;>rfl
theorem tU (x y:AV):mT (.bool true) x y H K=K x H:=rfl
theorem tV (x y:AV):mT (.bool false) x y H K=K y H:=rfl
theorem tW (p:Bool):mT (.bool p) (.bool c) (.bool d) H K=K (.bool (if p then c else d)) H:=by cases p<;>rfl
def pL (x:AV) (i:Nat) (H:J) (K:AV→J→Prop):Prop:=match x with| .ay vs=>cI vs[i]? H K|_=>False
theorem tX (x:Operand) (i:Nat):bf (aq C) C q th (.extract x i) s H K=pL (ev s x) i H K:=by
 rw [c9 _ rfl];simp only [aN,pL];generalize ev s x=r;cases r<;>first|rfl|(simp only;rename_i vs;cases vs[i]? <;>rfl)
theorem tY (vs:List AV) (i:Nat):pL (.ay vs) i H K=cI vs[i]? H K:=rfl
def mU (ti:TI) (x:Option AV) (off:Nat) (H:J) (K:AV→J→Prop):Prop:=match x with|some y=>cI (bQ ti y off) H K|none=>False
def mV (ti:TI) (b:Option bB) (idx off:Nat) (H:J) (K:AV→J→Prop):Prop:=match b with|some b=>mU ti b.el[idx]? off H K|none=>False
def mW (ti:Option TI) (x:AV) (H:J) (K:AV→J→Prop):Prop:=
 match ti with
 |some ti=>match x with
  | .fe y off=>cI (bQ ti y off) H K
  | .ptr id ad idx off=>mV ti (H.ap id ad) idx off H K
  |_=>False
 |none=>False
theorem o_load (x:Operand):bf (aq C) C q th (.load t x) s H K=mW (C.E t) (ev s x) H K:=by
 rw [c9 _ rfl];simp only [aN,mW];cases C.E t with
 |none=>rfl
 |some ti=>
  simp only;generalize ev s x=r;cases r<;>first|rfl|skip
  ·rename_i id ad idx off;simp only [mV];cases H.ap id ad with
   |none=>rfl
   |some b=>
    simp only [mU];cases b.el[idx]? with
    |none=>rfl
    |some y=>simp only;generalize bQ ti y off=z;cases z<;>rfl
  ·rename_i y off;simp only;generalize bQ ti y off=z;cases z<;>rfl
theorem tZ (ti:TI) (y:AV) (off:Nat):mW (some ti) (.fe y off) H K=cI (bQ ti y off) H K:=rfl
theorem t_ (ti:TI) (id ad idx off:Nat):mW (some ti) (.ptr id ad idx off) H K=mV ti (H.ap id ad) idx off H K:=rfl
theorem ua (ti:TI) (b:bB) (idx off:Nat):mV ti (some b) idx off H K=mU ti b.el[idx]? off H K:=rfl
theorem ub (ti:TI) (y:AV) (off:Nat):mU ti (some y) off H K=cI (bQ ti y off) H K:=rfl
def lq (E:aK) (t:TypeId) (f:Nat):Option (Nat×TI):=match E t with
 |some ti=>match ti.au with
  | .st fs=>match fs[f]? with
   |some (o,ft)=>match E ft with
    |some tf=>some (o,tf)
    |none=>none
   |none=>none
  |_=>none
 |none=>none
def iR (p:Option (Nat×TI)) (x:AV) (H:J) (K:AV→J→Prop):Prop:=match p with
 |some (o,tf)=>if tf.sz=0 then False else match x with
  | .ptr id ad idx off=>match H.ap id ad with
   |some _=>K (.ptr id ad idx (off+o)) H
   |none=>False
  | .fe y off=>K (.fe y (off+o)) H
  |_=>False
 |none=>False
theorem uc (x:Operand) (f:Nat):bf (aq C) C q th (.fieldAddr t x f) s H K=iR (lq C.E t f) (ev s x) H K:=by
 rw [c9 _ rfl];simp only [aN,iR,lq];cases C.E t with
 |none=>rfl
 |some ti=>
  simp only;cases ti.au<;>try rfl
  rename_i fs;simp only;cases fs[f]? with
  |none=>rfl
  |some p=>
   obtain ⟨o,ft⟩:=p;simp only;cases C.E ft with
   |none=>rfl
   |some tf=>
    simp only;split
    ·rfl
    ·generalize ev s x=r;cases r<;>try rfl
     rename_i id ad idx off;simp only;cases H.ap id ad<;>rfl
theorem zK (o:Nat) (tf:TI) (h:(tf.sz==0)=false) (y:AV) (off:Nat):iR (some (o,tf)) (.fe y off) H K=K (.fe y (off+o)) H:=by
 simp at h;simp [iR,h]
theorem zL (o:Nat) (tf:TI) (h:(tf.sz==0)=false) (id ad idx off:Nat):iR (some (o,tf)) (.ptr id ad idx off) H K=(match H.ap id ad with|some _=>K (.ptr id ad idx (off+o)) H|none=>False):=by
 simp at h;simp [iR,h]
def pM (p:Option (Nat×TI)) (x:AV) (H:J) (K:AV→J→Prop):Prop:=match x with
 | .agg cs=>(match p with|some (o,tf)=>cI (bQ tf (.agg cs) o) H K|none=>False)
 |_=>False
theorem ud (x:Operand) (f:Nat):bf (aq C) C q th (.field t x f) s H K=pM (lq C.E t f) (ev s x) H K:=by
 rw [c9 _ rfl];simp only [aN,pM,lq];cases C.E t with
 |none=>simp only;generalize ev s x=r;cases r<;>rfl
 |some ti=>
  simp only;generalize ev s x=r;cases r
  case agg cs=>
   simp only;cases ti.au<;>try rfl
   rename_i fs;simp only;cases fs[f]? with
   |none=>rfl
   |some p=>
    obtain ⟨o,ft⟩:=p;simp only;cases C.E ft with
    |none=>rfl
    |some tf=>simp only;generalize bQ tf (.agg cs) o=z;cases z<;>rfl
  all_goals rfl
theorem uf (o:Nat) (tf:TI) (cs:List AV):pM (some (o,tf)) (.agg cs) H K=cI (bQ tf (.agg cs) o) H K:=rfl
theorem ug (x:Operand):bf (aq C) C q th (.call {callee:= .builtin .len,args:= #[x],argTypes:= #[t]}) s H K=ea (c6 C.E .len #[t] [ev s x] H) K:=by
 unfold bf wpOp;simp only [eK,implies_true,true_and];rfl
def eb (ti:Option TI) (x:AV) (n:Option Nat) (H:J) (K:AV→J→Prop):Prop:=match ti,n with
 |some ti,some n=>match ti.au,x with
  | .str,.str _=>K (.int .i64 n) H
  | .sl _,.str _=>False
  | .sl _,_=>K (.int .i64 n) H
  |_,_=>False
 |_,_=>False
theorem uh (E:aK) (t:TypeId) (x:AV):ea (c6 E .len #[t] [x] H) K=eb (E t) x (lenOf H x) H K:=by
 simp only [c6,eb];have:(#[t]:Array TypeId)[0]?.bind E=E t:=rfl;rw [this];cases E t with
 |none=>rfl
 |some ti=>
  obtain ⟨sz,agg,z,mX,au,eq⟩:=ti;cases lenOf H x with
  |none=>rfl
  |some n=>cases au<;>cases x<;>rfl
theorem ui (xs:Array Operand) (tys:Array TypeId):bf (aq C) C q th (.call {callee:= .builtin .min,args:=xs,argTypes:=tys}) s H K=cI (jF (xs.toList.map (ev s))) H K:=by
 unfold bf wpOp;simp only [eK,implies_true,true_and,c6];generalize jF _=r;cases r<;>rfl
theorem uj (xs:Array Operand) (tys:Array TypeId):bf (aq C) C q th (.call {callee:= .builtin .max,args:=xs,argTypes:=tys}) s H K=cI (jG (xs.toList.map (ev s))) H K:=by
 unfold bf wpOp;simp only [eK,implies_true,true_and,c6];generalize jG _=r;cases r<;>rfl
theorem min2:jF [.int k a,.int k b]=some (.int k (if b<a then b else a)):=rfl
theorem max2:jG [.int k a,.int k b]=some (.int k (if b>a then b else a)):=rfl
end
end Go.VS
namespace Go.VS
structure It where
 v:AV
 sz:Nat
 el:List AV
def b5:AV→Option Nat
 | .ref id _ _ _=>some id
 | .ptr id _ _ _=>some id
 |_=>none
def gB (H:J) (it:It):Prop:=bM it.sz it.el=true∧match it.v with
 | .nil=>it.el=[]
 | .e0=>it.el=[]
 | .ref id ad off len=>len=it.el.length∧ ∃b,H.ap id ad=some b∧b.sz=it.sz∧b.fix=false∧off+len≤b.el.length∧aE b.el off len=it.el
 | .ptr id ad idx off=>idx=0∧off=0∧it.el.length=1∧H.ap id ad=some ⟨ad,it.sz,false,it.el⟩
 |_=>False
structure aD (H:J) (L:List It):Prop where
 ok: ∀(i:Nat) (it:It),L[i]? =some it→gB H it
 b8: ∀(i j:Nat) (a b:It) (id:Nat),L[i]? =some a→L[j]? =some b→b5 a.v=some id→b5 b.v=some id→i=j
theorem gB.lt {H:J} {it:It} (h:gB H it) {id:Nat} (hi:b5 it.v=some id):id<H.bs.length:=by
 obtain ⟨_,h⟩:=h;cases hv:it.v with
 |ref i ad off len=>
  rw [hv] at h hi;simp only [b5,Option.some.injEq] at hi;subst hi;obtain ⟨_,b,hb,_⟩:=h;exact J.gL (J.bn hb).1
 |ptr i ad ix off=>
  rw [hv] at h hi;simp only [b5,Option.some.injEq] at hi;subst hi;obtain ⟨_,_,_,hb⟩:=h;exact J.gL (J.bn hb).1
 |_=>rw [hv] at hi;simp [b5] at hi
theorem gB.frame {H H' :J} {it:It} (h:gB H it) (hk: ∀id ad,b5 it.v=some id→H'.ap id ad=H.ap id ad):gB H' it:=by
 obtain ⟨h0,h⟩:=h;refine ⟨h0,?_⟩;cases hv:it.v with
 |ref i ad off len=>
  rw [hv] at h hk;obtain ⟨h1,b,hb,h2⟩:=h;exact ⟨h1,b,by rw [hk i ad rfl];exact hb,h2⟩
 |ptr i ad ix off=>
  rw [hv] at h hk;obtain ⟨h1,h2,h3,hb⟩:=h;exact ⟨h1,h2,h3,by rw [hk i ad rfl];exact hb⟩
 |_=>rw [hv] at h;exact h
theorem aD.tl {H:J} {a:It} {L:List It} (h:aD H (a::L)):aD H L:=
 ⟨fun i it hi=>h.ok (i+1) it hi,fun i j x y id h1 h2 h3 h4=>by have:=h.b8 (i+1) (j+1) x y id h1 h2 h3 h4;omega⟩
theorem aD.nil (H:J):aD H []:=⟨by simp,by simp⟩
theorem aD.bg {H H' :J} {L:List It} (h:aD H L) {j:Nat} {it it' :It} (hj:L[j]? =some it) {i:Nat} (hi:b5 it.v=some i) (hk: ∀id ad,id≠i→id<H.bs.length→H'.ap id ad=H.ap id ad) (hn:gB H' it') (bO: ∀k,b5 it'.v=some k→k=i):aD H' (L.set j it'):=by
 have ax:j<L.length:=(List.getElem?_eq_some_iff.1 hj).1;refine ⟨fun k a bE=> ?_,fun k l a b id h1 h2 h3 h4=> ?_⟩
 ·rw [List.getElem?_set] at bE;split at bE
  ·simp only [Option.some.injEq] at bE;subst bE;exact hn
  ·rename_i aM;have ho:=h.ok k a bE;refine ho.frame fun id ad uk=>hk id ad (fun e=> ?_) (ho.lt uk)
   subst e;exact aM (h.b8 j k it a id hj bE hi uk)
 ·rw [List.getElem?_set] at h1 h2;split at h1
  ·rename_i e1;subst e1;simp only [Option.some.injEq] at h1;subst h1;split at h2
   ·rename_i e2;exact e2
   ·have:=bO id h3;subst this;exact h.b8 j l it b id hj h2 hi h4
  ·split at h2
   ·rename_i e2;subst e2;simp only [Option.some.injEq] at h2;subst h2;have:=bO id h4;subst this;exact h.b8 k j a it id h1 hj h3 hi
   ·exact h.b8 k l a b id h1 h2 h3 h4
theorem aD.new {H H' :J} {L:List It} (h:aD H L) (hk: ∀id ad,id<H.bs.length→H'.ap id ad=H.ap id ad) {it:It} (hn:gB H' it) (bO: ∀k,b5 it.v=some k→H.bs.length≤k):aD H' (it::L):=by
 refine ⟨fun k a bE=> ?_,fun k l a b id h1 h2 h3 h4=> ?_⟩
 ·cases k with
  |zero=>simp at bE;subst bE;exact hn
  |succ k=>have ho:=h.ok k a (by simpa using bE);exact ho.frame fun id ad hi=>hk id ad (ho.lt hi)
 ·cases k with
  |zero=>
   simp at h1;subst h1;cases l with
   |zero=>rfl
   |succ l=>
    have:=(h.ok l b (by simpa using h2)).lt h4
    have:=bO id h3;omega
  |succ k=>
   cases l with
   |zero=>
    simp at h2;subst h2;have:=(h.ok k a (by simpa using h1)).lt h3
    have:=bO id h4;omega
   |succ l=>have:=h.b8 k l a b id (by simpa using h1) (by simpa using h2) h3 h4;omega
theorem aD.ul {H H' :J} {L:List It} (h:aD H L) (hk: ∀id ad,id<H.bs.length→H'.ap id ad=H.ap id ad) {j:Nat} {it' :It} (hn:gB H' it') (bO: ∀k,b5 it'.v=some k→H.bs.length≤k):aD H' (L.set j it'):=by
 refine ⟨fun k a bE=> ?_,fun k l a b id h1 h2 h3 h4=> ?_⟩
 ·rw [List.getElem?_set] at bE;split at bE
  ·split at bE
   ·simp only [Option.some.injEq] at bE;subst bE;exact hn
   ·simp at bE
  ·have ho:=h.ok k a bE;exact ho.frame fun id ad hi=>hk id ad (ho.lt hi)
 ·rw [List.getElem?_set] at h1 h2;split at h1
  ·rename_i e1;subst e1;split at h1
   ·simp only [Option.some.injEq] at h1;subst h1;split at h2
    ·rename_i e2;exact e2
    ·have:=(h.ok l b h2).lt h4;have:=bO id h3;omega
   ·simp at h1
  ·split at h2
   ·rename_i e2;subst e2;split at h2
    ·simp only [Option.some.injEq] at h2;subst h2;have:=(h.ok k a h1).lt h3;have:=bO id h4;omega
    ·simp at h2
   ·exact h.b8 k l a b id h1 h2 h3 h4
theorem mY {H:J} {sz:Nat} {fx:Bool} {el:List AV} {id ad:Nat} (h:id<H.bs.length):(H.new sz fx el).ap id ad=H.ap id ad:=by
 simp only [J.ap,J.new,List.getElem?_append_left h]
theorem mZ {H:J} {sz:Nat} {fx:Bool} {el:List AV}:(H.new sz fx el).ap H.bs.length H.st=some ⟨H.st,sz,fx,el⟩:=by
 simp [J.ap,J.new]
theorem m_ {H:J} {i id ad:Nat} {b:bB} (h:id≠i):(H.bg i b).ap id ad=H.ap id ad:=by
 have h' : ¬i=id:=fun e=>h e.symm
 simp only [J.ap,J.bg,List.getElem?_set,if_neg h']
theorem na {H:J} {id:Nat} {b:bB} (h:id<H.bs.length):(H.bg id b).ap id b.ad=some b:=by
 simp [J.ap,J.bg,h]
section
variable {C:aI} {th:Bool} {s:aj} {H:J} {K:AV→J→Prop} {L:List It}
theorem aD.nb (hS:aD H L) {sz n:Nat} {el all:List AV} (he:all.take n=el) (hn:n=el.length) (aB:bM sz el=true):aD (H.new sz false all) (⟨.ref H.bs.length H.st 0 n,sz,el⟩::L):=by
 refine hS.new (fun id ad h=>mY h) ⟨aB,hn,_,mZ,rfl,rfl,?_,by simpa [aE] using he⟩ (fun k hk=>by simp [b5] at hk;omega)
 have:=congrArg List.length he;simp at this;simp only;omega
theorem aD.newVar (hS:aD H L) {sz:Nat} {a:AV} (aB:a.cells.length=sz):aD (H.new sz false [a]) (⟨.ptr H.bs.length H.st 0 0,sz,[a]⟩::L):=
 hS.new (fun id ad h=>mY h) ⟨by simp [bM,aB],rfl,rfl,rfl,mZ⟩ (fun k hk=>by simp [b5] at hk;omega)
theorem aD.var (hS:aD H L) (j:Nat) {id ad sz:Nat} {a:AV} (hj:L[j]? =some ⟨.ptr id ad 0 0,sz,[a]⟩):H.ap id ad=some ⟨ad,sz,false,[a]⟩:=(hS.ok j _ hj).2.2.2.2
theorem B3 {t:TypeId} {x:Operand} {ti:TI} {a:AV} (hS:aD H L) (ht:C.E t=some ti) (hx:ev s x=a) (h1:a.cells.length=ti.sz) (h2:dS a=true)
 (h: ∀id ad H',aD H' (⟨.ptr id ad 0 0,ti.sz,[a]⟩::L)→K (.ptr id ad 0 0) H') {q:Bool}:bf (aq C) C q th (.box t x) s H K:=by
 rw [c9 _ rfl];simp only [aN,ht,hx,h1,h2,and_self,if_true,ea];exact h _ _ _ (hS.newVar h1)
theorem pN {ti:TI} {z:AV} (h:ey ti=some z):z.cells.length=ti.sz:=by
 unfold ey at h;split at h
 ·rename_i hc;rcases ky h with ⟨_,rfl⟩|⟨_,hz⟩
  ·exact hc.2
  ·have:cJ z=true:=by have:=hc.1;rw [hz] at this;simpa using this
   have hl:=hc.2;rw [hz] at hl;cases z<;>first|exact hl|simp [cJ] at this
 ·simp at h
theorem zM {ti:TI} {z:AV} (h:iv ti=some z):z.cells.length=ti.sz:=by
 unfold iv at h;split at h
 ·rename_i z0 jb;simp only [Option.some.injEq] at h;subst h;split
  ·rw [kF,List.length_map];exact pN jb
  ·exact pN jb
 ·simp at h
theorem B4 {t:TypeId} {ti:TI} {z:AV} (hS:aD H L) (ht:C.E t=some ti) (hz:ey ti=some z)
 (h: ∀id ad H',aD H' (⟨.ptr id ad 0 0,ti.sz,[z]⟩::L)→K (.ptr id ad 0 0) H') {q:Bool}:bf (aq C) C q th (.alloc t) s H K:=by
 rw [c9 _ rfl];simp only [aN,ht,hz,ea];exact h _ _ _ (hS.newVar (pN hz))
theorem B5 {t:TypeId} {x v:Operand} {ti:TI} {id ad sz o:Nat} {y y' a:AV} (j:Nat) (hS:aD H L) (hj:L[j]? =some ⟨.ptr id ad 0 0,sz,[y]⟩) (ht:C.E t=some ti) (hx:ev s x= .ptr id ad 0 o) (hv:ev s v=a)
 (h1:a.cells.length=ti.sz) (h2:dS a=true) (hw:fY y o a=some y') (h3:y'.cells.length=sz) (h: ∀H',aD H' (L.set j ⟨.ptr id ad 0 0,sz,[y']⟩)→K (.ay []) H'):bf (aq C) C false th (.store t x v) s H K:=by
 rw [sD _ (by simp)]
 have hb:=hS.var j hj;simp only [aN,ht,hx,hv,hb,List.getElem?_cons_zero,h1,h2,and_self,if_true,hw,List.set_cons_zero,ea];refine h _ (hS.bg hj rfl (fun gf gY aM _=>m_ aM) ⟨by simp [bM,h3],rfl,rfl,rfl,?_⟩ (fun k hk=>by simpa [b5] using hk.symm))
 exact na ((hS.ok j _ hj).lt rfl)
end
def idx {α :Type} (l:List α) (i:Int):Option α :=if 0≤i then l[i.toNat]? else none
theorem lr {α :Type} {l:List α} {i:Int} {x: α} (h:idx l i=some x):0≤i∧i<l.length∧l[i.toNat]? =some x:=by
 unfold idx at h;split at h
 ·rename_i h0;have:=(List.getElem?_eq_some_iff.1 h).1;exact ⟨h0,by omega,h⟩
 ·simp at h
def B6 (E:aK) (t:TypeId):Option TI:=match E t with
 |some ti=>match ti.au with| .sl e=>E e|_=>none
 |none=>none
section
variable {C:aI} {q th:Bool} {s:aj} {H:J} {K:AV→J→Prop} {L:List It}
def pO (l:List UInt8) (n:Int) (H:J) (K:AV→J→Prop):Prop:=match idx l n with|some b=>K (.int .u8 b.toNat) H|none=>False
def nc (E:aK) (ti:Option TI) (x i:AV) (H:J) (K:AV→J→Prop):Prop:=match ti,i with
 |some ti,.int _ n=>match ti.au,x with
  | .str,.str l=>pO l n H K
  | .ar m e,.agg cs=>match E e with
   |some te=>if 0≤n∧n<m then cI (bQ te (.agg cs) (n.toNat*te.sz)) H K else False
   |none=>False
  |_,_=>False
 |_,_=>False
theorem um (t:TypeId) (x i:Operand):bf (aq C) C q th (.index t x i) s H K=nc C.E (C.E t) (ev s x) (ev s i) H K:=by
 rw [c9 _ rfl];simp only [aN,nc];generalize ev s i=n;generalize ev s x=a;cases C.E t with
 |none=>rfl
 |some ti=>
  cases n
  case int k n=>
   simp only;cases ti.au<;>cases a<;>try rfl
   ·rename_i m e cs;simp only;cases C.E e with
    |none=>rfl
    |some te=>
     simp only;split
     ·generalize bQ te (.agg cs) (n.toNat*te.sz)=z;cases z<;>rfl
     ·rfl
   ·rename_i l;simp only [pO,idx];split
    ·cases l[n.toNat]? <;>rfl
    ·rfl
  all_goals rfl
def lu:UD→Bool
 | .str=>true
 |_=>false
theorem uo:lu .str=true:=rfl
def jy:UD→Bool
 | .sl _=>true
 |_=>false
theorem uq (e:TypeId):jy (.sl e)=true:=rfl
theorem ur (E:aK) (ti:TI) (hu:lu ti.au=true) (l:List UInt8) (k:IntKind) (n:Int):nc E (some ti) (.str l) (.int k n) H K=pO l n H K:=by
 cases h:ti.au<;>rw [h] at hu<;>simp [lu] at hu
 simp only [nc,h]
def lv (E:aK) (t:TypeId) (x i:AV) (H:J) (K:AV→J→Prop):Prop:=ea (match E t,i with
 |some ti,.int _ n=>match ti.au with
  | .sl e=>match E e with
   |some te=>match x with
    | .fz xs=>if 0≤n then match xs[n.toNat]? with
     |some y=>if y.cells.length=te.sz then some (.fe y 0,H) else none
     |none=>none
     else none
    | .ref id ad off len=>match H.ap id ad with
     |some b=>if b.sz=te.sz∧0≤n∧n<len∧off+len≤b.el.length then some (.ptr id ad (off+n.toNat) 0,H) else none
     |none=>none
    |_=>none
   |none=>none
  | .ar m e=>match E e with
   |some te=>if 0≤n∧n<m then match x with
    | .ptr id ad idx off=>match H.ap id ad with
     |some _=>some (.ptr id ad idx (off+n.toNat*te.sz),H)
     |none=>none
    | .fe y off=>some (.fe y (off+n.toNat*te.sz),H)
    |_=>none
    else none
   |none=>none
  |_=>none
 |_,_=>none) K
theorem uu (t:TypeId) (x i:Operand):bf (aq C) C q th (.indexAddr t x i) s H K=lv C.E t (ev s x) (ev s i) H K:=by
 rw [c9 _ rfl];rfl
theorem B7 {α β :Type} {E:aK} {t:TypeId} {ti te:TI} {e:TypeId} (ht:E t=some ti) (hu:ti.au= .sl e) (he:E e=some te) {l:List α} {c: α →AV} (hc: ∀x,(c x).cells.length=te.sz) {k:IntKind} {n:Int} {f: α →Option β} {r: β} (h:(idx l n).bind f=some r)
 (hk: ∀x,idx l n=some x→f x=some r→K (.fe (c x) 0) H):lv E t (.fz (l.map c)) (.int k n) H K:=by
 cases hi:idx l n with
 |none=>rw [hi] at h;simp at h
 |some x=>
  rw [hi] at h;obtain ⟨h0,_,h1⟩:=lr hi;simp only [lv,ht,hu,he,h0,if_true,List.getElem?_map,h1,Option.map_some,hc,ea];exact hk x hi h
theorem B8 {α β :Type} {E:aK} {t:TypeId} {ti te:TI} {e:TypeId} (j:Nat) (hS:aD H L) {v:AV} {l:List α} {c: α →AV} {sz:Nat} (hj:L[j]? =some ⟨v,sz,l.map c⟩) (ht:E t=some ti) (hu:ti.au= .sl e) (he:E e=some te) (aB:sz=te.sz) {k:IntKind} {n:Int} {f: α →Option β} {r: β}
 (h:(idx l n).bind f=some r) (hk: ∀x id ad off,idx l n=some x→f x=some r→v= .ref id ad off l.length→K (.ptr id ad (off+n.toNat) 0) H) (hp: ∀id ad,v≠ .ptr id ad 0 0):lv E t v (.int k n) H K:=by
 cases hi:idx l n with
 |none=>rw [hi] at h;simp at h
 |some x=>
  rw [hi] at h;obtain ⟨h0,h2,h1⟩:=lr hi;have af:=(hS.ok j _ hj).2;simp only at af;have aM:l.map c≠[]:=by intro e;rw [List.map_eq_nil_iff] at e;subst e;simp at h1
  split at af
  ·exact absurd af aM
  ·exact absurd af aM
  ·rename_i id ad off len;obtain ⟨h3,b,hb,h4,_,h5,h6⟩:=af;simp only [List.length_map] at h3;subst h3;simp only [lv,ht,hu,he,hb];rw [if_pos ⟨by rw [h4,aB],h0,h2,h5⟩]
   exact hk x id ad off hi h rfl
  ·rename_i id ad ix off;obtain ⟨rfl,rfl,_⟩:=af;exact absurd rfl (hp id ad)
  ·exact af.elim
theorem aD.elem {α :Type} (hS:aD H L) (j:Nat) {id ad off n sz:Nat} {v:AV} {l:List α} {c: α →AV} (hj:L[j]? =some ⟨v,sz,l.map c⟩) (hv:v= .ref id ad off n) {i:Int} {x: α} (hx:idx l i=some x): ∃b,H.ap id ad=some b∧b.el[off+i.toNat]? =some (c x):=by
 obtain ⟨h0,h2,h1⟩:=lr hx;subst hv;obtain ⟨_,h3,b,hb,h4,_,h5,h6⟩:=hS.ok j _ hj;refine ⟨b,hb,?_⟩;simp only at h3 h6;have:=congrArg (·[i.toNat]?) h6;simp only [List.getElem?_map,h1,Option.map_some,aE] at this;rw [←this,List.getElem?_take,List.getElem?_drop,if_pos (by simp at h3;omega)]
theorem B9 {α :Type} {t:TypeId} {x w:Operand} {ti:TI} {id ad off n sz o:Nat} {v a:AV} {l:List α} {c: α →AV} {i:Int} {y y' : α} (j:Nat) (hS:aD H L) (hj:L[j]? =some ⟨v,sz,l.map c⟩) (hv:v= .ref id ad off n) (hi:idx l i=some y) (ht:C.E t=some ti) (hx:ev s x= .ptr id ad (off+i.toNat) o) (hw:ev s w=a)
 (h1:a.cells.length=ti.sz) (h2:dS a=true) (hr:fY (c y) o a=some (c y')) (h3:(c y').cells.length=sz) (h: ∀H',aD H' (L.set j ⟨v,sz,(l.set i.toNat y').map c⟩)→K (.ay []) H'):bf (aq C) C false th (.store t x w) s H K:=by
 rw [sD _ (by simp)]
 obtain ⟨b,hb,he⟩:=hS.elem j hj hv hi;simp only [aN,ht,hx,hw,hb,he,h1,h2,and_self,if_true,hr,ea];subst hv;obtain ⟨k0,k1,b',aw,k2,k3,k4,k5⟩:=hS.ok j _ hj;rw [hb] at aw;simp only [Option.some.injEq] at aw;subst aw;simp only at k1 k5;obtain ⟨i0,i1,i2⟩:=lr hi;have bN:=(J.bn hb).2;refine h _ (hS.bg hj rfl (fun gf gY aM _=>m_ aM) ⟨?_,by simpa using k1,{b with el:=b.el.set (off+i.toNat) (c y')},?_,k2,k3,by simpa using k4,?_⟩ (fun k hk=>by simpa [b5] using hk.symm))
 ·simp only [bM,List.all_eq_true,List.mem_map] at k0⊢;rintro z ⟨z',hz,rfl⟩;rcases List.mem_or_eq_of_mem_set hz with h' |rfl
  ·exact k0 _ ⟨z',h',rfl⟩
  ·simpa using h3
 ·have:=na (b:={b with el:=b.el.set (off+i.toNat) (c y')}) ((hS.ok j _ hj).lt rfl);simpa only [bN] using this
 ·simp only [aE,List.map_set] at k5⊢;rw [←k5,List.drop_set,if_neg (by omega),List.take_set]
  congr 1;omega
end
end Go.VS
namespace Go.VS
structure bJ (v:AV):Prop where
 ok:v= .nil∨v= .e0∨ ∃id ad off len,v= .ref id ad off len
theorem ii (id ad off len:Nat):bJ (.ref id ad off len):=⟨.inr (.inr ⟨id,ad,off,len,rfl⟩)⟩
theorem pP:bJ .nil:=⟨.inl rfl⟩
theorem pQ:bJ .e0:=⟨.inr (.inl rfl)⟩
theorem bJ.ne {v:AV} (h:bJ v) (id ad:Nat):v≠ .ptr id ad 0 0:=by
 rcases h.ok with rfl|rfl|⟨_,_,_,_,rfl⟩<;>simp
theorem bJ.cells {v:AV} (h:bJ v):v.cells=[v]:=by
 rcases h.ok with rfl|rfl|⟨_,_,_,_,rfl⟩<;>rfl
theorem bJ.qg {v:AV} (h:bJ v):cJ v=true:=by
 rcases h.ok with rfl|rfl|⟨_,_,_,_,rfl⟩<;>rfl
theorem bJ.rd {v:AV} (h:bJ v) (z:List AV) (b:Nat) (w:UD) (e:Bool):bQ ⟨1,false,z,b,w,e⟩ v 0=some v:=by
 rcases h.ok with rfl|rfl|⟨_,_,_,_,rfl⟩<;>rfl
theorem bJ.same {v:AV} (h:bJ v):eZ v v=true:=by
 rcases h.ok with rfl|rfl|⟨_,_,_,_,rfl⟩<;>simp [eZ]
theorem bJ.wr {v:AV} (h:bJ v) (cs:List AV) (o:Nat) (ho:o<cs.length):fY (.agg cs) o v=some (.agg (cs.set o v)):=by
 simp only [fY,h.cells,List.length_cons,List.length_nil];rw [if_pos (by omega)]
 simp only [splice,List.length_cons,List.length_nil,List.append_assoc,List.cons_append,List.nil_append,Option.some.injEq,AV.agg.injEq];rw [List.set_eq_take_append_cons_drop,if_pos ho]
section
variable {C:aI} {q th:Bool} {s:aj} {H:J} {K:AV→J→Prop} {L:List It}
theorem aD.len (hS:aD H L) (j:Nat) {v:AV} {sz:Nat} {el:List AV} (hj:L[j]? =some ⟨v,sz,el⟩) (hp:bJ v):lenOf H v=some el.length:=by
 have af:=(hS.ok j _ hj).2;simp only at af;split at af
 ·subst af;rfl
 ·subst af;rfl
 ·rename_i id ad off len;obtain ⟨h3,b,hb,_⟩:=af;simp only [lenOf,h3]
 ·rename_i id ad ix off;obtain ⟨rfl,rfl,_⟩:=af;exact absurd rfl (hp.ne id ad)
 ·exact af.elim
theorem aD.ij (hS:aD H L) (j:Nat) {v:AV} {sz:Nat} {el:List AV} (hj:L[j]? =some ⟨v,sz,el⟩) (hp:bJ v):cK H v=some el:=by
 have af:=(hS.ok j _ hj).2;simp only at af;split at af
 ·subst af;rfl
 ·subst af;rfl
 ·rename_i id ad off len;obtain ⟨h3,b,hb,_,_,h5,h6⟩:=af;simp only [cK,hb,h5,if_true,h6]
 ·rename_i id ad ix off;obtain ⟨rfl,rfl,_⟩:=af;exact absurd rfl (hp.ne id ad)
 ·exact af.elim
theorem aD.zN (hS:aD H L) (j:Nat) {v:AV} {sz:Nat} {el:List AV} (hj:L[j]? =some ⟨v,sz,el⟩) (l:List UInt8):v≠ .str l:=by
 rintro rfl;exact (hS.ok j _ hj).2
theorem B_ (j:Nat) (hS:aD H L) {v:AV} {sz:Nat} {el:List AV} (hj:L[j]? =some ⟨v,sz,el⟩) (hp:bJ v) {ti:TI} {e:TypeId} (hu:ti.au= .sl e) (h:K (.int .i64 el.length) H):eb (some ti) v (lenOf H v) H K:=by
 rw [hS.len j hj hp];have hn:=hS.zN j hj;simp only [eb,hu];cases v with
 |str l=>exact absurd rfl (hn l)
 |_=>exact h
theorem uw (xs:List AV):lenOf H (.fz xs)=some xs.length:=rfl
theorem ux (l:List UInt8):lenOf H (.str l)=some l.length:=rfl
theorem uy:lenOf H .nil=some 0:=rfl
theorem uz:lenOf H .e0=some 0:=rfl
theorem zO (ti:TI) {e:TypeId} (hu:ti.au= .sl e) (xs:List AV) (n:Nat):eb (some ti) (.fz xs) (some n) H K=K (.int .i64 n) H:=by simp [eb,hu]
theorem zP (ti:TI) {e:TypeId} (hu:ti.au= .sl e) (n:Nat):eb (some ti) .nil (some n) H K=K (.int .i64 n) H:=by simp [eb,hu]
theorem zQ (ti:TI) {e:TypeId} (hu:ti.au= .sl e) (n:Nat):eb (some ti) .e0 (some n) H K=K (.int .i64 n) H:=by simp [eb,hu]
theorem zR (ti:TI) (hu:ti.au= .str) (l:List UInt8) (n:Nat):eb (some ti) (.str l) (some n) H K=K (.int .i64 n) H:=by simp [eb,hu]
theorem Ca {t:TypeId} {ps:Array (Nat×Operand)} {te:TI} (ht:cL C.E t=some te) (hp:ps.size=0) (h:K .e0 H):bf (aq C) C q th (.buildSlice t 0 ps) s H K:=by
 rw [c9 _ rfl];simp only [aN,ht,hp,if_true];exact h
theorem Cb {t:TypeId} {n:Nat} {ps:Array (Nat×Operand)} {te:TI} {z:AV} {el:List AV} (hS:aD H L) (ht:cL C.E t=some te) (hz:ey te=some z) (hn:(n==0)=false) (hb:(decide (n*te.sz≤1000000)&&te.sz !=0)=true)
 (he:iu te.sz (List.replicate n z) (ps.toList.map fun p=>(p.1,ev s p.2))=some el) (hl:el.length=n) (aB:bM te.sz el=true) (h: ∀v H',bJ v→aD H' (⟨v,te.sz,el⟩::L)→K v H'):bf (aq C) C q th (.buildSlice t n ps) s H K:=by
 rw [c9 _ rfl];simp at hn hb;simp only [aN,ht,if_neg hn,hz];rw [if_pos hb];simp only [he];exact h _ _ (ii ..) (hS.nb (by rw [←hl];simp) hl.symm aB)
theorem uA {sz:Nat} {a b:List AV} (ha:bM sz a=true) (hb:bM sz b=true):bM sz (a ++ b)=true:=by
 unfold bM at*;rw [List.all_append,ha,hb];rfl
theorem zS (hS:aD H L) (j:Nat) {te:TI} {v x:AV} {el xs:List AV} (hj:L[j]? =some ⟨v,te.sz,el⟩) (hp:bJ v) (hx:cK H x=some xs) (aB:bM te.sz xs=true) (h0:te.sz≠0) (hr:roomy (el.length+xs.length) te.bytes=true):
 ∃v' H',eg te v x H=some (v',H')∧bJ v' ∧aD H' (L.set j ⟨v',te.sz,el ++ xs⟩):=by
 have af:=hS.ok j _ hj;obtain ⟨k0,af⟩:=af;have iH: ∀it:It,L[j]? =some it→L.set j it=L:=fun it h=>List.ext_getElem? fun k=>by
  rw [List.getElem?_set];split
  ·rename_i e;subst e;have:=(List.getElem?_eq_some_iff.1 h).1;simp only [this,if_true];exact h.symm
  ·rfl
 simp only [eg,hx,aB,Bool.not_true,if_neg h0];simp only at af k0;split at af
 ·subst af;by_cases hn:xs.length=0
  ·have:xs=[]:=List.eq_nil_of_length_eq_zero hn;subst this;refine ⟨.nil,H,by simp,pP,?_⟩
   rw [List.append_nil,iH _ hj];exact hS
  ·have b4:roomy xs.length te.bytes=true:=by simpa using hr
   refine ⟨.ref H.bs.length H.st 0 xs.length,H.new te.sz false xs,by simp [hn,b4],ii ..,?_⟩
   exact hS.ul (fun id ad h=>mY h) ⟨by simpa using aB,by simp,_,mZ,rfl,rfl,by simp,by simp [aE]⟩ (fun k hk=>by simp [b5] at hk;omega)
 ·subst af;by_cases hn:xs.length=0
  ·have:xs=[]:=List.eq_nil_of_length_eq_zero hn;subst this;refine ⟨.e0,H,by simp,pQ,?_⟩
   rw [List.append_nil,iH _ hj];exact hS
  ·have b4:roomy xs.length te.bytes=true:=by simpa using hr
   refine ⟨.ref H.bs.length H.st 0 xs.length,H.new te.sz false xs,by simp [hn,b4],ii ..,?_⟩
   exact hS.ul (fun id ad h=>mY h) ⟨by simpa using aB,by simp,_,mZ,rfl,rfl,by simp,by simp [aE]⟩ (fun k hk=>by simp [b5] at hk;omega)
 ·rename_i id ad off len;obtain ⟨k1,b,hb,k2,k3,k4,k5⟩:=af;have ax:=(hS.ok j _ hj).lt rfl;have bN:=(J.bn hb).2;subst k1;by_cases cw:off+el.length+xs.length≤b.el.length
  ·refine ⟨.ref id ad off (el.length+xs.length),H.bg id {b with el:=splice b.el (off+el.length) xs},by simp [hb,k2,cw],ii ..,?_⟩
   refine hS.bg hj rfl (fun gf gY aM _=>m_ aM) ⟨uA k0 aB,by simp,{b with el:=splice b.el (off+el.length) xs},?_,k2,k3,?_,?_⟩ (fun k hk=>by simpa [b5] using hk.symm)
   ·have:=na (b:={b with el:=splice b.el (off+el.length) xs}) ax;simpa only [bN] using this
   ·simp only [kC _ _ _ cw];omega
   ·simp only [aE] at k5⊢;have e1:(splice b.el (off+el.length) xs).drop off=el ++ (xs ++ b.el.drop (off+el.length+xs.length)):=by
     unfold splice;rw [List.append_assoc,List.drop_append_of_le_length (by simp;omega)]
     congr 1;rw [List.drop_take];have:off+el.length-off=el.length:=by omega
     rw [this,k5]
    rw [e1,←List.append_assoc,List.take_append_of_le_length (by simp),List.take_of_length_le (by simp)]
  ·refine ⟨.ref id H.st 0 (el.length+xs.length),⟨H.st+1,H.bs.set id (some ⟨H.st,b.sz,false,aE b.el off el.length ++ xs⟩)⟩,by simp [hb,k2,cw,k3,k4,hr],ii ..,?_⟩
   refine hS.bg hj rfl (fun gf gY aM _=> ?_) ⟨uA k0 aB,by simp,⟨H.st,te.sz,false,el ++ xs⟩,?_,rfl,rfl,by simp,by simp only [aE,List.drop_zero];exact List.take_of_length_le (by simp)⟩ (fun k hk=>by simpa [b5] using hk.symm)
   ·have h' : ¬id=gf:=fun e=>aM e.symm
    simp only [J.ap,List.getElem?_set,if_neg h']
   ·simp only [J.ap,List.getElem?_set,ax,if_true,k2,aE] at k5⊢;rw [k5]
 ·rename_i id ad ix off;obtain ⟨rfl,rfl,_⟩:=af;exact absurd rfl (hp.ne id ad)
 ·exact af.elim
def app {α :Type} (mX:Nat) (l m:List α):Option (List α):=if roomy (l.length+m.length) mX then some (l ++ m) else none
theorem uB (a b:Operand) (t u:TypeId):bf (aq C) C false th (.call {callee:= .builtin .append,args:= #[a,b],argTypes:= #[t,u]}) s H K=ea (c6 C.E .append #[t,u] [ev s a,ev s b] H) K:=by
 unfold bf wpOp;simp only [Bool.false_eq_true,false_implies,true_and];rfl
theorem zT {α β :Type} {E:aK} {t u:TypeId} {te tu:TI} {e:TypeId} {v x:AV} {l m:List α} {c: α →AV} {f:List α →Option β} {r: β} (j:Nat) (hS:aD H L) (hj:L[j]? =some ⟨v,te.sz,l.map c⟩) (hp:bJ v) (ht:cL E t=some te) (hu:E u=some tu) (hi:tu.au= .sl e)
 (hx:cK H x=some (m.map c)) (aB:bM te.sz (m.map c)=true) (h0:(te.sz==0)=false) (hh:(app te.bytes l m).bind f=some r) (h: ∀v' H',bJ v' →app te.bytes l m=some (l ++ m)→f (l ++ m)=some r→aD H' (L.set j ⟨v',te.sz,(l ++ m).map c⟩)→K v' H'):
 ea (c6 E .append #[t,u] [v,x] H) K:=by
 cases hr:app te.bytes l m with
 |none=>rw [hr] at hh;simp at hh
 |some lm=>
  have b4:=hr
  unfold app at hr;split at hr
  ·rename_i lQ;simp only [Option.some.injEq] at hr;subst hr;rw [b4] at hh;obtain ⟨v',H',h1,h2,h3⟩:=zS hS j hj hp hx aB (by simpa using h0) (by simpa using lQ)
   have e1:(#[t,u]:Array TypeId)[0]? =some t:=rfl;have e2:((#[t,u]:Array TypeId)[1]?).bind E=E u:=rfl;simp only [c6,e1,e2,ht,hu,hi,h1,ea];exact h v' H' h2 b4 hh (by rw [List.map_append];exact h3)
  ·simp at hr
def lx (C:aI) (q th:Bool) (f:AV) (args:List AV) (H:J) (K:AV→J→Prop):Prop:=
 match f with
 | .fn g bR=>if q then dl (aq C) C g (args ++ bR) th H K else aq C g (args ++ bR) H K∨dl (aq C) C g (args ++ bR) th H K
 |_=>False
theorem uC (f:Operand) (args:Array Operand) (tys:Array TypeId):bf (aq C) C q th (.call {callee:= .value f,args,argTypes:=tys}) s H K=lx C q th (ev s f) (args.toList.map (ev s)) H K:=rfl
theorem Cc {α β :Type} {g:FuncId} {bR args:List AV} {o:Option α} {f: α →Option β} {r: β} (h:o.bind f=some r) (hk: ∀x,o=some x→f x=some r→aq C g (args ++ bR) H K):lx C false th (.fn g bR) args H K:=by
 cases ho:o with
 |none=>rw [ho] at h;simp at h
 |some x=>rw [ho] at h;exact .inl (hk x ho h)
end
inductive LR (σ ρ :Type) where
 |next (x: σ)
 |done (r: ρ)
def iter {σ ρ :Type} (f: σ →Option (LR σ ρ)):Nat→ σ →Option ρ
 |0,_=>none
 |n+1,x=>(f x).bind fun y=>match y with| .next x' =>iter f n x' | .done r=>some r
open Classical in
noncomputable def fq {σ ρ :Type} (f: σ →Option (LR σ ρ)) (x: σ):Option ρ :=if h: ∃n,(iter f n x).isSome then iter f h.choose x else none
theorem pR {σ ρ :Type} {f: σ →Option (LR σ ρ)}: ∀{n m:Nat} {x: σ} {r: ρ},iter f n x=some r→n≤m→iter f m x=some r
 |0,_,_,_,h,_=>by simp [iter] at h
 |n+1,0,_,_,_,h=>by omega
 |n+1,m+1,x,r,h,hle=>by
  simp only [iter] at h⊢;cases hf:f x with
  |none=>rw [hf] at h;simp at h
  |some y=>
   rw [hf] at h;cases y with
   |next x' =>exact pR (m:=m) h (by omega)
   |done r' =>exact h
theorem nf {σ ρ :Type} {f: σ →Option (LR σ ρ)} {x: σ} {r: ρ}:fq f x=some r↔ ∃n,iter f n x=some r:=by
 unfold fq;constructor
 ·intro h;split at h
  ·exact ⟨_,h⟩
  ·simp at h
 ·rintro ⟨n,h⟩;have hex: ∃n,(iter f n x).isSome:=⟨n,by simp [h]⟩
  rw [dif_pos hex];cases hc:iter f hex.choose x with
  |none=>have:=hex.choose_spec;rw [hc] at this;simp at this
  |some r' =>
   have h1:=pR hc (Nat.le_max_left hex.choose n);have h2:=pR h (Nat.le_max_right hex.choose n);rw [h1] at h2;exact h2
theorem pS {σ ρ :Type} (f: σ →Option (LR σ ρ)) (x: σ):fq f x=(f x).bind fun y=>match y with| .next x' =>fq f x' | .done r=>some r:=by
 refine Option.ext fun r=> ?_;rw [nf];constructor
 ·rintro ⟨n,h⟩;cases n with
  |zero=>simp [iter] at h
  |succ n=>
   simp only [iter] at h;cases hf:f x with
   |none=>rw [hf] at h;simp at h
   |some y=>
    rw [hf] at h;cases y with
    |next x' =>exact nf.2 ⟨n,h⟩
    |done r' =>exact h
 ·intro h;cases hf:f x with
  |none=>rw [hf] at h;simp at h
  |some y=>
   rw [hf] at h;cases y with
   |next x' =>obtain ⟨n,hn⟩:=nf.1 h;exact ⟨n+1,by simp only [iter,hf];exact hn⟩
   |done r' =>exact ⟨1,by simp only [iter,hf];exact h⟩
def ng {σ ρ :Type} (bK:List Nat) (Inv: σ →aj→J→Prop) (y:LR σ ρ) (K:Ex→aj→J→Prop):Ex→aj→J→Prop
 | .normal,s,H=> ∃x',y= .next x' ∧Inv x' (eA bK s) H
 | .exit i,s,H=>K (.exit i) s H
 | .ret,s,H=>K .ret s H
section
variable {C:aI} {K K1:Ex→aj→J→Prop} {s:aj} {H:J}
theorem Cd {σ ρ :Type} (gC:Good C) {f: σ →Option (LR σ ρ)} {x: σ} {r: ρ} {bK:List Nat} {a:AC} (hw:fq f x=some r) (Inv: σ →aj→J→Prop) (h0:Inv x (eA bK s) H)
 (hb: ∀x y s H,f x=some y→(∀r',y= .done r' →r' =r)→Inv x s H→ ∀K1,K1=ng bK Inv y K→aJ (aq C) C a s H K1):aJ (aq C) C (.loop ⟨bK,false⟩ a) s H K:=by
 obtain ⟨n,hn⟩:=nf.1 hw;have key: ∀(n:Nat) (x: σ) (s:aj) (H:J),iter f n x=some r→Inv x s H→ ∀m,iW (aJ (aq C) C a) (gK ⟨bK,false⟩ m) K s H:=by
  intro n;induction n with
  |zero=>intro x s H h;simp [iter] at h
  |succ n ih=>
   intro x s H h hi m;simp only [iter] at h;cases hf:f x with
   |none=>rw [hf] at h;simp at h
   |some y=>
    rw [hf] at h;simp only [Option.bind_some] at h;refine iW.round (aq.up gC.up) (ew (aq.up gC.up) _ _ _ _ _ (fun e s' H' he=> ?_) (hb x y s H hf (fun r' e=>by subst e;simpa using h) hi _ rfl))
    cases e with
    |normal=>
     obtain ⟨x',rfl,gP⟩:=he;exact ih x' _ _ h gP m
    |exit i=>exact he
    |ret=>exact he
 exact key n x _ _ hn h0 _
theorem Ce {σ ρ :Type} {bK:List Nat} {Inv: σ →aj→J→Prop} {y:LR σ ρ} {x' : σ} (hK:K1=ng bK Inv y K) (hy:some (LR.next x')=some y) (hi:Inv x' (eA bK s) H):K1 .normal s H:=by
 rw [hK];exact ⟨x',(Option.some.inj hy).symm,hi⟩
theorem Cf {σ ρ :Type} {bK:List Nat} {Inv: σ →aj→J→Prop} {y:LR σ ρ} {i:Nat} (hK:K1=ng bK Inv y K) (h:K (.exit i) s H):K1 (.exit i) s H:=by rw [hK];exact h
theorem Cg {σ ρ :Type} {bK:List Nat} {Inv: σ →aj→J→Prop} {y:LR σ ρ} (hK:K1=ng bK Inv y K) (h:K .ret s H):K1 .ret s H:=by rw [hK];exact h
def pT (Q:aj→J→Prop) (K:Ex→aj→J→Prop):Ex→aj→J→Prop
 | .normal,s,H=>Q s H
 | .exit i,s,H=>K (.exit i) s H
 | .ret,s,H=>K .ret s H
theorem Ch (gC:Good C) {a:AC} (Q:aj→J→Prop) (h: ∀K1,K1=pT Q K→aJ (aq C) C a s H K1) (hq: ∀s H,Q s H→K .normal s H):aJ (aq C) C a s H K:=by
 refine zF (h _ rfl) (fun e s H he=> ?_) gC;cases e with
 |normal=>exact hq s H he
 |exit i=>exact he
 |ret=>exact he
theorem Ci {Q:aj→J→Prop} (hK:K1=pT Q K) (h:Q s H):K1 .normal s H:=by rw [hK];exact h
theorem Cj {Q:aj→J→Prop} (hK:K1=pT Q K) (h:K .ret s H):K1 .ret s H:=by rw [hK];exact h
end
end Go.VS
namespace Go.VS
section
variable {C:aI} {q th:Bool} {s:aj} {H:J} {K:AV→J→Prop} {L:List It}
theorem uD:dU none s=s:=rfl
def zU (k:IntKind) (a b:Int):Int:=k.wrap (BitVec.ofInt k.bits a&&&BitVec.ofInt k.bits b).toNat
def zV (k:IntKind) (a b:Int):Int:=k.wrap (BitVec.ofInt k.bits a|||BitVec.ofInt k.bits b).toNat
def zW (k:IntKind) (a b:Int):Int:=k.wrap (BitVec.ofInt k.bits a^^^BitVec.ofInt k.bits b).toNat
def Ck (k:IntKind) (a b:Int):Int:=k.wrap (a*2^(min b.toNat k.bits))
def uE (k:IntKind) (a b:Int):Int:=a.fdiv (2^(min b.toNat k.bits))
theorem uF (E:aK) (t:TypeId) (k:IntKind) (a b:Int):aH E .and t (.int k a) (.int k b)=some (.int k (zU k a b)):=zH ..
theorem uG (E:aK) (t:TypeId) (k:IntKind) (a b:Int):aH E .or t (.int k a) (.int k b)=some (.int k (zV k a b)):=zI ..
theorem uH (E:aK) (t:TypeId) (k:IntKind) (a b:Int):aH E .xor t (.int k a) (.int k b)=some (.int k (zW k a b)):=zJ ..
theorem Cl (k:IntKind) (a b:Int) (h:decide (b<0)=false):sr k a b=some (uE k a b):=by simp at h;simp [sr,uE,Int.not_lt.2 h]
def pU (E:aK) (src dst:TypeId) (x:AV) (H:J) (K:AV→J→Prop):Prop:=ea (match E src,E dst,x with
 |some _,some td,.int _ n=>match td.au with
  | .it k=>some (.int k (k.wrap n),H)
  |_=>none
 |some _,some td,.str l=>match td.au with
  | .str=>some (.str l,H)
  | .sl e=>match E e with
   |some te=>match te.au with
    | .it .u8=>if te.sz=1∧te.bytes=1∧l.length≤2^45 then some (.ref H.bs.length H.st 0 l.length,H.new 1 false (l.map fun b=> .int .u8 b.toNat)) else none
    |_=>none
   |none=>none
  |_=>none
 |some ts,some td,x=>match ts.au,td.au with
  | .sl e,.str=>match E e with
   |some te=>match te.au with
    | .it .u8=>match cK H x with
     |some xs=>if te.sz=1 then (match (bytesOf xs).map AV.str with|some v=>some (v,H)|none=>none) else none
     |none=>none
    |_=>none
   |none=>none
  |_,_=>none
 |_,_,_=>none) K
theorem uI (a b:TypeId) (x:Operand):bf (aq C) C q th (.convert a b x) s H K=pU C.E a b (ev s x) H K:=by
 rw [c9 _ rfl];rfl
def pV (ta tb:Option TI) (n:Int) (H:J) (K:AV→J→Prop):Prop:=match ta,tb with
 |some _,some td=>match td.au with| .it k=>K (.int k (k.wrap n)) H|_=>False
 |_,_=>False
theorem uJ (E:aK) (a b:TypeId) (j:IntKind) (n:Int):pU E a b (.int j n) H K=pV (E a) (E b) n H K:=by
 simp only [pU,pV];cases E a with
 |none=>rfl
 |some ta=>
  cases E b with
  |none=>rfl
  |some tb=>simp only;cases tb.au<;>rfl
def zX (l:List UInt8):List Int:=l.map fun b=>(b.toNat:Int)
def Cm (l:List Int):List UInt8:=l.map fun n=>UInt8.ofNat n.toNat
def Cn (l:List UInt8):Option (List Int):=if l.length≤2^45 then some (zX l) else none
def gD {α :Type} (l:List α) (lo hi:Int):Option (List α):=if 0≤lo∧lo≤hi∧hi≤l.length then some ((l.drop lo.toNat).take (hi.toNat-lo.toNat)) else none
def gE (E:aK) (t:TypeId) (x:AV) (lo hi mx:Option (Option Int)) (H:J) (K:AV→J→Prop):Prop:=match lo,hi,mx with
 |some lo,some hi,some mx=>cI (fZ E t x lo hi mx H) H K
 |_,_,_=>False
theorem uK (t:TypeId) (x:Operand) (lo hi mx:Option Operand):bf (aq C) C q th (.slice t x lo hi mx) s H K=gE C.E t (ev s x) (dT (lo.map (ev s))) (dT (hi.map (ev s))) (dT (mx.map (ev s))) H K:=by
 rw [c9 _ rfl];simp only [aN,gE];generalize dT (lo.map (ev s))=a;generalize dT (hi.map (ev s))=b;generalize dT (mx.map (ev s))=c;cases a<;>cases b<;>cases c<;>first|rfl|(simp only;rename_i lo hi mx;generalize fZ C.E t (ev s x) lo hi mx H=z;cases z<;>rfl)
theorem uL:dT none=some none:=rfl
theorem uM (k:IntKind) (n:Int):dT (some (.int k n))=some (some n):=rfl
theorem nh {α :Type} {c: α →AV} {sz:Nat} (hc: ∀x,(c x).cells.length=sz) (l:List α):bM sz (l.map c)=true:=by
 simp [bM,hc]
theorem Co {α β :Type} {E:aK} {t e:TypeId} {ti te:TI} {l:List α} {c: α →AV} {lo hi:Option Int} {f:List α →Option β} {r: β} (ht:E t=some ti) (hu:ti.au= .sl e) (he:E e=some te) (hc: ∀x,(c x).cells.length=te.sz) (hh:(gD l (lo.getD 0) (hi.getD l.length)).bind f=some r)
 (h: ∀m,gD l (lo.getD 0) (hi.getD l.length)=some m→f m=some r→K (.fz (m.map c)) H):gE E t (.fz (l.map c)) (some lo) (some hi) (some none) H K:=by
 cases hm:gD l (lo.getD 0) (hi.getD l.length) with
 |none=>rw [hm] at hh;simp at hh
 |some m=>
  rw [hm] at hh;have hk:=h m hm hh;unfold gD at hm;split at hm
  ·rename_i zY;simp only [Option.some.injEq] at hm;simp only [gE,fZ,ht,hu,he,nh hc,Bool.not_true,Bool.false_eq_true,if_false,List.length_map,if_pos zY,cI];rw [←hm,List.map_take,List.map_drop] at hk;exact hk
  ·simp at hm
theorem Cp {α β :Type} {E:aK} {t e:TypeId} {ti te:TI} {v:AV} {l:List α} {c: α →AV} {lo hi:Option Int} {f:List α →Option β} {r: β} (j:Nat) (hS:aD H L) (hj:L[j]? =some ⟨v,te.sz,l.map c⟩) (hp:bJ v) (ht:E t=some ti) (hu:ti.au= .sl e) (he:E e=some te) (hh:(gD l (lo.getD 0) (hi.getD l.length)).bind f=some r)
 (h: ∀v' m,bJ v' →gD l (lo.getD 0) (hi.getD l.length)=some m→f m=some r→aD H (L.set j ⟨v',te.sz,m.map c⟩)→K v' H):gE E t v (some lo) (some hi) (some none) H K:=by
 cases hm:gD l (lo.getD 0) (hi.getD l.length) with
 |none=>rw [hm] at hh;simp at hh
 |some m=>
  rw [hm] at hh;have hk:=fun v' bz=>h v' m bz hm hh
  unfold gD at hm;split at hm
  ·rename_i hc;obtain ⟨dO,fi,zZ⟩:=hc;simp only [Option.some.injEq] at hm;have af:=hS.ok j _ hj;obtain ⟨k0,af⟩:=af;have iH:L.set j ⟨v,te.sz,l.map c⟩=L:=List.ext_getElem? fun k=>by
    rw [List.getElem?_set];split
    ·rename_i e;subst e;have:=(List.getElem?_eq_some_iff.1 hj).1;simp only [this,if_true];exact hj.symm
    ·rfl
   have z6:bM te.sz (m.map c)=true:=by
    simp only [bM,List.all_eq_true,List.mem_map] at k0⊢;rintro z ⟨y,hy,rfl⟩;rw [←hm] at hy;exact k0 _ ⟨y,List.mem_of_mem_drop (List.mem_of_mem_take hy),rfl⟩
   have empty:l.map c=[]→m=[]∧l=[]∧lo.getD 0=0∧hi.getD l.length=0:=by
    intro e;rw [List.map_eq_nil_iff] at e;subst e;have e0:(([]:List α).length:Int)=0:=rfl;rw [e0] at zZ fi⊢;exact ⟨by rw [←hm];simp,rfl,by omega,by omega⟩
   simp only at af k0;split at af
   ·obtain ⟨rfl,rfl,e1,e2⟩:=empty af;have gZ:hi.getD 0=0:=by cases hi with|none=>rfl|some x=>simpa using e2
    simp only [gE,fZ,ht,hu,he];rw [if_pos ⟨e1,gZ,rfl,by simp⟩]
    exact hk .nil pP (by rw [iH];exact hS)
   ·obtain ⟨rfl,rfl,e1,e2⟩:=empty af;have gZ:hi.getD 0=0:=by cases hi with|none=>rfl|some x=>simpa using e2
    simp only [gE,fZ,ht,hu,he];rw [if_pos ⟨e1,gZ,rfl,by simp⟩]
    exact hk .e0 pQ (by rw [iH];exact hS)
   ·rename_i id ad off len;obtain ⟨k1,b,hb,k2,k3,k4,k5⟩:=af;simp only [List.length_map] at k1;subst k1;simp only [gE,fZ,ht,hu,hb,he,k2,ne_eq,not_true_eq_false,if_false];rw [if_pos ⟨dO,fi,by omega⟩]
    have ni:(hi.getD (l.length:Int)).toNat-(lo.getD 0).toNat=m.length:=by
     rw [←hm,List.length_take,List.length_drop];omega
    refine hk _ (ii ..) (hS.bg hj rfl (fun _ _ _ _=>rfl) ⟨z6,?_,b,hb,k2,k3,?_,?_⟩ (fun k hk=>by simpa [b5] using hk.symm))
    ·simp only [List.length_map];exact ni
    ·omega
    ·simp only [aE] at k5⊢;rw [←hm,List.map_take,List.map_drop,←k5,List.drop_take,List.drop_drop,List.take_take];congr 1;omega
   ·rename_i id ad ix off;obtain ⟨rfl,rfl,_⟩:=af;exact absurd rfl (hp.ne id ad)
   ·exact af.elim
  ·simp at hm
def j_ {α :Type} (mX:Nat) (n:Int) (d: α):Option (List α):=if 0≤n∧roomy n.toNat mX then some (List.replicate n.toNat d) else none
theorem Cq {α β :Type} {E:aK} {t u:TypeId} {te tu:TI} {e:TypeId} {v x:AV} {l m:List α} {c: α →AV} {f:List α →Option β} {r: β} (j:Nat) (hS:aD H L) (hj:L[j]? =some ⟨v,te.sz,l.map c⟩) (hp:bJ v) (ht:cL E t=some te) (hu:E u=some tu) (hi:tu.au= .sl e)
 (hx:cK H x=some (m.map c)) (aB: ∀x,(c x).cells.length=te.sz) (h0:(te.sz==0)=false) (hh:(app te.bytes l m).bind f=some r) (h: ∀v' H' lm,bJ v' →app te.bytes l m=some lm→f lm=some r→aD H' (L.set j ⟨v',te.sz,lm.map c⟩)→K v' H'):
 ea (c6 E .append #[t,u] [v,x] H) K:=
 zT j hS hj hp ht hu hi hx (nh aB m) h0 hh fun v' H' h1 h2 h3 h4=>h v' H' _ h1 h2 h3 h4
theorem aD.perm {L' :List It} (h:aD H L) (hp:L.Perm L'):aD H L' :=by
 have nd: ∀{L:List It},aD H L↔(∀it∈L,gB H it)∧(L.filterMap (fun it=>b5 it.v)).Nodup:=by
  intro L;constructor
  ·intro h;refine ⟨fun it hi=> ?_,?_⟩
   ·obtain ⟨i,gP⟩:=List.mem_iff_getElem?.1 hi;exact h.ok i it gP
   ·induction L with
    |nil=>simp
    |cons a L ih=>
     have ih:=ih h.tl;rw [List.filterMap_cons];cases ha:b5 a.v with
     |none=>exact ih
     |some id=>
      refine List.nodup_cons.2 ⟨fun hm=> ?_,ih⟩;obtain ⟨b,hb,bO⟩:=List.mem_filterMap.1 hm;obtain ⟨j,hj⟩:=List.mem_iff_getElem?.1 hb;have:=h.b8 0 (j+1) a b id rfl hj ha bO;omega
  ·rintro ⟨h1,h2⟩;refine ⟨fun i it hi=>h1 it (List.mem_of_getElem? hi),?_⟩;clear h1;induction L with
   |nil=>intro i j a b id h;simp at h
   |cons a L ih=>
    have kT:(L.filterMap (fun it=>b5 it.v)).Nodup:=by
     rw [List.filterMap_cons] at h2;split at h2
     ·exact h2
     ·exact (List.nodup_cons.1 h2).2
    have no: ∀(j:Nat) (b:It) (id:Nat),L[j]? =some b→b5 a.v=some id→b5 b.v≠some id:=by
     intro j b id hj ha hb;rw [List.filterMap_cons,ha] at h2;exact (List.nodup_cons.1 h2).1 (List.mem_filterMap.2 ⟨b,List.mem_of_getElem? hj,hb⟩)
    intro i j x y id hi hj hx hy;cases i with
    |zero=>
     simp at hi;subst hi;cases j with
     |zero=>rfl
     |succ j=>exact absurd hy (no j y id (by simpa using hj) hx)
    |succ i=>
     cases j with
     |zero=>simp at hj;subst hj;exact absurd hx (no i x id (by simpa using hi) hy)
     |succ j=>have:=ih kT i j x y id (by simpa using hi) (by simpa using hj) hx hy;omega
 rw [nd] at h⊢;exact ⟨fun it hi=>h.1 it (hp.mem_iff.2 hi),(hp.filterMap _).nodup_iff.1 h.2⟩
theorem aD.front (h:aD H L) (j:Nat) {it:It} (hj:L[j]? =some it):aD H (it::L.eraseIdx j):=by
 refine h.perm ?_;have ax:=(List.getElem?_eq_some_iff.1 hj).1;have he:=(List.getElem?_eq_some_iff.1 hj).2;have:L=L.take j ++ it::L.drop (j+1):=by
  rw [←he,List.getElem_cons_drop,List.take_append_drop]
 rw [List.eraseIdx_eq_take_drop_succ]
 conv=>lhs;rw [this]
 exact List.perm_middle
theorem aD.z7 (h:aD H L) (sz:Nat):aD H (⟨.nil,sz,[]⟩::L):=
 h.new (fun _ _ _=>rfl) ⟨rfl,rfl⟩ (fun k hk=>by simp [b5] at hk)
theorem aD.z8 (h:aD H L) (sz:Nat):aD H (⟨.e0,sz,[]⟩::L):=
 h.new (fun _ _ _=>rfl) ⟨rfl,rfl⟩ (fun k hk=>by simp [b5] at hk)
theorem aD.drop (h:aD H L) (j:Nat):aD H (L.eraseIdx j):=by
 cases hj:L[j]? with
 |none=>
  rw [List.eraseIdx_of_length_le (List.getElem?_eq_none_iff.1 hj)];exact h
 |some it=>exact (h.front j hj).tl
theorem aD.Cr (hS:aD H L) {id ad sz:Nat} {a:AV} (hm:⟨.ptr id ad 0 0,sz,[a]⟩∈L):H.ap id ad=some ⟨ad,sz,false,[a]⟩:=by
 obtain ⟨j,hj⟩:=List.mem_iff_getElem?.1 hm;exact hS.var j hj
theorem uN {α β :Type} {g:FuncId} {bR args ys:List AV} {bT:Bool} {o:Option α} {f: α →Option β} {r: β} {cc:List (List Sh)} (h:o.bind f=some r) (hr:(C.gb g).cc=cc) (hp:b_ [] (args ++ bR) H=some (ys,bT))
 (hk: ∀x,o=some x→f x=some r→ ∃y,aq C g ys ⟨0,[]⟩ (fun v L=> ∃rs zs L2,v=ci rs∧dc cc rs L=some (zs,L2)∧y=ci zs)∧(bT=false∨cr y=true)∧if th||bT then K (aF y H).1 (aF y H).2 else K (bu y) H):lx C q th (.fn g bR) args H K:=by
 cases ho:o with
 |none=>rw [ho] at h;simp at h
 |some x=>
  rw [ho] at h;have hq:dl (aq C) C g (args ++ bR) th H K:=by
   unfold dl;rw [hp,hr];exact hk x ho h
  cases q with
  |true=>exact hq
  |false=>exact .inr hq
end
end Go.VS
