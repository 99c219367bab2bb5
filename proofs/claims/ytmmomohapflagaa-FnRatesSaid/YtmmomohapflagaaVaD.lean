import Derived.Test.YtmmomohapflagaaVaC
import Derived.StillTail
namespace Go.VS
structure il (ops:Array Oper) (aF:List Nat):Prop where
 back: ∀(i:Nat) (o:Oper),ops[i]? =some o→ ∀e∈o.after,Region.binds .any e=true→e.on<i
 gY: ∀(i j:Nat) (o p:Oper) (d:Tmp),i≠j→ops[i]? =some o→ops[j]? =some p→p.dst=some d→o.dst≠some d
 ord: ∀(i j:Nat) (o p:Oper) (d:Tmp),i≠j→ops[i]? =some o→ops[j]? =some p→p.dst=some d→d∈Oper.looksAt ops o→((fD ops.toList).getD (max i j) 0).testBit (min i j)=true
 after: ∀(i j:Nat) (o p:Oper),ops[i]? =some o→ops[j]? =some p→i∈aF→i<j→((fD ops.toList).getD j 0).testBit i=true∨(j∉aF∧p.guard=none∧ja p.op=true∧ ∃d,p.dst=some d)
 late: ∀(i j:Nat) (o p:Oper),ops[i]? =some o→ops[j]? =some p→i∈aF→j<i→((fD ops.toList).getD i 0).testBit j=false→j∉aF∧p.guard=none∧kI p.op=true∧(∃d,p.dst=some d)∧
  ∀(k:Nat) (r:Oper) (d:Tmp),ops[k]? =some r→r.dst=some d→j≤k→d∉Oper.looksAt ops p
theorem zl {ops:Array Oper} {aF:List Nat} (h:iE ops aF=true):il ops aF:=by
 have lt: ∀{i:Nat} {o:Oper},ops[i]? =some o→i<ops.toList.length:=fun h=>by have:=(Array.getElem?_eq_some_iff.1 h).1;simpa using this
 have tl: ∀{i:Nat} {o:Oper},ops[i]? =some o→ops.toList[i]? =some o:=fun h=>by simpa using h
 have one: ∀(i:Nat) (o:Oper),ops[i]? =some o→(∀e∈o.after,Region.binds .any e=true→e.on<i)∧ ∀(j:Nat) (p:Oper),ops[j]? =some p→i≠j→
  (∀d,p.dst=some d→o.dst≠some d∧(d∈Oper.looksAt ops o→((fD ops.toList).getD (max i j) 0).testBit (min i j)=true))∧
  (i∈aF→i<j→((fD ops.toList).getD j 0).testBit i=true∨(j∉aF∧p.guard=none∧ja p.op=true∧ ∃d,p.dst=some d))∧
  (i∈aF→j<i→((fD ops.toList).getD i 0).testBit j=false→j∉aF∧p.guard=none∧kI p.op=true∧(∃d,p.dst=some d)∧ ∀(k:Nat) (r:Oper) (d:Tmp),ops[k]? =some r→r.dst=some d→j≤k→d∉Oper.looksAt ops p):=by
  intro i o ho;simp only [iE,List.all_eq_true,List.mem_range] at h;have hi:=h i (lt ho);rw [tl ho] at hi;simp only [Bool.and_eq_true,Array.all_eq_true_iff_forall_mem,List.all_eq_true,List.mem_range,Bool.or_eq_true,Bool.not_eq_true',decide_eq_true_eq] at hi;obtain ⟨ha,hb⟩:=hi;refine ⟨fun e he pI=>(ha e he).resolve_left (by simp [pI]),fun j p hp lA=> ?_⟩
  have hj:=hb j (lt hp);rw [tl hp] at hj;simp only [Bool.or_eq_true,beq_iff_eq,Bool.and_eq_true,Bool.not_eq_true'] at hj;rcases hj with hj|⟨⟨m5,j7⟩,kn⟩
  ·exact absurd hj lA
  refine ⟨fun d hd=> ?_,fun hl ax=> ?_,fun hl ax pI=> ?_⟩
  ·rw [hd] at m5;simp only [Bool.and_eq_true,bne_iff_ne,ne_eq,Bool.or_eq_true,Bool.not_eq_true'] at m5;exact ⟨m5.1,fun hm=>m5.2.resolve_left (by simp [hm])⟩
  ·rcases j7 with (j7|j7)|⟨⟨⟨q1,q2⟩,q3⟩,q4⟩
   ·simp [hl,ax] at j7
   ·exact .inl j7
   ·exact .inr ⟨by simpa using q1,by simpa using q2,q3,Option.isSome_iff_exists.1 q4⟩
  ·rcases kn with (kn|kn)|⟨⟨⟨⟨q1,q2⟩,q3⟩,q4⟩,q5⟩
   ·simp [hl,ax] at kn
   ·rw [pI] at kn;simp at kn
   ·refine ⟨by simpa using q1,by simpa using q2,q3,Option.isSome_iff_exists.1 q4,fun k r d hk hr zm hm=> ?_⟩
    simp only [List.all_eq_true,List.mem_range] at q5;have:=q5 k (lt hk);rw [tl hk] at this;simp only [hr] at this;simp [zm,hm] at this
 exact ⟨fun i o ho=>(one i o ho).1,fun i j o p d lA ho hp hd=>(((one i o ho).2 j p hp lA).1 d hd).1,fun i j o p d lA ho hp hd=>(((one i o ho).2 j p hp lA).1 d hd).2,
  fun i j o p ho hp hl ax=>((one i o ho).2 j p hp (by omega)).2.1 hl ax,fun i j o p ho hp hl ax=>((one i o ho).2 j p hp (by omega)).2.2 hl ax⟩
theorem pJ (aF:List Nat) (n:Nat): ∀(m b:Nat),m=n-b→b≤n→ ∃c,b≤c∧c≤n∧(c=n∨c∈aF)∧ ∀i,b≤i→i<c→i∉aF
 |0,b,hm,hb=>⟨b,Nat.le_refl _,hb,.inl (by omega),fun i h1 h2=>by omega⟩
 |m+1,b,hm,hb=>by
  by_cases h:b∈aF
  ·exact ⟨b,Nat.le_refl _,hb,.inr h,fun i h1 h2=>by omega⟩
  ·obtain ⟨c,h1,h2,h3,h4⟩:=pJ aF n m (b+1) (by omega) (by omega)
   refine ⟨c,by omega,h2,h3,fun i k1 k2=> ?_⟩
   by_cases hi:i=b
   ·subst hi;exact h
   ·exact h4 i (by omega) k2
section draw
variable {P:Program} {C:aK} {X:bK} {ops:Array Oper} {aF:List Nat} {th:List Nat} {K:ah→J→Prop} {s:Nat→ah} {H:Nat→J} {v:Nat→AV} {act:Nat→Bool}
abbrev iO (X:bK) (C:aK) (ops:Array Oper) (aF:List Nat) (th:List Nat) (K:ah→J→Prop) (s:Nat→ah) (H:Nat→J) (v:Nat→AV) (act:Nat→Bool):Prop:=
 Tr X C ops (fun i=> !aF.contains i) (fZ ops aF) th K ops.toList 0 s H v act
theorem iq (t:iO X C ops aF th K s H v act): ∀(m i:Nat),i+m≤ops.size→(∀k,i≤k→k<i+m→k∉aF)→QG (H i) (H (i+m))
 |0,i,_,_=> .refl _
 |m+1,i,hn,hl=>by
  have h1:=iq t m i (by omega) (fun k h1 h2=>hl k h1 (by omega))
  have ho:=Array.getElem?_eq_getElem (xs:=ops) (show i+m<ops.size by omega)
  obtain ⟨_,_,h3,h4,_⟩:=t.step (i+m) _ (by rw [Array.getElem?_toList];exact ho)
  refine h1.trans ?_;cases ha:act (i+m) with
  |true=>
   have:=h3 ha;have ko:(!aF.contains (0+(i+m)))=true:=by simp only [Nat.zero_add];simpa using hl (i+m) (by omega) (by omega)
   rw [ko] at this;exact zj this
  |false=>have:=(h4 ha).2;rw [show i+(m+1)=i+m+1 by omega,this];exact .refl _
theorem m6 (dk:il ops aF) (t:iO X C ops aF th K s H v act): ∀(i:Nat),i≤ops.size→(s i).length=(s 0).length∧ ∀x,x<(s 0).length→
 (∀k o,k<i→ops[k]? =some o→o.dst=some x→(s i).getD x .undef=v k)∧((∀k o,k<i→ops[k]? =some o→o.dst≠some x)→(s i).getD x .undef=(s 0).getD x .undef)
 |0,_=>⟨rfl,fun x hx=>⟨fun k o h=>by omega,fun _=>rfl⟩⟩
 |i+1,hi=>by
  obtain ⟨h1,h2⟩:=m6 dk t i (by omega)
  have ho:=Array.getElem?_eq_getElem (xs:=ops) (show i<ops.size by omega)
  obtain ⟨hs,_⟩:=t.step i _ (by rw [Array.getElem?_toList];exact ho)
  have hlen:(s (i+1)).length=(s 0).length:=by
   rw [hs];unfold aZ;split
   ·simpa using h1
   ·exact h1
  refine ⟨hlen,fun x hx=>⟨fun k o hk af hd=> ?_,fun fu=> ?_⟩⟩
  ·rw [hs];by_cases bX:k=i
   ·subst bX;rw [ho] at af;simp only [Option.some.injEq] at af;subst af;rw [hd];simp only [aZ];rw [←h1] at hx;simp [List.getD,hx]
   ·have aH:=dk.gY i k _ o x (fun h=>bX h.symm) ho af hd;have:=(h2 x hx).1 k o (by omega) af hd
    rw [←this];unfold aZ;split
    ·rename_i d ca;have:d≠x:=fun h=>aH (by rw [ca,h])
     simp [List.getD,List.getElem?_set_ne this]
    ·rfl
  ·rw [hs];have aH:=fu i _ (Nat.lt_succ_self _) ho;rw [←(h2 x hx).2 (fun k o hk af=>fu k o (by omega) af)]
   unfold aZ;split
   ·rename_i d ca;have:d≠x:=fun h=>aH (by rw [ca,h])
    simp [List.getD,List.getElem?_set_ne this]
   ·rfl
structure pK (C:aK) (o:Op) (sz:Nat) (el:List AV) (x:Nat→Nat→AV) (u:Nat→Value):Prop where
 ev: ∀(X:bK) (q th:Bool) (o' :Oper) (s:ah) (H:J) (K:AV→J→Prop),o'.op=o→wpOp X C q th o' s H K→K (x H.bs.length H.st) (H.new sz false el)
 zn: ∀(i:Nat) (y:AV),el[i]? =some y→y.cells.length=sz
 rel: ∀(w:World) (G:J) (φ :ag) (A:aj) (id ad c:Nat),G.get id=some ⟨ad,sz,false,el⟩→ad<G.st→ φ id=some (.at_ c 0)→el.length*sz≤bj w c→R w G φ A (x id ad) (u c)
def m7 (el:List AV) (sz:Nat) (arr:Array Value):Prop:=el.length*sz≤arr.size∧
 ∀(i:Nat) (x:AV) (j:Nat) (y:AV) (v:Value),el[i]? =some x→x.cells[j]? =some y→arr[i*sz+j]? =some v→(∀(w:World) (G:J) (φ :ag) (A:aj),R w G φ A y v)∧v.oneCell' =true
theorem zo {P:Program} {C:aK} (hE: ∀t ti,C.E t=some ti→aW P t ti) {X:bK} {q th:Bool} {o:Oper} {s:ah} {H:J} {K:AV→J→Prop} (he:ja o.op=true) (h:wpOp X C q th o s H K):
 ∃sz el x u,pK C o.op sz el x u∧ ∀(a:Act) (w:World),∃arr T,(execOp a.eval o).run P w= .ok (.value (u w.heap.size)) (w.alloc (.cells arr T))∧m7 el sz arr:=by
 obtain ⟨dst,op,ty,pos,after,guard⟩:=o;simp only at he⊢;cases op with
 |alloc tt=>
  unfold wpOp at h;simp only [aP] at h;cases lB:C.E tt with
  |none=>rw [lB] at h;exact h.2.elim
  |some ti=>
   rw [lB] at h;cases hz:ep ti with
   |none=>simp only [hz] at h;exact h.2.elim
   |some z=>
    have dw:z.cells.length=ti.sz:=by
     obtain ⟨zv,e1,e2,e3,e4,_,e5⟩:=je (hE _ _ lB) hz default;rw [e3,e4]
    refine ⟨ti.sz,[z],fun id ad=> .ptr id ad 0 0,fun c=> .pointer (some ⟨c,0,none⟩),⟨fun X q th o' s H K ho h=> ?_,fun i y hy=> ?_,fun w G φ A id ad c _ hv a4 _=>nZ hv a4⟩,fun a w=> ?_⟩
    ·obtain ⟨dst,op,ty,pos,after,guard⟩:=o';simp only at ho;subst ho;unfold wpOp at h;simp only [aP,lB,hz] at h;exact h.2
    ·cases i with
     |zero=>simp at hy;subst hy;exact dw
     |succ i=>simp at hy
    ·obtain ⟨zv,e1,e2,e3,e4,_,e5⟩:=je (hE _ _ lB) hz w;refine ⟨zv.cells,tt,?_,by simp [e2],fun i x j y v hx hy hv=> ?_⟩
     ·show ((do pure (.value (←Instr.alloc tt true (.tuple #[]))):Sem Next).run P w)=_
      simp [Instr.alloc,e1,newVar,newRow]
     ·cases i with
      |zero=>
       simp only [List.getElem?_cons_zero,Option.some.injEq,Nat.zero_mul,Nat.zero_add] at hx hv;subst hx;rw [e3] at hy;have hh:=fun (w:World) (A:aj)=>e5 w A j y v hy hv;exact ⟨fun w G φ A=> .fr _ _ (hh w A).1,(hh w (fun _=>False)).2⟩
      |succ i=>simp at hx
 |buildSlice t n ps=>
  simp only [ja,Bool.and_eq_true,bne_iff_ne,ne_eq,List.all_eq_true] at he;obtain ⟨hn,hc⟩:=he;have zp: ∀(s s' :ah),(ps.toList.map fun p=>(p.1,ev s p.2))=ps.toList.map fun p=>(p.1,ev s' p.2):=fun s s' =>List.map_congr_left fun p hp=>by
   have:=hc p hp;cases hq:p.2 with
   |const v=>rfl
   |tmp x=>rw [hq] at this;simp [kJ] at this
   |global x=>rfl
   |func x=>rfl
  unfold wpOp at h;simp only [aP,if_neg hn] at h;cases bn:cc C.E t with
  |none=>rw [bn] at h;exact h.2.elim
  |some te=>
   rw [bn] at h;obtain ⟨ti,e,ht,hu,cv⟩:=jh bn;cases hz:ep te with
   |none=>simp only [hz] at h;exact h.2.elim
   |some zA=>
    simp only [hz] at h;by_cases hcnd:n*te.sz≤1000000∧te.sz≠0
    ·rw [if_pos hcnd] at h;cases cR:gK te.sz (List.replicate n zA) (ps.toList.map fun p=>(p.1,ev s p.2)) with
     |none=>rw [cR] at h;exact h.2.elim
     |some el=>
      have parts: ∀(ρ :Operand→Value),(∀v,ρ (.const v)=v)→ ∀(w:World) (G:J) (φ :ag) (A:aj),∀p∈ps.toList,R w G φ A (ev s p.2) (ρ p.2):=fun ρ aT w G φ A p hp=>by
       have:=hc p hp;cases hq:p.2 with
       |const v=>rw [aT];exact .fr _ _ (FR.ofValue w A v)
       |tmp x=>rw [hq] at this;simp [kJ] at this
       |global x=>rw [hq] at this;simp [kJ] at this
       |func x=>rw [hq] at this;simp [kJ] at this
      have fill: ∀(ρ :Operand→Value),(∀v,ρ (.const v)=v)→ ∀(w0:World),∃(zv:Value) (cb:Array Value),(zeroValue e).run P w0= .ok zv w0∧Instr.fill (fun i=>some (i*te.sz,te.sz)) ((Array.range (n*te.sz)).map (fun k=>zv.cells[k % zv.cells.size]!)) ((ps.map fun (i,x)=>(i,ρ x)).toList)=some cb∧cb.size=el.length*te.sz∧el.length=n∧
       (∀(i:Nat) (x:AV),el[i]? =some x→x.cells.length=te.sz)∧m7 el te.sz cb:=fun ρ aT w0=>by
       obtain ⟨zv,z1,z2,z3,z4,_,z5⟩:=je (hE _ _ cv) hz w0;have go: ∀(w:World) (G:J) (φ :ag) (A:aj),_:=fun w G φ A=>og (w:=w) (G:=G) (φ := φ) (A:=A) hcnd.2 _ _ (List.replicate n zA) ((Array.range (n*te.sz)).map (fun k=>zv.cells[k % zv.cells.size]!)) _ (mb (_E:=C.E) (parts ρ aT w G φ A)).1 (mb (_E:=C.E) (parts ρ aT w G φ A)).2
        (by simp) (fun i x hx=>by
         simp only [List.getElem?_replicate] at hx;split at hx
         ·simp only [Option.some.injEq] at hx;subst hx;rw [z3,z4]
         ·simp at hx)
        (fun i x j y v hx hy hv=>by
         simp only [List.getElem?_replicate] at hx;split at hx
         ·rename_i hi;simp only [Option.some.injEq] at hx;subst hx;rw [z3] at hy;have hj:j<te.sz:=by rw [←z4];exact (List.getElem?_eq_some_iff.1 hy).1
          have:=z5 w A j y v hy (kT z2 hi hj hv);exact ⟨.fr _ _ this.1,this.2⟩
         ·simp at hx) cR
       obtain ⟨cb,f1,f2,f3,f4,f5⟩:=go w0 ⟨0,[]⟩ (fun _=>none) (fun _=>False);refine ⟨zv,cb,z1,f1,f2,by rw [f3];simp,f4,by rw [f2];exact Nat.le_refl _,fun i x j y v hx hy hv=>⟨fun w G φ A=> ?_,(f5 i x j y v hx hy hv).2⟩⟩
       obtain ⟨BD,g1,_,_,_,g5⟩:=go w G φ A;rw [f1] at g1;simp only [Option.some.injEq] at g1;subst g1;exact (g5 i x j y v hx hy hv).1
      obtain ⟨_,_,_,_,_,hlen,zq,_⟩:=fill (fun o=>match o with| .const v=>v|_=>undef) (fun _=>rfl) default
      refine ⟨te.sz,el,fun id ad=> .ref id ad 0 n,fun c=> .slice (some ⟨c,0,none⟩) n n,⟨fun X q th o' s' H K ho h=> ?_,zq,fun w G φ A id ad c hg hv a4 hb=> ?_⟩,fun a w=> ?_⟩
      ·obtain ⟨dst,op,ty,pos,after,guard⟩:=o';simp only at ho;subst ho;unfold wpOp at h;simp only [aP,if_neg hn,bn,hz,if_pos hcnd,zp s' s,cR] at h
       exact h.2
      ·exact j0 hg hv a4 (by simp [hlen]) (Nat.le_refl _) (by simp [hlen]) (by rw [←hlen];exact hb)
      ·obtain ⟨zv,cb,z1,f1,f2,_,_,lC⟩:=fill a.eval (fun _=>rfl) w;have iG:=(hE _ _ ht).sl w hu;have aH: ¬(n*te.sz=0):=by
        intro h0;rcases Nat.mul_eq_zero.1 h0 with h0|h0<;>omega
       have oj: ¬(n*te.sz>2^24):=by omega
       refine ⟨cb,e,?_,lC⟩;show ((do pure (.value (←Instr.buildSlice t n (ps.map fun (i,x)=>(i,a.eval x)))):Sem Next).run P w)=_
       simp only [Instr.buildSlice,Sem.run_bind,iG,Result.andThen_ok,(hE _ _ cv).sizeOf,oj,aH,if_false,z1,f1,Sem.run_pure,newRow,run_newObj,World.alloc_eq]
    ·rw [if_neg hcnd] at h;exact h.2.elim
 |_=>simp [ja] at he
structure m8 (w0 w:World) (φ :ag) (A:aj) (el:List AV) (sz n:Nat):Prop where
 old:w0.heap.size≤n
 lt:n<w.heap.size
 av:A n
 ow: ¬Ow φ n
 here: ∃arr T fr,w.heap[n]? =some (.cells arr T fr)∧(∀j,j<arr.size→ ¬(fr.1≤j∧j<fr.2))∧m7 el sz arr
theorem m8.mono {w0 w w' :World} {G G' :J} {φ ak:ag} {A A' :aj} {el:List AV} {sz n:Nat} (h:m8 w0 w φ A el sz n) (o:Out w G φ A w' G' ak A'):m8 w0 w' ak A' el sz n:=by
 refine ⟨h.old,Nat.lt_of_lt_of_le h.lt o.post.size,o.bQ n h.av h.ow,fun hw=> ?_,?_⟩
 ·rcases o.post.own n hw with k|k
  ·exact h.ow k
  ·have:=h.lt;omega
 ·rw [o.post.kept n h.lt h.ow];exact h.here
def jy (C:aK) (ops:Array Oper) (aF:List Nat) (w0 w:World) (φ :ag) (A:aj) (a:Act) (j n:Nat):Prop:=
 j∉aF∧ ∃(o:Oper) (d:Tmp) (sz:Nat) (el:List AV) (x:Nat→Nat→AV) (uv:Nat→Value),ops[j]? =some o∧o.guard=none∧o.dst=some d∧pK C o.op sz el x uv∧m8 w0 w φ A el sz n∧
  ∀u,a.tmps[d]? =some u→u=uv n
theorem jy.mono {C:aK} {ops:Array Oper} {aF:List Nat} {w0 w w' :World} {G G' :J} {φ ak:ag} {A A' :aj} {a a' :Act} {j n:Nat} (h:jy C ops aF w0 w φ A a j n) (o:Out w G φ A w' G' ak A')
 (ht: ∀(r:Oper) (d:Tmp),ops[j]? =some r→r.dst=some d→a'.tmps[d]? =a.tmps[d]?):jy C ops aF w0 w' ak A' a' j n:=by
 obtain ⟨h0,r,d,sz,el,x,uv,h1,h2,h4,h5,h7,h8⟩:=h;exact ⟨h0,r,d,sz,el,x,uv,h1,h2,h4,h5,h7.mono o,fun u hu=>h8 u (by rw [←ht r d h1 h4];exact hu)⟩
structure Inv (C:aK) (ops:Array Oper) (aF:List Nat) (s:Nat→ah) (H:Nat→J) (v:Nat→AV) (w0:World) (aB:ag) (A0:aj) (listed:Array Bool) (a:Act) (w:World) (b c:Nat) (φ :ag) (A:aj) (pn:Nat→Nat):Prop where
 size:listed.size=ops.size
 shut:so ops (fun i=>listed.getD i false=true)
 bc:b≤c
 cn:c≤ops.size
 cl:c=ops.size∨c∈aF
 iu: ∀i,b≤i→i<c→i∉aF
 iP: ∀i,i∈aF→i<ops.size→(listed.getD i false=true↔i<b)
 base:b=0∨(b-1∈aF∧0<b)
 out:Out w0 (H 0) aB A0 w (H c) φ A
 none: ∀i,b≤i→i<c→listed.getD i false=false→ ∀id,(H i).bs.length≤id→id<(H (i+1)).bs.length→ φ id=none
 eS:a.defers=[]
 len:(s 0).length=a.tmps.size
 wr: ∀(k:Nat) (o:Oper) (d:Tmp) (u:Value),ops[k]? =some o→o.dst=some d→listed.getD k false=true→k<c→a.tmps[d]? =some u→R w (H c) φ A (v k) u
 early: ∀(k:Nat),c≤k→listed.getD k false=true→jy C ops aF w0 w φ A a k (pn k)
 m9: ∀(j k:Nat),c≤j→c≤k→listed.getD j false=true→listed.getD k false=true→pn j=pn k→j=k
 un: ∀(x:Tmp) (u:Value),(∀(k:Nat) (o:Oper),ops[k]? =some o→o.dst=some x→listed.getD k false=false)→a.tmps[x]? =some u→R w (H c) φ A ((s 0).getD x .undef) u
theorem m_ {listed:Array Bool} {i:Nat} (hi:i<listed.size) (k:Nat):(listed.setIfInBounds i true).getD k false=true↔(k=i∨listed.getD k false=true):=by
 by_cases hk:k=i
 ·subst hk;simp [hi]
 ·rw [getD_set_ne false (fun h=>hk h.symm)];simp [hk]
variable {w0:World} {aB:ag} {A0:aj} {listed:Array Bool} {a:Act} {w:World} {b c:Nat} {φ :ag} {A:aj} {pn:Nat→Nat}
theorem Inv.look (inv:Inv C ops aF s H v w0 aB A0 listed a w b c φ A pn) (dk:il ops aF) (t:iO X C ops aF th K s H v act) {i:Nat} {o:Oper} (gy:i≤c) (ho:ops[i]? =some o) (hu:listed.getD i false=false) (ha: ∀e∈o.after,Region.binds .any e=true→listed.getD e.on false=true)
 {m:Nat} (hm:m≤ops.size) (su:i≤m) (iQ:m=i∨ ∀(k:Nat) (r:Oper) (d:Tmp),ops[k]? =some r→r.dst=some d→i≤k→d∉Oper.looksAt ops o) {x:Tmp} (hx:x∈Oper.looksAt ops o):R w (H c) φ A (ev (s m) (.tmp x)) (a.eval (.tmp x)):=by
 obtain ⟨hl,hg⟩:=m6 dk t m hm;simp only [ev,Act.eval];by_cases ax:x<(s 0).length
 ·have zr:x<a.tmps.size:=by rw [←inv.len];exact ax
  have aQ:=Array.getElem?_eq_getElem zr
  rw [Array.getD_eq_getD_getElem?,aQ,Option.getD_some];by_cases hw: ∃(k:Nat) (r:Oper),ops[k]? =some r∧r.dst=some x
  ·obtain ⟨k,r,hk,hr⟩:=hw;rcases Nat.lt_trichotomy k i with bX|bX|bX
   ·have hb:=dk.ord i k o r x (by omega) ho hk hr hx
    rw [show max i k=i by omega,show min i k=k by omega] at hb
    have bN:=mZ inv.shut dk.back i o ho ha k hb;rw [(hg x ax).1 k r (by omega) hk hr]
    exact inv.wr k r x _ hk hr bN (by omega) aQ
   ·subst bX;rw [ho] at hk;simp only [Option.some.injEq] at hk;subst hk;rcases iQ with rfl|iQ
    ·rw [(hg x ax).2 (fun k' o' bJ eI=>dk.gY k' m o' o x (by omega) eI ho hr)]
     refine inv.un x _ (fun k' o' eI ca=> ?_) aQ
     by_cases lD:k' =m
     ·subst lD;exact hu
     ·exact absurd ca (dk.gY k' m o' o x lD eI ho hr)
    ·exact absurd hx (iQ k o x ho hr (Nat.le_refl _))
   ·rcases iQ with rfl|iQ
    ·have hb:=dk.ord m k o r x (by omega) ho hk hr hx
     rw [show max m k=k by omega,show min m k=m by omega] at hb
     have zt:listed.getD k false=false:=by
      cases hq:listed.getD k false with
      |false=>rfl
      |true=>
       have:=mZ inv.shut dk.back k r hk (inv.shut k r hk hq) m hb;rw [hu] at this;simp at this
     rw [(hg x ax).2 (fun k' o' bJ eI=>dk.gY k' k o' r x (by omega) eI hk hr)]
     refine inv.un x _ (fun k' o' eI ca=> ?_) aQ
     by_cases lD:k' =k
     ·subst lD;exact zt
     ·exact absurd ca (dk.gY k' k o' r x lD eI hk hr)
    ·exact absurd hx (iQ k r x hk hr (by omega))
  ·rw [(hg x ax).2 (fun k' o' _ eI ca=>hw ⟨k',o',eI,ca⟩)]
   exact inv.un x _ (fun k' o' eI ca=>absurd ⟨k',o',eI,ca⟩ hw) aQ
 ·have:(s m).getD x .undef= .undef:=by simp [List.getD,List.getElem?_eq_none (show (s m).length≤x by rw [hl];exact Nat.le_of_not_lt ax)]
  rw [this];exact .fr _ _ (.undef _)
theorem Inv.pL (inv:Inv C ops aF s H v w0 aB A0 listed a w b c φ A pn) (dk:il ops aF) (t:iO X C ops aF th K s H v act) {i:Nat} {o:Oper} (gy:i≤c) (ho:ops[i]? =some o) (hu:listed.getD i false=false) (ha: ∀e∈o.after,Region.binds .any e=true→listed.getD e.on false=true)
 {m:Nat} (hm:m≤ops.size) (su:i≤m) (iQ:m=i∨ ∀(k:Nat) (r:Oper) (d:Tmp),ops[k]? =some r→r.dst=some d→i≤k→d∉Oper.looksAt ops o): ∀y∈o.op.operands,R w (H c) φ A (ev (s m) y) (a.eval y):=by
 intro y hy;cases y with
 |tmp x=>
  refine inv.look dk t gy ho hu ha hm su iQ ?_;unfold Oper.looksAt;refine List.mem_append.2 (.inl (List.mem_filterMap.2 ⟨.tmp x,by simpa using hy,rfl⟩))
 |const v=>exact .fr _ _ (FR.ofValue w A v)
 |global g=>exact .fr _ _ (.undef _)
 |func f=>exact .fr _ _ (.fn f [] #[] rfl (by simp))
theorem Inv.ly (inv:Inv C ops aF s H v w0 aB A0 listed a w b c φ A pn) (c7:St w0 (H 0) aB A0) (dk:il ops aF) (t:iO X C ops aF th K s H v act) {i:Nat} {o:Oper} (gy:i<c) (ho:ops[i]? =some o) (hl:i∉aF) (ha: ∀e∈o.after,Region.binds .any e=true→listed.getD e.on false=true)
 {u:Value} {w' :World} {φ1:ag} {A1:aj} (bL:Out w (H c) φ A w' (H c) φ1 A1) (hr: ∀d,o.dst=some d→d<a.tmps.size→R w' (H c) φ1 A1 (v i) u)
 (bH: ∀id loc,φ1 id=some loc→ φ id=some loc∨(b≤i∧i<c∧(H i).bs.length≤id∧id<(H (i+1)).bs.length)):Inv C ops aF s H v w0 aB A0 (listed.setIfInBounds i true) (a.put o.dst u) w' b c φ1 A1 pn:=by
 have hi:i<ops.size:=(Array.getElem?_eq_some_iff.1 ho).1;have aG:i<listed.size:=by rw [inv.size];exact hi
 have bR:=m_ aG;have jz: ∀k,(listed.setIfInBounds i true).getD k false=false→k≠i∧listed.getD k false=false:=fun k hk=>by
  have:=(not_congr (bR k)).1 (by rw [hk];simp)
  refine ⟨fun h=>this (.inl h),?_⟩;cases hq:listed.getD k false with
  |false=>rfl
  |true=>exact absurd (.inr hq) this
 refine ⟨by simp [inv.size],fun k r hk bN e he hb=> ?_,inv.bc,inv.cn,inv.cl,inv.iu,fun k hk lE=> ?_,inv.base,inv.out.trans c7 bL,fun k h1 h2 h3 id h4 h5=> ?_,?_,?_,fun k r d u' hk bO bN eB aQ=> ?_,fun k jA bN=> ?_,fun j k hj hk iR bN hp=>inv.m9 j k hj hk (((bR j).1 iR).resolve_left (by omega)) (((bR k).1 bN).resolve_left (by omega)) hp,fun x u' fu aQ=> ?_⟩
 ·rcases (bR k).1 bN with rfl|bN
  ·rw [ho] at hk;simp only [Option.some.injEq] at hk;subst hk;exact (bR _).2 (.inr (ha e he hb))
  ·exact (bR _).2 (.inr (inv.shut k r hk bN e he hb))
 ·rw [bR,←inv.iP k hk lE];constructor
  ·rintro (rfl|h)
   ·exact absurd hk hl
   ·exact h
  ·exact .inr
 ·obtain ⟨bX,bN⟩:=jz k h3;have lF:=inv.cn;cases hq: φ1 id with
  |none=>rfl
  |some loc=>
   rcases bH id loc hq with h|⟨h6,h7,h8,h9⟩
   ·rw [inv.none k h1 h2 bN id h4 h5] at h;simp at h
   ·exfalso;rcases Nat.lt_or_ge k i with ax|zu
    ·have:=(iq t (i-(k+1)) (k+1) (by omega) (fun j j1 j2=>inv.iu j (by omega) (by omega))).1.2
     rw [show k+1+(i-(k+1))=i by omega] at this
     omega
    ·have:=(iq t (k-(i+1)) (i+1) (by omega) (fun j j1 j2=>inv.iu j (by omega) (by omega))).1.2
     rw [show i+1+(k-(i+1))=k by omega] at this
     omega
 ·cases hd:o.dst<;>simp [Act.put,inv.eS]
 ·cases hd:o.dst<;>simp [Act.put,inv.len]
 ·by_cases bX:k=i
  ·subst bX;rw [ho] at hk;simp only [Option.some.injEq] at hk;subst hk;rw [bO] at aQ;simp only [Act.put,Array.getElem?_setIfInBounds] at aQ;simp only [if_true] at aQ;split at aQ
   ·rename_i ax;simp only [Option.some.injEq] at aQ;subst aQ;exact hr d bO ax
   ·simp at aQ
  ·have bN:=((bR k).1 bN).resolve_left bX;have aH:o.dst≠some d:=dk.gY i k o r d (fun h=>bX h.symm) ho hk bO;have:a.tmps[d]? =some u' :=by
    cases hd:o.dst with
    |none=>rw [hd] at aQ;exact aQ
    |some d' =>
     rw [hd] at aQ;simp only [Act.put,Array.getElem?_setIfInBounds] at aQ;rw [if_neg (by rintro rfl;exact aH hd)] at aQ
     exact aQ
   exact (inv.wr k r d u' hk bO bN eB this).mono bL.b8
 ·have bX:k≠i:=by omega
  refine (inv.early k jA (((bR k).1 bN).resolve_left bX)).mono bL fun r d hk bO=> ?_
  have aH:o.dst≠some d:=dk.gY i k o r d (fun h=>bX h.symm) ho hk bO;cases hd:o.dst with
  |none=>rfl
  |some d' =>
   simp only [Act.put,Array.getElem?_setIfInBounds];rw [if_neg (by rintro rfl;exact aH hd)]
 ·have aH:o.dst≠some x:=fun hd=>by have:=fu i o ho hd;have h2:=(bR i).2 (.inl rfl);rw [this] at h2;simp at h2
  have:a.tmps[x]? =some u' :=by
   cases hd:o.dst with
   |none=>rw [hd] at aQ;exact aQ
   |some d' =>
    rw [hd] at aQ;simp only [Act.put,Array.getElem?_setIfInBounds] at aQ;rw [if_neg (by rintro rfl;exact aH hd)] at aQ
    exact aQ
  exact (inv.un x u' (fun k r hk bO=>(jz k (fu k r hk bO)).2) this).mono bL.b8
theorem zw {w:World} {G:J} {φ :ag} {A:aj} (ae:St w G φ A) (o:Obj):Out w G φ A (w.alloc o) G φ (fun c=>A c∨c=w.heap.size):=by
 have a7:bT w G φ A (w.alloc o) G φ (fun c=>A c∨c=w.heap.size):=⟨fun c a t fr hc hn=>⟨⟨fr,by rw [heap_alloc_old w _ (gR hc)];exact hc⟩,fun h=>by have:=gR hc;rcases h with h|h;exact hn h;omega⟩,Nat.le_refl _,
  fun i b' ay _=>⟨b',ay,rfl,rfl,rfl,rfl,fun loc hl=>hl⟩,fun c hc=>by unfold bj;rw [heap_alloc_old w _ (Ow.lt ae hc)]⟩
 refine ⟨⟨ae.inj,fun c hc=> .inl (ae.own c hc),fun c hc=> ?_,fun i loc hl=> ?_⟩,
  ⟨rfl,rfl,rfl,by simp,fun c hc _=>heap_alloc_old w _ hc,fun c hc=>by unfold bj;rw [heap_alloc_old w _ hc],fun c hc=> .inl hc⟩,a7,fun c hc _=> .inl hc⟩
 ·simp only [World.size_alloc];rcases hc with h|h
  ·have:=ae.cj c h;omega
  ·omega
 obtain ⟨b',de,ay⟩:=ae.aq i loc hl;refine ⟨b',de,ay.ad,ay.sized,ay.aS,fun c b0 h=> ?_⟩;obtain ⟨a,t,fr,h1,h2,h3,h4⟩:=ay.here c b0 h;exact ⟨a,t,fr,by rw [heap_alloc_old w _ (gR h1)];exact h1,h2,h3,fun i x j y v hx hy hv=>⟨(h4 i x j y v hx hy hv).1.mono a7,(h4 i x j y v hx hy hv).2⟩⟩
theorem Inv.zx (inv:Inv C ops aF s H v w0 aB A0 listed a w b c φ A pn) (c7:St w0 (H 0) aB A0) (dk:il ops aF) {i:Nat} {o:Oper} (BE:c≤i) (ho:ops[i]? =some o) (BF:listed.getD i false=false) (hl:i∉aF) (hg:o.guard=Option.none) {d:Tmp} (hd:o.dst=some d)
 {sz:Nat} {el:List AV} {x:Nat→Nat→AV} {uv:Nat→Value} (bA:pK C o.op sz el x uv) (ha: ∀e∈o.after,Region.binds .any e=true→listed.getD e.on false=true) {arr:Array Value} {T:TypeId} (lC:m7 el sz arr):
 Inv C ops aF s H v w0 aB A0 (listed.setIfInBounds i true) (a.put o.dst (uv w.heap.size)) (w.alloc (.cells arr T)) b c φ (fun k=>A k∨k=w.heap.size) (fun k=>if k=i then w.heap.size else pn k):=by
 have hi:i<ops.size:=(Array.getElem?_eq_some_iff.1 ho).1;have zy:i<listed.size:=by rw [inv.size];exact hi
 have bR:=m_ zy;have bL:=zw inv.out.st (.cells arr T);have jz: ∀k,(listed.setIfInBounds i true).getD k false=false→k≠i∧listed.getD k false=false:=fun k hk=>by
  have:=(not_congr (bR k)).1 (by rw [hk];simp)
  refine ⟨fun h=>this (.inl h),?_⟩;cases hq:listed.getD k false with
  |false=>rfl
  |true=>exact absurd (.inr hq) this
 have kq: ∀(x:Tmp),o.dst≠some x→(a.put o.dst (uv w.heap.size)).tmps[x]? =a.tmps[x]? :=fun x aH=>by
  rw [hd] at aH⊢;simp only [Act.put,Array.getElem?_setIfInBounds];rw [if_neg (by rintro rfl;exact aH rfl)]
 refine ⟨by simp [inv.size],fun k r hk bN e he hb=> ?_,inv.bc,inv.cn,inv.cl,inv.iu,fun k hk lE=> ?_,inv.base,inv.out.trans c7 bL,fun k h1 h2 h3 id h4 h5=>inv.none k h1 h2 (jz k h3).2 id h4 h5,?_,?_,fun k r d' u' hk bO bN eB aQ=> ?_,fun k jA bN=> ?_,fun j k hj hk iR bN hp=> ?_,fun x u' fu aQ=> ?_⟩
 ·rcases (bR k).1 bN with rfl|bN
  ·rw [ho] at hk;simp only [Option.some.injEq] at hk;subst hk;exact (bR _).2 (.inr (ha e he hb))
  ·exact (bR _).2 (.inr (inv.shut k r hk bN e he hb))
 ·rw [bR,←inv.iP k hk lE];constructor
  ·rintro (rfl|h)
   ·exact absurd hk hl
   ·exact h
  ·exact .inr
 ·rw [hd];simp [Act.put,inv.eS]
 ·rw [hd];simp [Act.put,inv.len]
 ·have bX:k≠i:=by omega
  have aH:o.dst≠some d' :=dk.gY i k o r d' (fun h=>bX h.symm) ho hk bO
  rw [kq d' aH] at aQ
  exact (inv.wr k r d' u' hk bO (((bR k).1 bN).resolve_left bX) eB aQ).mono bL.b8
 ·by_cases bX:k=i
  ·subst bX;simp only [if_true];refine ⟨hl,o,d,sz,el,x,uv,ho,hg,hd,bA,⟨inv.out.post.size,by simp,.inr rfl,fun h=>by have:=Ow.lt inv.out.st h;omega,arr,T,(0,0),heap_alloc_new w _,fun j _ h=>absurd h.2 (Nat.not_lt_zero j),lC⟩,fun u hu=> ?_⟩
   rw [hd] at hu;simp only [Act.put,Array.getElem?_setIfInBounds,if_true] at hu;split at hu
   ·simpa using hu.symm
   ·simp at hu
  ·simp only [if_neg bX];exact (inv.early k jA (((bR k).1 bN).resolve_left bX)).mono bL fun r d' hk bO=>kq d' (dk.gY i k o r d' (fun h=>bX h.symm) ho hk bO)
 ·have one: ∀k,c≤k→(listed.setIfInBounds i true).getD k false=true→k≠i→pn k≠w.heap.size:=fun k jA bN bX he=>by
   obtain ⟨_,_,_,_,_,_,_,_,_,_,_,hp,_⟩:=inv.early k jA (((bR k).1 bN).resolve_left bX);have:=hp.lt;omega
  by_cases kr:j=i
  ·by_cases bX:k=i
   ·rw [kr,bX]
   ·simp only [kr,if_true,if_neg bX] at hp;exact absurd hp.symm (one k hk bN bX)
  ·by_cases bX:k=i
   ·simp only [bX,if_true,if_neg kr] at hp;exact absurd hp (one j hj iR kr)
   ·simp only [if_neg kr,if_neg bX] at hp;exact inv.m9 j k hj hk (((bR j).1 iR).resolve_left kr) (((bR k).1 bN).resolve_left bX) hp
 ·have aH:o.dst≠some x:=fun hd=>by have:=fu i o ho hd;have h2:=(bR i).2 (.inl rfl);rw [this] at h2;simp at h2
  rw [kq x aH] at aQ;exact (inv.un x u' (fun k r hk bO=>(jz k (fu k r hk bO)).2) aQ).mono bL.b8
theorem fill (t:iO X C ops aF th K s H v act) (c7:St w0 (H 0) aB A0) {lst:Nat→Prop} {lo hi:Nat} (hq: ∀j,lo≤j→j≤hi→QG (H j) (H hi)) (hlen: ∀j k,lo≤j→j≤k→k≤hi→(H j).bs.length≤(H k).bs.length)
 (hinj: ∀j k,lo≤j→lo≤k→lst j→lst k→pn j=pn k→j=k) (bL:Out w0 (H 0) aB A0 w (H hi) φ A) (hE: ∀j,lo≤j→lst j→jy C ops aF w0 w φ A a j (pn j)) (ib: ∀id,(H lo).bs.length≤id→ φ id=none):
 ∀m,lo≤m→m≤hi→ ∃a8,Out w0 (H 0) aB A0 w (H hi) a8 A∧bT w (H hi) φ A w (H hi) a8 A∧(∀j,lo≤j→j<m→lst j→ ∀(o:Oper) (d:Tmp) (u:Value),ops[j]? =some o→o.dst=some d→a.tmps[d]? =some u→R w (H hi) a8 A (v j) u)∧
  (∀id loc,a8 id=some loc→ φ id=some loc∨ ∃j,lo≤j∧j<m∧lst j∧(H j).bs.length≤id∧id<(H (j+1)).bs.length)∧(∀j,m≤j→lst j→jy C ops aF w0 w a8 A a j (pn j)):=by
 intro m hm;obtain ⟨k,rfl⟩:=Nat.exists_eq_add_of_le hm;clear hm;induction k with
 |zero=>exact fun _=>⟨φ,bL,.refl _ _ _ _,fun j h1 h2=>by omega,fun id loc h=> .inl h,hE⟩
 |succ k ih=>
  intro sw;obtain ⟨a8,k1,k2,k3,k4,k5⟩:=ih (by omega)
  rw [show lo+(k+1)=lo+k+1 by omega] at sw⊢
  have hm:lo≤lo+k:=Nat.le_add_right _ _;generalize lo+k=m at hm sw k3 k4 k5⊢;by_cases hL:lst m
  ·obtain ⟨ko,o,d,sz,el,x,uv,e1,e2,e4,e5,hp,hu⟩:=k5 m (Nat.le_refl _) hL;obtain ⟨_,s2,s3,_,_⟩:=t.step m o (by rw [Array.getElem?_toList];exact e1)
   have fv:act m=true:=by
    simp only [dG,e2,Option.some.injEq] at s2;exact s2.symm
   have hw:=s3 fv;obtain ⟨hv,hH⟩:v m=x (H m).bs.length (H m).st∧H (m+1)=(H m).new sz false el:=by
    have:=e5.ev _ _ _ _ _ _ _ rfl hw;exact ⟨this.1.symm,this.2.symm⟩
   have cQ:=hq (m+1) (by omega) (by omega)
   have hb:(H hi).get (H m).bs.length=some ⟨(H m).st,sz,false,el⟩:=by
    refine cQ.1.1.1 _ _ ?_;rw [hH];simp [J.get,J.new]
   have bz:(H m).st<(H hi).st:=by
    have:=cQ.1.1.2;rw [hH] at this;exact this
   have a4:a8 (H m).bs.length=none:=by
    cases hc:a8 (H m).bs.length with
    |none=>rfl
    |some loc=>
     exfalso;rcases k4 _ _ hc with h|⟨j,h1,h2,_,_,h4⟩
     ·rw [ib _ (hlen lo m (Nat.le_refl _) hm (by omega))] at h;simp at h
     ·have:=hlen (j+1) m (by omega) (by omega) (by omega)
      omega
   obtain ⟨arr,T,fr,h1,h2,h3,h5⟩:=hp.here
   let c8:ag:=fun i=>if i=(H m).bs.length then some (.at_ (pn m) 0) else a8 i
   have dY: ∀c,Ow c8 c→Ow a8 c∨c=pn m:=by
    rintro c ⟨i,b0,h⟩;simp only [c8] at h;split at h
    ·simp only [Option.some.injEq,Loc.at_.injEq] at h;exact .inr h.1.symm
    ·exact .inl ⟨i,b0,h⟩
   have a7:bT w (H hi) a8 A w (H hi) c8 A:=by
    refine ⟨fun c a t fr hc hn=>⟨⟨fr,hc⟩,hn⟩,Nat.le_refl _,fun i b' ay _=>⟨b',ay,rfl,rfl,rfl,rfl,fun loc hl=> ?_⟩,fun _ _=>rfl⟩
    simp only [c8];split
    ·rename_i h;subst h;rw [a4] at hl;simp at hl
    ·exact hl
   have lG:St w (H hi) c8 A:=by
    refine ⟨fun i i' c b0 b1 h1 h2=> ?_,fun c hc=> ?_,k1.st.cj,fun i loc hl=> ?_⟩
    ·simp only [c8] at h1 h2;split at h1
     ·rename_i fN;split at h2
      ·rename_i BG;omega
      ·simp only [Option.some.injEq,Loc.at_.injEq] at h1;exact absurd ⟨i',b1,by rw [h1.1];exact h2⟩ hp.ow
     ·split at h2
      ·simp only [Option.some.injEq,Loc.at_.injEq] at h2;exact absurd ⟨i,b0,by rw [h2.1];exact h1⟩ hp.ow
      ·exact k1.st.inj i i' c b0 b1 h1 h2
    ·rcases dY c hc with h|h
     ·exact k1.st.own c h
     ·rw [h];exact hp.av
    ·simp only [c8] at hl;split at hl
     ·rename_i fN;subst fN;simp only [Option.some.injEq] at hl;subst hl;refine ⟨_,hb,bz,e5.zn,by simp,fun c b0 h=> ?_⟩
      simp only [Loc.at_.injEq] at h;obtain ⟨rfl,rfl⟩:=h;refine ⟨arr,T,fr,h1,h2,by rw [Nat.zero_add];exact h3,fun i x j y v hx hy hv=> ?_⟩
      rw [Nat.zero_add] at hv;obtain ⟨g1,g2⟩:=h5 i x j y v hx hy hv;exact ⟨g1 _ _ _ _,g2⟩
     ·obtain ⟨b',de,ay⟩:=k1.st.aq i loc hl;refine ⟨b',de,ay.ad,ay.sized,ay.aS,fun c b0 h=> ?_⟩;obtain ⟨a,t,fr,h1,h2,h3,h4⟩:=ay.here c b0 h;exact ⟨a,t,fr,h1,h2,h3,fun i x j y v hx hy hv=>⟨(h4 i x j y v hx hy hv).1.mono a7,(h4 i x j y v hx hy hv).2⟩⟩
   have zB:Out w0 (H 0) aB A0 w (H hi) c8 A:=by
    refine ⟨lG,⟨k1.post.os,k1.post.tape,k1.post.output,k1.post.size,k1.post.kept,k1.post.bj,fun c hc=> ?_⟩,k1.b8.trans a7 (fun c hc=>k1.post.bj c (Ow.lt c7 hc)),k1.bQ⟩;rcases dY c hc with h|h
    ·exact k1.post.own c h
    ·right;rw [h];exact hp.old
   refine ⟨c8,zB,k2.trans a7 (fun _ _=>rfl),fun j j1 j2 j3 o' d' u' q1 q2 q3=> ?_,fun id loc h=> ?_,fun j j1 j2=> ?_⟩
   ·by_cases pM:j=m
    ·subst pM;rw [e1] at q1;simp only [Option.some.injEq] at q1;subst q1;rw [e4] at q2;simp only [Option.some.injEq] at q2;subst q2;rw [hu u' q3,hv]
     exact e5.rel _ _ _ _ _ _ _ hb bz (by simp [c8]) (by unfold bj;rw [h1];exact h3)
    ·exact (k3 j j1 (by omega) j3 o' d' u' q1 q2 q3).mono a7
   ·simp only [c8] at h;split at h
    ·rename_i bU;refine .inr ⟨m,hm,Nat.lt_succ_self _,hL,by omega,?_⟩
     rw [hH];simp [J.new];omega
    ·rcases k4 id loc h with h|⟨j,q1,q2,q3⟩
     ·exact .inl h
     ·exact .inr ⟨j,q1,by omega,q3⟩
   ·obtain ⟨g0,r,d',zC,fi,x',zD,g1,g2,g4,g5,g7,g8⟩:=k5 j (by omega) j2
    refine ⟨g0,r,d',zC,fi,x',zD,g1,g2,g4,g5,⟨g7.old,g7.lt,g7.av,fun h=> ?_,g7.here⟩,g8⟩;rcases dY _ h with h|h
    ·exact g7.ow h
    ·have:=hinj j m (by omega) hm j2 hL h
     omega
  ·refine ⟨a8,k1,k2,fun j j1 j2 j3=> ?_,fun id loc h=> ?_,fun j j1 j2=>k5 j (by omega) j2⟩
   ·by_cases pM:j=m
    ·subst pM;exact absurd j3 hL
    ·exact k3 j j1 (by omega) j3
   ·rcases k4 id loc h with h|⟨j,q1,q2,q3⟩
    ·exact .inl h
    ·exact .inr ⟨j,q1,by omega,q3⟩
end draw
end Go.VS
namespace Go.VS
section draw
variable {P:Program} {C:aK} {X:bK} {ops:Array Oper} {aF:List Nat} {th:List Nat} {K:ah→J→Prop} {s:Nat→ah} {H:Nat→J} {v:Nat→AV} {act:Nat→Bool}
variable {w0:World} {aB:ag} {A0:aj} {listed:Array Bool} {a:Act} {w:World} {b c:Nat} {φ :ag} {A:aj} {pn:Nat→Nat}
theorem Inv.zE (inv:Inv C ops aF s H v w0 aB A0 listed a w b c φ A pn) (dk:il ops aF) {i:Nat} {o:Oper} (ho:ops[i]? =some o) (ha: ∀e∈o.after,Region.binds .any e=true→listed.getD e.on false=true):i≤c∨(i∉aF∧o.guard=Option.none∧ja o.op=true∧ ∃d,o.dst=some d):=by
 rcases Nat.lt_or_ge c i with h|h
 ·have hi:i<ops.size:=(Array.getElem?_eq_some_iff.1 ho).1;rcases inv.cl with hc|hc
  ·omega
  ·have zF:=Array.getElem?_eq_getElem (xs:=ops) (show c<ops.size by omega)
   rcases dk.after c i _ o zF ho hc h with hb|hb
   ·exfalso;have hL:=mZ inv.shut dk.back i o ho ha c hb;have:=(inv.iP c hc (by omega)).1 hL
    have:=inv.bc;omega
   ·exact .inr hb
 ·exact .inl h
theorem Inv.sx (inv:Inv C ops aF s H v w0 aB A0 listed a w b c φ A pn) (c7:St w0 (H 0) aB A0) (dk:il ops aF) (t:iO X C ops aF th K s H v act) {o:Oper} (ho:ops[c]? =some o) (hl:c∈aF) (ha: ∀e∈o.after,Region.binds .any e=true→listed.getD e.on false=true)
 {u:Value} {w' :World} {φ1:ag} {A1:aj} (bL:Out w (H c) φ A w' (H (c+1)) φ1 A1) (hr:R w' (H (c+1)) φ1 A1 (v c) u): ∃c' a8,Inv C ops aF s H v w0 aB A0 (listed.setIfInBounds c true) (a.put o.dst u) w' (c+1) c' a8 A1 pn:=by
 have hi:c<ops.size:=(Array.getElem?_eq_some_iff.1 ho).1;have aG:c<listed.size:=by rw [inv.size];exact hi
 have bR:=m_ aG;have zG:=inv.bc;have BH:listed.getD c false=false:=by
  cases hq:listed.getD c false with
  |false=>rfl
  |true=>have:=(inv.iP c hl hi).1 hq;omega
 have jz: ∀k,(listed.setIfInBounds c true).getD k false=false→k≠c∧listed.getD k false=false:=fun k hk=>by
  have:=(not_congr (bR k)).1 (by rw [hk];simp)
  refine ⟨fun h=>this (.inl h),?_⟩;cases hq:listed.getD k false with
  |false=>rfl
  |true=>exact absurd (.inr hq) this
 have kq: ∀(k:Nat) (r:Oper) (d:Tmp),k≠c→ops[k]? =some r→r.dst=some d→(a.put o.dst u).tmps[d]? =a.tmps[d]? :=fun k r d eB hk bO=>by
  have aH:o.dst≠some d:=dk.gY c k o r d (fun h=>eB h.symm) ho hk bO;cases hd:o.dst with
  |none=>rfl
  |some d' =>
   simp only [Act.put,Array.getElem?_setIfInBounds];rw [if_neg (by rintro rfl;exact aH hd)]
 obtain ⟨c',k1,k2,k3,k4⟩:=pJ aF ops.size (ops.size-(c+1)) (c+1) rfl (by omega)
 have hQ: ∀j k,c+1≤j→j≤k→k≤c' →QG (H j) (H k):=fun j k h1 h2 h3=>by
  have:=iq t (k-j) j (by omega) (fun i i1 i2=>k4 i (by omega) (by omega))
  rwa [show j+(k-j)=k by omega] at this
 have gZ:=hQ (c+1) c' (Nat.le_refl _) k1 (Nat.le_refl _)
 have hlen: ∀j k,c+1≤j→j≤k→k≤c' →(H j).bs.length≤(H k).bs.length:=fun j k h1 h2 h3=>(hQ j k h1 h2 h3).1.2
 have hex:=jk bL.st gZ.1.1 gZ.2;have a7:=bL.b8.trans hex.b8 (fun k hk=>by rw [(bL.post.trans hex.post).bj k (Ow.lt inv.out.st hk)])
 have hE: ∀j,c+1≤j→(listed.setIfInBounds c true).getD j false=true→jy C ops aF w0 w' φ1 A1 (a.put o.dst u) j (pn j):=fun j hj hL=>
  (inv.early j (by omega) (((bR j).1 hL).resolve_left (by omega))).mono bL fun r d hk bO=>kq j r d (by omega) hk bO
 obtain ⟨a8,o2,pN,r2,m2,e2⟩:=fill (lst:=fun j=>(listed.setIfInBounds c true).getD j false=true) t c7 (fun j h1 h2=>hQ j c' h1 h2 (Nat.le_refl _)) hlen
  (fun j k hj hk iR bN hp=>inv.m9 j k (by omega) (by omega) (((bR j).1 iR).resolve_left (by omega)) (((bR k).1 bN).resolve_left (by omega)) hp) ((inv.out.trans c7 bL).trans c7 hex) hE (fun id h=>bL.st.new h) c' k1 (Nat.le_refl _)
 refine ⟨c',a8,by simp [inv.size],fun k r hk bN e he hb=> ?_,k1,k2,k3,k4,fun k hk lE=> ?_,.inr ⟨by simpa using hl,Nat.succ_pos _⟩,o2,fun k h1 h2 h3 id h4 h5=> ?_,?_,?_,fun k r d u' hk bO bN zH aQ=> ?_,fun k jA bN=>e2 k jA bN,
  fun j k hj hk iR bN hp=>inv.m9 j k (by omega) (by omega) (((bR j).1 iR).resolve_left (by omega)) (((bR k).1 bN).resolve_left (by omega)) hp,fun x u' fu aQ=> ?_⟩
 ·by_cases eB:k=c
  ·subst eB;rw [ho] at hk;simp only [Option.some.injEq] at hk;subst hk;exact (bR _).2 (.inr (ha e he hb))
  ·exact (bR _).2 (.inr (inv.shut k r hk (((bR k).1 bN).resolve_left eB) e he hb))
 ·rw [bR,inv.iP k hk lE];constructor
  ·rintro (h|h)<;>omega
  ·intro h;by_cases eB:k=c
   ·exact .inl eB
   ·right;rcases Nat.lt_or_ge k b with h' |h'
    ·exact h'
    ·exact absurd hk (inv.iu k h' (by omega))
 ·cases hp:a8 id with
  |none=>rfl
  |some loc=>
   exfalso;rcases m2 id loc hp with h|⟨j,j1,j2,j3,j4,j5⟩
   ·rw [bL.st.new (Nat.le_trans (hlen (c+1) k (Nat.le_refl _) h1 (by omega)) h4)] at h;simp at h
   ·have:j=k:=by
     rcases Nat.lt_trichotomy j k with h|h|h
     ·have:=hlen (j+1) k (by omega) (by omega) (by omega);omega
     ·exact h
     ·have:=hlen (k+1) j (by omega) (by omega) (by omega);omega
    subst this;rw [h3] at j3;simp at j3
 ·cases hd:o.dst<;>simp [Act.put,inv.eS]
 ·cases hd:o.dst<;>simp [Act.put,inv.len]
 ·by_cases bX:k=c
  ·subst bX;rw [ho] at hk;simp only [Option.some.injEq] at hk;subst hk;rw [bO] at aQ;simp only [Act.put,Array.getElem?_setIfInBounds] at aQ;simp only [if_true] at aQ;split at aQ
   ·rename_i ax;simp only [Option.some.injEq] at aQ;subst aQ;exact (hr.mono hex.b8).mono pN
   ·simp at aQ
  ·rcases Nat.lt_or_ge k c with ax|zu
   ·rw [kq k r d bX hk bO] at aQ;exact ((inv.wr k r d u' hk bO (((bR k).1 bN).resolve_left bX) ax aQ).mono a7).mono pN
   ·exact r2 k (by omega) zH bN r d u' hk bO aQ
 ·have aH:o.dst≠some x:=fun hd=>by have:=fu c o ho hd;have h2:=(bR c).2 (.inl rfl);rw [this] at h2;simp at h2
  have:a.tmps[x]? =some u' :=by
   cases hd:o.dst with
   |none=>rw [hd] at aQ;exact aQ
   |some d' =>
    rw [hd] at aQ;simp only [Act.put,Array.getElem?_setIfInBounds] at aQ;rw [if_neg (by rintro rfl;exact aH hd)] at aQ
    exact aQ
  exact ((inv.un x u' (fun k r hk bO=>(jz k (fu k r hk bO)).2) this).mono a7).mono pN
theorem zI {op:Op} (h:kI op=true):dX op=true:=by
 cases op<;>first|rfl|(simp [kI] at h)
def left (ops:Array Oper) (listed:Array Bool):Nat:=((List.range ops.size).filter fun k=> !listed.getD k false).length
theorem zJ {ops:Array Oper} {listed:Array Bool} {i:Nat} (hs:listed.size=ops.size) (hi:i<ops.size) (hu:listed.getD i false=false):left ops (listed.setIfInBounds i true)<left ops listed:=by
 have bR:=m_ (listed:=listed) (i:=i) (by omega)
 have he:((List.range ops.size).filter fun k=> !(listed.setIfInBounds i true).getD k false)=(((List.range ops.size).filter fun k=> !listed.getD k false).filter fun k=> !(listed.setIfInBounds i true).getD k false):=by
  rw [List.filter_filter];refine List.filter_congr fun k _=> ?_;cases hq:(listed.setIfInBounds i true).getD k false with
  |true=>simp
  |false=>
   have:listed.getD k false=false:=by
    cases na:listed.getD k false with
    |false=>rfl
    |true=>rw [(bR k).2 (.inr na)] at hq;simp at hq
   simp only [this,Bool.not_false,Bool.and_self]
 unfold left;rw [he];refine List.length_filter_lt_length_iff_exists.2 ⟨i,List.mem_filter.2 ⟨List.mem_range.2 hi,by rw [hu];rfl⟩,?_⟩
 rw [(bR i).2 (.inl rfl)];simp
theorem zK (hE: ∀t ti,C.E t=some ti→aW P t ti) (hX: ∀f ys H K,X f ys H K→dh P f ys H K) (dk:il ops aF) (t:iO X C ops aF th K s H v act) (c7:St w0 (H 0) aB A0) {Q:Exit→Act→World→Prop}
 (hq: ∀s' H' ak A' a' w',Out w0 (H 0) aB A0 w' H' ak A' →SF w' H' ak A' s' a' →K s' H' →Q .normal a' w'):
 ∀(fuel:Nat) (listed:Array Bool) (a:Act) (w:World) (b c:Nat) (φ :ag) (A:aj) (pn:Nat→Nat),Inv C ops aF s H v w0 aB A0 listed a w b c φ A pn→left ops listed≤fuel→wpAny P .any ops Q fuel listed a w:=by
 have done: ∀(listed:Array Bool) (a:Act) (w:World) (b c:Nat) (φ :ag) (A:aj) (pn:Nat→Nat),Inv C ops aF s H v w0 aB A0 listed a w b c φ A pn→Region.ready .any ops listed=[]→Q .normal a w:=by
  intro listed a w b c φ A pn inv hr;have all: ∀k,k<ops.size→listed.getD k false=true:=by
   intro k;induction k using Nat.strongRecOn with
   |_ k ih=>
    intro hk;cases hq:listed.getD k false with
    |true=>rfl
    |false=>
     exfalso;have ho:=Array.getElem?_eq_getElem (xs:=ops) hk;have:k∈Region.ready .any ops listed:=mem_ready.2 ⟨getD_in (by rw [inv.size];exact hk) hq,_,ho,fun e he hb=>by
      have ax:=dk.back k _ ho e he hb;exact ih e.on ax (by omega)⟩
     rw [hr] at this;cases this
  have lF:c=ops.size:=by
   rcases inv.cl with h|h
   ·exact h
   ·rcases Nat.lt_or_ge c ops.size with h' |h'
    ·have:=(inv.iP c h h').1 (all c h');have:=inv.bc;omega
    ·have:=inv.cn;omega
  obtain ⟨hl,hg⟩:=m6 dk t ops.size (Nat.le_refl _);have sy:=t.fin;rw [Array.length_toList] at sy;have bL:=inv.out;rw [lF] at bL;refine hq (s ops.size) (H ops.size) φ A a w bL ⟨by rw [hl,inv.len],fun x y u hx hu=> ?_,inv.eS⟩ sy
  have cw:x<(s 0).length:=by rw [←hl];exact (List.getElem?_eq_some_iff.1 hx).1
  have hy:(s ops.size).getD x .undef=y:=by simp [List.getD,hx]
  by_cases hw: ∃(k:Nat) (r:Oper),ops[k]? =some r∧r.dst=some x
  ·obtain ⟨k,r,hk,hr⟩:=hw;have jB:k<ops.size:=(Array.getElem?_eq_some_iff.1 hk).1;rw [(hg x cw).1 k r jB hk hr] at hy;subst hy;have:=inv.wr k r x u hk hr (all k jB) (by omega) hu
   rw [lF] at this;exact this
  ·rw [(hg x cw).2 (fun k' o' _ eI ca=>hw ⟨k',o',eI,ca⟩)] at hy
   subst hy;have:=inv.un x u (fun k' o' eI ca=>absurd ⟨k',o',eI,ca⟩ hw) hu
   rw [lF] at this;exact this
 intro fuel;induction fuel with
 |zero=>
  intro listed a w b c φ A pn inv hle;have hr:Region.ready .any ops listed=[]:=by
   cases hq:Region.ready .any ops listed with
   |nil=>rfl
   |cons i rs=>
    exfalso;have hm:i∈Region.ready .any ops listed:=by rw [hq];simp
    obtain ⟨hu,o,ho,_⟩:=mem_ready.1 hm;have hi:i<ops.size:=(Array.getElem?_eq_some_iff.1 ho).1;have:i∈((List.range ops.size).filter fun k=> !listed.getD k false):=List.mem_filter.2 ⟨List.mem_range.2 hi,by rw [getD_both hu];rfl⟩
    have:=List.length_pos_of_mem this;unfold left at hle;omega
  exact ⟨hr,done listed a w b c φ A pn inv hr⟩
 |succ fuel ih=>
  intro listed a w b c φ A pn inv hle;refine ⟨done listed a w b c φ A pn inv,fun i hi=> ?_⟩;obtain ⟨iG,o,ho,ha⟩:=mem_ready.1 hi;have hu:=getD_both iG;have cq:i<ops.size:=(Array.getElem?_eq_some_iff.1 ho).1;have BI:=zJ inv.size cq hu;have jC:=inv.zE dk ho ha;obtain ⟨BJ,nb,nc,sA,BK⟩:=t.step i o (by rw [Array.getElem?_toList];exact ho)
  rw [Nat.zero_add] at nc;by_cases sB:i≤c
  case neg=>
   obtain ⟨ko,hg,he,d,hd⟩:=jC.resolve_left sB;have fv:act i=true:=by
    simp only [dG,hg,Option.some.injEq] at nb;exact nb.symm
   obtain ⟨sz,el,x,uv,bA,cY⟩:=zo hE he (nc fv);obtain ⟨arr,T,cY,lC⟩:=cY a w;unfold Go.wpOp;rw [ho];simp only;have hw:Region.wanted o (yielded ops a.tmps)=true:=by simp [Region.wanted,hg]
   rw [if_pos hw];refine .inl ?_;show o.upon P a _ Q _;rw [cY];exact ih _ _ _ _ _ _ _ _ (inv.zx c7 dk (by omega) ho hu ko hg hd bA ha lC) (by omega)
  replace jC:=sB;unfold Go.wpOp;rw [ho];simp only;by_cases gA:i∈aF
  ·
   have gy:i=c:=by
    rcases Nat.lt_or_ge i c with h|h
    ·exfalso;have hb: ¬i<b:=fun h=>by have:=(inv.iP i gA cq).2 h;rw [hu] at this;simp at this
     exact inv.iu i (by omega) h gA
    ·omega
   subst gy;have bA:=inv.pL dk t jC ho hu ha (m:=i) (by omega) (Nat.le_refl _) (.inl rfl)
   have hw:=pA (H:=H i) (φ := φ) (A:=A) (w:=w) (s:=s i) (a:=a) (fun j eC x hg hx=>inv.look dk t jC ho hu ha (m:=i) (by omega) (Nat.le_refl _) (.inl rfl) (by
    unfold Oper.looksAt;refine List.mem_append.2 (.inr ?_);rw [hg];simp only;rw [hx];simp)) nb
   cases fv:act i with
   |true=>
    rw [fv] at hw;rw [if_pos hw];have h3:=nc fv;rw [show (!aF.contains i)=false by simpa using gA] at h3
    refine .inl (mO hE hX inv.out.st bA h3 fun x u w' H' ak A' k1 k2 k3=> ?_)
    obtain ⟨rfl,rfl⟩:=k3;obtain ⟨c',a8,pO⟩:=inv.sx c7 dk t ho gA ha k1 k2;exact ih _ _ _ _ _ _ _ _ pO (by omega)
   |false=>
    rw [fv] at hw;rw [if_neg (by rw [hw];simp)]
    obtain ⟨h4,h5⟩:=sA fv;obtain ⟨c',a8,pO⟩:=inv.sx c7 dk t ho gA ha (u:=undef) (w' :=w) (φ1:= φ) (A1:=A) (by rw [h5];exact .refl inv.out.st) (by rw [h4];exact .fr _ _ (.aA [] #[] rfl (by simp)))
    exact ih _ _ _ _ _ _ _ _ pO (by omega)
  ·have gy:i<c:=by
    rcases Nat.lt_or_ge i c with h|h
    ·exact h
    ·have:i=c:=by omega
     subst this;rcases inv.cl with h' |h'
     ·omega
     ·exact absurd h' gA
   have lF:=inv.cn;rcases Nat.lt_or_ge i b with nf|nf
   ·
    obtain ⟨ng,fJ⟩:b-1∈aF∧0<b:=by
     rcases inv.base with h|h
     ·omega
     ·exact h
    have zG:=inv.bc;have nh:=Array.getElem?_eq_getElem (xs:=ops) (show b-1<ops.size by omega)
    have zL:=(inv.iP (b-1) ng (by omega)).2 (by omega)
    have sC:i<b-1:=by
     rcases Nat.lt_or_ge i (b-1) with h|h
     ·exact h
     ·have:i=b-1:=by omega
      subst this;exact absurd ng gA
    have sD:((fD ops.toList).getD (b-1) 0).testBit i=false:=by
     cases hq:((fD ops.toList).getD (b-1) 0).testBit i with
     |false=>rfl
     |true=>
      have:=mZ inv.shut dk.back (b-1) _ nh (inv.shut (b-1) _ nh zL) i hq;rw [hu] at this;simp at this
    obtain ⟨_,hg,du,⟨d,hd⟩,zM⟩:=dk.late (b-1) i _ o nh ho ng sC sD
    obtain ⟨_,_,_,_,sE⟩:=t.step (b-1) _ (by rw [Array.getElem?_toList];exact nh)
    rw [Nat.zero_add,show b-1+1=b by omega] at sE
    have ni:=sE i (by
     unfold fZ;rw [if_pos (by simpa using ng)]
     exact List.mem_filter.2 ⟨List.mem_range.2 sC,by rw [sD];rfl⟩)
    unfold jU at ni;rw [ho] at ni;simp only [hd] at ni;have bA:=inv.pL dk t jC ho hu ha (m:=b) (by omega) (by omega) (.inr zM)
    have gZ:=iq t (c-b) b (by omega) (fun k h1 h2=>inv.iu k h1 (by omega))
    rw [show b+(c-b)=c by omega] at gZ
    have hw:Region.wanted o (yielded ops a.tmps)=true:=by simp [Region.wanted,hg]
    rw [if_pos hw];refine .inl ((oD hE inv.out.st gZ.1.1 gZ.1.1 (fun h=>absurd h (Nat.lt_irrefl _)) (zI du) bA ni).upon fun u w' ak A' k1 k2 k3=> ?_)
    refine ih _ _ _ _ _ _ _ _ (inv.ly c7 dk t gy ho gA ha k1 (fun d' ca ax=> ?_) (fun id loc h=> ?_)) (by omega)
    ·rw [hd] at ca;simp only [Option.some.injEq] at ca;subst ca;rw [←((m6 dk t b (by omega)).2 d (by rw [inv.len];exact ax)).1 i o nf ho hd]
     exact k2
    ·rcases k3 id loc h with h|⟨h1,h2⟩
     ·exact .inl h
     ·omega
   ·
    have bA:=inv.pL dk t jC ho hu ha (m:=i) (by omega) (Nat.le_refl _) (.inl rfl)
    have hw:=pA (H:=H c) (φ := φ) (A:=A) (w:=w) (s:=s i) (a:=a) (fun j eC x hg hx=>inv.look dk t jC ho hu ha (m:=i) (by omega) (Nat.le_refl _) (.inl rfl) (by
     unfold Oper.looksAt;refine List.mem_append.2 (.inr ?_);rw [hg];simp only;rw [hx];simp)) nb
    cases fv:act i with
    |true=>
     rw [fv] at hw;rw [if_pos hw];have h3:=nc fv;have ko:(!aF.contains i)=true:=by simpa using gA
     rw [ko] at h3;have ij:=iq t (c-i) i (by omega) (fun k h1 h2=>inv.iu k (by omega) (by omega))
     rw [show i+(c-i)=c by omega] at ij
     have na:=iq t (c-(i+1)) (i+1) (by omega) (fun k h1 h2=>inv.iu k (by omega) (by omega))
     rw [show i+1+(c-(i+1))=c by omega] at na
     refine .inl (VS.ly hE hX inv.out.st bA ij.1.1 ⟨na.1.1,fun id h1 h2=>inv.none i nf gy hu id h1 h2⟩ h3 fun u w' ak A' k1 k2 k3=> ?_)
     refine ih _ _ _ _ _ _ _ _ (inv.ly c7 dk t gy ho gA ha k1 (fun d' _ _=>k2) (fun id loc h=> ?_)) (by omega)
     rcases k3 id loc h with h|h
     ·exact .inl h
     ·exact .inr ⟨nf,gy,h⟩
    |false=>
     rw [fv] at hw;rw [if_neg (by rw [hw];simp)]
     obtain ⟨h4,h5⟩:=sA fv;refine ih _ _ _ _ _ _ _ _ (inv.ly c7 dk t gy ho gA ha (.refl inv.out.st) (fun d' _ _=>by rw [h4];exact .fr _ _ (.aA [] #[] rfl (by simp))) (fun id loc h=> .inl h)) (by omega)
theorem sF (dA:Exact X) (_hm:P.follows .mixedOrders=true) (hE: ∀t ti,C.E t=some ti→aW P t ti) (hX: ∀f ys H K,X f ys H K→dh P f ys H K):mT P C X:=by
 intro ops aF th s0 H0 K Q w φ A a hd h ae hs hq;have dk:=zl hd;obtain ⟨s,H,v,act,rfl,rfl,t⟩:=sk dA ops.toList 0 s0 H0 h;have a7:bT w (H 0) φ A {w with drawn:=w.drawn+1} (H 0) φ A:=⟨fun c arr T fr hc hn=>⟨⟨fr,hc⟩,hn⟩,Nat.le_refl _,fun id b h _=>⟨b,h,rfl,rfl,rfl,rfl,fun _ h=>h⟩,fun _ _=>rfl⟩;have lH:St {w with drawn:=w.drawn+1} (H 0) φ A:=by
  refine ⟨ae.inj,ae.own,ae.cj,fun id loc hl=> ?_⟩;obtain ⟨b,hb,af⟩:=ae.aq id loc hl;refine ⟨b,hb,af.ad,af.sized,af.aS,fun c b0 he=> ?_⟩;obtain ⟨arr,T,fr,k1,k2,k3,k4⟩:=af.here c b0 he;exact ⟨arr,T,fr,k1,k2,k3,fun i x j y v hx hy hv=>⟨(k4 i x j y v hx hy hv).1.mono a7,(k4 i x j y v hx hy hv).2⟩⟩
 have sG:Out w (H 0) φ A {w with drawn:=w.drawn+1} (H 0) φ A:=⟨lH,⟨rfl,rfl,rfl,Nat.le_refl _,fun _ _ _=>rfl,fun _ _=>rfl,fun _ h=> .inl h⟩,a7,fun _ h _=>h⟩;obtain ⟨c,k1,k2,k3,k4⟩:=pJ aF ops.size (ops.size-0) 0 rfl (Nat.zero_le _);have gZ:=iq t c 0 (by omega) (fun k h1 h2=>k4 k h1 (by omega))
 rw [Nat.zero_add] at gZ;have hex:=jk lH gZ.1.1 gZ.2;refine zK hE hX dk t ae hq ops.size _ a _ 0 c φ A (fun _=>0) ⟨by simp,fun i o ho hl=>by have dt:(Array.replicate ops.size false).getD i false=true:=hl;rw [getD_replicate_false] at dt;simp at dt,k1,k2,k3,k4,fun i _ _=>by rw [getD_replicate_false];simp,.inl rfl,sG.trans ae hex,fun i _ _ _ id h4 h5=> ?_,hs.eS,hs.len,fun k o d u _ _ hl=>by rw [getD_replicate_false] at hl;simp at hl,fun k _ hl=>by rw [getD_replicate_false] at hl;simp at hl,fun j k _ _ hl=>by rw [getD_replicate_false] at hl;simp at hl,fun x u _ hu=> ?_⟩ ?_
 ·refine ae.new ?_;rename_i h1 h2 h3;have:=(iq t i 0 (by omega) (fun k h1 h2=>k4 k h1 (by omega))).1.2
  rw [Nat.zero_add] at this;omega
 ·have hx:=(hs.mono (sG.b8.trans hex.b8 (fun _ _=>rfl))).ev (.tmp x);simp only [ev,Act.eval] at hx;rw [Array.getD_eq_getD_getElem?,hu] at hx;exact hx
 ·unfold left;exact Nat.le_trans (List.length_filter_le _ _) (by simp)
end draw
end Go.VS
namespace Go.VS
section mono
variable {X X' :bK} {C:aK} (hX: ∀f ys H (K K' :AV→J→Prop),(∀v H,K v H→K' v H)→X f ys H K→X' f ys H K')
include hX
theorem sH {f:FuncId} {args:List AV} {th:Bool} {H:J} {K K' :AV→J→Prop} (hK: ∀v H,K v H→K' v H) (h:dF X C f args th H K):dF X' C f args th H K' :=by
 unfold dF at h⊢;split at h
 ·exact h.elim
 rename_i ys bZ hy;obtain ⟨y,h1,h2,h3⟩:=h;refine ⟨y,hX _ _ _ _ _ (fun _ _ h=>h) h1,h2,?_⟩;split at h3
 ·rename_i ht;rw [if_pos ht];exact hK _ _ h3
 ·rename_i ht;rw [if_neg ht];exact hK _ _ h3
theorem iv {q th:Bool} {o:Oper} {s:ah} {H:J} {K K' :AV→J→Prop} (hK: ∀v H,K v H→K' v H) (h:wpOp X C q th o s H K):wpOp X' C q th o s H K' :=by
 unfold wpOp at h⊢;split at h
 ·obtain ⟨hq,h⟩:=h;refine ⟨hq,?_⟩;split at h
  ·exact hK _ _ h
  ·exact h.elim
 ·split at h
  ·cases q with
   |true=>exact sH hX hK h
   |false=>
    rcases h with h|h
    ·exact .inl (hX _ _ _ _ _ hK h)
    ·exact .inr (sH hX hK h)
  ·exact h.elim
 ·obtain ⟨hq,h⟩:=h;refine ⟨hq,?_⟩;split at h
  ·exact hK _ _ h
  ·exact h.elim
omit hX in
theorem lI {ops:Array Oper} {s:ah} {H:J} {K K' :Prop} (hK:K→K'): ∀(l:List Nat),fC C ops s H K l→fC C ops s H K' l
 |[],h=>hK h
 |_j::js,h=>⟨h.1,lI hK js h.2⟩
theorem nj {ops:Array Oper} {q:Nat→Bool} {late:Nat→List Nat} {th:List Nat} {K K' :ah→J→Prop} (hK: ∀s H,K s H→K' s H): ∀(l:List Oper) (i:Nat) (s:ah) (H:J),db X C ops q late th K l i s H→db X' C ops q late th K' l i s H
 |[],i,s,H,h=>hK s H h
 |o::rest,i,s,H,h=>by
  simp only [db] at h⊢;cases hg:o.guard with
  |none=>
   rw [hg] at h;exact iv hX (fun v H' hv=>lI (nj hK rest (i+1) _ _) _ hv) h
  |some p=>
   rw [hg] at h;obtain ⟨v,H',h1,h2⟩:=h;refine ⟨v,H',?_,lI (nj hK rest (i+1) _ _) _ h2⟩;split at h1
   ·split at h1
    ·rename_i hb;simp only [hb,if_true];exact iv hX (fun _ _ h=>h) h1
    ·rename_i hb;simp only [hb];exact h1
   ·exact h1.elim
theorem nk {ops:Array Oper} {th:List Nat} {fz:List (Nat×List (List Nat×List Sh))} {K K' :ah→J→Prop} (hK: ∀s H,K s H→K' s H): ∀(l:List Oper) (i:Nat) (s:ah) (H:J),cX X C ops th fz K l i s H→cX X' C ops th fz K' l i s H
 |[],i,s,H,h=>hK s H h
 |o::rest,i,s,H,h=>by
  simp only [cX] at h⊢;obtain ⟨s1,H1,hf,h⟩:=h;refine ⟨s1,H1,hf,?_⟩;cases hg:o.guard with
  |none=>
   rw [hg] at h;exact iv hX (fun v H' hv=>nk hK rest (i+1) _ _ hv) h
  |some p=>
   rw [hg] at h;obtain ⟨v,H',h1,h2⟩:=h;refine ⟨v,H',?_,nk hK rest (i+1) _ _ h2⟩;split at h1
   ·split at h1
    ·rename_i hb;simp only [hb,if_true];exact iv hX (fun _ _ h=>h) h1
    ·rename_i hb;simp only [hb];exact h1
   ·exact h1.elim
theorem eJ: ∀(c:AC) (s:ah) (H:J) (K K' :Ex→ah→J→Prop),(∀e s H,K e s H→K' e s H)→aN X C c s H K→aN X' C c s H K' :=by
 intro c;induction c with
 |skip=>intro s H K K' hK h;exact hK _ _ _ h
 |ret=>intro s H K K' hK h;exact hK _ _ _ h
 |exit id=>intro s H K K' hK h;exact hK _ _ _ h
 |seq a b gB gD=>
  intro s H K K' hK h
  simp only [aN] at h⊢;refine gB s H _ _ (fun e s' H' h=> ?_) h
  cases e with
  |normal=>exact gD s' H' K K' hK h
  |exit id=>exact hK _ _ _ h
  |ret=>exact hK _ _ _ h
 |cond c a b gB gD=>
  intro s H K K' hK h
  simp only [aN] at h⊢;split at h
  ·split at h
   ·rename_i hb;simp only [hb,if_true];exact gB s H K K' hK h
   ·rename_i hb;simp only [hb];exact gD s H K K' hK h
  ·exact h.elim
 |block id bQ a ih=>
  intro s H K K' hK h
  simp only [aN] at h⊢;refine ih s H _ _ (fun e s' H' h=> ?_) h
  cases e with
  |normal=>exact hK _ _ _ h
  |ret=>exact hK _ _ _ h
  |exit j=>
   simp only at h⊢;split at h
   ·rename_i hj;rw [if_pos hj];exact hK _ _ _ h
   ·rename_i hj;rw [if_neg hj];exact hK _ _ _ h
 |loop sp a ih=>
  intro s H K K' hK h
  simp only [aN] at h⊢;intro Y hY;refine h Y fun s' H' hB=>hY s' H' (ih s' H' _ _ (fun e s2 H2 h=> ?_) hB)
  cases e with
  |normal=>exact h
  |exit id=>exact hK _ _ _ h
  |ret=>exact hK _ _ _ h
 |region id ops draw aF th fz=>
  intro s H K K' hK h
  cases draw with
  |true=>
   simp only [aN] at h⊢;exact ⟨h.1,nj hX (fun s H h=>hK _ s H h) _ _ _ _ h.2⟩
  |false=>
   simp only [aN] at h⊢;exact nk hX (fun s H h=>hK _ s H h) _ _ _ _ h
 |fV l kp=>
  intro s H K K' hK h
  simp only [aN] at h⊢;split at h
  ·exact hK _ _ _ h
  ·exact h
 |bad=>intro s H K K' hK h;exact h
end mono
def Up (X:bK):Prop:= ∀f ys H (K K' :AV→J→Prop),(∀v H,K v H→K' v H)→X f ys H K→X f ys H K'
theorem i_.round {X:bK} (hU:Up X) {C:aK} {c:AC} {next:ah→J→ah×J} {K:Ex→ah→J→Prop} {s:ah} {H:J}
 (h:aN X C c s H (fun e s' H' =>match e with
  | .normal=>i_ (aN X C c) next K (next s' H').1 (next s' H').2
  |e=>K e s' H')):i_ (aN X C c) next K s H:=by
 intro Y hY;refine hY s H (eJ hU c s H _ _ (fun e s' H' h=> ?_) h)
 cases e with
 |normal=>exact h Y hY
 |exit id=>exact h
 |ret=>exact h
theorem sI {X:bK} {C:aK} (hU:Up X) (dA:Exact X) {ops:Array Oper} {q:Nat→Bool} {late:Nat→List Nat} {th:List Nat} {K:ah→J→Prop}: ∀(l:List Oper) (i:Nat) (s:ah) (H:J),db X C ops q late th K l i s H→ ∃s' H',db X C ops q late th (fun s1 H1=>s1=s' ∧H1=H') l i s H∧K s' H'
 |[],i,s,H,h=>⟨s,H,⟨rfl,rfl⟩,h⟩
 |o::rest,i,s,H,h=>by
  have sJ: ∀(ls:List Nat) (s1:ah) (H1:J),fC C ops s1 H1 (db X C ops q late th K rest (i+1) s1 H1) ls→ ∃s' H',fC C ops s1 H1 (db X C ops q late th (fun s1 H1=>s1=s' ∧H1=H') rest (i+1) s1 H1) ls∧K s' H' :=by
   intro ls s1 H1 h;obtain ⟨h1,h2⟩:=mY _ _ _ _ _ _ h;obtain ⟨s',H',h3,h4⟩:=sI hU dA rest (i+1) s1 H1 h2;refine ⟨s',H',?_,h4⟩;clear h h2 h4;induction ls with
   |nil=>exact h3
   |cons j js ih=>exact ⟨h1 j (by simp),ih fun k hk=>h1 k (by simp [hk])⟩
  simp only [db] at h⊢;cases hg:o.guard with
  |none=>
   rw [hg] at h;simp only at h⊢;obtain ⟨v,H1,h1,h2⟩:=lz dA h;obtain ⟨s',H',h3,h4⟩:=sJ _ _ _ h2;exact ⟨s',H',iv hU (fun v1 H2 e=>by obtain ⟨rfl,rfl⟩:=e;exact h3) h1,h4⟩
  |some p=>
   rw [hg] at h;simp only at h⊢;obtain ⟨v,H1,h1,h2⟩:=h;obtain ⟨s',H',h3,h4⟩:=sJ _ _ _ h2;exact ⟨s',H',⟨v,H1,h1,h3⟩,h4⟩
theorem pP {X:bK} {C:aK} (hU:Up X) (dA:Exact X) {ops:Array Oper} {th:List Nat} {fz:List (Nat×List (List Nat×List Sh))} {K:ah→J→Prop}: ∀(l:List Oper) (i:Nat) (s:ah) (H:J),cX X C ops th fz K l i s H→ ∃s' H',cX X C ops th fz (fun s1 H1=>s1=s' ∧H1=H') l i s H∧K s' H'
 |[],i,s,H,h=>⟨s,H,⟨rfl,rfl⟩,h⟩
 |o::rest,i,s,H,h=>by
  simp only [cX] at h⊢;obtain ⟨s0,H0,hf,h⟩:=h;cases hg:o.guard with
  |none=>
   rw [hg] at h;simp only at h⊢;obtain ⟨v,H1,h1,h2⟩:=lz dA h;obtain ⟨s',H',h3,h4⟩:=pP hU dA rest (i+1) _ _ h2;exact ⟨s',H',⟨s0,H0,hf,iv hU (fun v1 H2 e=>by obtain ⟨rfl,rfl⟩:=e;exact h3) h1⟩,h4⟩
  |some p=>
   rw [hg] at h;simp only at h⊢;obtain ⟨v,H1,h1,h2⟩:=h;obtain ⟨s',H',h3,h4⟩:=pP hU dA rest (i+1) _ _ h2;exact ⟨s',H',⟨s0,H0,hf,v,H1,h1,h3⟩,h4⟩
theorem zN {X:bK} {C:aK} (hU:Up X) (dA:Exact X): ∀(c:AC) (s:ah) (H:J) (K:Ex→ah→J→Prop),aN X C c s H K→ ∃e s' H',aN X C c s H (fun e1 s1 H1=>e1=e∧s1=s' ∧H1=H')∧K e s' H' :=by
 intro c;induction c with
 |skip=>intro s H K h;exact ⟨_,_,_,⟨rfl,rfl,rfl⟩,h⟩
 |ret=>intro s H K h;exact ⟨_,_,_,⟨rfl,rfl,rfl⟩,h⟩
 |exit id=>intro s H K h;exact ⟨_,_,_,⟨rfl,rfl,rfl⟩,h⟩
 |seq a b gB gD=>
  intro s H K h;simp only [aN] at h⊢;obtain ⟨e,s1,H1,h1,h2⟩:=gB s H _ h;cases e with
  |normal=>
   obtain ⟨e,s2,H2,h3,h4⟩:=gD s1 H1 K h2;exact ⟨e,s2,H2,eJ hU a s H _ _ (fun e1 s' H' q=>by obtain ⟨rfl,rfl,rfl⟩:=q;exact h3) h1,h4⟩
  |exit id=>exact ⟨.exit id,s1,H1,eJ hU a s H _ _ (fun e1 s' H' q=>by obtain ⟨rfl,rfl,rfl⟩:=q;exact ⟨rfl,rfl,rfl⟩) h1,h2⟩
  |ret=>exact ⟨.ret,s1,H1,eJ hU a s H _ _ (fun e1 s' H' q=>by obtain ⟨rfl,rfl,rfl⟩:=q;exact ⟨rfl,rfl,rfl⟩) h1,h2⟩
 |cond c a b gB gD=>
  intro s H K h;simp only [aN] at h⊢;split at h
  ·split at h
   ·rename_i hb;simp only [hb,if_true];exact gB s H K h
   ·rename_i hb;simp only [hb];exact gD s H K h
  ·exact h.elim
 |block id bQ a ih=>
  intro s H K h;simp only [aN] at h⊢;obtain ⟨e,s1,H1,h1,h2⟩:=ih s H _ h;cases e with
  |normal=>exact ⟨.normal,eu bQ s1,H1,eJ hU a s H _ _ (fun e1 s' H' q=>by obtain ⟨rfl,rfl,rfl⟩:=q;exact ⟨rfl,rfl,rfl⟩) h1,h2⟩
  |ret=>exact ⟨.ret,s1,H1,eJ hU a s H _ _ (fun e1 s' H' q=>by obtain ⟨rfl,rfl,rfl⟩:=q;exact ⟨rfl,rfl,rfl⟩) h1,h2⟩
  |exit j=>
   simp only at h2;split at h2
   ·rename_i hj;exact ⟨.normal,eu bQ s1,H1,eJ hU a s H _ _ (fun e1 s' H' q=>by obtain ⟨rfl,rfl,rfl⟩:=q;simp [hj]) h1,h2⟩
   ·rename_i hj;exact ⟨.exit j,s1,H1,eJ hU a s H _ _ (fun e1 s' H' q=>by obtain ⟨rfl,rfl,rfl⟩:=q;simp [hj]) h1,h2⟩
 |loop sp a ih=>
  intro s H K h;simp only [aN] at h⊢;refine h (fun s1 H1=> ∃e s' H',i_ (aN X C a) (hJ sp H.bs.length) (fun e1 s2 H2=>e1=e∧s2=s' ∧H2=H') s1 H1∧K e s' H') fun s1 H1 hB=> ?_
  obtain ⟨e,s2,H2,h1,h2⟩:=ih s1 H1 _ hB;cases e with
  |normal=>
   obtain ⟨e,s',H',h3,h4⟩:=h2;exact ⟨e,s',H',.round hU (eJ hU a s1 H1 _ _ (fun e1 s' H' q=>by obtain ⟨rfl,rfl,rfl⟩:=q;exact h3) h1),h4⟩
  |exit id=>exact ⟨_,_,_,.round hU (eJ hU a s1 H1 _ _ (fun e1 s' H' q=>by obtain ⟨rfl,rfl,rfl⟩:=q;exact ⟨rfl,rfl,rfl⟩) h1),h2⟩
  |ret=>exact ⟨_,_,_,.round hU (eJ hU a s1 H1 _ _ (fun e1 s' H' q=>by obtain ⟨rfl,rfl,rfl⟩:=q;exact ⟨rfl,rfl,rfl⟩) h1),h2⟩
 |region id ops draw aF th fz=>
  intro s H K h;cases draw with
  |true=>
   simp only [aN] at h⊢;obtain ⟨s',H',h1,h2⟩:=sI hU dA _ _ _ _ h.2;exact ⟨.normal,s',H',⟨h.1,nj hU (fun s H q=>⟨rfl,q⟩) _ _ _ _ h1⟩,h2⟩
  |false=>
   simp only [aN] at h⊢;obtain ⟨s',H',h1,h2⟩:=pP hU dA _ _ _ _ h;exact ⟨.normal,s',H',nk hU (fun s H q=>⟨rfl,q⟩) _ _ _ _ h1,h2⟩
 |fV l kp=>
  intro s H K h;simp only [aN] at h⊢;split at h
  ·rename_i s' H' he;exact ⟨_,_,_,⟨rfl,rfl,rfl⟩,h⟩
  ·exact h.elim
 |bad=>intro s H K h;exact h.elim
theorem dT.mono {E:aE} {res:List ResultVar} {K K' :AV→J→Prop} (hK: ∀v H,K v H→K' v H): ∀e s H,dT E res K e s H→dT E res K' e s H
 | .normal,_,_,⟨rs,h1,h2⟩=>⟨rs,h1,hK _ _ h2⟩
 | .ret,_,_,⟨rs,h1,h2⟩=>⟨rs,h1,hK _ _ h2⟩
 | .exit _,_,_,h=>h
theorem dT.exact {E:aE} {res:List ResultVar} {K:AV→J→Prop}: ∀e s H,dT E res K e s H→ ∃v H',dT E res (fun v1 H1=>v1=v∧H1=H') e s H∧K v H'
 | .normal,_,_,⟨rs,h1,h2⟩=>⟨_,_,⟨rs,h1,rfl,rfl⟩,h2⟩
 | .ret,_,_,⟨rs,h1,h2⟩=>⟨_,_,⟨rs,h1,rfl,rfl⟩,h2⟩
 | .exit _,_,_,h=>h.elim
theorem sK {X:bK} {C:aK} (hU:Up X) (dA:Exact X) {f:FuncId} {ys:List AV} {H:J} {K:AV→J→Prop} (h:Body X C f ys H K): ∃v H',Body X C f ys H (fun v1 H1=>v1=v∧H1=H')∧K v H' :=by
 unfold Body at h⊢;split at h
 ·exact h.elim
 ·rename_i fn kN;split at h
  ·exact h.elim
  ·rename_i c hc;obtain ⟨e,s',H',h1,h2⟩:=zN hU dA _ _ _ _ h;obtain ⟨v,H2,h3,h4⟩:=dT.exact _ _ _ h2;refine ⟨v,H2,?_,h4⟩;exact eJ hU _ _ _ _ _ (fun e1 s1 H1 q=>by obtain ⟨rfl,rfl,rfl⟩:=q;exact h3) h1
theorem Body.mono {X X' :bK} {C:aK} (hX: ∀f ys H (K K' :AV→J→Prop),(∀v H,K v H→K' v H)→X f ys H K→X' f ys H K') {f:FuncId} {ys:List AV} {H:J} {K K' :AV→J→Prop} (hK: ∀v H,K v H→K' v H) (h:Body X C f ys H K):Body X' C f ys H K' :=by
 unfold Body at h⊢;split at h
 ·exact h.elim
 ·rename_i fn kN;split at h
  ·exact h.elim
  ·rename_i c hc;exact eJ hX _ _ _ _ _ (dT.mono hK) h
def nl (C:aK):Prop:=Up C.ext
theorem aw.up {C:aK} (hE:nl C):Up (aw C):=by
 intro f ys H K K' hK h
 refine h (fun f ys H K=> ∀K',(∀v H,K v H→K' v H)→aw C f ys H K') ⟨fun f ys H K h K' hK X hX=>hX.1 _ _ _ _ (hE _ _ _ _ _ hK h),fun f ys H K h K' hK X hX=> ?_⟩ K' hK
 refine hX.2 _ _ _ _ (Body.mono (fun f ys H K K2 zO h=> ?_) hK h);exact h K2 zO X hX
theorem aw.intro {C:aK} (hE:nl C) {f:FuncId} {ys:List AV} {H:J} {K:AV→J→Prop} (h:Body (aw C) C f ys H K):aw C f ys H K:=by
 intro X hX;refine hX.2 _ _ _ _ (Body.mono (fun f ys H K K' hK hc=> ?_) (fun _ _ h=>h) h)
 exact aw.up hE _ _ _ _ _ hK hc X hX
theorem aw.exact {C:aK} (hE:nl C) (hX:Exact C.ext):Exact (aw C):=by
 intro f ys H K h;refine h (fun f ys H K=> ∃v H',aw C f ys H (fun v1 H1=>v1=v∧H1=H')∧K v H') ⟨fun f ys H K h=> ?_,fun f ys H K h=> ?_⟩
 ·obtain ⟨v,H',h1,h2⟩:=hX _ _ _ _ h;exact ⟨v,H',fun X hX=>hX.1 _ _ _ _ h1,h2⟩
 ·obtain ⟨v,H',h1,h2⟩:=sK (X:=fun f ys H K=> ∃v H',aw C f ys H (fun v1 H1=>v1=v∧H1=H')∧K v H') (fun f ys H K K' hK ⟨v,H',h1,h2⟩=>⟨v,H',h1,hK _ _ h2⟩) (fun f ys H K ⟨v,H',h1,h2⟩=>⟨v,H',⟨v,H',h1,rfl,rfl⟩,h2⟩) h
  refine ⟨v,H',aw.intro hE (Body.mono (fun f ys H K K' hK ⟨v,H',h1,h2⟩=> ?_) (fun _ _ h=>h) h1),h2⟩
  exact aw.up hE _ _ _ _ _ (fun v1 H1 q=>by obtain ⟨rfl,rfl⟩:=q;exact hK _ _ h2) h1
theorem aw.ext {C:aK} {f:FuncId} {ys:List AV} {H:J} {K:AV→J→Prop} (h:C.ext f ys H K):aw C f ys H K:=fun _ hX=>hX.1 _ _ _ _ h
theorem BL {P:Program} {C:aK} (hm:P.follows .mixedOrders=true) (hE: ∀t ti,C.E t=some ti→aW P t ti) (hC: ∀f fn,C.code f=some fn→P.funcs[f]? =some fn∧(fn.name== "runtime.NumGoroutine")=false∧nQ (C.fX f) fn=true)
 (zP: ∀f ys H K,C.ext f ys H K→ ∃v H',dh P f ys H (fun v1 H1=>v1=v∧H1=H')∧K v H')
 {f:FuncId} {ys:List AV} {H:J} {K:AV→J→Prop} (h:aw C f ys H K):dh P f ys H K:=by
 have hY: ∃v H',dh P f ys H (fun v1 H1=>v1=v∧H1=H')∧K v H' :=by
  let Y:bK:=fun f ys H K=> ∃v H',dh P f ys H (fun v1 H1=>v1=v∧H1=H')∧K v H'
  have sL:Exact Y:=fun f ys H K ⟨v,H',h1,h2⟩=>⟨v,H',⟨v,H',h1,rfl,rfl⟩,h2⟩;have zQ:Up Y:=fun f ys H K K' hK ⟨v,H',h1,h2⟩=>⟨v,H',h1,hK _ _ h2⟩
  have sM: ∀f ys H K,Y f ys H K→dh P f ys H K:=fun f ys H K ⟨v,H',h1,h2⟩=>h1.mono fun v1 H1 q=>by obtain ⟨rfl,rfl⟩:=q;exact h2
  refine h Y ⟨zP,fun f ys H K hb=> ?_⟩;obtain ⟨v,H',h1,h2⟩:=sK zQ sL hb;exact ⟨v,H',za hm hE hC sM (sF sL hm hE sM) h1,h2⟩
 obtain ⟨v,H',h1,h2⟩:=hY;exact h1.mono fun v1 H1 q=>by obtain ⟨rfl,rfl⟩:=q;exact h2
end Go.VS
namespace Go.VS
structure Good (C:aK):Prop where
 up:nl C
 exact:Exact C.ext
def lJ (C:aK) (b:AC) (K:Ex→ah→J→Prop):Ex→ah→J→Prop
 | .normal,s,H=>aN (aw C) C b s H K
 | .exit i,s,H=>K (.exit i) s H
 | .ret,s,H=>K .ret s H
def gE (id:Nat) (bQ:Option (List Nat)) (K:Ex→ah→J→Prop):Ex→ah→J→Prop
 | .normal,s,H=>K .normal (eu bQ s) H
 | .exit j,s,H=>if j=id then K .normal (eu bQ s) H else K (.exit j) s H
 | .ret,s,H=>K .ret s H
def nn (C:aK) (v:AV) (a b:AC) (s:ah) (H:J) (K:Ex→ah→J→Prop):Prop:=
 match v with
 | .bool t=>if t then aN (aw C) C a s H K else aN (aw C) C b s H K
 |_=>False
section
variable {C:aK} {K K1:Ex→ah→J→Prop} {s:ah} {H:J}
theorem BM {a b:AC} (h: ∀K1,K1=lJ C b K→aN (aw C) C a s H K1):aN (aw C) C (.seq a b) s H K:=by
 have:=h _ rfl;have e:lJ C b K=(fun e s' H' =>match e with| .normal=>aN (aw C) C b s' H' K|e=>K e s' H'):=by
  funext e s H;cases e<;>rfl
 rw [e] at this;exact this
theorem BN {id:Nat} {kp:Option (List Nat)} {a:AC} (h: ∀K1,K1=gE id kp K→aN (aw C) C a s H K1):aN (aw C) C (.block id kp a) s H K:=by
 have:=h _ rfl;have e:gE id kp K=(fun e s' H' =>match e with
  | .exit j=>if j=id then K .normal (eu kp s') H' else K (.exit j) s' H'
  | .normal=>K .normal (eu kp s') H'
  | .ret=>K .ret s' H'):=by funext e s H;cases e<;>rfl
 rw [e] at this;exact this
theorem BO (h:K .normal s H):aN (aw C) C .skip s H K:=h
theorem BP (h:K .ret s H):aN (aw C) C .ret s H K:=h
theorem BQ {id:Nat} (h:K (.exit id) s H):aN (aw C) C (.exit id) s H K:=h
theorem BR {c:Operand} {a b:AC} (h:nn C (ev s c) a b s H K):aN (aw C) C (.cond c a b) s H K:=h
theorem zR {l:List (List Nat×List Sh)} {kp:Option (List Nat)} {s' :ah} {H' :J} (he:dm l s H=some (s',H')) (h:K .normal (eu kp s') H'):aN (aw C) C (.fV l kp) s H K:=by
 simp only [aN,he];exact h
theorem BS {kp:List Nat} (h:K .normal (eN kp s) H):aN (aw C) C (.fV [] (some kp)) s H K:=h
theorem BT {b:AC} (hK:K1=lJ C b K) (h:aN (aw C) C b s H K):K1 .normal s H:=by rw [hK];exact h
theorem BU {b:AC} (hK:K1=lJ C b K) (h:K .ret s H):K1 .ret s H:=by rw [hK];exact h
theorem BV {b:AC} {i:Nat} (hK:K1=lJ C b K) (h:K (.exit i) s H):K1 (.exit i) s H:=by rw [hK];exact h
theorem BW {id:Nat} {kp:Option (List Nat)} (hK:K1=gE id kp K) (h:K .normal (eu kp s) H):K1 .normal s H:=by rw [hK];exact h
theorem BX {id:Nat} (hK:K1=gE id none K) (h:K .normal s H):K1 .normal s H:=by rw [hK];exact h
theorem BY {id:Nat} (hK:K1=gE id none K) (h:K .normal s H):K1 (.exit id) s H:=by rw [hK];simp only [gE,if_true];exact h
theorem BZ {id:Nat} {kp:Option (List Nat)} (hK:K1=gE id kp K) (h:K .normal (eu kp s) H):K1 (.exit id) s H:=by rw [hK];simp only [gE,if_true];exact h
theorem B0 {id j:Nat} {kp:Option (List Nat)} (hK:K1=gE id kp K) (hj:j≠id) (h:K (.exit j) s H):K1 (.exit j) s H:=by rw [hK];simp only [gE,if_neg hj];exact h
theorem B1 {id:Nat} {kp:Option (List Nat)} (hK:K1=gE id kp K) (h:K .ret s H):K1 .ret s H:=by rw [hK];exact h
theorem B2 {E:aE} {res:List ResultVar} {P:AV→J→Prop} {rs:List AV} (hK:K1=dT E res P) (hr:dc E s H res=some rs) (h:P (cf rs) H):K1 .ret s H:=by rw [hK];exact ⟨rs,hr,h⟩
theorem B3 {E:aE} {res:List ResultVar} {P:AV→J→Prop} {rs:List AV} (hK:K1=dT E res P) (hr:dc E s H res=some rs) (h:P (cf rs) H):K1 .normal s H:=by rw [hK];exact ⟨rs,hr,h⟩
theorem B4 {E:aE} {a:Tmp} {P:AV→J→Prop} (hK:K1=dT E [.tmp a] P) {x:AV} (hx:s.getD a .undef=x) (h:P x H):K1 .ret s H:=by
 rw [hK];exact ⟨[s.getD a .undef],rfl,by rw [hx];exact h⟩
theorem B5 {E:aE} {a b:Tmp} {P:AV→J→Prop} (hK:K1=dT E [.tmp a,.tmp b] P) {x y:AV} (hx:s.getD a .undef=x) (hy:s.getD b .undef=y) (h:P (.aA [x,y]) H):K1 .ret s H:=by
 rw [hK];exact ⟨[s.getD a .undef,s.getD b .undef],rfl,by rw [hx,hy];exact h⟩
theorem B6 {E:aE} {a b c:Tmp} {P:AV→J→Prop} (hK:K1=dT E [.tmp a,.tmp b,.tmp c] P) {x y z:AV} (hx:s.getD a .undef=x) (hy:s.getD b .undef=y) (hz:s.getD c .undef=z) (h:P (.aA [x,y,z]) H):K1 .ret s H:=by
 rw [hK];exact ⟨[s.getD a .undef,s.getD b .undef,s.getD c .undef],rfl,by rw [hx,hy,hz];exact h⟩
theorem B7 {E:aE} {a b c d:Tmp} {P:AV→J→Prop} (hK:K1=dT E [.tmp a,.tmp b,.tmp c,.tmp d] P) {x y z u:AV} (hx:s.getD a .undef=x) (hy:s.getD b .undef=y) (hz:s.getD c .undef=z) (hu:s.getD d .undef=u) (h:P (.aA [x,y,z,u]) H):K1 .ret s H:=by
 rw [hK];exact ⟨[s.getD a .undef,s.getD b .undef,s.getD c .undef,s.getD d .undef],rfl,by rw [hx,hy,hz,hu];exact h⟩
theorem B8 {E:aE} {P:AV→J→Prop} (hK:K1=dT E [] P) (h:P (.aA []) H):K1 .ret s H:=by
 rw [hK];exact ⟨[],rfl,h⟩
theorem B9 {E:aE} {P:AV→J→Prop} (hK:K1=dT E [] P) (h:P (.aA []) H):K1 .normal s H:=by
 rw [hK];exact ⟨[],rfl,h⟩
theorem B_ {α :Type} {c:Bool} {x y:Option α} {r: α} {a b:AC} (h:(bif c then x else y)=some r) (ht:c=true→x=some r→aN (aw C) C a s H K) (hf:c=false→y=some r→aN (aw C) C b s H K):nn C (.bool c) a b s H K:=by
 cases c with
 |true=>exact ht rfl h
 |false=>exact hf rfl h
theorem zS {a:AC} (h:aN (aw C) C a s H K1) (hK: ∀e s H,K1 e s H→K e s H) (gC:Good C):aN (aw C) C a s H K:=eJ (aw.up gC.up) a s H _ _ hK h
end
structure GO where
 d:Option Tmp
 op:Op
 g:Option (Option Tmp×Bool)
 late:List (Op×Option Tmp)
 th:Bool
 q:Bool
def lk:List Oper→Nat→Option Tmp
 |[],_=>none
 |o::_,0=>o.dst
 |_::os,n+1=>lk os n
def aV (X:bK) (C:aK) (q gM:Bool) (op:Op) (s:ah) (H:J) (K:AV→J→Prop):Prop:=wpOp X C q gM ⟨none,op,0,"",#[],none⟩ s H K
theorem sN (X:bK) (C:aK) (q gM:Bool) (o:Oper) (s:ah) (H:J) (K:AV→J→Prop):wpOp X C q gM o s H K=aV X C q gM o.op s H K:=by
 cases o;rfl
def dO (C:aK) (s:ah) (H:J) (K:Prop):List (Op×Option Tmp)→Prop
 |[]=>K
 |(op,d)::js=>(∃t,d=some t∧aP C.E op s H=some (s.getD t .undef,H))∧dO C s H K js
def eU (g:Option (Option Tmp×Bool)) (s:ah) (a b:Prop):Prop:=
 match g with
 |none=>a
 |some (none,_)=>False
 |some (some t,eC)=>match s.getD t .undef with
  | .bool c=>if c=eC then a else b
  | .aA _=>b
  |_=>False
def cS (C:aK) (K:ah→J→Prop):List GO→ah→J→Prop
 |[],s,H=>K s H
 |o::rest,s,H=>eU o.g s (aV (aw C) C o.q o.th o.op s H fun v H' =>dO C (aZ s o.d v) H' (cS C K rest (aZ s o.d v) H') o.late)
  (dO C (aZ s o.d (.aA [])) H (cS C K rest (aZ s o.d (.aA [])) H) o.late)
def kt (ops:List Oper) (j:Nat):Op×Option Tmp:=match ops[j]? with|some o=>(o.op,o.dst)|none=>(.move (.tmp 0),none)
def ek (all:List Oper) (q:Nat→Bool) (late:Nat→List Nat) (th:List Nat):List Oper→Nat→List GO
 |[],_=>[]
 |o::rest,i=>⟨o.dst,o.op,o.guard.map fun p=>(lk all p.1,p.2),(late i).map (kt all),th.contains i,q i⟩::ek all q late th rest (i+1)
theorem pQ: ∀(l:List Oper) (j:Nat),lk l j=(l[j]?).bind (·.dst)
 |[],j=>by simp [lk]
 |o::os,0=>by simp [lk]
 |o::os,j+1=>by simp [lk,pQ os j]
theorem pR {C:aK} {ops:Array Oper} {s:ah} {H:J} {K:Prop}: ∀(l:List Nat),dO C s H K (l.map (kt ops.toList))→fC C ops s H K l
 |[],h=>h
 |j::js,h=>by
  simp only [List.map_cons,dO] at h;refine ⟨?_,pR js h.2⟩;unfold jU;have h1:=h.1;unfold kt at h1;rw [Array.getElem?_toList] at h1;cases ho:ops[j]? with
  |none=>rw [ho] at h1;simp at h1
  |some o=>
   rw [ho] at h1;obtain ⟨t,ht,he⟩:=h1;simp only at ht he⊢;rw [ht];exact he
theorem np {C:aK} (gC:Good C) {ops:Array Oper} {q:Nat→Bool} {late:Nat→List Nat} {th:List Nat} {K:ah→J→Prop}: ∀(l:List Oper) (i:Nat) (s:ah) (H:J),cS C K (ek ops.toList q late th l i) s H→db (aw C) C ops q late th K l i s H
 |[],i,s,H,h=>h
 |o::rest,i,s,H,h=>by
  simp only [ek,cS] at h;have yes:(aV (aw C) C (q i) (th.contains i) o.op s H fun v H' =>dO C (aZ s o.dst v) H' (cS C K (ek ops.toList q late th rest (i+1)) (aZ s o.dst v) H') ((late i).map (kt ops.toList)))→
   wpOp (aw C) C (q i) (th.contains i) o s H fun v H' =>fC C ops (aZ s o.dst v) H' (db (aw C) C ops q late th K rest (i+1) (aZ s o.dst v) H') (late i):=by
   intro h;rw [←sN] at h;refine iv (aw.up gC.up) (fun v H' h=> ?_) h
   exact lI (np gC rest (i+1) _ _) _ (pR _ h)
  simp only [db];cases hg:o.guard with
  |none=>
   rw [hg] at h;simp only [Option.map_none,eU] at h⊢;exact yes h
  |some p=>
   obtain ⟨j,eC⟩:=p;rw [hg] at h;simp only [Option.map_some,pQ,Array.getElem?_toList] at h⊢;cases hd:(ops[j]?).bind (·.dst) with
   |none=>rw [hd] at h;exact h.elim
   |some t=>
    rw [hd] at h;simp only [eU] at h;have no:(dO C (aZ s o.dst (.aA [])) H (cS C K (ek ops.toList q late th rest (i+1)) (aZ s o.dst (.aA [])) H) ((late i).map (kt ops.toList)))→dG ops o s=some false→ ∃v H',(match dG ops o s with
     |some b=>if b then wpOp (aw C) C (q i) (th.contains i) o s H (fun v1 H1=>v1=v∧H1=H') else v= .aA []∧H' =H
     |none=>False)∧fC C ops (aZ s o.dst v) H' (db (aw C) C ops q late th K rest (i+1) (aZ s o.dst v) H') (late i):=by
     intro h hb;refine ⟨.aA [],H,?_,lI (np gC rest (i+1) _ _) _ (pR _ h)⟩;rw [hb];simp
    split at h
    ·rename_i c hc;have lK:dG ops o s=some (c==eC):=by
      unfold dG;rw [hg];simp only [hd,hc]
     split at h
     ·rename_i jD;obtain ⟨v,H',h1,h2⟩:=lz (aw.exact gC.up gC.exact) (yes h);refine ⟨v,H',?_,h2⟩;rw [lK,jD];simp only [beq_self_eq_true,if_true];exact h1
     ·rename_i jD;exact no h (by rw [lK];simpa using jD)
    ·rename_i hc;exact no h (by unfold dG;rw [hg];simp only [hd,hc])
    ·exact h.elim
section
variable {C:aK} {K K1:Ex→ah→J→Prop} {s:ah} {H:J}
def iS (K:Ex→ah→J→Prop):ah→J→Prop:=fun s H=>K .normal s H
theorem Ca (gC:Good C) {id:Nat} {ops:List Oper} {ls th:List Nat} (h:cS C (iS K) (ek ops (fun _=>false) (fun _=>[]) th ops 0) s H):aN (aw C) C (.region id ops.toArray false ls th []) s H K:=by
 have h2:=np gC (ops:=ops.toArray) (q:=fun _=>false) (late:=fun _=>[]) (th:=th) ops 0 s H h;have key: ∀(l:List Oper) (i:Nat) (s:ah) (H:J),db (aw C) C ops.toArray (fun _=>false) (fun _=>[]) th (iS K) l i s H→cX (aw C) C ops.toArray th [] (iS K) l i s H:=by
  intro l;induction l with
  |nil=>intro i s H h;exact h
  |cons o rest ih=>
   intro i s H h;simp only [db,fC] at h;simp only [cX];refine ⟨s,H,rfl,?_⟩;cases hg:o.guard with
   |none=>
    rw [hg] at h;exact iv (aw.up gC.up) (fun v H' hv=>ih (i+1) _ _ hv) h
   |some p=>
    rw [hg] at h;obtain ⟨v,H',h1,h2⟩:=h;exact ⟨v,H',h1,ih (i+1) _ _ h2⟩
 exact key _ _ _ _ h2
def eV (C:aK) (fz:List (Nat×List (List Nat×List Sh))) (K:ah→J→Prop):List GO→Nat→ah→J→Prop
 |[],_,s,H=>K s H
 |o::rest,i,s0,H0=> ∃s H,dm ((fz.lookup i).getD []) s0 H0=some (s,H)∧
  eU o.g s (aV (aw C) C o.q o.th o.op s H fun v H' =>eV C fz K rest (i+1) (aZ s o.d v) H') (eV C fz K rest (i+1) (aZ s o.d (.aA [])) H)
theorem pS (gC:Good C) {ops:Array Oper} {th:List Nat} {fz:List (Nat×List (List Nat×List Sh))} {K:ah→J→Prop}: ∀(l:List Oper) (i:Nat) (s:ah) (H:J),eV C fz K (ek ops.toList (fun _=>false) (fun _=>[]) th l i) i s H→cX (aw C) C ops th fz K l i s H
 |[],i,s,H,h=>h
 |o::rest,i,s0,H0,h=>by
  simp only [ek,eV] at h;obtain ⟨s,H,hf,h⟩:=h;simp only [cX];refine ⟨s,H,hf,?_⟩;have yes:(aV (aw C) C false (th.contains i) o.op s H fun v H' =>eV C fz K (ek ops.toList (fun _=>false) (fun _=>[]) th rest (i+1)) (i+1) (aZ s o.dst v) H')→
   wpOp (aw C) C false (th.contains i) o s H fun v H' =>cX (aw C) C ops th fz K rest (i+1) (aZ s o.dst v) H' :=by
   intro h;rw [←sN] at h;exact iv (aw.up gC.up) (fun v H' h=>pS gC rest (i+1) _ _ h) h
  cases hg:o.guard with
  |none=>
   rw [hg] at h;simp only [Option.map_none,eU] at h⊢;exact yes h
  |some p=>
   obtain ⟨j,eC⟩:=p;rw [hg] at h;simp only [Option.map_some,pQ,Array.getElem?_toList] at h⊢;cases hd:(ops[j]?).bind (·.dst) with
   |none=>rw [hd] at h;exact h.elim
   |some t=>
    rw [hd] at h;simp only [eU] at h;have no:eV C fz K (ek ops.toList (fun _=>false) (fun _=>[]) th rest (i+1)) (i+1) (aZ s o.dst (.aA [])) H→dG ops o s=some false→ ∃v H',(match dG ops o s with
     |some b=>if b then wpOp (aw C) C false (th.contains i) o s H (fun v1 H1=>v1=v∧H1=H') else v= .aA []∧H' =H
     |none=>False)∧cX (aw C) C ops th fz K rest (i+1) (aZ s o.dst v) H' :=by
     intro h hb;refine ⟨.aA [],H,?_,pS gC rest (i+1) _ _ h⟩;rw [hb];simp
    split at h
    ·rename_i c hc;have lK:dG ops o s=some (c==eC):=by
      unfold dG;rw [hg];simp only [hd,hc]
     split at h
     ·rename_i jD;obtain ⟨v,H',h1,h2⟩:=lz (aw.exact gC.up gC.exact) (yes h);refine ⟨v,H',?_,h2⟩;rw [lK,jD];simp only [beq_self_eq_true,if_true];exact h1
     ·rename_i jD;exact no h (by rw [lK];simpa using jD)
    ·rename_i hc;exact no h (by unfold dG;rw [hg];simp only [hd,hc])
    ·exact h.elim
theorem Cb (gC:Good C) {id:Nat} {ops:List Oper} {ls th:List Nat} {fz:List (Nat×List (List Nat×List Sh))} (h:eV C fz (iS K) (ek ops (fun _=>false) (fun _=>[]) th ops 0) 0 s H):aN (aw C) C (.region id ops.toArray false ls th fz) s H K:=
 pS gC (ops:=ops.toArray) ops 0 s H h
theorem sO (gC:Good C) {id:Nat} {ops:List Oper} {ls th:List Nat} {fz:List (Nat×List (List Nat×List Sh))} (hd:iE ops.toArray ls=true) (h:cS C (iS K) (ek ops (fun i=> !ls.contains i) (fZ ops.toArray ls) th ops 0) s H):aN (aw C) C (.region id ops.toArray true ls th fz) s H K:=by
 have:=np gC (ops:=ops.toArray) (q:=fun i=> !ls.contains i) (late:=fZ ops.toArray ls) (th:=th) ops 0 s H h;exact ⟨hd,this⟩
theorem zT (ops:Array Oper):fZ ops []=fun _=>[]:=by funext i;rfl
theorem Cc (gC:Good C) {id:Nat} {ops:List Oper} {th:List Nat} {fz:List (Nat×List (List Nat×List Sh))} (hd:iE ops.toArray []=true) (h:cS C (iS K) (ek ops (fun _=>true) (fun _=>[]) th ops 0) s H):aN (aw C) C (.region id ops.toArray true [] th fz) s H K:=
 sO gC hd (by rw [zT];exact h)
end
theorem Cd {C:aK} (gC:Good C) {f:FuncId} {fn:Func} {c:Code} {res:List ResultVar} {n:Nat} (hc:C.code f=some fn) (hb:fn.body=some c) (hr:fn.results=res.toArray) (hn:fn.ntmps=n) {ys:List AV} {H:J} {P:AV→J→Prop}
 (h: ∀K0,K0=dT C.E res P→aN (aw C) C (da (C.fX f) 0 c) (ys ++ List.replicate (n-ys.length) .undef) H K0):aw C f ys H P:=by
 refine aw.intro gC.up ?_;unfold Body;rw [hc];simp only [hb,hr,hn];exact h _ rfl
end Go.VS
namespace Go.VS
def cB (v:Option AV) (H:J) (K:AV→J→Prop):Prop:=match v with|some v=>K v H|none=>False
def cr (r:Option (AV×J)) (K:AV→J→Prop):Prop:=match r with|some (v,H)=>K v H|none=>False
section
variable {C:aK} {q th:Bool} {s:ah} {H:J} {K:AV→J→Prop}
theorem di (op:Op) (h:dX op=true):aV (aw C) C q th op s H K=cr (aP C.E op s H) K:=by
 have: ∀c,op≠ .call c:=by rintro c rfl;simp [dX] at h
 unfold aV wpOp;split
 ·rename_i bA;exact absurd bA (this _)
 ·rename_i bA;exact absurd bA (this _)
 ·simp only [h,implies_true,true_and];rfl
theorem pT (op:Op) (h: ∀c,op≠ .call c):aV (aw C) C false th op s H K=cr (aP C.E op s H) K:=by
 unfold aV wpOp;split
 ·rename_i bA;exact absurd bA (h _)
 ·rename_i bA;exact absurd bA (h _)
 ·simp only [Bool.false_eq_true,false_implies,true_and];rfl
theorem sP (K:ah→J→Prop):cS C K [] s H=K s H:=rfl
theorem Ce (K:ah→J→Prop) (d:Option Tmp) (op:Op) (q th:Bool) (rest:List GO):cS C K (⟨d,op,none,[],th,q⟩::rest) s H=aV (aw C) C q th op s H fun v H' =>cS C K rest (aZ s d v) H' :=rfl
theorem Cf (K:ah→J→Prop) (d:Option Tmp) (op:Op) (g' :Option Tmp×Bool) (q th:Bool) (rest:List GO):cS C K (⟨d,op,some g',[],th,q⟩::rest) s H=eU (some g') s (aV (aw C) C q th op s H fun v H' =>cS C K rest (aZ s d v) H') (cS C K rest (aZ s d (.aA [])) H):=rfl
theorem Cg (K:ah→J→Prop) (d:Option Tmp) (op:Op) (g:Option (Option Tmp×Bool)) (q th:Bool) (rest:List GO) (l:Op×Option Tmp) (ls:List (Op×Option Tmp)):cS C K (⟨d,op,g,l::ls,th,q⟩::rest) s H=eU g s (aV (aw C) C q th op s H fun v H' =>dO C (aZ s d v) H' (cS C K rest (aZ s d v) H') (l::ls)) (dO C (aZ s d (.aA [])) H (cS C K rest (aZ s d (.aA [])) H) (l::ls)):=rfl
def eK (v:AV) (w:Bool) (a b:Prop):Prop:=match v with| .bool c=>if c=w then a else b| .aA _=>b|_=>False
theorem Ch (a b:Prop):eU none s a b=a:=rfl
theorem Ci (t:Tmp) (w:Bool) (a b:Prop):eU (some (some t,w)) s a b=eK (s.getD t .undef) w a b:=rfl
theorem sQ (a b:Prop):eK (.bool true) true a b=a:=by simp [eK]
theorem sR (a b:Prop):eK (.bool false) false a b=a:=by simp [eK]
theorem sT (a b:Prop):eK (.bool true) false a b=b:=by simp [eK]
theorem sU (a b:Prop):eK (.bool false) true a b=b:=by simp [eK]
theorem Cj (l:List AV) (w:Bool) (a b:Prop):eK (.aA l) w a b=b:=rfl
theorem Ck {α :Type} {c w:Bool} {x y:Option α} {r: α} {a b:Prop} (h:(bif c then x else y)=some r) (ht:c=true→x=some r→eK (.bool true) w a b) (hf:c=false→y=some r→eK (.bool false) w a b):eK (.bool c) w a b:=by
 cases c with
 |true=>exact ht rfl h
 |false=>exact hf rfl h
theorem sV (K:Prop):dO C s H K []=K:=rfl
theorem sW (K:Prop) (op:Op) (t:Tmp) (js:List (Op×Option Tmp)):dO C s H K ((op,some t)::js)=(aP C.E op s H=some (s.getD t .undef,H)∧dO C s H K js):=by
 simp [dO]
theorem sY (t:Tmp) (v:AV):aZ s (some t) v=s.set t v:=rfl
theorem sZ (v:AV):aZ s none v=s:=rfl
theorem s4 (t:Tmp):ev s (.tmp t)=s.getD t .undef:=rfl
theorem s7 (v:Value):ev s (.const v)=ofValue v:=rfl
theorem s8 (f:FuncId):ev s (.func f)= .fn f []:=rfl
theorem s9 (k:IntKind) (n:Int):ofValue (.int k n)= .int k n:=rfl
theorem tc (b:Bool):ofValue (.bool b)= .bool b:=rfl
theorem tg:ofValue (.slice none 0 0)= .nil:=rfl
theorem tj:ofValue .nilIface= .ct false:=rfl
theorem tn:ofValue (.pointer none)= .dQ:=rfl
theorem tp (b:ByteArray):ofValue (.string b)= .str b.data.toList:=rfl
theorem tq (v:AV):cB (some v) H K=K v H:=rfl
theorem tv (x:Operand):aV (aw C) C q th (.move x) s H K=K (ev s x) H:=by rw [di _ rfl];rfl
theorem tw (x:Operand):aV (aw C) C q th (.assign x) s H K=K (ev s x) H:=by rw [di _ rfl];rfl
theorem tz (b:BinOp) (t:TypeId) (x:Operand) (c:Value) (w:TypeId):aV (aw C) C q th (.binOp b t x (.const c) w) s H K=cB (aM C.E b t (ev s x) (ofValue c)) H K:=by
 rw [di _ rfl];simp only [aP,show ev s (.const c)=ofValue c from rfl];generalize aM C.E b t (ev s x) (ofValue c)=r;cases r<;>rfl
def ku (E:aE) (b:BinOp) (t:TypeId) (x y:AV) (H:J) (K:AV→J→Prop):Prop:=match y with| .ct _=>False|y=>cB (aM E b t x y) H K
theorem tA (b:BinOp) (t:TypeId) (x:Operand) (n:Tmp) (w:TypeId):aV (aw C) C q th (.binOp b t x (.tmp n) w) s H K=ku C.E b t (ev s x) (ev s (.tmp n)) H K:=by
 rw [di _ rfl];simp only [aP];generalize ev s (.tmp n)=y;unfold ku;cases y
 all_goals (first|rfl|(simp only;generalize aM C.E b t (ev s x) _=r;cases r<;>rfl))
theorem tB (E:aE) (b:BinOp) (t:TypeId) (x:AV) (k:IntKind) (n:Int):ku E b t x (.int k n) H K=cB (aM E b t x (.int k n)) H K:=rfl
theorem tC (E:aE) (b:BinOp) (t:TypeId) (x:AV) (n:Bool):ku E b t x (.bool n) H K=cB (aM E b t x (.bool n)) H K:=rfl
theorem tD (E:aE) (b:BinOp) (t:TypeId) (x:AV) (n:List UInt8):ku E b t x (.str n) H K=cB (aM E b t x (.str n)) H K:=rfl
theorem tE (E:aE) (b:BinOp) (t:TypeId) (x:AV) (n:List AV):ku E b t x (.agg n) H K=cB (aM E b t x (.agg n)) H K:=rfl
variable (E:aE) (t:TypeId) (k:IntKind) (a b:Int) (c d:Bool) (u v:List UInt8)
theorem tF:aM E .add t (.int k a) (.int k b)=some (.int k (k.wrap (a+b))):=by simp [aM,dq]
theorem tG:aM E .sub t (.int k a) (.int k b)=some (.int k (k.wrap (a-b))):=by simp [aM,dq]
theorem tH:aM E .mul t (.int k a) (.int k b)=some (.int k (k.wrap (a*b))):=by simp [aM,dq]
theorem zU:aM E .and t (.int k a) (.int k b)=some (.int k (k.wrap (BitVec.ofInt k.bits a&&&BitVec.ofInt k.bits b).toNat)):=by simp [aM,dq]
theorem zV:aM E .or t (.int k a) (.int k b)=some (.int k (k.wrap (BitVec.ofInt k.bits a|||BitVec.ofInt k.bits b).toNat)):=by simp [aM,dq]
theorem zW:aM E .xor t (.int k a) (.int k b)=some (.int k (k.wrap (BitVec.ofInt k.bits a^^^BitVec.ofInt k.bits b).toNat)):=by simp [aM,dq]
theorem tI:aM E .eql t (.int k a) (.int k b)=some (.bool (a==b)):=by simp [aM,dq]
theorem tJ:aM E .neq t (.int k a) (.int k b)=some (.bool (a !=b)):=by simp [aM,dq]
theorem tK:aM E .lss t (.int k a) (.int k b)=some (.bool (decide (a<b))):=by simp [aM,dq]
theorem tL:aM E .leq t (.int k a) (.int k b)=some (.bool (decide (a≤b))):=by simp [aM,dq]
theorem tM:aM E .gtr t (.int k a) (.int k b)=some (.bool (decide (b<a))):=by simp [aM,dq]
theorem tN:aM E .geq t (.int k a) (.int k b)=some (.bool (decide (b≤a))):=by simp [aM,dq]
def dv (k:IntKind) (a b:Int):Option Int:=if b=0 then none else some (k.wrap (a.tdiv b))
def md (a b:Int):Option Int:=if b=0 then none else some (a.tmod b)
theorem tO:aM E .quo t (.int k a) (.int k b)=(dv k a b).map (.int k):=by simp [aM,dq,dv];split<;>rfl
theorem tP:aM E .rem t (.int k a) (.int k b)=(md a b).map (.int k):=by simp [aM,dq,md];split<;>rfl
theorem Cl (h:(b==0)=false):dv k a b=some (k.wrap (a.tdiv b)):=by simp at h;simp [dv,h]
theorem Cm (h:(b==0)=false):md a b=some (a.tmod b):=by simp at h;simp [md,h]
def sl (k:IntKind) (a b:Int):Option Int:=if b<0 then none else some (k.wrap (a*2^(min b.toNat k.bits)))
def sr (k:IntKind) (a b:Int):Option Int:=if b<0 then none else some (a.fdiv (2^(min b.toNat k.bits)))
theorem tQ (j:IntKind):aM E .shl t (.int k a) (.int j b)=(sl k a b).map (.int k):=by simp [aM,sl];split<;>rfl
theorem tR (j:IntKind):aM E .shr t (.int k a) (.int j b)=(sr k a b).map (.int k):=by simp [aM,sr];split<;>rfl
theorem tS:aM E .eql t (.str u) (.str v)=some (.bool (u==v)):=by simp [aM,iX]
theorem tT:aM E .neq t (.str u) (.str v)=some (.bool (!(u==v))):=by simp [aM,iX]
def cat (u v:List UInt8):Option (List UInt8):=if u.length+v.length≤2^45 then some (u ++ v) else none
theorem tU:aM E .add t (.str u) (.str v)=(cat u v).map .str:=by simp only [aM,iX,cat];split<;>rfl
theorem Cn {ti:TI} (h:E t=some ti) (hu:ti.au= .bl):aM E .eql t (.bool c) (.bool d)=some (.bool (c==d)):=by simp [aM,h,hu]
theorem Co {ti:TI} (h:E t=some ti) (hu:ti.au= .bl):aM E .neq t (.bool c) (.bool d)=some (.bool (!(c==d))):=by simp [aM,h,hu]
def lL (ti:Option TI) (r:Option Bool) (neg:Bool):Option AV:=match ti with|some ti=>if ti.agg then (match r with|some b=>some (.bool (if neg then !b else b))|none=>none) else none|none=>none
theorem tV (xs ys:List AV):aM E .eql t (.agg xs) (.agg ys)=lL (E t) (dW E 8 t xs ys) false:=by
 simp only [aM,lL];cases E t<;>rfl
theorem tW (xs ys:List AV):aM E .neq t (.agg xs) (.agg ys)=lL (E t) (dW E 8 t xs ys) true:=by
 simp only [aM,lL];cases E t<;>rfl
def iw (ti:Option TI) (x y:AV) (neg:Bool):Option AV:=match ti with|some ti=>(match isNil ti.au x y with|some b=>some (.bool (if neg then !b else b))|none=>none)|none=>none
theorem tX:aM E .eql t .nil .nil=iw (E t) .nil .nil false:=by simp only [aM,iw];cases E t<;>rfl
theorem tY:aM E .neq t .nil .nil=iw (E t) .nil .nil true:=by simp only [aM,iw];cases E t<;>rfl
theorem tZ (x:Bool):aM E .eql t (.ct x) (.ct false)=iw (E t) (.ct x) (.ct false) false:=by simp only [aM,iw];cases E t<;>rfl
theorem t_ (x:Bool):aM E .neq t (.ct x) (.ct false)=iw (E t) (.ct x) (.ct false) true:=by simp only [aM,iw];cases E t<;>rfl
theorem Cp {α :Type} {o:Option Int} {f:Int→Option α} {r: α} (h:o.bind f=some r) (hk: ∀n,o=some n→f n=some r→K (.int k n) H):cB (o.map (.int k)) H K:=by
 cases o with
 |none=>simp at h
 |some n=>exact hk n rfl h
theorem Cq {α :Type} {o:Option (List UInt8)} {f:List UInt8→Option α} {r: α} (h:o.bind f=some r) (hk: ∀n,o=some n→f n=some r→K (.str n) H):cB (o.map .str) H K:=by
 cases o with
 |none=>simp at h
 |some n=>exact hk n rfl h
theorem ua (op:UnOp) (x:Operand):aV (aw C) C q th (.unOp op t x) s H K=cB (iY op (ev s x)) H K:=by
 rw [di _ rfl];simp only [aP];generalize iY op (ev s x)=r;cases r<;>rfl
theorem ub:iY .not (.bool c)=some (.bool !c):=rfl
theorem uc:iY .neg (.int k a)=some (.int k (k.wrap (0-a))):=rfl
def nq (c:AV) (x y:AV) (H:J) (K:AV→J→Prop):Prop:=match c with| .bool t=>K (if t then x else y) H|_=>False
theorem ud (x y z:Operand):aV (aw C) C q th (.pick x y z) s H K=nq (ev s x) (ev s y) (ev s z) H K:=by
 rw [di _ rfl];simp only [aP];generalize ev s x=r;cases r<;>rfl
theorem uf (x y:AV):nq (.bool true) x y H K=K x H:=rfl
theorem ug (x y:AV):nq (.bool false) x y H K=K y H:=rfl
theorem uh (p:Bool):nq (.bool p) (.bool c) (.bool d) H K=K (.bool (if p then c else d)) H:=by cases p<;>rfl
def pU (x:AV) (i:Nat) (H:J) (K:AV→J→Prop):Prop:=match x with| .aA vs=>cB vs[i]? H K|_=>False
theorem ui (x:Operand) (i:Nat):aV (aw C) C q th (.extract x i) s H K=pU (ev s x) i H K:=by
 rw [di _ rfl];simp only [aP,pU];generalize ev s x=r;cases r<;>first|rfl|(simp only;rename_i vs;cases vs[i]? <;>rfl)
theorem uj (vs:List AV) (i:Nat):pU (.aA vs) i H K=cB vs[i]? H K:=rfl
def nr (ti:TI) (x:Option AV) (off:Nat) (H:J) (K:AV→J→Prop):Prop:=match x with|some y=>cB (bS ti y off) H K|none=>False
def nt (ti:TI) (b:Option bG) (idx off:Nat) (H:J) (K:AV→J→Prop):Prop:=match b with|some b=>nr ti b.el[idx]? off H K|none=>False
def nu (ti:Option TI) (x:AV) (H:J) (K:AV→J→Prop):Prop:=
 match ti with
 |some ti=>match x with
  | .fe y off=>cB (bS ti y off) H K
  | .ptr id ad idx off=>nt ti (H.aq id ad) idx off H K
  |_=>False
 |none=>False
theorem uk (x:Operand):aV (aw C) C q th (.load t x) s H K=nu (C.E t) (ev s x) H K:=by
 rw [di _ rfl];simp only [aP,nu];cases C.E t with
 |none=>rfl
 |some ti=>
  simp only;generalize ev s x=r;cases r<;>first|rfl|skip
  ·rename_i id ad idx off;simp only [nt];cases H.aq id ad with
   |none=>rfl
   |some b=>
    simp only [nr];cases b.el[idx]? with
    |none=>rfl
    |some y=>simp only;generalize bS ti y off=z;cases z<;>rfl
  ·rename_i y off;simp only;generalize bS ti y off=z;cases z<;>rfl
theorem ul (ti:TI) (y:AV) (off:Nat):nu (some ti) (.fe y off) H K=cB (bS ti y off) H K:=rfl
theorem um (ti:TI) (id ad idx off:Nat):nu (some ti) (.ptr id ad idx off) H K=nt ti (H.aq id ad) idx off H K:=rfl
theorem uo (ti:TI) (b:bG) (idx off:Nat):nt ti (some b) idx off H K=nr ti b.el[idx]? off H K:=rfl
theorem uq (ti:TI) (y:AV) (off:Nat):nr ti (some y) off H K=cB (bS ti y off) H K:=rfl
def lM (E:aE) (t:TypeId) (f:Nat):Option (Nat×TI):=match E t with
 |some ti=>match ti.au with
  | .st fs=>match fs[f]? with
   |some (o,ft)=>match E ft with
    |some tf=>some (o,tf)
    |none=>none
   |none=>none
  |_=>none
 |none=>none
def iT (p:Option (Nat×TI)) (x:AV) (H:J) (K:AV→J→Prop):Prop:=match p with
 |some (o,tf)=>if tf.sz=0 then False else match x with
  | .ptr id ad idx off=>match H.aq id ad with
   |some _=>K (.ptr id ad idx (off+o)) H
   |none=>False
  | .fe y off=>K (.fe y (off+o)) H
  |_=>False
 |none=>False
theorem ur (x:Operand) (f:Nat):aV (aw C) C q th (.fieldAddr t x f) s H K=iT (lM C.E t f) (ev s x) H K:=by
 rw [di _ rfl];simp only [aP,iT,lM];cases C.E t with
 |none=>rfl
 |some ti=>
  simp only;cases ti.au<;>try rfl
  rename_i fs;simp only;cases fs[f]? with
  |none=>rfl
  |some p=>
   obtain ⟨o,ft⟩:=p;simp only;cases C.E ft with
   |none=>rfl
   |some tf=>
    simp only;split
    ·rfl
    ·generalize ev s x=r;cases r<;>try rfl
     rename_i id ad idx off;simp only;cases H.aq id ad<;>rfl
theorem zX (o:Nat) (tf:TI) (h:(tf.sz==0)=false) (y:AV) (off:Nat):iT (some (o,tf)) (.fe y off) H K=K (.fe y (off+o)) H:=by
 simp at h;simp [iT,h]
theorem zY (o:Nat) (tf:TI) (h:(tf.sz==0)=false) (id ad idx off:Nat):iT (some (o,tf)) (.ptr id ad idx off) H K=(match H.aq id ad with|some _=>K (.ptr id ad idx (off+o)) H|none=>False):=by
 simp at h;simp [iT,h]
def pV (p:Option (Nat×TI)) (x:AV) (H:J) (K:AV→J→Prop):Prop:=match x with
 | .agg cs=>(match p with|some (o,tf)=>cB (bS tf (.agg cs) o) H K|none=>False)
 |_=>False
theorem uu (x:Operand) (f:Nat):aV (aw C) C q th (.field t x f) s H K=pV (lM C.E t f) (ev s x) H K:=by
 rw [di _ rfl];simp only [aP,pV,lM];cases C.E t with
 |none=>simp only;generalize ev s x=r;cases r<;>rfl
 |some ti=>
  simp only;generalize ev s x=r;cases r
  case agg cs=>
   simp only;cases ti.au<;>try rfl
   rename_i fs;simp only;cases fs[f]? with
   |none=>rfl
   |some p=>
    obtain ⟨o,ft⟩:=p;simp only;cases C.E ft with
    |none=>rfl
    |some tf=>simp only;generalize bS tf (.agg cs) o=z;cases z<;>rfl
  all_goals rfl
theorem uw (o:Nat) (tf:TI) (cs:List AV):pV (some (o,tf)) (.agg cs) H K=cB (bS tf (.agg cs) o) H K:=rfl
theorem ux (x:Operand):aV (aw C) C q th (.call {callee:= .builtin .len,args:= #[x],argTypes:= #[t]}) s H K=cr (ck C.E .len #[t] [ev s x] H) K:=by
 unfold aV wpOp;simp only [eM,implies_true,true_and];rfl
def cT (ti:Option TI) (x:AV) (n:Option Nat) (H:J) (K:AV→J→Prop):Prop:=match ti,n with
 |some ti,some n=>match ti.au,x with
  | .str,.str _=>K (.int .i64 n) H
  | .sl _,.str _=>False
  | .sl _,_=>K (.int .i64 n) H
  |_,_=>False
 |_,_=>False
theorem uy (E:aE) (t:TypeId) (x:AV):cr (ck E .len #[t] [x] H) K=cT (E t) x (lenOf H x) H K:=by
 simp only [ck,cT];have:(#[t]:Array TypeId)[0]?.bind E=E t:=rfl;rw [this];cases E t with
 |none=>rfl
 |some ti=>
  obtain ⟨sz,agg,z,nv,au,eq⟩:=ti;cases lenOf H x with
  |none=>rfl
  |some n=>cases au<;>cases x<;>rfl
theorem uz (xs:Array Operand) (tys:Array TypeId):aV (aw C) C q th (.call {callee:= .builtin .min,args:=xs,argTypes:=tys}) s H K=cB (jR (xs.toList.map (ev s))) H K:=by
 unfold aV wpOp;simp only [eM,implies_true,true_and,ck];generalize jR _=r;cases r<;>rfl
theorem uA (xs:Array Operand) (tys:Array TypeId):aV (aw C) C q th (.call {callee:= .builtin .max,args:=xs,argTypes:=tys}) s H K=cB (jS (xs.toList.map (ev s))) H K:=by
 unfold aV wpOp;simp only [eM,implies_true,true_and,ck];generalize jS _=r;cases r<;>rfl
theorem min2:jR [.int k a,.int k b]=some (.int k (if b<a then b else a)):=rfl
theorem max2:jS [.int k a,.int k b]=some (.int k (if b>a then b else a)):=rfl
end
end Go.VS
namespace Go.VS
structure It where
 v:AV
 sz:Nat
 el:List AV
def bY:AV→Option Nat
 | .ref id _ _ _=>some id
 | .ptr id _ _ _=>some id
 |_=>none
def fw (H:J) (it:It):Prop:=bp it.sz it.el=true∧match it.v with
 | .nil=>it.el=[]
 | .e0=>it.el=[]
 | .ref id ad off len=>len=it.el.length∧ ∃b,H.aq id ad=some b∧b.sz=it.sz∧b.fix=false∧off+len≤b.el.length∧aI b.el off len=it.el
 | .ptr id ad idx off=>idx=0∧off=0∧it.el.length=1∧H.aq id ad=some ⟨ad,it.sz,false,it.el⟩
 |_=>False
structure ap (H:J) (L:List It):Prop where
 ok: ∀(i:Nat) (it:It),L[i]? =some it→fw H it
 b_: ∀(i j:Nat) (a b:It) (id:Nat),L[i]? =some a→L[j]? =some b→bY a.v=some id→bY b.v=some id→i=j
theorem fw.lt {H:J} {it:It} (h:fw H it) {id:Nat} (hi:bY it.v=some id):id<H.bs.length:=by
 obtain ⟨_,h⟩:=h;cases hv:it.v with
 |ref i ad off len=>
  rw [hv] at h hi;simp only [bY,Option.some.injEq] at hi;subst hi;obtain ⟨_,b,hb,_⟩:=h;exact J.f_ (J.bm hb).1
 |ptr i ad ix off=>
  rw [hv] at h hi;simp only [bY,Option.some.injEq] at hi;subst hi;obtain ⟨_,_,_,hb⟩:=h;exact J.f_ (J.bm hb).1
 |_=>rw [hv] at hi;simp [bY] at hi
theorem fw.frame {H H' :J} {it:It} (h:fw H it) (hk: ∀id ad,bY it.v=some id→H'.aq id ad=H.aq id ad):fw H' it:=by
 obtain ⟨h0,h⟩:=h;refine ⟨h0,?_⟩;cases hv:it.v with
 |ref i ad off len=>
  rw [hv] at h hk;obtain ⟨h1,b,hb,h2⟩:=h;exact ⟨h1,b,by rw [hk i ad rfl];exact hb,h2⟩
 |ptr i ad ix off=>
  rw [hv] at h hk;obtain ⟨h1,h2,h3,hb⟩:=h;exact ⟨h1,h2,h3,by rw [hk i ad rfl];exact hb⟩
 |_=>rw [hv] at h;exact h
theorem ap.tl {H:J} {a:It} {L:List It} (h:ap H (a::L)):ap H L:=
 ⟨fun i it hi=>h.ok (i+1) it hi,fun i j x y id h1 h2 h3 h4=>by have:=h.b_ (i+1) (j+1) x y id h1 h2 h3 h4;omega⟩
theorem ap.nil (H:J):ap H []:=⟨by simp,by simp⟩
theorem ap.bg {H H' :J} {L:List It} (h:ap H L) {j:Nat} {it jE:It} (hj:L[j]? =some it) {i:Nat} (hi:bY it.v=some i) (hk: ∀id ad,id≠i→id<H.bs.length→H'.aq id ad=H.aq id ad) (hn:fw H' jE) (bU: ∀k,bY jE.v=some k→k=i):ap H' (L.set j jE):=by
 have ax:j<L.length:=(List.getElem?_eq_some_iff.1 hj).1;refine ⟨fun k a bJ=> ?_,fun k l a b id h1 h2 h3 h4=> ?_⟩
 ·rw [List.getElem?_set] at bJ;split at bJ
  ·simp only [Option.some.injEq] at bJ;subst bJ;exact hn
  ·rename_i aH;have ho:=h.ok k a bJ;refine ho.frame fun id ad uB=>hk id ad (fun e=> ?_) (ho.lt uB)
   subst e;exact aH (h.b_ j k it a id hj bJ hi uB)
 ·rw [List.getElem?_set] at h1 h2;split at h1
  ·rename_i e1;subst e1;simp only [Option.some.injEq] at h1;subst h1;split at h2
   ·rename_i e2;exact e2
   ·have:=bU id h3;subst this;exact h.b_ j l it b id hj h2 hi h4
  ·split at h2
   ·rename_i e2;subst e2;simp only [Option.some.injEq] at h2;subst h2;have:=bU id h4;subst this;exact h.b_ k j a it id h1 hj h3 hi
   ·exact h.b_ k l a b id h1 h2 h3 h4
theorem ap.new {H H' :J} {L:List It} (h:ap H L) (hk: ∀id ad,id<H.bs.length→H'.aq id ad=H.aq id ad) {it:It} (hn:fw H' it) (bU: ∀k,bY it.v=some k→H.bs.length≤k):ap H' (it::L):=by
 refine ⟨fun k a bJ=> ?_,fun k l a b id h1 h2 h3 h4=> ?_⟩
 ·cases k with
  |zero=>simp at bJ;subst bJ;exact hn
  |succ k=>have ho:=h.ok k a (by simpa using bJ);exact ho.frame fun id ad hi=>hk id ad (ho.lt hi)
 ·cases k with
  |zero=>
   simp at h1;subst h1;cases l with
   |zero=>rfl
   |succ l=>
    have:=(h.ok l b (by simpa using h2)).lt h4
    have:=bU id h3;omega
  |succ k=>
   cases l with
   |zero=>
    simp at h2;subst h2;have:=(h.ok k a (by simpa using h1)).lt h3
    have:=bU id h4;omega
   |succ l=>have:=h.b_ k l a b id (by simpa using h1) (by simpa using h2) h3 h4;omega
theorem ap.uC {H H' :J} {L:List It} (h:ap H L) (hk: ∀id ad,id<H.bs.length→H'.aq id ad=H.aq id ad) {j:Nat} {jE:It} (hn:fw H' jE) (bU: ∀k,bY jE.v=some k→H.bs.length≤k):ap H' (L.set j jE):=by
 refine ⟨fun k a bJ=> ?_,fun k l a b id h1 h2 h3 h4=> ?_⟩
 ·rw [List.getElem?_set] at bJ;split at bJ
  ·split at bJ
   ·simp only [Option.some.injEq] at bJ;subst bJ;exact hn
   ·simp at bJ
  ·have ho:=h.ok k a bJ;exact ho.frame fun id ad hi=>hk id ad (ho.lt hi)
 ·rw [List.getElem?_set] at h1 h2;split at h1
  ·rename_i e1;subst e1;split at h1
   ·simp only [Option.some.injEq] at h1;subst h1;split at h2
    ·rename_i e2;exact e2
    ·have:=(h.ok l b h2).lt h4;have:=bU id h3;omega
   ·simp at h1
  ·split at h2
   ·rename_i e2;subst e2;split at h2
    ·simp only [Option.some.injEq] at h2;subst h2;have:=(h.ok k a h1).lt h3;have:=bU id h4;omega
    ·simp at h2
   ·exact h.b_ k l a b id h1 h2 h3 h4
theorem nw {H:J} {sz:Nat} {fx:Bool} {el:List AV} {id ad:Nat} (h:id<H.bs.length):(H.new sz fx el).aq id ad=H.aq id ad:=by
 simp only [J.aq,J.new,List.getElem?_append_left h]
theorem nx {H:J} {sz:Nat} {fx:Bool} {el:List AV}:(H.new sz fx el).aq H.bs.length H.st=some ⟨H.st,sz,fx,el⟩:=by
 simp [J.aq,J.new]
theorem kx {H:J} {i id ad:Nat} {b:bG} (h:id≠i):(H.bg i b).aq id ad=H.aq id ad:=by
 have h' : ¬i=id:=fun e=>h e.symm
 simp only [J.aq,J.bg,List.getElem?_set,if_neg h']
theorem jF {H:J} {id:Nat} {b:bG} (h:id<H.bs.length):(H.bg id b).aq id b.ad=some b:=by
 simp [J.aq,J.bg,h]
section
variable {C:aK} {th:Bool} {s:ah} {H:J} {K:AV→J→Prop} {L:List It}
theorem ap.iU (hS:ap H L) {sz n:Nat} {el all:List AV} (he:all.take n=el) (hn:n=el.length) (aG:bp sz el=true):ap (H.new sz false all) (⟨.ref H.bs.length H.st 0 n,sz,el⟩::L):=by
 refine hS.new (fun id ad h=>nw h) ⟨aG,hn,_,nx,rfl,rfl,?_,by simpa [aI] using he⟩ (fun k hk=>by simp [bY] at hk;omega)
 have:=congrArg List.length he;simp at this;simp only;omega
theorem ap.newVar (hS:ap H L) {sz:Nat} {a:AV} (aG:a.cells.length=sz):ap (H.new sz false [a]) (⟨.ptr H.bs.length H.st 0 0,sz,[a]⟩::L):=
 hS.new (fun id ad h=>nw h) ⟨by simp [bp,aG],rfl,rfl,rfl,nx⟩ (fun k hk=>by simp [bY] at hk;omega)
theorem ap.var (hS:ap H L) (j:Nat) {id ad sz:Nat} {a:AV} (hj:L[j]? =some ⟨.ptr id ad 0 0,sz,[a]⟩):H.aq id ad=some ⟨ad,sz,false,[a]⟩:=(hS.ok j _ hj).2.2.2.2
theorem Cr {t:TypeId} {x:Operand} {ti:TI} {a:AV} (hS:ap H L) (ht:C.E t=some ti) (hx:ev s x=a) (h1:a.cells.length=ti.sz) (h2:dC a=true)
 (h: ∀id ad H',ap H' (⟨.ptr id ad 0 0,ti.sz,[a]⟩::L)→K (.ptr id ad 0 0) H') {q:Bool}:aV (aw C) C q th (.box t x) s H K:=by
 rw [di _ rfl];simp only [aP,ht,hx,h1,h2,and_self,if_true,cr];exact h _ _ _ (hS.newVar h1)
theorem pW {ti:TI} {z:AV} (h:ep ti=some z):z.cells.length=ti.sz:=by
 unfold ep at h;split at h
 ·rename_i hc;rcases kP h with ⟨_,rfl⟩|⟨_,hz⟩
  ·exact hc.2
  ·have:cV z=true:=by have:=hc.1;rw [hz] at this;simpa using this
   have hl:=hc.2;rw [hz] at hl;cases z<;>first|exact hl|simp [cV] at this
 ·simp at h
theorem uD {ti:TI} {z:AV} (h:fT ti=some z):z.cells.length=ti.sz:=by
 unfold fT at h;split at h
 ·rename_i z0 jg;simp only [Option.some.injEq] at h;subst h;split
  ·rw [j6,List.length_map];exact pW jg
  ·exact pW jg
 ·simp at h
theorem Cs {t:TypeId} {ti:TI} {z:AV} (hS:ap H L) (ht:C.E t=some ti) (hz:ep ti=some z)
 (h: ∀id ad H',ap H' (⟨.ptr id ad 0 0,ti.sz,[z]⟩::L)→K (.ptr id ad 0 0) H') {q:Bool}:aV (aw C) C q th (.alloc t) s H K:=by
 rw [di _ rfl];simp only [aP,ht,hz,cr];exact h _ _ _ (hS.newVar (pW hz))
theorem Ct {t:TypeId} {x v:Operand} {ti:TI} {id ad sz o:Nat} {y y' a:AV} (j:Nat) (hS:ap H L) (hj:L[j]? =some ⟨.ptr id ad 0 0,sz,[y]⟩) (ht:C.E t=some ti) (hx:ev s x= .ptr id ad 0 o) (hv:ev s v=a)
 (h1:a.cells.length=ti.sz) (h2:dC a=true) (hw:eY y o a=some y') (h3:y'.cells.length=sz) (h: ∀H',ap H' (L.set j ⟨.ptr id ad 0 0,sz,[y']⟩)→K (.aA []) H'):aV (aw C) C false th (.store t x v) s H K:=by
 rw [pT _ (by simp)]
 have hb:=hS.var j hj;simp only [aP,ht,hx,hv,hb,List.getElem?_cons_zero,h1,h2,and_self,if_true,hw,List.set_cons_zero,cr];refine h _ (hS.bg hj rfl (fun dH fp aH _=>kx aH) ⟨by simp [bp,h3],rfl,rfl,rfl,?_⟩ (fun k hk=>by simpa [bY] using hk.symm))
 exact jF ((hS.ok j _ hj).lt rfl)
end
def idx {α :Type} (l:List α) (i:Int):Option α :=if 0≤i then l[i.toNat]? else none
theorem Cu {α β :Type} (f: α → β) (l:List α) (i:Int):idx (l.map f) i=(idx l i).map f:=by
 unfold idx;split
 ·simp
 ·rfl
theorem gF {α :Type} {l:List α} {i:Int} {x: α} (h:idx l i=some x):0≤i∧i<l.length∧l[i.toNat]? =some x:=by
 unfold idx at h;split at h
 ·rename_i h0;have:=(List.getElem?_eq_some_iff.1 h).1;exact ⟨h0,by omega,h⟩
 ·simp at h
def Cv (E:aE) (t:TypeId):Option TI:=match E t with
 |some ti=>match ti.au with| .sl e=>E e|_=>none
 |none=>none
section
variable {C:aK} {q th:Bool} {s:ah} {H:J} {K:AV→J→Prop} {L:List It}
def lN (l:List UInt8) (n:Int) (H:J) (K:AV→J→Prop):Prop:=match idx l n with|some b=>K (.int .u8 b.toNat) H|none=>False
def ky (E:aE) (ti:Option TI) (x i:AV) (H:J) (K:AV→J→Prop):Prop:=match ti,i with
 |some ti,.int _ n=>match ti.au,x with
  | .str,.str l=>lN l n H K
  | .ar m e,.agg cs=>match E e with
   |some te=>if 0≤n∧n<m then cB (bS te (.agg cs) (n.toNat*te.sz)) H K else False
   |none=>False
  |_,_=>False
 |_,_=>False
theorem uE (t:TypeId) (x i:Operand):aV (aw C) C q th (.index t x i) s H K=ky C.E (C.E t) (ev s x) (ev s i) H K:=by
 rw [di _ rfl];simp only [aP,ky];generalize ev s i=n;generalize ev s x=a;cases C.E t with
 |none=>rfl
 |some ti=>
  cases n
  case int k n=>
   simp only;cases ti.au<;>cases a<;>try rfl
   ·rename_i m e cs;simp only;cases C.E e with
    |none=>rfl
    |some te=>
     simp only;split
     ·generalize bS te (.agg cs) (n.toNat*te.sz)=z;cases z<;>rfl
     ·rfl
   ·rename_i l;simp only [lN,idx];split
    ·cases l[n.toNat]? <;>rfl
    ·rfl
  all_goals rfl
def lO:UD→Bool
 | .str=>true
 |_=>false
theorem uF:lO .str=true:=rfl
def jG:UD→Bool
 | .sl _=>true
 |_=>false
theorem uG (e:TypeId):jG (.sl e)=true:=rfl
theorem uH (E:aE) (ti:TI) (hu:lO ti.au=true) (l:List UInt8) (k:IntKind) (n:Int):ky E (some ti) (.str l) (.int k n) H K=lN l n H K:=by
 cases h:ti.au<;>rw [h] at hu<;>simp [lO] at hu
 simp only [ky,h]
theorem Cw (E:aE) (ti:TI) (m:Nat) (e:TypeId) (hu:ti.au= .ar m e) (cs:List AV) (k:IntKind) (n:Int):ky E (some ti) (.agg cs) (.int k n) H K=(match E e with|some te=>if 0≤n∧n<m then cB (bS te (.agg cs) (n.toNat*te.sz)) H K else False|none=>False):=by
 simp only [ky,hu]
theorem Cx {α :Type} {l:List UInt8} {n:Int} {f:UInt8→Option α} {r: α} (h:(idx l n).bind f=some r) (hk: ∀b,idx l n=some b→f b=some r→K (.int .u8 b.toNat) H):lN l n H K:=by
 unfold lN;cases hi:idx l n with
 |none=>rw [hi] at h;simp at h
 |some b=>rw [hi] at h;exact hk b hi h
def iy (E:aE) (t:TypeId) (x i:AV) (H:J) (K:AV→J→Prop):Prop:=cr (match E t,i with
 |some ti,.int _ n=>match ti.au with
  | .sl e=>match E e with
   |some te=>match x with
    | .fz xs=>if 0≤n then match xs[n.toNat]? with
     |some y=>if y.cells.length=te.sz then some (.fe y 0,H) else none
     |none=>none
     else none
    | .ref id ad off len=>match H.aq id ad with
     |some b=>if b.sz=te.sz∧0≤n∧n<len∧off+len≤b.el.length then some (.ptr id ad (off+n.toNat) 0,H) else none
     |none=>none
    |_=>none
   |none=>none
  | .ar m e=>match E e with
   |some te=>if 0≤n∧n<m then match x with
    | .ptr id ad idx off=>match H.aq id ad with
     |some _=>some (.ptr id ad idx (off+n.toNat*te.sz),H)
     |none=>none
    | .fe y off=>some (.fe y (off+n.toNat*te.sz),H)
    |_=>none
    else none
   |none=>none
  |_=>none
 |_,_=>none) K
theorem uI (t:TypeId) (x i:Operand):aV (aw C) C q th (.indexAddr t x i) s H K=iy C.E t (ev s x) (ev s i) H K:=by
 rw [di _ rfl];rfl
theorem Cy {α β :Type} {E:aE} {t:TypeId} {ti te:TI} {e:TypeId} (ht:E t=some ti) (hu:ti.au= .sl e) (he:E e=some te) {l:List α} {c: α →AV} (hc: ∀x,(c x).cells.length=te.sz) {k:IntKind} {n:Int} {f: α →Option β} {r: β} (h:(idx l n).bind f=some r)
 (hk: ∀x,idx l n=some x→f x=some r→K (.fe (c x) 0) H):iy E t (.fz (l.map c)) (.int k n) H K:=by
 cases hi:idx l n with
 |none=>rw [hi] at h;simp at h
 |some x=>
  rw [hi] at h;obtain ⟨h0,_,h1⟩:=gF hi;simp only [iy,ht,hu,he,h0,if_true,List.getElem?_map,h1,Option.map_some,hc,cr];exact hk x hi h
theorem Cz {α β :Type} {E:aE} {t:TypeId} {ti te:TI} {e:TypeId} (j:Nat) (hS:ap H L) {v:AV} {l:List α} {c: α →AV} {sz:Nat} (hj:L[j]? =some ⟨v,sz,l.map c⟩) (ht:E t=some ti) (hu:ti.au= .sl e) (he:E e=some te) (aG:sz=te.sz) {k:IntKind} {n:Int} {f: α →Option β} {r: β}
 (h:(idx l n).bind f=some r) (hk: ∀x id ad off,idx l n=some x→f x=some r→v= .ref id ad off l.length→K (.ptr id ad (off+n.toNat) 0) H) (hp: ∀id ad,v≠ .ptr id ad 0 0):iy E t v (.int k n) H K:=by
 cases hi:idx l n with
 |none=>rw [hi] at h;simp at h
 |some x=>
  rw [hi] at h;obtain ⟨h0,h2,h1⟩:=gF hi;have af:=(hS.ok j _ hj).2;simp only at af;have aH:l.map c≠[]:=by intro e;rw [List.map_eq_nil_iff] at e;subst e;simp at h1
  split at af
  ·exact absurd af aH
  ·exact absurd af aH
  ·rename_i id ad off len;obtain ⟨h3,b,hb,h4,_,h5,h6⟩:=af;simp only [List.length_map] at h3;subst h3;simp only [iy,ht,hu,he,hb];rw [if_pos ⟨by rw [h4,aG],h0,h2,h5⟩]
   exact hk x id ad off hi h rfl
  ·rename_i id ad ix off;obtain ⟨rfl,rfl,_⟩:=af;exact absurd rfl (hp id ad)
  ·exact af.elim
theorem ap.elem {α :Type} (hS:ap H L) (j:Nat) {id ad off n sz:Nat} {v:AV} {l:List α} {c: α →AV} (hj:L[j]? =some ⟨v,sz,l.map c⟩) (hv:v= .ref id ad off n) {i:Int} {x: α} (hx:idx l i=some x): ∃b,H.aq id ad=some b∧b.el[off+i.toNat]? =some (c x):=by
 obtain ⟨h0,h2,h1⟩:=gF hx;subst hv;obtain ⟨_,h3,b,hb,h4,_,h5,h6⟩:=hS.ok j _ hj;refine ⟨b,hb,?_⟩;simp only at h3 h6;have:=congrArg (·[i.toNat]?) h6;simp only [List.getElem?_map,h1,Option.map_some,aI] at this;rw [←this,List.getElem?_take,List.getElem?_drop,if_pos (by simp at h3;omega)]
theorem CA {α :Type} {t:TypeId} {x w:Operand} {ti:TI} {id ad off n sz o:Nat} {v a:AV} {l:List α} {c: α →AV} {i:Int} {y y' : α} (j:Nat) (hS:ap H L) (hj:L[j]? =some ⟨v,sz,l.map c⟩) (hv:v= .ref id ad off n) (hi:idx l i=some y) (ht:C.E t=some ti) (hx:ev s x= .ptr id ad (off+i.toNat) o) (hw:ev s w=a)
 (h1:a.cells.length=ti.sz) (h2:dC a=true) (hr:eY (c y) o a=some (c y')) (h3:(c y').cells.length=sz) (h: ∀H',ap H' (L.set j ⟨v,sz,(l.set i.toNat y').map c⟩)→K (.aA []) H'):aV (aw C) C false th (.store t x w) s H K:=by
 rw [pT _ (by simp)]
 obtain ⟨b,hb,he⟩:=hS.elem j hj hv hi;simp only [aP,ht,hx,hw,hb,he,h1,h2,and_self,if_true,hr,cr];subst hv;obtain ⟨k0,k1,b',ay,k2,k3,k4,k5⟩:=hS.ok j _ hj;rw [hb] at ay;simp only [Option.some.injEq] at ay;subst ay;simp only at k1 k5;obtain ⟨i0,i1,i2⟩:=gF hi;have bz:=(J.bm hb).2;refine h _ (hS.bg hj rfl (fun dH fp aH _=>kx aH) ⟨?_,by simpa using k1,{b with el:=b.el.set (off+i.toNat) (c y')},?_,k2,k3,by simpa using k4,?_⟩ (fun k hk=>by simpa [bY] using hk.symm))
 ·simp only [bp,List.all_eq_true,List.mem_map] at k0⊢;rintro z ⟨z',hz,rfl⟩;rcases List.mem_or_eq_of_mem_set hz with h' |rfl
  ·exact k0 _ ⟨z',h',rfl⟩
  ·simpa using h3
 ·have:=jF (b:={b with el:=b.el.set (off+i.toNat) (c y')}) ((hS.ok j _ hj).lt rfl);simpa only [bz] using this
 ·simp only [aI,List.map_set] at k5⊢;rw [←k5,List.drop_set,if_neg (by omega),List.take_set]
  congr 1;omega
end
end Go.VS
namespace Go.VS
structure aJ (v:AV):Prop where
 ok:v= .nil∨v= .e0∨ ∃id ad off len,v= .ref id ad off len
theorem eW (id ad off len:Nat):aJ (.ref id ad off len):=⟨.inr (.inr ⟨id,ad,off,len,rfl⟩)⟩
theorem lP:aJ .nil:=⟨.inl rfl⟩
theorem ny:aJ .e0:=⟨.inr (.inl rfl)⟩
theorem aJ.ne {v:AV} (h:aJ v) (id ad:Nat):v≠ .ptr id ad 0 0:=by
 rcases h.ok with rfl|rfl|⟨_,_,_,_,rfl⟩<;>simp
theorem aJ.cells {v:AV} (h:aJ v):v.cells=[v]:=by
 rcases h.ok with rfl|rfl|⟨_,_,_,_,rfl⟩<;>rfl
theorem aJ.qp {v:AV} (h:aJ v):cV v=true:=by
 rcases h.ok with rfl|rfl|⟨_,_,_,_,rfl⟩<;>rfl
theorem aJ.CB {v:AV} (h:aJ v):dC v=true:=by
 rcases h.ok with rfl|rfl|⟨_,_,_,_,rfl⟩<;>rfl
theorem aJ.rd {v:AV} (h:aJ v) (z:List AV) (b:Nat) (w:UD) (e:Bool):bS ⟨1,false,z,b,w,e⟩ v 0=some v:=by
 rcases h.ok with rfl|rfl|⟨_,_,_,_,rfl⟩<;>rfl
theorem aJ.same {v:AV} (h:aJ v):e8 v v=true:=by
 rcases h.ok with rfl|rfl|⟨_,_,_,_,rfl⟩<;>simp [e8]
theorem aJ.wr {v:AV} (h:aJ v) (cs:List AV) (o:Nat) (ho:o<cs.length):eY (.agg cs) o v=some (.agg (cs.set o v)):=by
 simp only [eY,h.cells,List.length_cons,List.length_nil];rw [if_pos (by omega)]
 simp only [splice,List.length_cons,List.length_nil,List.append_assoc,List.cons_append,List.nil_append,Option.some.injEq,AV.agg.injEq];rw [List.set_eq_take_append_cons_drop,if_pos ho]
section
variable {C:aK} {q th:Bool} {s:ah} {H:J} {K:AV→J→Prop} {L:List It}
theorem ap.len (hS:ap H L) (j:Nat) {v:AV} {sz:Nat} {el:List AV} (hj:L[j]? =some ⟨v,sz,el⟩) (hp:aJ v):lenOf H v=some el.length:=by
 have af:=(hS.ok j _ hj).2;simp only at af;split at af
 ·subst af;rfl
 ·subst af;rfl
 ·rename_i id ad off len;obtain ⟨h3,b,hb,_⟩:=af;simp only [lenOf,h3]
 ·rename_i id ad ix off;obtain ⟨rfl,rfl,_⟩:=af;exact absurd rfl (hp.ne id ad)
 ·exact af.elim
theorem ap.g6 (hS:ap H L) (j:Nat) {v:AV} {sz:Nat} {el:List AV} (hj:L[j]? =some ⟨v,sz,el⟩) (hp:aJ v):b6 H v=some el:=by
 have af:=(hS.ok j _ hj).2;simp only at af;split at af
 ·subst af;rfl
 ·subst af;rfl
 ·rename_i id ad off len;obtain ⟨h3,b,hb,_,_,h5,h6⟩:=af;simp only [b6,hb,h5,if_true,h6]
 ·rename_i id ad ix off;obtain ⟨rfl,rfl,_⟩:=af;exact absurd rfl (hp.ne id ad)
 ·exact af.elim
theorem ap.zZ (hS:ap H L) (j:Nat) {v:AV} {sz:Nat} {el:List AV} (hj:L[j]? =some ⟨v,sz,el⟩) (l:List UInt8):v≠ .str l:=by
 rintro rfl;exact (hS.ok j _ hj).2
theorem uJ (j:Nat) (hS:ap H L) {v:AV} {sz:Nat} {el:List AV} (hj:L[j]? =some ⟨v,sz,el⟩) (hp:aJ v) {ti:TI} {e:TypeId} (hu:ti.au= .sl e) (h:K (.int .i64 el.length) H):cT (some ti) v (lenOf H v) H K:=by
 rw [hS.len j hj hp];have hn:=hS.zZ j hj;simp only [cT,hu];cases v with
 |str l=>exact absurd rfl (hn l)
 |_=>exact h
theorem uK (xs:List AV):lenOf H (.fz xs)=some xs.length:=rfl
theorem uL (l:List UInt8):lenOf H (.str l)=some l.length:=rfl
theorem uM:lenOf H .nil=some 0:=rfl
theorem uN:lenOf H .e0=some 0:=rfl
theorem z6 (ti:TI) {e:TypeId} (hu:ti.au= .sl e) (xs:List AV) (n:Nat):cT (some ti) (.fz xs) (some n) H K=K (.int .i64 n) H:=by simp [cT,hu]
theorem z7 (ti:TI) {e:TypeId} (hu:ti.au= .sl e) (n:Nat):cT (some ti) .nil (some n) H K=K (.int .i64 n) H:=by simp [cT,hu]
theorem z8 (ti:TI) {e:TypeId} (hu:ti.au= .sl e) (n:Nat):cT (some ti) .e0 (some n) H K=K (.int .i64 n) H:=by simp [cT,hu]
theorem z9 (ti:TI) (hu:ti.au= .str) (l:List UInt8) (n:Nat):cT (some ti) (.str l) (some n) H K=K (.int .i64 n) H:=by simp [cT,hu]
theorem z_ {α β :Type} {t:TypeId} {x y:Operand} {te:TI} {z:AV} {n:Int} {c: α →AV} {d: α} {f:List α →Option β} {r: β} (hS:ap H L) (ht:cc C.E t=some te) (hx:ev s x= .int .i64 n) (hy:ev s y= .int .i64 n) (hz:fT te=some z) (hd:c d=z) (h0:te.sz≠0)
 (hh:(if 0≤n∧roomy n.toNat te.bytes then some (List.replicate n.toNat d) else none:Option (List α)).bind f=some r)
 (h: ∀v H',aJ v→0≤n→roomy n.toNat te.bytes=true→f (List.replicate n.toNat d)=some r→ap H' (⟨v,te.sz,(List.replicate n.toNat d).map c⟩::L)→K v H'):aV (aw C) C q th (.makeSlice t x y) s H K:=by
 rw [di _ rfl];split at hh
 ·rename_i hc;simp only [aP,ht,hx,hy,hz];rw [if_pos ⟨hc.1,Int.le_refl _,hc.2,h0⟩];refine h _ _ (eW ..) hc.1 hc.2 hh (hS.iU (by simp [hd]) (by simp) ?_)
  simp only [bp,List.map_replicate,List.all_replicate,hd,uD hz];simp
 ·simp at hh
theorem CC {t:TypeId} {ps:Array (Nat×Operand)} {te:TI} (ht:cc C.E t=some te) (hp:ps.size=0) (h:K .e0 H):aV (aw C) C q th (.buildSlice t 0 ps) s H K:=by
 rw [di _ rfl];simp only [aP,ht,hp,if_true];exact h
theorem CD {t:TypeId} {n:Nat} {ps:Array (Nat×Operand)} {te:TI} {z:AV} {el:List AV} (hS:ap H L) (ht:cc C.E t=some te) (hz:ep te=some z) (hn:(n==0)=false) (hb:(decide (n*te.sz≤1000000)&&te.sz !=0)=true)
 (he:gK te.sz (List.replicate n z) (ps.toList.map fun p=>(p.1,ev s p.2))=some el) (hl:el.length=n) (aG:bp te.sz el=true) (h: ∀v H',aJ v→ap H' (⟨v,te.sz,el⟩::L)→K v H'):aV (aw C) C q th (.buildSlice t n ps) s H K:=by
 rw [di _ rfl];simp at hn hb;simp only [aP,ht,if_neg hn,hz];rw [if_pos hb];simp only [he];exact h _ _ (eW ..) (hS.iU (by rw [←hl];simp) hl.symm aG)
theorem uO {sz:Nat} {a b:List AV} (ha:bp sz a=true) (hb:bp sz b=true):bp sz (a ++ b)=true:=by
 unfold bp at*;rw [List.all_append,ha,hb];rfl
theorem pX (hS:ap H L) (j:Nat) {te:TI} {v x:AV} {el xs:List AV} (hj:L[j]? =some ⟨v,te.sz,el⟩) (hp:aJ v) (hx:b6 H x=some xs) (aG:bp te.sz xs=true) (h0:te.sz≠0) (hr:roomy (el.length+xs.length) te.bytes=true):
 ∃v' H',dR te v x H=some (v',H')∧aJ v' ∧ap H' (L.set j ⟨v',te.sz,el ++ xs⟩):=by
 have af:=hS.ok j _ hj;obtain ⟨k0,af⟩:=af;have fk: ∀it:It,L[j]? =some it→L.set j it=L:=fun it h=>List.ext_getElem? fun k=>by
  rw [List.getElem?_set];split
  ·rename_i e;subst e;have:=(List.getElem?_eq_some_iff.1 h).1;simp only [this,if_true];exact h.symm
  ·rfl
 simp only [dR,hx,aG,Bool.not_true,if_neg h0];simp only at af k0;split at af
 ·subst af;by_cases hn:xs.length=0
  ·have:xs=[]:=List.eq_nil_of_length_eq_zero hn;subst this;refine ⟨.nil,H,by simp,lP,?_⟩
   rw [List.append_nil,fk _ hj];exact hS
  ·have bO:roomy xs.length te.bytes=true:=by simpa using hr
   refine ⟨.ref H.bs.length H.st 0 xs.length,H.new te.sz false xs,by simp [hn,bO],eW ..,?_⟩
   exact hS.uC (fun id ad h=>nw h) ⟨by simpa using aG,by simp,_,nx,rfl,rfl,by simp,by simp [aI]⟩ (fun k hk=>by simp [bY] at hk;omega)
 ·subst af;by_cases hn:xs.length=0
  ·have:xs=[]:=List.eq_nil_of_length_eq_zero hn;subst this;refine ⟨.e0,H,by simp,ny,?_⟩
   rw [List.append_nil,fk _ hj];exact hS
  ·have bO:roomy xs.length te.bytes=true:=by simpa using hr
   refine ⟨.ref H.bs.length H.st 0 xs.length,H.new te.sz false xs,by simp [hn,bO],eW ..,?_⟩
   exact hS.uC (fun id ad h=>nw h) ⟨by simpa using aG,by simp,_,nx,rfl,rfl,by simp,by simp [aI]⟩ (fun k hk=>by simp [bY] at hk;omega)
 ·rename_i id ad off len;obtain ⟨k1,b,hb,k2,k3,k4,k5⟩:=af;have ax:=(hS.ok j _ hj).lt rfl;have bz:=(J.bm hb).2;subst k1;by_cases cq:off+el.length+xs.length≤b.el.length
  ·refine ⟨.ref id ad off (el.length+xs.length),H.bg id {b with el:=splice b.el (off+el.length) xs},by simp [hb,k2,cq],eW ..,?_⟩
   refine hS.bg hj rfl (fun dH fp aH _=>kx aH) ⟨uO k0 aG,by simp,{b with el:=splice b.el (off+el.length) xs},?_,k2,k3,?_,?_⟩ (fun k hk=>by simpa [bY] using hk.symm)
   ·have:=jF (b:={b with el:=splice b.el (off+el.length) xs}) ax;simpa only [bz] using this
   ·simp only [jd _ _ _ cq];omega
   ·simp only [aI] at k5⊢;have e1:(splice b.el (off+el.length) xs).drop off=el ++ (xs ++ b.el.drop (off+el.length+xs.length)):=by
     unfold splice;rw [List.append_assoc,List.drop_append_of_le_length (by simp;omega)]
     congr 1;rw [List.drop_take];have:off+el.length-off=el.length:=by omega
     rw [this,k5]
    rw [e1,←List.append_assoc,List.take_append_of_le_length (by simp),List.take_of_length_le (by simp)]
  ·refine ⟨.ref id H.st 0 (el.length+xs.length),⟨H.st+1,H.bs.set id (some ⟨H.st,b.sz,false,aI b.el off el.length ++ xs⟩)⟩,by simp [hb,k2,cq,k3,k4,hr],eW ..,?_⟩
   refine hS.bg hj rfl (fun dH fp aH _=> ?_) ⟨uO k0 aG,by simp,⟨H.st,te.sz,false,el ++ xs⟩,?_,rfl,rfl,by simp,by simp only [aI,List.drop_zero];exact List.take_of_length_le (by simp)⟩ (fun k hk=>by simpa [bY] using hk.symm)
   ·have h' : ¬id=dH:=fun e=>aH e.symm
    simp only [J.aq,List.getElem?_set,if_neg h']
   ·simp only [J.aq,List.getElem?_set,ax,if_true,k2,aI] at k5⊢;rw [k5]
 ·rename_i id ad ix off;obtain ⟨rfl,rfl,_⟩:=af;exact absurd rfl (hp.ne id ad)
 ·exact af.elim
def app {α :Type} (nv:Nat) (l m:List α):Option (List α):=if roomy (l.length+m.length) nv then some (l ++ m) else none
theorem uP (a b:Operand) (t u:TypeId):aV (aw C) C false th (.call {callee:= .builtin .append,args:= #[a,b],argTypes:= #[t,u]}) s H K=cr (ck C.E .append #[t,u] [ev s a,ev s b] H) K:=by
 unfold aV wpOp;simp only [Bool.false_eq_true,false_implies,true_and];rfl
theorem Aa {α β :Type} {E:aE} {t u:TypeId} {te tu:TI} {e:TypeId} {v x:AV} {l m:List α} {c: α →AV} {f:List α →Option β} {r: β} (j:Nat) (hS:ap H L) (hj:L[j]? =some ⟨v,te.sz,l.map c⟩) (hp:aJ v) (ht:cc E t=some te) (hu:E u=some tu) (hi:tu.au= .sl e)
 (hx:b6 H x=some (m.map c)) (aG:bp te.sz (m.map c)=true) (h0:(te.sz==0)=false) (hh:(app te.bytes l m).bind f=some r) (h: ∀v' H',aJ v' →app te.bytes l m=some (l ++ m)→f (l ++ m)=some r→ap H' (L.set j ⟨v',te.sz,(l ++ m).map c⟩)→K v' H'):
 cr (ck E .append #[t,u] [v,x] H) K:=by
 cases hr:app te.bytes l m with
 |none=>rw [hr] at hh;simp at hh
 |some lm=>
  have bO:=hr
  unfold app at hr;split at hr
  ·rename_i iI;simp only [Option.some.injEq] at hr;subst hr;rw [bO] at hh;obtain ⟨v',H',h1,h2,h3⟩:=pX hS j hj hp hx aG (by simpa using h0) (by simpa using iI)
   have e1:(#[t,u]:Array TypeId)[0]? =some t:=rfl;have e2:((#[t,u]:Array TypeId)[1]?).bind E=E u:=rfl;simp only [ck,e1,e2,ht,hu,hi,h1,cr];exact h v' H' h2 bO hh (by rw [List.map_append];exact h3)
  ·simp at hr
def kz (C:aK) (q th:Bool) (f:AV) (args:List AV) (H:J) (K:AV→J→Prop):Prop:=
 match f with
 | .fn g bP=>if q then dF (aw C) C g (args ++ bP) th H K else aw C g (args ++ bP) H K∨dF (aw C) C g (args ++ bP) th H K
 |_=>False
theorem uQ (f:Operand) (args:Array Operand) (tys:Array TypeId):aV (aw C) C q th (.call {callee:= .value f,args,argTypes:=tys}) s H K=kz C q th (ev s f) (args.toList.map (ev s)) H K:=rfl
theorem CE {α β :Type} {g:FuncId} {bP args:List AV} {o:Option α} {f: α →Option β} {r: β} (h:o.bind f=some r) (hk: ∀x,o=some x→f x=some r→aw C g (args ++ bP) H K):kz C false th (.fn g bP) args H K:=by
 cases ho:o with
 |none=>rw [ho] at h;simp at h
 |some x=>rw [ho] at h;exact .inl (hk x ho h)
end
inductive LR (σ ρ :Type) where
 |next (x: σ)
 |done (r: ρ)
def iter {σ ρ :Type} (f: σ →Option (LR σ ρ)):Nat→ σ →Option ρ
 |0,_=>none
 |n+1,x=>(f x).bind fun y=>match y with| .next x' =>iter f n x' | .done r=>some r
open Classical in
noncomputable def dP {σ ρ :Type} (f: σ →Option (LR σ ρ)) (x: σ):Option ρ :=if h: ∃n,(iter f n x).isSome then iter f h.choose x else none
theorem pY {σ ρ :Type} {f: σ →Option (LR σ ρ)}: ∀{n m:Nat} {x: σ} {r: ρ},iter f n x=some r→n≤m→iter f m x=some r
 |0,_,_,_,h,_=>by simp [iter] at h
 |n+1,0,_,_,_,h=>by omega
 |n+1,m+1,x,r,h,hle=>by
  simp only [iter] at h⊢;cases hf:f x with
  |none=>rw [hf] at h;simp at h
  |some y=>
   rw [hf] at h;cases y with
   |next x' =>exact pY (m:=m) h (by omega)
   |done r' =>exact h
theorem nz {σ ρ :Type} {f: σ →Option (LR σ ρ)} {x: σ} {r: ρ}:dP f x=some r↔ ∃n,iter f n x=some r:=by
 unfold dP;constructor
 ·intro h;split at h
  ·exact ⟨_,h⟩
  ·simp at h
 ·rintro ⟨n,h⟩;have hex: ∃n,(iter f n x).isSome:=⟨n,by simp [h]⟩
  rw [dif_pos hex];cases hc:iter f hex.choose x with
  |none=>have:=hex.choose_spec;rw [hc] at this;simp at this
  |some r' =>
   have h1:=pY hc (Nat.le_max_left hex.choose n);have h2:=pY h (Nat.le_max_right hex.choose n);rw [h1] at h2;exact h2
theorem lQ {σ ρ :Type} (f: σ →Option (LR σ ρ)) (x: σ):dP f x=(f x).bind fun y=>match y with| .next x' =>dP f x' | .done r=>some r:=by
 refine Option.ext fun r=> ?_;rw [nz];constructor
 ·rintro ⟨n,h⟩;cases n with
  |zero=>simp [iter] at h
  |succ n=>
   simp only [iter] at h;cases hf:f x with
   |none=>rw [hf] at h;simp at h
   |some y=>
    rw [hf] at h;cases y with
    |next x' =>exact nz.2 ⟨n,h⟩
    |done r' =>exact h
 ·intro h;cases hf:f x with
  |none=>rw [hf] at h;simp at h
  |some y=>
   rw [hf] at h;cases y with
   |next x' =>obtain ⟨n,hn⟩:=nz.1 h;exact ⟨n+1,by simp only [iter,hf];exact hn⟩
   |done r' =>exact ⟨1,by simp only [iter,hf];exact h⟩
def nA {σ ρ :Type} (bQ:List Nat) (Inv: σ →ah→J→Prop) (y:LR σ ρ) (K:Ex→ah→J→Prop):Ex→ah→J→Prop
 | .normal,s,H=> ∃x',y= .next x' ∧Inv x' (eN bQ s) H
 | .exit i,s,H=>K (.exit i) s H
 | .ret,s,H=>K .ret s H
section
variable {C:aK} {K K1:Ex→ah→J→Prop} {s:ah} {H:J}
theorem CF {σ ρ :Type} (gC:Good C) {f: σ →Option (LR σ ρ)} {x: σ} {r: ρ} {bQ:List Nat} {a:AC} (hw:dP f x=some r) (Inv: σ →ah→J→Prop) (h0:Inv x (eN bQ s) H)
 (hb: ∀x y s H,f x=some y→(∀r',y= .done r' →r' =r)→Inv x s H→ ∀K1,K1=nA bQ Inv y K→aN (aw C) C a s H K1):aN (aw C) C (.loop ⟨bQ,false⟩ a) s H K:=by
 obtain ⟨n,hn⟩:=nz.1 hw;have key: ∀(n:Nat) (x: σ) (s:ah) (H:J),iter f n x=some r→Inv x s H→ ∀m,i_ (aN (aw C) C a) (hJ ⟨bQ,false⟩ m) K s H:=by
  intro n;induction n with
  |zero=>intro x s H h;simp [iter] at h
  |succ n ih=>
   intro x s H h hi m;simp only [iter] at h;cases hf:f x with
   |none=>rw [hf] at h;simp at h
   |some y=>
    rw [hf] at h;simp only [Option.bind_some] at h;refine i_.round (aw.up gC.up) (eJ (aw.up gC.up) _ _ _ _ _ (fun e s' H' he=> ?_) (hb x y s H hf (fun r' e=>by subst e;simpa using h) hi _ rfl))
    cases e with
    |normal=>
     obtain ⟨x',rfl,ez⟩:=he;exact ih x' _ _ h ez m
    |exit i=>exact he
    |ret=>exact he
 exact key n x _ _ hn h0 _
theorem CG {σ ρ :Type} {bQ:List Nat} {Inv: σ →ah→J→Prop} {y:LR σ ρ} {x' : σ} (hK:K1=nA bQ Inv y K) (hy:some (LR.next x')=some y) (hi:Inv x' (eN bQ s) H):K1 .normal s H:=by
 rw [hK];exact ⟨x',(Option.some.inj hy).symm,hi⟩
theorem CH {σ ρ :Type} {bQ:List Nat} {Inv: σ →ah→J→Prop} {y:LR σ ρ} {i:Nat} (hK:K1=nA bQ Inv y K) (h:K (.exit i) s H):K1 (.exit i) s H:=by rw [hK];exact h
theorem CI {σ ρ :Type} {bQ:List Nat} {Inv: σ →ah→J→Prop} {y:LR σ ρ} (hK:K1=nA bQ Inv y K) (h:K .ret s H):K1 .ret s H:=by rw [hK];exact h
def nB (Q:ah→J→Prop) (K:Ex→ah→J→Prop):Ex→ah→J→Prop
 | .normal,s,H=>Q s H
 | .exit i,s,H=>K (.exit i) s H
 | .ret,s,H=>K .ret s H
theorem CJ (gC:Good C) {a:AC} (Q:ah→J→Prop) (h: ∀K1,K1=nB Q K→aN (aw C) C a s H K1) (hq: ∀s H,Q s H→K .normal s H):aN (aw C) C a s H K:=by
 refine zS (h _ rfl) (fun e s H he=> ?_) gC;cases e with
 |normal=>exact hq s H he
 |exit i=>exact he
 |ret=>exact he
theorem CK {Q:ah→J→Prop} (hK:K1=nB Q K) (h:Q s H):K1 .normal s H:=by rw [hK];exact h
theorem CL {Q:ah→J→Prop} {i:Nat} (hK:K1=nB Q K) (h:K (.exit i) s H):K1 (.exit i) s H:=by rw [hK];exact h
theorem CM {Q:ah→J→Prop} (hK:K1=nB Q K) (h:K .ret s H):K1 .ret s H:=by rw [hK];exact h
end
end Go.VS
namespace Go.VS
section
variable {C:aK} {q th:Bool} {s:ah} {H:J} {K:AV→J→Prop} {L:List It}
theorem uR:eu none s=s:=rfl
theorem CN {a b:AC} {K:Ex→ah→J→Prop}:nn C (.bool true) a b s H K=aN (aw C) C a s H K:=rfl
theorem CO {a b:AC} {K:Ex→ah→J→Prop}:nn C (.bool false) a b s H K=aN (aw C) C b s H K:=rfl
def Ab (k:IntKind) (a b:Int):Int:=k.wrap (BitVec.ofInt k.bits a&&&BitVec.ofInt k.bits b).toNat
def Ac (k:IntKind) (a b:Int):Int:=k.wrap (BitVec.ofInt k.bits a|||BitVec.ofInt k.bits b).toNat
def Ad (k:IntKind) (a b:Int):Int:=k.wrap (BitVec.ofInt k.bits a^^^BitVec.ofInt k.bits b).toNat
def uS (k:IntKind) (a b:Int):Int:=k.wrap (a*2^(min b.toNat k.bits))
def uT (k:IntKind) (a b:Int):Int:=a.fdiv (2^(min b.toNat k.bits))
theorem uU (E:aE) (t:TypeId) (k:IntKind) (a b:Int):aM E .and t (.int k a) (.int k b)=some (.int k (Ab k a b)):=zU ..
theorem uV (E:aE) (t:TypeId) (k:IntKind) (a b:Int):aM E .or t (.int k a) (.int k b)=some (.int k (Ac k a b)):=zV ..
theorem uW (E:aE) (t:TypeId) (k:IntKind) (a b:Int):aM E .xor t (.int k a) (.int k b)=some (.int k (Ad k a b)):=zW ..
theorem CP (k:IntKind) (a b:Int) (h:decide (b<0)=false):sl k a b=some (uS k a b):=by simp at h;simp [sl,uS,Int.not_lt.2 h]
theorem CQ (k:IntKind) (a b:Int) (h:decide (b<0)=false):sr k a b=some (uT k a b):=by simp at h;simp [sr,uT,Int.not_lt.2 h]
def jH (E:aE) (src dst:TypeId) (x:AV) (H:J) (K:AV→J→Prop):Prop:=cr (match E src,E dst,x with
 |some _,some td,.int _ n=>match td.au with
  | .it k=>some (.int k (k.wrap n),H)
  |_=>none
 |some _,some td,.str l=>match td.au with
  | .str=>some (.str l,H)
  | .sl e=>match E e with
   |some te=>match te.au with
    | .it .u8=>if te.sz=1∧te.bytes=1∧l.length≤2^45 then some (.ref H.bs.length H.st 0 l.length,H.new 1 false (l.map fun b=> .int .u8 b.toNat)) else none
    |_=>none
   |none=>none
  |_=>none
 |some ts,some td,x=>match ts.au,td.au with
  | .sl e,.str=>match E e with
   |some te=>match te.au with
    | .it .u8=>match b6 H x with
     |some xs=>if te.sz=1 then (match (bytesOf xs).map AV.str with|some v=>some (v,H)|none=>none) else none
     |none=>none
    |_=>none
   |none=>none
  |_,_=>none
 |_,_,_=>none) K
theorem uX (a b:TypeId) (x:Operand):aV (aw C) C q th (.convert a b x) s H K=jH C.E a b (ev s x) H K:=by
 rw [di _ rfl];rfl
def pZ (ta tb:Option TI) (n:Int) (H:J) (K:AV→J→Prop):Prop:=match ta,tb with
 |some _,some td=>match td.au with| .it k=>K (.int k (k.wrap n)) H|_=>False
 |_,_=>False
theorem uY (E:aE) (a b:TypeId) (j:IntKind) (n:Int):jH E a b (.int j n) H K=pZ (E a) (E b) n H K:=by
 simp only [jH,pZ];cases E a with
 |none=>rfl
 |some ta=>
  cases E b with
  |none=>rfl
  |some tb=>simp only;cases tb.au<;>rfl
def nC (l:List UInt8):List Int:=l.map fun b=>(b.toNat:Int)
def p0 (l:List Int):List UInt8:=l.map fun n=>UInt8.ofNat n.toNat
theorem Ae (l:List Int):bytesOf (l.map (AV.int .u8))=some (p0 l):=by
 induction l with
 |nil=>rfl
 |cons n l ih=>simp only [List.map_cons,bytesOf,ih,p0,Option.map_some]
def p6 (l:List UInt8):Option (List Int):=if l.length≤2^45 then some (nC l) else none
theorem CR {α :Type} {E:aE} {a b e:TypeId} {ta tb te:TI} {l:List UInt8} {f:List Int→Option α} {r: α} (hS:ap H L) (ha:E a=some ta) (hb:E b=some tb) (hu:tb.au= .sl e) (he:E e=some te) (hk:te.au= .it .u8) (h1:te.sz=1) (h2:te.bytes=1)
 (hh:(p6 l).bind f=some r) (h: ∀v H' m,aJ v→p6 l=some m→f m=some r→ap H' (⟨v,1,m.map (AV.int .u8)⟩::L)→K v H'):jH E a b (.str l) H K:=by
 unfold p6 at hh h;split at hh
 ·rename_i hl;simp only [jH,ha,hb,hu,he,hk,h1,h2,hl,and_self,if_true,cr];refine h _ _ _ (eW ..) (by rw [if_pos hl]) hh (hS.iU (by simp only [nC,List.map_map];exact List.take_of_length_le (by simp)) (by simp [nC]) ?_)
  simp [bp,AV.cells,nC]
 ·simp at hh
theorem CS {E:aE} {a b e:TypeId} {ta tb te:TI} {v:AV} {l:List Int} (ha:E a=some ta) (hb:E b=some tb) (hu:ta.au= .sl e) (aQ:tb.au= .str) (he:E e=some te) (hk:te.au= .it .u8) (h1:te.sz=1)
 (hv:b6 H v=some (l.map (AV.int .u8))) (hn: ∀j,v≠ .str j) (h:K (.str (p0 l)) H):jH E a b v H K:=by
 have hi: ∀k n,v≠ .int k n:=by rintro k n rfl;simp [b6] at hv
 simp only [jH,ha,hb];cases v with
 |int k n=>exact absurd rfl (hi k n)
 |str j=>exact absurd rfl (hn j)
 |_=>simp only [hu,aQ,he,hk,h1,if_true,hv,Ae,Option.map_some];exact h
def cA {α :Type} (l:List α) (lo hi:Int):Option (List α):=if 0≤lo∧lo≤hi∧hi≤l.length then some ((l.drop lo.toNat).take (hi.toNat-lo.toNat)) else none
def cU (E:aE) (t:TypeId) (x:AV) (lo hi mx:Option (Option Int)) (H:J) (K:AV→J→Prop):Prop:=match lo,hi,mx with
 |some lo,some hi,some mx=>cB (dr E t x lo hi mx H) H K
 |_,_,_=>False
theorem uZ (t:TypeId) (x:Operand) (lo hi mx:Option Operand):aV (aw C) C q th (.slice t x lo hi mx) s H K=cU C.E t (ev s x) (eo (lo.map (ev s))) (eo (hi.map (ev s))) (eo (mx.map (ev s))) H K:=by
 rw [di _ rfl];simp only [aP,cU];generalize eo (lo.map (ev s))=a;generalize eo (hi.map (ev s))=b;generalize eo (mx.map (ev s))=c;cases a<;>cases b<;>cases c<;>first|rfl|(simp only;rename_i lo hi mx;generalize dr C.E t (ev s x) lo hi mx H=z;cases z<;>rfl)
theorem u0:eo none=some none:=rfl
theorem u1 (k:IntKind) (n:Int):eo (some (.int k n))=some (some n):=rfl
theorem CT {α :Type} {E:aE} {t:TypeId} {ti:TI} {l:List UInt8} {lo hi:Option Int} {f:List UInt8→Option α} {r: α} (ht:E t=some ti) (hu:ti.au= .str) (hh:(cA l (lo.getD 0) (hi.getD l.length)).bind f=some r)
 (h: ∀m,cA l (lo.getD 0) (hi.getD l.length)=some m→f m=some r→K (.str m) H):cU E t (.str l) (some lo) (some hi) (some none) H K:=by
 cases hm:cA l (lo.getD 0) (hi.getD l.length) with
 |none=>rw [hm] at hh;simp at hh
 |some m=>
  rw [hm] at hh;have hk:=h m hm hh;unfold cA at hm;split at hm
  ·rename_i hc;simp only [Option.some.injEq] at hm;simp only [cU,dr,ht,hu,if_pos hc,cB,hm];exact hk
  ·simp at hm
theorem kA {α :Type} {c: α →AV} {sz:Nat} (hc: ∀x,(c x).cells.length=sz) (l:List α):bp sz (l.map c)=true:=by
 simp [bp,hc]
theorem CU {α β :Type} {E:aE} {t e:TypeId} {ti te:TI} {l:List α} {c: α →AV} {lo hi:Option Int} {f:List α →Option β} {r: β} (ht:E t=some ti) (hu:ti.au= .sl e) (he:E e=some te) (hc: ∀x,(c x).cells.length=te.sz) (hh:(cA l (lo.getD 0) (hi.getD l.length)).bind f=some r)
 (h: ∀m,cA l (lo.getD 0) (hi.getD l.length)=some m→f m=some r→K (.fz (m.map c)) H):cU E t (.fz (l.map c)) (some lo) (some hi) (some none) H K:=by
 cases hm:cA l (lo.getD 0) (hi.getD l.length) with
 |none=>rw [hm] at hh;simp at hh
 |some m=>
  rw [hm] at hh;have hk:=h m hm hh;unfold cA at hm;split at hm
  ·rename_i Af;simp only [Option.some.injEq] at hm;simp only [cU,dr,ht,hu,he,kA hc,Bool.not_true,Bool.false_eq_true,if_false,List.length_map,if_pos Af,cB];rw [←hm,List.map_take,List.map_drop] at hk;exact hk
  ·simp at hm
theorem CV {α β :Type} {E:aE} {t e:TypeId} {ti te:TI} {v:AV} {l:List α} {c: α →AV} {lo hi:Option Int} {f:List α →Option β} {r: β} (j:Nat) (hS:ap H L) (hj:L[j]? =some ⟨v,te.sz,l.map c⟩) (hp:aJ v) (ht:E t=some ti) (hu:ti.au= .sl e) (he:E e=some te) (hh:(cA l (lo.getD 0) (hi.getD l.length)).bind f=some r)
 (h: ∀v' m,aJ v' →cA l (lo.getD 0) (hi.getD l.length)=some m→f m=some r→ap H (L.set j ⟨v',te.sz,m.map c⟩)→K v' H):cU E t v (some lo) (some hi) (some none) H K:=by
 cases hm:cA l (lo.getD 0) (hi.getD l.length) with
 |none=>rw [hm] at hh;simp at hh
 |some m=>
  rw [hm] at hh;have hk:=fun v' br=>h v' m br hm hh
  unfold cA at hm;split at hm
  ·rename_i hc;obtain ⟨cK,df,gG⟩:=hc;simp only [Option.some.injEq] at hm;have af:=hS.ok j _ hj;obtain ⟨k0,af⟩:=af;have fk:L.set j ⟨v,te.sz,l.map c⟩=L:=List.ext_getElem? fun k=>by
    rw [List.getElem?_set];split
    ·rename_i e;subst e;have:=(List.getElem?_eq_some_iff.1 hj).1;simp only [this,if_true];exact hj.symm
    ·rfl
   have Ag:bp te.sz (m.map c)=true:=by
    simp only [bp,List.all_eq_true,List.mem_map] at k0⊢;rintro z ⟨y,hy,rfl⟩;rw [←hm] at hy;exact k0 _ ⟨y,List.mem_of_mem_drop (List.mem_of_mem_take hy),rfl⟩
   have empty:l.map c=[]→m=[]∧l=[]∧lo.getD 0=0∧hi.getD l.length=0:=by
    intro e;rw [List.map_eq_nil_iff] at e;subst e;have e0:(([]:List α).length:Int)=0:=rfl;rw [e0] at gG df⊢;exact ⟨by rw [←hm];simp,rfl,by omega,by omega⟩
   simp only at af k0;split at af
   ·obtain ⟨rfl,rfl,e1,e2⟩:=empty af;have ig:hi.getD 0=0:=by cases hi with|none=>rfl|some x=>simpa using e2
    simp only [cU,dr,ht,hu,he];rw [if_pos ⟨e1,ig,rfl,by simp⟩]
    exact hk .nil lP (by rw [fk];exact hS)
   ·obtain ⟨rfl,rfl,e1,e2⟩:=empty af;have ig:hi.getD 0=0:=by cases hi with|none=>rfl|some x=>simpa using e2
    simp only [cU,dr,ht,hu,he];rw [if_pos ⟨e1,ig,rfl,by simp⟩]
    exact hk .e0 ny (by rw [fk];exact hS)
   ·rename_i id ad off len;obtain ⟨k1,b,hb,k2,k3,k4,k5⟩:=af;simp only [List.length_map] at k1;subst k1;simp only [cU,dr,ht,hu,hb,he,k2,ne_eq,not_true_eq_false,if_false];rw [if_pos ⟨cK,df,by omega⟩]
    have g9:(hi.getD (l.length:Int)).toNat-(lo.getD 0).toNat=m.length:=by
     rw [←hm,List.length_take,List.length_drop];omega
    refine hk _ (eW ..) (hS.bg hj rfl (fun _ _ _ _=>rfl) ⟨Ag,?_,b,hb,k2,k3,?_,?_⟩ (fun k hk=>by simpa [bY] using hk.symm))
    ·simp only [List.length_map];exact g9
    ·omega
    ·simp only [aI] at k5⊢;rw [←hm,List.map_take,List.map_drop,←k5,List.drop_take,List.drop_drop,List.take_take];congr 1;omega
   ·rename_i id ad ix off;obtain ⟨rfl,rfl,_⟩:=af;exact absurd rfl (hp.ne id ad)
   ·exact af.elim
  ·simp at hm
def eX {α :Type} (nv:Nat) (n:Int) (d: α):Option (List α):=if 0≤n∧roomy n.toNat nv then some (List.replicate n.toNat d) else none
theorem Ah {α β :Type} {t:TypeId} {x y:Operand} {te:TI} {z:AV} {n:Int} {c: α →AV} {d: α} {f:List α →Option β} {r: β} (hS:ap H L) (ht:cc C.E t=some te) (hx:ev s x= .int .i64 n) (hy:ev s y= .int .i64 n) (hz:fT te=some z) (hd:c d=z) (h0:(te.sz==0)=false)
 (hh:(eX te.bytes n d).bind f=some r) (h: ∀v H' l,aJ v→eX te.bytes n d=some l→f l=some r→ap H' (⟨v,te.sz,l.map c⟩::L)→K v H'):aV (aw C) C q th (.makeSlice t x y) s H K:=by
 refine z_ hS ht hx hy hz hd (by simpa using h0) hh fun v H' hv h1 h2 h3 h4=>h v H' _ hv (by unfold eX;rw [if_pos ⟨h1,h2⟩]) h3 h4
theorem CW {α β :Type} {E:aE} {t u:TypeId} {te tu:TI} {e:TypeId} {v x:AV} {l m:List α} {c: α →AV} {f:List α →Option β} {r: β} (j:Nat) (hS:ap H L) (hj:L[j]? =some ⟨v,te.sz,l.map c⟩) (hp:aJ v) (ht:cc E t=some te) (hu:E u=some tu) (hi:tu.au= .sl e)
 (hx:b6 H x=some (m.map c)) (aG: ∀x,(c x).cells.length=te.sz) (h0:(te.sz==0)=false) (hh:(app te.bytes l m).bind f=some r) (h: ∀v' H' lm,aJ v' →app te.bytes l m=some lm→f lm=some r→ap H' (L.set j ⟨v',te.sz,lm.map c⟩)→K v' H'):
 cr (ck E .append #[t,u] [v,x] H) K:=
 Aa j hS hj hp ht hu hi hx (kA aG m) h0 hh fun v' H' h1 h2 h3 h4=>h v' H' _ h1 h2 h3 h4
theorem ap.perm {L' :List It} (h:ap H L) (hp:L.Perm L'):ap H L' :=by
 have nd: ∀{L:List It},ap H L↔(∀it∈L,fw H it)∧(L.filterMap (fun it=>bY it.v)).Nodup:=by
  intro L;constructor
  ·intro h;refine ⟨fun it hi=> ?_,?_⟩
   ·obtain ⟨i,ez⟩:=List.mem_iff_getElem?.1 hi;exact h.ok i it ez
   ·induction L with
    |nil=>simp
    |cons a L ih=>
     have ih:=ih h.tl;rw [List.filterMap_cons];cases ha:bY a.v with
     |none=>exact ih
     |some id=>
      refine List.nodup_cons.2 ⟨fun hm=> ?_,ih⟩;obtain ⟨b,hb,bU⟩:=List.mem_filterMap.1 hm;obtain ⟨j,hj⟩:=List.mem_iff_getElem?.1 hb;have:=h.b_ 0 (j+1) a b id rfl hj ha bU;omega
  ·rintro ⟨h1,h2⟩;refine ⟨fun i it hi=>h1 it (List.mem_of_getElem? hi),?_⟩;clear h1;induction L with
   |nil=>intro i j a b id h;simp at h
   |cons a L ih=>
    have li:(L.filterMap (fun it=>bY it.v)).Nodup:=by
     rw [List.filterMap_cons] at h2;split at h2
     ·exact h2
     ·exact (List.nodup_cons.1 h2).2
    have no: ∀(j:Nat) (b:It) (id:Nat),L[j]? =some b→bY a.v=some id→bY b.v≠some id:=by
     intro j b id hj ha hb;rw [List.filterMap_cons,ha] at h2;exact (List.nodup_cons.1 h2).1 (List.mem_filterMap.2 ⟨b,List.mem_of_getElem? hj,hb⟩)
    intro i j x y id hi hj hx hy;cases i with
    |zero=>
     simp at hi;subst hi;cases j with
     |zero=>rfl
     |succ j=>exact absurd hy (no j y id (by simpa using hj) hx)
    |succ i=>
     cases j with
     |zero=>simp at hj;subst hj;exact absurd hx (no i x id (by simpa using hi) hy)
     |succ j=>have:=ih li i j x y id (by simpa using hi) (by simpa using hj) hx hy;omega
 rw [nd] at h⊢;exact ⟨fun it hi=>h.1 it (hp.mem_iff.2 hi),(hp.filterMap _).nodup_iff.1 h.2⟩
theorem ap.front (h:ap H L) (j:Nat) {it:It} (hj:L[j]? =some it):ap H (it::L.eraseIdx j):=by
 refine h.perm ?_;have ax:=(List.getElem?_eq_some_iff.1 hj).1;have he:=(List.getElem?_eq_some_iff.1 hj).2;have:L=L.take j ++ it::L.drop (j+1):=by
  rw [←he,List.getElem_cons_drop,List.take_append_drop]
 rw [List.eraseIdx_eq_take_drop_succ]
 conv=>lhs;rw [this]
 exact List.perm_middle
theorem ap.u2 (h:ap H L) (sz:Nat):ap H (⟨.nil,sz,[]⟩::L):=
 h.new (fun _ _ _=>rfl) ⟨rfl,rfl⟩ (fun k hk=>by simp [bY] at hk)
theorem ap.Ai (h:ap H L) (sz:Nat):ap H (⟨.e0,sz,[]⟩::L):=
 h.new (fun _ _ _=>rfl) ⟨rfl,rfl⟩ (fun k hk=>by simp [bY] at hk)
theorem ap.drop (h:ap H L) (j:Nat):ap H (L.eraseIdx j):=by
 cases hj:L[j]? with
 |none=>
  rw [List.eraseIdx_of_length_le (List.getElem?_eq_none_iff.1 hj)];exact h
 |some it=>exact (h.front j hj).tl
theorem ap.CX (hS:ap H L) {id ad sz:Nat} {a:AV} (hm:⟨.ptr id ad 0 0,sz,[a]⟩∈L):H.aq id ad=some ⟨ad,sz,false,[a]⟩:=by
 obtain ⟨j,hj⟩:=List.mem_iff_getElem?.1 hm;exact hS.var j hj
theorem p7 {α β :Type} {g:FuncId} {bP args ys:List AV} {bZ:Bool} {o:Option α} {f: α →Option β} {r: β} {bC:List (List Sh)} (h:o.bind f=some r) (hr:(C.fX g).bC=bC) (hp:cd [] (args ++ bP) H=some (ys,bZ))
 (hk: ∀x,o=some x→f x=some r→ ∃y,aw C g ys ⟨0,[]⟩ (fun v L=> ∃rs zs L2,v=cf rs∧dl bC rs L=some (zs,L2)∧y=cf zs)∧(bZ=false∨cg y=true)∧if th||bZ then K (aD y H).1 (aD y H).2 else K (bq y) H):kz C q th (.fn g bP) args H K:=by
 cases ho:o with
 |none=>rw [ho] at h;simp at h
 |some x=>
  rw [ho] at h;have hq:dF (aw C) C g (args ++ bP) th H K:=by
   unfold dF;rw [hp,hr];exact hk x ho h
  cases q with
  |true=>exact hq
  |false=>exact .inr hq
end
end Go.VS
