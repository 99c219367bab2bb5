import Derived.Test.YtclgbpneokeaeaaVaC
import Derived.StillTail
namespace Go.VS
structure ii (ops:Array Oper) (aC:List Nat):Prop where
 back: ∀(i:Nat) (o:Oper),ops[i]? =some o→ ∀e∈o.after,Region.binds .any e=true→e.on<i
 gJ: ∀(i j:Nat) (o p:Oper) (d:Tmp),i≠j→ops[i]? =some o→ops[j]? =some p→p.dst=some d→o.dst≠some d
 ord: ∀(i j:Nat) (o p:Oper) (d:Tmp),i≠j→ops[i]? =some o→ops[j]? =some p→p.dst=some d→d∈Oper.looksAt ops o→((fg ops.toList).getD (max i j) 0).testBit (min i j)=true
 after: ∀(i j:Nat) (o p:Oper),ops[i]? =some o→ops[j]? =some p→i∈aC→i<j→((fg ops.toList).getD j 0).testBit i=true∨(j∉aC∧p.guard=none∧jb p.op=true∧ ∃d,p.dst=some d)
 late: ∀(i j:Nat) (o p:Oper),ops[i]? =some o→ops[j]? =some p→i∈aC→j<i→((fg ops.toList).getD i 0).testBit j=false→j∉aC∧p.guard=none∧gU p.op=true∧(∃d,p.dst=some d)∧
  ∀(k:Nat) (r:Oper) (d:Tmp),ops[k]? =some r→r.dst=some d→j≤k→d∉Oper.looksAt ops p
theorem zu {ops:Array Oper} {aC:List Nat} (h:iE ops aC=true):ii ops aC:=by
 have lt: ∀{i:Nat} {o:Oper},ops[i]? =some o→i<ops.toList.length:=fun h=>by have:=(Array.getElem?_eq_some_iff.1 h).1;simpa using this
 have tl: ∀{i:Nat} {o:Oper},ops[i]? =some o→ops.toList[i]? =some o:=fun h=>by simpa using h
 have one: ∀(i:Nat) (o:Oper),ops[i]? =some o→(∀e∈o.after,Region.binds .any e=true→e.on<i)∧ ∀(j:Nat) (p:Oper),ops[j]? =some p→i≠j→
  (∀d,p.dst=some d→o.dst≠some d∧(d∈Oper.looksAt ops o→((fg ops.toList).getD (max i j) 0).testBit (min i j)=true))∧
  (i∈aC→i<j→((fg ops.toList).getD j 0).testBit i=true∨(j∉aC∧p.guard=none∧jb p.op=true∧ ∃d,p.dst=some d))∧
  (i∈aC→j<i→((fg ops.toList).getD i 0).testBit j=false→j∉aC∧p.guard=none∧gU p.op=true∧(∃d,p.dst=some d)∧ ∀(k:Nat) (r:Oper) (d:Tmp),ops[k]? =some r→r.dst=some d→j≤k→d∉Oper.looksAt ops p):=by
  intro i o ho;simp only [iE,List.all_eq_true,List.mem_range] at h;have hi:=h i (lt ho);rw [tl ho] at hi;simp only [Bool.and_eq_true,Array.all_eq_true_iff_forall_mem,List.all_eq_true,List.mem_range,Bool.or_eq_true,Bool.not_eq_true',decide_eq_true_eq] at hi;obtain ⟨ha,hb⟩:=hi;refine ⟨fun e he pJ=>(ha e he).resolve_left (by simp [pJ]),fun j p hp jx=> ?_⟩
  have hj:=hb j (lt hp);rw [tl hp] at hj;simp only [Bool.or_eq_true,beq_iff_eq,Bool.and_eq_true,Bool.not_eq_true'] at hj;rcases hj with hj|⟨⟨mQ,jZ⟩,kg⟩
  ·exact absurd hj jx
  refine ⟨fun d hd=> ?_,fun hl ax=> ?_,fun hl ax pJ=> ?_⟩
  ·rw [hd] at mQ;simp only [Bool.and_eq_true,bne_iff_ne,ne_eq,Bool.or_eq_true,Bool.not_eq_true'] at mQ;exact ⟨mQ.1,fun hm=>mQ.2.resolve_left (by simp [hm])⟩
  ·rcases jZ with (jZ|jZ)|⟨⟨⟨q1,q2⟩,q3⟩,q4⟩
   ·simp [hl,ax] at jZ
   ·exact .inl jZ
   ·exact .inr ⟨by simpa using q1,by simpa using q2,q3,Option.isSome_iff_exists.1 q4⟩
  ·rcases kg with (kg|kg)|⟨⟨⟨⟨q1,q2⟩,q3⟩,q4⟩,q5⟩
   ·simp [hl,ax] at kg
   ·rw [pJ] at kg;simp at kg
   ·refine ⟨by simpa using q1,by simpa using q2,q3,Option.isSome_iff_exists.1 q4,fun k r d hk hr zw hm=> ?_⟩
    simp only [List.all_eq_true,List.mem_range] at q5;have:=q5 k (lt hk);rw [tl hk] at this;simp only [hr] at this;simp [zw,hm] at this
 exact ⟨fun i o ho=>(one i o ho).1,fun i j o p d jx ho hp hd=>(((one i o ho).2 j p hp jx).1 d hd).1,fun i j o p d jx ho hp hd=>(((one i o ho).2 j p hp jx).1 d hd).2,
  fun i j o p ho hp hl ax=>((one i o ho).2 j p hp (by omega)).2.1 hl ax,fun i j o p ho hp hl ax=>((one i o ho).2 j p hp (by omega)).2.2 hl ax⟩
theorem pK (aC:List Nat) (n:Nat): ∀(m b:Nat),m=n-b→b≤n→ ∃c,b≤c∧c≤n∧(c=n∨c∈aC)∧ ∀i,b≤i→i<c→i∉aC
 |0,b,hm,hb=>⟨b,Nat.le_refl _,hb,.inl (by omega),fun i h1 h2=>by omega⟩
 |m+1,b,hm,hb=>by
  by_cases h:b∈aC
  ·exact ⟨b,Nat.le_refl _,hb,.inr h,fun i h1 h2=>by omega⟩
  ·obtain ⟨c,h1,h2,h3,h4⟩:=pK aC n m (b+1) (by omega) (by omega)
   refine ⟨c,by omega,h2,h3,fun i k1 k2=> ?_⟩
   by_cases hi:i=b
   ·subst hi;exact h
   ·exact h4 i (by omega) k2
section draw
variable {P:Program} {C:aH} {X:br} {ops:Array Oper} {aC:List Nat} {th:List Nat} {K:aj→J→Prop} {s:Nat→aj} {H:Nat→J} {v:Nat→AV} {act:Nat→Bool}
abbrev iQ (X:br) (C:aH) (ops:Array Oper) (aC:List Nat) (th:List Nat) (K:aj→J→Prop) (s:Nat→aj) (H:Nat→J) (v:Nat→AV) (act:Nat→Bool):Prop:=
 Tr X C ops (fun i=> !aC.contains i) (fL ops aC) th K ops.toList 0 s H v act
theorem ij (t:iQ X C ops aC th K s H v act): ∀(m i:Nat),i+m≤ops.size→(∀k,i≤k→k<i+m→k∉aC)→QG (H i) (H (i+m))
 |0,i,_,_=> .refl _
 |m+1,i,hn,hl=>by
  have h1:=ij t m i (by omega) (fun k h1 h2=>hl k h1 (by omega))
  have ho:=Array.getElem?_eq_getElem (xs:=ops) (show i+m<ops.size by omega)
  obtain ⟨_,_,h3,h4,_⟩:=t.step (i+m) _ (by rw [Array.getElem?_toList];exact ho)
  refine h1.trans ?_;cases ha:act (i+m) with
  |true=>
   have:=h3 ha;have gK:(!aC.contains (0+(i+m)))=true:=by simp only [Nat.zero_add];simpa using hl (i+m) (by omega) (by omega)
   rw [gK] at this;exact zr this
  |false=>have:=(h4 ha).2;rw [show i+(m+1)=i+m+1 by omega,this];exact .refl _
theorem mR (dk:ii ops aC) (t:iQ X C ops aC th K s H v act): ∀(i:Nat),i≤ops.size→(s i).length=(s 0).length∧ ∀x,x<(s 0).length→
 (∀k o,k<i→ops[k]? =some o→o.dst=some x→(s i).getD x .undef=v k)∧((∀k o,k<i→ops[k]? =some o→o.dst≠some x)→(s i).getD x .undef=(s 0).getD x .undef)
 |0,_=>⟨rfl,fun x hx=>⟨fun k o h=>by omega,fun _=>rfl⟩⟩
 |i+1,hi=>by
  obtain ⟨h1,h2⟩:=mR dk t i (by omega)
  have ho:=Array.getElem?_eq_getElem (xs:=ops) (show i<ops.size by omega)
  obtain ⟨hs,_⟩:=t.step i _ (by rw [Array.getElem?_toList];exact ho)
  have hlen:(s (i+1)).length=(s 0).length:=by
   rw [hs];unfold bm;split
   ·simpa using h1
   ·exact h1
  refine ⟨hlen,fun x hx=>⟨fun k o hk af hd=> ?_,fun e8=> ?_⟩⟩
  ·rw [hs];by_cases bR:k=i
   ·subst bR;rw [ho] at af;simp only [Option.some.injEq] at af;subst af;rw [hd];simp only [bm];rw [←h1] at hx;simp [List.getD,hx]
   ·have aK:=dk.gJ i k _ o x (fun h=>bR h.symm) ho af hd;have:=(h2 x hx).1 k o (by omega) af hd
    rw [←this];unfold bm;split
    ·rename_i d b4;have:d≠x:=fun h=>aK (by rw [b4,h])
     simp [List.getD,List.getElem?_set_ne this]
    ·rfl
  ·rw [hs];have aK:=e8 i _ (Nat.lt_succ_self _) ho;rw [←(h2 x hx).2 (fun k o hk af=>e8 k o (by omega) af)]
   unfold bm;split
   ·rename_i d b4;have:d≠x:=fun h=>aK (by rw [b4,h])
    simp [List.getD,List.getElem?_set_ne this]
   ·rfl
structure pL (C:aH) (o:Op) (sz:Nat) (el:List AV) (x:Nat→Nat→AV) (u:Nat→Value):Prop where
 ev: ∀(X:br) (q th:Bool) (o' :Oper) (s:aj) (H:J) (K:AV→J→Prop),o'.op=o→wpOp X C q th o' s H K→K (x H.bs.length H.st) (H.new sz false el)
 zx: ∀(i:Nat) (y:AV),el[i]? =some y→y.cells.length=sz
 rel: ∀(w:World) (G:J) (φ :ag) (A:ah) (id ad c:Nat),G.get id=some ⟨ad,sz,false,el⟩→ad<G.st→ φ id=some (.at_ c 0)→el.length*sz≤a8 w c→R w G φ A (x id ad) (u c)
def mS (el:List AV) (sz:Nat) (arr:Array Value):Prop:=el.length*sz≤arr.size∧
 ∀(i:Nat) (x:AV) (j:Nat) (y:AV) (v:Value),el[i]? =some x→x.cells[j]? =some y→arr[i*sz+j]? =some v→(∀(w:World) (G:J) (φ :ag) (A:ah),R w G φ A y v)∧v.oneCell' =true
theorem zy {P:Program} {C:aH} (hE: ∀t ti,C.E t=some ti→aS P t ti) {X:br} {q th:Bool} {o:Oper} {s:aj} {H:J} {K:AV→J→Prop} (he:jb o.op=true) (h:wpOp X C q th o s H K):
 ∃sz el x u,pL C o.op sz el x u∧ ∀(a:Act) (w:World),∃arr T,(execOp a.eval o).run P w= .ok (.value (u w.heap.size)) (w.alloc (.cells arr T))∧mS el sz arr:=by
 obtain ⟨dst,op,ty,pos,after,guard⟩:=o;simp only at he⊢;cases op with
 |alloc tt=>
  unfold wpOp at h;simp only [aM] at h;cases lq:C.E tt with
  |none=>rw [lq] at h;exact h.2.elim
  |some ti=>
   rw [lq] at h;cases hz:dX ti with
   |none=>simp only [hz] at h;exact h.2.elim
   |some z=>
    have cw:z.cells.length=ti.sz:=by
     obtain ⟨zv,e1,e2,e3,e4,_,e5⟩:=je (hE _ _ lq) hz default;rw [e3,e4]
    refine ⟨ti.sz,[z],fun id ad=> .ptr id ad 0 0,fun c=> .pointer (some ⟨c,0,none⟩),⟨fun X q th o' s H K ho h=> ?_,fun i y hy=> ?_,fun w G φ A id ad c _ hv aV _=>nZ hv aV⟩,fun a w=> ?_⟩
    ·obtain ⟨dst,op,ty,pos,after,guard⟩:=o';simp only at ho;subst ho;unfold wpOp at h;simp only [aM,lq,hz] at h;exact h.2
    ·cases i with
     |zero=>simp at hy;subst hy;exact cw
     |succ i=>simp at hy
    ·obtain ⟨zv,e1,e2,e3,e4,_,e5⟩:=je (hE _ _ lq) hz w;refine ⟨zv.cells,tt,?_,by simp [e2],fun i x j y v hx hy hv=> ?_⟩
     ·show ((do pure (.value (←Instr.alloc tt true (.tuple #[]))):Sem Next).run P w)=_
      simp [Instr.alloc,e1,newVar,newRow]
     ·cases i with
      |zero=>
       simp only [List.getElem?_cons_zero,Option.some.injEq,Nat.zero_mul,Nat.zero_add] at hx hv;subst hx;rw [e3] at hy;have hh:=fun (w:World) (A:ah)=>e5 w A j y v hy hv;exact ⟨fun w G φ A=> .fr _ _ (hh w A).1,(hh w (fun _=>False)).2⟩
      |succ i=>simp at hx
 |buildSlice t n ps=>
  simp only [jb,Bool.and_eq_true,bne_iff_ne,ne_eq,List.all_eq_true] at he;obtain ⟨hn,hc⟩:=he;have zB: ∀(s s' :aj),(ps.toList.map fun p=>(p.1,ev s p.2))=ps.toList.map fun p=>(p.1,ev s' p.2):=fun s s' =>List.map_congr_left fun p hp=>by
   have:=hc p hp;cases hq:p.2 with
   |const v=>rfl
   |tmp x=>rw [hq] at this;simp [kE] at this
   |global x=>rfl
   |func x=>rfl
  unfold wpOp at h;simp only [aM,if_neg hn] at h;cases bn:cm C.E t with
  |none=>rw [bn] at h;exact h.2.elim
  |some te=>
   rw [bn] at h;obtain ⟨ti,e,ht,hu,ct⟩:=jh bn;cases hz:dX te with
   |none=>simp only [hz] at h;exact h.2.elim
   |some zA=>
    simp only [hz] at h;by_cases hcnd:n*te.sz≤1000000∧te.sz≠0
    ·rw [if_pos hcnd] at h;cases bN:iA te.sz (List.replicate n zA) (ps.toList.map fun p=>(p.1,ev s p.2)) with
     |none=>rw [bN] at h;exact h.2.elim
     |some el=>
      have parts: ∀(ρ :Operand→Value),(∀v,ρ (.const v)=v)→ ∀(w:World) (G:J) (φ :ag) (A:ah),∀p∈ps.toList,R w G φ A (ev s p.2) (ρ p.2):=fun ρ aT w G φ A p hp=>by
       have:=hc p hp;cases hq:p.2 with
       |const v=>rw [aT];exact .fr _ _ (FR.ofValue w A v)
       |tmp x=>rw [hq] at this;simp [kE] at this
       |global x=>rw [hq] at this;simp [kE] at this
       |func x=>rw [hq] at this;simp [kE] at this
      have fill: ∀(ρ :Operand→Value),(∀v,ρ (.const v)=v)→ ∀(w0:World),∃(zv:Value) (b7:Array Value),(zeroValue e).run P w0= .ok zv w0∧Instr.fill (fun i=>some (i*te.sz,te.sz)) ((Array.range (n*te.sz)).map (fun k=>zv.cells[k % zv.cells.size]!)) ((ps.map fun (i,x)=>(i,ρ x)).toList)=some b7∧b7.size=el.length*te.sz∧el.length=n∧
       (∀(i:Nat) (x:AV),el[i]? =some x→x.cells.length=te.sz)∧mS el te.sz b7:=fun ρ aT w0=>by
       obtain ⟨zv,z1,z2,z3,z4,_,z5⟩:=je (hE _ _ ct) hz w0;have go: ∀(w:World) (G:J) (φ :ag) (A:ah),_:=fun w G φ A=>oj (w:=w) (G:=G) (φ := φ) (A:=A) hcnd.2 _ _ (List.replicate n zA) ((Array.range (n*te.sz)).map (fun k=>zv.cells[k % zv.cells.size]!)) _ (l6 (_E:=C.E) (parts ρ aT w G φ A)).1 (l6 (_E:=C.E) (parts ρ aT w G φ A)).2
        (by simp) (fun i x hx=>by
         simp only [List.getElem?_replicate] at hx;split at hx
         ·simp only [Option.some.injEq] at hx;subst hx;rw [z3,z4]
         ·simp at hx)
        (fun i x j y v hx hy hv=>by
         simp only [List.getElem?_replicate] at hx;split at hx
         ·rename_i hi;simp only [Option.some.injEq] at hx;subst hx;rw [z3] at hy;have hj:j<te.sz:=by rw [←z4];exact (List.getElem?_eq_some_iff.1 hy).1
          have:=z5 w A j y v hy (kP z2 hi hj hv);exact ⟨.fr _ _ this.1,this.2⟩
         ·simp at hx) bN
       obtain ⟨b7,f1,f2,f3,f4,f5⟩:=go w0 ⟨0,[]⟩ (fun _=>none) (fun _=>False);refine ⟨zv,b7,z1,f1,f2,by rw [f3];simp,f4,by rw [f2];exact Nat.le_refl _,fun i x j y v hx hy hv=>⟨fun w G φ A=> ?_,(f5 i x j y v hx hy hv).2⟩⟩
       obtain ⟨BX,g1,_,_,_,g5⟩:=go w G φ A;rw [f1] at g1;simp only [Option.some.injEq] at g1;subst g1;exact (g5 i x j y v hx hy hv).1
      obtain ⟨_,_,_,_,_,hlen,zC,_⟩:=fill (fun o=>match o with| .const v=>v|_=>undef) (fun _=>rfl) default
      refine ⟨te.sz,el,fun id ad=> .ref id ad 0 n,fun c=> .slice (some ⟨c,0,none⟩) n n,⟨fun X q th o' s' H K ho h=> ?_,zC,fun w G φ A id ad c hg hv aV hb=> ?_⟩,fun a w=> ?_⟩
      ·obtain ⟨dst,op,ty,pos,after,guard⟩:=o';simp only at ho;subst ho;unfold wpOp at h;simp only [aM,if_neg hn,bn,hz,if_pos hcnd,zB s' s,bN] at h
       exact h.2
      ·exact jY hg hv aV (by simp [hlen]) (Nat.le_refl _) (by simp [hlen]) (by rw [←hlen];exact hb)
      ·obtain ⟨zv,b7,z1,f1,f2,_,_,lr⟩:=fill a.eval (fun _=>rfl) w;have iG:=(hE _ _ ht).sl w hu;have aK: ¬(n*te.sz=0):=by
        intro h0;rcases Nat.mul_eq_zero.1 h0 with h0|h0<;>omega
       have om: ¬(n*te.sz>2^24):=by omega
       refine ⟨b7,e,?_,lr⟩;show ((do pure (.value (←Instr.buildSlice t n (ps.map fun (i,x)=>(i,a.eval x)))):Sem Next).run P w)=_
       simp only [Instr.buildSlice,Sem.run_bind,iG,Result.andThen_ok,(hE _ _ ct).sizeOf,om,aK,if_false,z1,f1,Sem.run_pure,newRow,run_newObj,World.alloc_eq]
    ·rw [if_neg hcnd] at h;exact h.2.elim
 |_=>simp [jb] at he
structure mT (w0 w:World) (φ :ag) (A:ah) (el:List AV) (sz n:Nat):Prop where
 old:w0.heap.size≤n
 lt:n<w.heap.size
 av:A n
 ow: ¬Ow φ n
 here: ∃arr T fr,w.heap[n]? =some (.cells arr T fr)∧(∀j,j<arr.size→ ¬(fr.1≤j∧j<fr.2))∧mS el sz arr
theorem mT.mono {w0 w w' :World} {G G' :J} {φ ak:ag} {A A' :ah} {el:List AV} {sz n:Nat} (h:mT w0 w φ A el sz n) (o:Out w G φ A w' G' ak A'):mT w0 w' ak A' el sz n:=by
 refine ⟨h.old,Nat.lt_of_lt_of_le h.lt o.post.size,o.keep n h.av h.ow,fun hw=> ?_,?_⟩
 ·rcases o.post.own n hw with k|k
  ·exact h.ow k
  ·have:=h.lt;omega
 ·rw [o.post.kept n h.lt h.ow];exact h.here
def jy (C:aH) (ops:Array Oper) (aC:List Nat) (w0 w:World) (φ :ag) (A:ah) (a:Act) (j n:Nat):Prop:=
 j∉aC∧ ∃(o:Oper) (d:Tmp) (sz:Nat) (el:List AV) (x:Nat→Nat→AV) (uv:Nat→Value),ops[j]? =some o∧o.guard=none∧o.dst=some d∧pL C o.op sz el x uv∧mT w0 w φ A el sz n∧
  ∀u,a.tmps[d]? =some u→u=uv n
theorem jy.mono {C:aH} {ops:Array Oper} {aC:List Nat} {w0 w w' :World} {G G' :J} {φ ak:ag} {A A' :ah} {a a' :Act} {j n:Nat} (h:jy C ops aC w0 w φ A a j n) (o:Out w G φ A w' G' ak A')
 (ht: ∀(r:Oper) (d:Tmp),ops[j]? =some r→r.dst=some d→a'.tmps[d]? =a.tmps[d]?):jy C ops aC w0 w' ak A' a' j n:=by
 obtain ⟨h0,r,d,sz,el,x,uv,h1,h2,h4,h5,h7,h8⟩:=h;exact ⟨h0,r,d,sz,el,x,uv,h1,h2,h4,h5,h7.mono o,fun u hu=>h8 u (by rw [←ht r d h1 h4];exact hu)⟩
structure Inv (C:aH) (ops:Array Oper) (aC:List Nat) (s:Nat→aj) (H:Nat→J) (v:Nat→AV) (w0:World) (aD:ag) (A0:ah) (listed:Array Bool) (a:Act) (w:World) (b c:Nat) (φ :ag) (A:ah) (pn:Nat→Nat):Prop where
 size:listed.size=ops.size
 shut:sm ops (fun i=>listed.getD i false=true)
 bc:b≤c
 cn:c≤ops.size
 cl:c=ops.size∨c∈aC
 ik: ∀i,b≤i→i<c→i∉aC
 iR: ∀i,i∈aC→i<ops.size→(listed.getD i false=true↔i<b)
 base:b=0∨(b-1∈aC∧0<b)
 out:Out w0 (H 0) aD A0 w (H c) φ A
 none: ∀i,b≤i→i<c→listed.getD i false=false→ ∀id,(H i).bs.length≤id→id<(H (i+1)).bs.length→ φ id=none
 eI:a.defers=[]
 len:(s 0).length=a.tmps.size
 wr: ∀(k:Nat) (o:Oper) (d:Tmp) (u:Value),ops[k]? =some o→o.dst=some d→listed.getD k false=true→k<c→a.tmps[d]? =some u→R w (H c) φ A (v k) u
 early: ∀(k:Nat),c≤k→listed.getD k false=true→jy C ops aC w0 w φ A a k (pn k)
 mU: ∀(j k:Nat),c≤j→c≤k→listed.getD j false=true→listed.getD k false=true→pn j=pn k→j=k
 un: ∀(x:Tmp) (u:Value),(∀(k:Nat) (o:Oper),ops[k]? =some o→o.dst=some x→listed.getD k false=false)→a.tmps[x]? =some u→R w (H c) φ A ((s 0).getD x .undef) u
theorem mV {listed:Array Bool} {i:Nat} (hi:i<listed.size) (k:Nat):(listed.setIfInBounds i true).getD k false=true↔(k=i∨listed.getD k false=true):=by
 by_cases hk:k=i
 ·subst hk;simp [hi]
 ·rw [getD_set_ne false (fun h=>hk h.symm)];simp [hk]
variable {w0:World} {aD:ag} {A0:ah} {listed:Array Bool} {a:Act} {w:World} {b c:Nat} {φ :ag} {A:ah} {pn:Nat→Nat}
theorem Inv.look (inv:Inv C ops aC s H v w0 aD A0 listed a w b c φ A pn) (dk:ii ops aC) (t:iQ X C ops aC th K s H v act) {i:Nat} {o:Oper} (f_:i≤c) (ho:ops[i]? =some o) (hu:listed.getD i false=false) (ha: ∀e∈o.after,Region.binds .any e=true→listed.getD e.on false=true)
 {m:Nat} (hm:m≤ops.size) (sq:i≤m) (iT:m=i∨ ∀(k:Nat) (r:Oper) (d:Tmp),ops[k]? =some r→r.dst=some d→i≤k→d∉Oper.looksAt ops o) {x:Tmp} (hx:x∈Oper.looksAt ops o):R w (H c) φ A (ev (s m) (.tmp x)) (a.eval (.tmp x)):=by
 obtain ⟨hl,hg⟩:=mR dk t m hm;simp only [ev,Act.eval];by_cases ax:x<(s 0).length
 ·have zD:x<a.tmps.size:=by rw [←inv.len];exact ax
  have aN:=Array.getElem?_eq_getElem zD
  rw [Array.getD_eq_getD_getElem?,aN,Option.getD_some];by_cases hw: ∃(k:Nat) (r:Oper),ops[k]? =some r∧r.dst=some x
  ·obtain ⟨k,r,hk,hr⟩:=hw;rcases Nat.lt_trichotomy k i with bR|bR|bR
   ·have hb:=dk.ord i k o r x (by omega) ho hk hr hx
    rw [show max i k=i by omega,show min i k=k by omega] at hb
    have bM:=mP inv.shut dk.back i o ho ha k hb;rw [(hg x ax).1 k r (by omega) hk hr]
    exact inv.wr k r x _ hk hr bM (by omega) aN
   ·subst bR;rw [ho] at hk;simp only [Option.some.injEq] at hk;subst hk;rcases iT with rfl|iT
    ·rw [(hg x ax).2 (fun k' o' bH ey=>dk.gJ k' m o' o x (by omega) ey ho hr)]
     refine inv.un x _ (fun k' o' ey b4=> ?_) aN
     by_cases lu:k' =m
     ·subst lu;exact hu
     ·exact absurd b4 (dk.gJ k' m o' o x lu ey ho hr)
    ·exact absurd hx (iT k o x ho hr (Nat.le_refl _))
   ·rcases iT with rfl|iT
    ·have hb:=dk.ord m k o r x (by omega) ho hk hr hx
     rw [show max m k=k by omega,show min m k=m by omega] at hb
     have zE:listed.getD k false=false:=by
      cases hq:listed.getD k false with
      |false=>rfl
      |true=>
       have:=mP inv.shut dk.back k r hk (inv.shut k r hk hq) m hb;rw [hu] at this;simp at this
     rw [(hg x ax).2 (fun k' o' bH ey=>dk.gJ k' k o' r x (by omega) ey hk hr)]
     refine inv.un x _ (fun k' o' ey b4=> ?_) aN
     by_cases lu:k' =k
     ·subst lu;exact zE
     ·exact absurd b4 (dk.gJ k' k o' r x lu ey hk hr)
    ·exact absurd hx (iT k r x hk hr (by omega))
  ·rw [(hg x ax).2 (fun k' o' _ ey b4=>hw ⟨k',o',ey,b4⟩)]
   exact inv.un x _ (fun k' o' ey b4=>absurd ⟨k',o',ey,b4⟩ hw) aN
 ·have:(s m).getD x .undef= .undef:=by simp [List.getD,List.getElem?_eq_none (show (s m).length≤x by rw [hl];exact Nat.le_of_not_lt ax)]
  rw [this];exact .fr _ _ (.undef _)
theorem Inv.pM (inv:Inv C ops aC s H v w0 aD A0 listed a w b c φ A pn) (dk:ii ops aC) (t:iQ X C ops aC th K s H v act) {i:Nat} {o:Oper} (f_:i≤c) (ho:ops[i]? =some o) (hu:listed.getD i false=false) (ha: ∀e∈o.after,Region.binds .any e=true→listed.getD e.on false=true)
 {m:Nat} (hm:m≤ops.size) (sq:i≤m) (iT:m=i∨ ∀(k:Nat) (r:Oper) (d:Tmp),ops[k]? =some r→r.dst=some d→i≤k→d∉Oper.looksAt ops o): ∀y∈o.op.operands,R w (H c) φ A (ev (s m) y) (a.eval y):=by
 intro y hy;cases y with
 |tmp x=>
  refine inv.look dk t f_ ho hu ha hm sq iT ?_;unfold Oper.looksAt;refine List.mem_append.2 (.inl (List.mem_filterMap.2 ⟨.tmp x,by simpa using hy,rfl⟩))
 |const v=>exact .fr _ _ (FR.ofValue w A v)
 |global g=>exact .fr _ _ (.undef _)
 |func f=>exact .fr _ _ (.fn f [] #[] rfl (by simp))
theorem Inv.kf (inv:Inv C ops aC s H v w0 aD A0 listed a w b c φ A pn) (cU:St w0 (H 0) aD A0) (dk:ii ops aC) (t:iQ X C ops aC th K s H v act) {i:Nat} {o:Oper} (f_:i<c) (ho:ops[i]? =some o) (hl:i∉aC) (ha: ∀e∈o.after,Region.binds .any e=true→listed.getD e.on false=true)
 {u:Value} {w' :World} {φ1:ag} {A1:ah} (bJ:Out w (H c) φ A w' (H c) φ1 A1) (hr: ∀d,o.dst=some d→d<a.tmps.size→R w' (H c) φ1 A1 (v i) u)
 (bq: ∀id loc,φ1 id=some loc→ φ id=some loc∨(b≤i∧i<c∧(H i).bs.length≤id∧id<(H (i+1)).bs.length)):Inv C ops aC s H v w0 aD A0 (listed.setIfInBounds i true) (a.put o.dst u) w' b c φ1 A1 pn:=by
 have hi:i<ops.size:=(Array.getElem?_eq_some_iff.1 ho).1;have aA:i<listed.size:=by rw [inv.size];exact hi
 have bO:=mV aA;have jz: ∀k,(listed.setIfInBounds i true).getD k false=false→k≠i∧listed.getD k false=false:=fun k hk=>by
  have:=(not_congr (bO k)).1 (by rw [hk];simp)
  refine ⟨fun h=>this (.inl h),?_⟩;cases hq:listed.getD k false with
  |false=>rfl
  |true=>exact absurd (.inr hq) this
 refine ⟨by simp [inv.size],fun k r hk bM e he hb=> ?_,inv.bc,inv.cn,inv.cl,inv.ik,fun k hk lv=> ?_,inv.base,inv.out.trans cU bJ,fun k h1 h2 h3 id h4 h5=> ?_,?_,?_,fun k r d u' hk b5 bM ec aN=> ?_,fun k jA bM=> ?_,fun j k hj hk iU bM hp=>inv.mU j k hj hk (((bO j).1 iU).resolve_left (by omega)) (((bO k).1 bM).resolve_left (by omega)) hp,fun x u' e8 aN=> ?_⟩
 ·rcases (bO k).1 bM with rfl|bM
  ·rw [ho] at hk;simp only [Option.some.injEq] at hk;subst hk;exact (bO _).2 (.inr (ha e he hb))
  ·exact (bO _).2 (.inr (inv.shut k r hk bM e he hb))
 ·rw [bO,←inv.iR k hk lv];constructor
  ·rintro (rfl|h)
   ·exact absurd hk hl
   ·exact h
  ·exact .inr
 ·obtain ⟨bR,bM⟩:=jz k h3;have lx:=inv.cn;cases hq: φ1 id with
  |none=>rfl
  |some loc=>
   rcases bq id loc hq with h|⟨h6,h7,h8,h9⟩
   ·rw [inv.none k h1 h2 bM id h4 h5] at h;simp at h
   ·exfalso;rcases Nat.lt_or_ge k i with ax|zF
    ·have:=(ij t (i-(k+1)) (k+1) (by omega) (fun j j1 j2=>inv.ik j (by omega) (by omega))).1.2
     rw [show k+1+(i-(k+1))=i by omega] at this
     omega
    ·have:=(ij t (k-(i+1)) (i+1) (by omega) (fun j j1 j2=>inv.ik j (by omega) (by omega))).1.2
     rw [show i+1+(k-(i+1))=k by omega] at this
     omega
 ·cases hd:o.dst<;>simp [Act.put,inv.eI]
 ·cases hd:o.dst<;>simp [Act.put,inv.len]
 ·by_cases bR:k=i
  ·subst bR;rw [ho] at hk;simp only [Option.some.injEq] at hk;subst hk;rw [b5] at aN;simp only [Act.put,Array.getElem?_setIfInBounds] at aN;simp only [if_true] at aN;split at aN
   ·rename_i ax;simp only [Option.some.injEq] at aN;subst aN;exact hr d b5 ax
   ·simp at aN
  ·have bM:=((bO k).1 bM).resolve_left bR;have aK:o.dst≠some d:=dk.gJ i k o r d (fun h=>bR h.symm) ho hk b5;have:a.tmps[d]? =some u' :=by
    cases hd:o.dst with
    |none=>rw [hd] at aN;exact aN
    |some d' =>
     rw [hd] at aN;simp only [Act.put,Array.getElem?_setIfInBounds] at aN;rw [if_neg (by rintro rfl;exact aK hd)] at aN
     exact aN
   exact (inv.wr k r d u' hk b5 bM ec this).mono bJ.bQ
 ·have bR:k≠i:=by omega
  refine (inv.early k jA (((bO k).1 bM).resolve_left bR)).mono bJ fun r d hk b5=> ?_
  have aK:o.dst≠some d:=dk.gJ i k o r d (fun h=>bR h.symm) ho hk b5;cases hd:o.dst with
  |none=>rfl
  |some d' =>
   simp only [Act.put,Array.getElem?_setIfInBounds];rw [if_neg (by rintro rfl;exact aK hd)]
 ·have aK:o.dst≠some x:=fun hd=>by have:=e8 i o ho hd;have h2:=(bO i).2 (.inl rfl);rw [this] at h2;simp at h2
  have:a.tmps[x]? =some u' :=by
   cases hd:o.dst with
   |none=>rw [hd] at aN;exact aN
   |some d' =>
    rw [hd] at aN;simp only [Act.put,Array.getElem?_setIfInBounds] at aN;rw [if_neg (by rintro rfl;exact aK hd)] at aN
    exact aN
  exact (inv.un x u' (fun k r hk b5=>(jz k (e8 k r hk b5)).2) this).mono bJ.bQ
theorem zG {w:World} {G:J} {φ :ag} {A:ah} (ae:St w G φ A) (o:Obj):Out w G φ A (w.alloc o) G φ (fun c=>A c∨c=w.heap.size):=by
 have aR:bI w G φ A (w.alloc o) G φ (fun c=>A c∨c=w.heap.size):=⟨fun c a t fr hc hn=>⟨⟨fr,by rw [heap_alloc_old w _ (d_ hc)];exact hc⟩,fun h=>by have:=d_ hc;rcases h with h|h;exact hn h;omega⟩,Nat.le_refl _,
  fun i b' aw _=>⟨b',aw,rfl,rfl,rfl,rfl,fun loc hl=>hl⟩,fun c hc=>by unfold a8;rw [heap_alloc_old w _ (Ow.lt ae hc)]⟩
 refine ⟨⟨ae.inj,fun c hc=> .inl (ae.own c hc),fun c hc=> ?_,fun i loc hl=> ?_⟩,
  ⟨rfl,rfl,rfl,by simp,fun c hc _=>heap_alloc_old w _ hc,fun c hc=>by unfold a8;rw [heap_alloc_old w _ hc],fun c hc=> .inl hc⟩,aR,fun c hc _=> .inl hc⟩
 ·simp only [World.size_alloc];rcases hc with h|h
  ·have:=ae.bX c h;omega
  ·omega
 obtain ⟨b',cE,aw⟩:=ae.ap i loc hl;refine ⟨b',cE,aw.ad,aw.sized,aw.aQ,fun c b0 h=> ?_⟩;obtain ⟨a,t,fr,h1,h2,h3,h4⟩:=aw.here c b0 h;exact ⟨a,t,fr,by rw [heap_alloc_old w _ (d_ h1)];exact h1,h2,h3,fun i x j y v hx hy hv=>⟨(h4 i x j y v hx hy hv).1.mono aR,(h4 i x j y v hx hy hv).2⟩⟩
theorem Inv.zH (inv:Inv C ops aC s H v w0 aD A0 listed a w b c φ A pn) (cU:St w0 (H 0) aD A0) (dk:ii ops aC) {i:Nat} {o:Oper} (BY:c≤i) (ho:ops[i]? =some o) (BZ:listed.getD i false=false) (hl:i∉aC) (hg:o.guard=Option.none) {d:Tmp} (hd:o.dst=some d)
 {sz:Nat} {el:List AV} {x:Nat→Nat→AV} {uv:Nat→Value} (a_:pL C o.op sz el x uv) (ha: ∀e∈o.after,Region.binds .any e=true→listed.getD e.on false=true) {arr:Array Value} {T:TypeId} (lr:mS el sz arr):
 Inv C ops aC s H v w0 aD A0 (listed.setIfInBounds i true) (a.put o.dst (uv w.heap.size)) (w.alloc (.cells arr T)) b c φ (fun k=>A k∨k=w.heap.size) (fun k=>if k=i then w.heap.size else pn k):=by
 have hi:i<ops.size:=(Array.getElem?_eq_some_iff.1 ho).1;have zI:i<listed.size:=by rw [inv.size];exact hi
 have bO:=mV zI;have bJ:=zG inv.out.st (.cells arr T);have jz: ∀k,(listed.setIfInBounds i true).getD k false=false→k≠i∧listed.getD k false=false:=fun k hk=>by
  have:=(not_congr (bO k)).1 (by rw [hk];simp)
  refine ⟨fun h=>this (.inl h),?_⟩;cases hq:listed.getD k false with
  |false=>rfl
  |true=>exact absurd (.inr hq) this
 have kh: ∀(x:Tmp),o.dst≠some x→(a.put o.dst (uv w.heap.size)).tmps[x]? =a.tmps[x]? :=fun x aK=>by
  rw [hd] at aK⊢;simp only [Act.put,Array.getElem?_setIfInBounds];rw [if_neg (by rintro rfl;exact aK rfl)]
 refine ⟨by simp [inv.size],fun k r hk bM e he hb=> ?_,inv.bc,inv.cn,inv.cl,inv.ik,fun k hk lv=> ?_,inv.base,inv.out.trans cU bJ,fun k h1 h2 h3 id h4 h5=>inv.none k h1 h2 (jz k h3).2 id h4 h5,?_,?_,fun k r d' u' hk b5 bM ec aN=> ?_,fun k jA bM=> ?_,fun j k hj hk iU bM hp=> ?_,fun x u' e8 aN=> ?_⟩
 ·rcases (bO k).1 bM with rfl|bM
  ·rw [ho] at hk;simp only [Option.some.injEq] at hk;subst hk;exact (bO _).2 (.inr (ha e he hb))
  ·exact (bO _).2 (.inr (inv.shut k r hk bM e he hb))
 ·rw [bO,←inv.iR k hk lv];constructor
  ·rintro (rfl|h)
   ·exact absurd hk hl
   ·exact h
  ·exact .inr
 ·rw [hd];simp [Act.put,inv.eI]
 ·rw [hd];simp [Act.put,inv.len]
 ·have bR:k≠i:=by omega
  have aK:o.dst≠some d' :=dk.gJ i k o r d' (fun h=>bR h.symm) ho hk b5
  rw [kh d' aK] at aN
  exact (inv.wr k r d' u' hk b5 (((bO k).1 bM).resolve_left bR) ec aN).mono bJ.bQ
 ·by_cases bR:k=i
  ·subst bR;simp only [if_true];refine ⟨hl,o,d,sz,el,x,uv,ho,hg,hd,a_,⟨inv.out.post.size,by simp,.inr rfl,fun h=>by have:=Ow.lt inv.out.st h;omega,arr,T,(0,0),heap_alloc_new w _,fun j _ h=>absurd h.2 (Nat.not_lt_zero j),lr⟩,fun u hu=> ?_⟩
   rw [hd] at hu;simp only [Act.put,Array.getElem?_setIfInBounds,if_true] at hu;split at hu
   ·simpa using hu.symm
   ·simp at hu
  ·simp only [if_neg bR];exact (inv.early k jA (((bO k).1 bM).resolve_left bR)).mono bJ fun r d' hk b5=>kh d' (dk.gJ i k o r d' (fun h=>bR h.symm) ho hk b5)
 ·have one: ∀k,c≤k→(listed.setIfInBounds i true).getD k false=true→k≠i→pn k≠w.heap.size:=fun k jA bM bR he=>by
   obtain ⟨_,_,_,_,_,_,_,_,_,_,_,hp,_⟩:=inv.early k jA (((bO k).1 bM).resolve_left bR);have:=hp.lt;omega
  by_cases kj:j=i
  ·by_cases bR:k=i
   ·rw [kj,bR]
   ·simp only [kj,if_true,if_neg bR] at hp;exact absurd hp.symm (one k hk bM bR)
  ·by_cases bR:k=i
   ·simp only [bR,if_true,if_neg kj] at hp;exact absurd hp (one j hj iU kj)
   ·simp only [if_neg kj,if_neg bR] at hp;exact inv.mU j k hj hk (((bO j).1 iU).resolve_left kj) (((bO k).1 bM).resolve_left bR) hp
 ·have aK:o.dst≠some x:=fun hd=>by have:=e8 i o ho hd;have h2:=(bO i).2 (.inl rfl);rw [this] at h2;simp at h2
  rw [kh x aK] at aN;exact (inv.un x u' (fun k r hk b5=>(jz k (e8 k r hk b5)).2) aN).mono bJ.bQ
theorem fill (t:iQ X C ops aC th K s H v act) (cU:St w0 (H 0) aD A0) {lst:Nat→Prop} {lo hi:Nat} (hq: ∀j,lo≤j→j≤hi→QG (H j) (H hi)) (hlen: ∀j k,lo≤j→j≤k→k≤hi→(H j).bs.length≤(H k).bs.length)
 (hinj: ∀j k,lo≤j→lo≤k→lst j→lst k→pn j=pn k→j=k) (bJ:Out w0 (H 0) aD A0 w (H hi) φ A) (hE: ∀j,lo≤j→lst j→jy C ops aC w0 w φ A a j (pn j)) (hN: ∀id,(H lo).bs.length≤id→ φ id=none):
 ∀m,lo≤m→m≤hi→ ∃bf,Out w0 (H 0) aD A0 w (H hi) bf A∧bI w (H hi) φ A w (H hi) bf A∧(∀j,lo≤j→j<m→lst j→ ∀(o:Oper) (d:Tmp) (u:Value),ops[j]? =some o→o.dst=some d→a.tmps[d]? =some u→R w (H hi) bf A (v j) u)∧
  (∀id loc,bf id=some loc→ φ id=some loc∨ ∃j,lo≤j∧j<m∧lst j∧(H j).bs.length≤id∧id<(H (j+1)).bs.length)∧(∀j,m≤j→lst j→jy C ops aC w0 w bf A a j (pn j)):=by
 intro m hm;obtain ⟨k,rfl⟩:=Nat.exists_eq_add_of_le hm;clear hm;induction k with
 |zero=>exact fun _=>⟨φ,bJ,.refl _ _ _ _,fun j h1 h2=>by omega,fun id loc h=> .inl h,hE⟩
 |succ k ih=>
  intro ss;obtain ⟨bf,k1,k2,k3,k4,k5⟩:=ih (by omega)
  rw [show lo+(k+1)=lo+k+1 by omega] at ss⊢
  have hm:lo≤lo+k:=Nat.le_add_right _ _;generalize lo+k=m at hm ss k3 k4 k5⊢;by_cases hL:lst m
  ·obtain ⟨gK,o,d,sz,el,x,uv,e1,e2,e4,e5,hp,hu⟩:=k5 m (Nat.le_refl _) hL;obtain ⟨_,s2,s3,_,_⟩:=t.step m o (by rw [Array.getElem?_toList];exact e1)
   have e9:act m=true:=by
    simp only [dr,e2,Option.some.injEq] at s2;exact s2.symm
   have hw:=s3 e9;obtain ⟨hv,hH⟩:v m=x (H m).bs.length (H m).st∧H (m+1)=(H m).new sz false el:=by
    have:=e5.ev _ _ _ _ _ _ _ rfl hw;exact ⟨this.1.symm,this.2.symm⟩
   have cJ:=hq (m+1) (by omega) (by omega)
   have hb:(H hi).get (H m).bs.length=some ⟨(H m).st,sz,false,el⟩:=by
    refine cJ.1.1.1 _ _ ?_;rw [hH];simp [J.get,J.new]
   have bE:(H m).st<(H hi).st:=by
    have:=cJ.1.1.2;rw [hH] at this;exact this
   have aV:bf (H m).bs.length=none:=by
    cases hc:bf (H m).bs.length with
    |none=>rfl
    |some loc=>
     exfalso;rcases k4 _ _ hc with h|⟨j,h1,h2,_,_,h4⟩
     ·rw [hN _ (hlen lo m (Nat.le_refl _) hm (by omega))] at h;simp at h
     ·have:=hlen (j+1) m (by omega) (by omega) (by omega)
      omega
   obtain ⟨arr,T,fr,h1,h2,h3,h5⟩:=hp.here
   let cV:ag:=fun i=>if i=(H m).bs.length then some (.at_ (pn m) 0) else bf i
   have dJ: ∀c,Ow cV c→Ow bf c∨c=pn m:=by
    rintro c ⟨i,b0,h⟩;simp only [cV] at h;split at h
    ·simp only [Option.some.injEq,Loc.at_.injEq] at h;exact .inr h.1.symm
    ·exact .inl ⟨i,b0,h⟩
   have aR:bI w (H hi) bf A w (H hi) cV A:=by
    refine ⟨fun c a t fr hc hn=>⟨⟨fr,hc⟩,hn⟩,Nat.le_refl _,fun i b' aw _=>⟨b',aw,rfl,rfl,rfl,rfl,fun loc hl=> ?_⟩,fun _ _=>rfl⟩
    simp only [cV];split
    ·rename_i h;subst h;rw [aV] at hl;simp at hl
    ·exact hl
   have ly:St w (H hi) cV A:=by
    refine ⟨fun i i' c b0 b1 h1 h2=> ?_,fun c hc=> ?_,k1.st.bX,fun i loc hl=> ?_⟩
    ·simp only [cV] at h1 h2;split at h1
     ·rename_i fw;split at h2
      ·rename_i B0;omega
      ·simp only [Option.some.injEq,Loc.at_.injEq] at h1;exact absurd ⟨i',b1,by rw [h1.1];exact h2⟩ hp.ow
     ·split at h2
      ·simp only [Option.some.injEq,Loc.at_.injEq] at h2;exact absurd ⟨i,b0,by rw [h2.1];exact h1⟩ hp.ow
      ·exact k1.st.inj i i' c b0 b1 h1 h2
    ·rcases dJ c hc with h|h
     ·exact k1.st.own c h
     ·rw [h];exact hp.av
    ·simp only [cV] at hl;split at hl
     ·rename_i fw;subst fw;simp only [Option.some.injEq] at hl;subst hl;refine ⟨_,hb,bE,e5.zx,by simp,fun c b0 h=> ?_⟩
      simp only [Loc.at_.injEq] at h;obtain ⟨rfl,rfl⟩:=h;refine ⟨arr,T,fr,h1,h2,by rw [Nat.zero_add];exact h3,fun i x j y v hx hy hv=> ?_⟩
      rw [Nat.zero_add] at hv;obtain ⟨g1,g2⟩:=h5 i x j y v hx hy hv;exact ⟨g1 _ _ _ _,g2⟩
     ·obtain ⟨b',cE,aw⟩:=k1.st.ap i loc hl;refine ⟨b',cE,aw.ad,aw.sized,aw.aQ,fun c b0 h=> ?_⟩;obtain ⟨a,t,fr,h1,h2,h3,h4⟩:=aw.here c b0 h;exact ⟨a,t,fr,h1,h2,h3,fun i x j y v hx hy hv=>⟨(h4 i x j y v hx hy hv).1.mono aR,(h4 i x j y v hx hy hv).2⟩⟩
   have zJ:Out w0 (H 0) aD A0 w (H hi) cV A:=by
    refine ⟨ly,⟨k1.post.os,k1.post.tape,k1.post.output,k1.post.size,k1.post.kept,k1.post.a8,fun c hc=> ?_⟩,k1.bQ.trans aR (fun c hc=>k1.post.a8 c (Ow.lt cU hc)),k1.keep⟩;rcases dJ c hc with h|h
    ·exact k1.post.own c h
    ·right;rw [h];exact hp.old
   refine ⟨cV,zJ,k2.trans aR (fun _ _=>rfl),fun j j1 j2 j3 o' d' u' q1 q2 q3=> ?_,fun id loc h=> ?_,fun j j1 j2=> ?_⟩
   ·by_cases pN:j=m
    ·subst pN;rw [e1] at q1;simp only [Option.some.injEq] at q1;subst q1;rw [e4] at q2;simp only [Option.some.injEq] at q2;subst q2;rw [hu u' q3,hv]
     exact e5.rel _ _ _ _ _ _ _ hb bE (by simp [cV]) (by unfold a8;rw [h1];exact h3)
    ·exact (k3 j j1 (by omega) j3 o' d' u' q1 q2 q3).mono aR
   ·simp only [cV] at h;split at h
    ·rename_i bK;refine .inr ⟨m,hm,Nat.lt_succ_self _,hL,by omega,?_⟩
     rw [hH];simp [J.new];omega
    ·rcases k4 id loc h with h|⟨j,q1,q2,q3⟩
     ·exact .inl h
     ·exact .inr ⟨j,q1,by omega,q3⟩
   ·obtain ⟨g0,r,d',zK,gB,x',zL,g1,g2,g4,g5,g7,g8⟩:=k5 j (by omega) j2
    refine ⟨g0,r,d',zK,gB,x',zL,g1,g2,g4,g5,⟨g7.old,g7.lt,g7.av,fun h=> ?_,g7.here⟩,g8⟩;rcases dJ _ h with h|h
    ·exact g7.ow h
    ·have:=hinj j m (by omega) hm j2 hL h
     omega
  ·refine ⟨bf,k1,k2,fun j j1 j2 j3=> ?_,fun id loc h=> ?_,fun j j1 j2=>k5 j (by omega) j2⟩
   ·by_cases pN:j=m
    ·subst pN;exact absurd j3 hL
    ·exact k3 j j1 (by omega) j3
   ·rcases k4 id loc h with h|⟨j,q1,q2,q3⟩
    ·exact .inl h
    ·exact .inr ⟨j,q1,by omega,q3⟩
end draw
end Go.VS
namespace Go.VS
section draw
variable {P:Program} {C:aH} {X:br} {ops:Array Oper} {aC:List Nat} {th:List Nat} {K:aj→J→Prop} {s:Nat→aj} {H:Nat→J} {v:Nat→AV} {act:Nat→Bool}
variable {w0:World} {aD:ag} {A0:ah} {listed:Array Bool} {a:Act} {w:World} {b c:Nat} {φ :ag} {A:ah} {pn:Nat→Nat}
theorem Inv.zM (inv:Inv C ops aC s H v w0 aD A0 listed a w b c φ A pn) (dk:ii ops aC) {i:Nat} {o:Oper} (ho:ops[i]? =some o) (ha: ∀e∈o.after,Region.binds .any e=true→listed.getD e.on false=true):i≤c∨(i∉aC∧o.guard=Option.none∧jb o.op=true∧ ∃d,o.dst=some d):=by
 rcases Nat.lt_or_ge c i with h|h
 ·have hi:i<ops.size:=(Array.getElem?_eq_some_iff.1 ho).1;rcases inv.cl with hc|hc
  ·omega
  ·have zN:=Array.getElem?_eq_getElem (xs:=ops) (show c<ops.size by omega)
   rcases dk.after c i _ o zN ho hc h with hb|hb
   ·exfalso;have hL:=mP inv.shut dk.back i o ho ha c hb;have:=(inv.iR c hc (by omega)).1 hL
    have:=inv.bc;omega
   ·exact .inr hb
 ·exact .inl h
theorem Inv.su (inv:Inv C ops aC s H v w0 aD A0 listed a w b c φ A pn) (cU:St w0 (H 0) aD A0) (dk:ii ops aC) (t:iQ X C ops aC th K s H v act) {o:Oper} (ho:ops[c]? =some o) (hl:c∈aC) (ha: ∀e∈o.after,Region.binds .any e=true→listed.getD e.on false=true)
 {u:Value} {w' :World} {φ1:ag} {A1:ah} (bJ:Out w (H c) φ A w' (H (c+1)) φ1 A1) (hr:R w' (H (c+1)) φ1 A1 (v c) u): ∃c' bf,Inv C ops aC s H v w0 aD A0 (listed.setIfInBounds c true) (a.put o.dst u) w' (c+1) c' bf A1 pn:=by
 have hi:c<ops.size:=(Array.getElem?_eq_some_iff.1 ho).1;have aA:c<listed.size:=by rw [inv.size];exact hi
 have bO:=mV aA;have zO:=inv.bc;have B1:listed.getD c false=false:=by
  cases hq:listed.getD c false with
  |false=>rfl
  |true=>have:=(inv.iR c hl hi).1 hq;omega
 have jz: ∀k,(listed.setIfInBounds c true).getD k false=false→k≠c∧listed.getD k false=false:=fun k hk=>by
  have:=(not_congr (bO k)).1 (by rw [hk];simp)
  refine ⟨fun h=>this (.inl h),?_⟩;cases hq:listed.getD k false with
  |false=>rfl
  |true=>exact absurd (.inr hq) this
 have kh: ∀(k:Nat) (r:Oper) (d:Tmp),k≠c→ops[k]? =some r→r.dst=some d→(a.put o.dst u).tmps[d]? =a.tmps[d]? :=fun k r d ec hk b5=>by
  have aK:o.dst≠some d:=dk.gJ c k o r d (fun h=>ec h.symm) ho hk b5;cases hd:o.dst with
  |none=>rfl
  |some d' =>
   simp only [Act.put,Array.getElem?_setIfInBounds];rw [if_neg (by rintro rfl;exact aK hd)]
 obtain ⟨c',k1,k2,k3,k4⟩:=pK aC ops.size (ops.size-(c+1)) (c+1) rfl (by omega)
 have hQ: ∀j k,c+1≤j→j≤k→k≤c' →QG (H j) (H k):=fun j k h1 h2 h3=>by
  have:=ij t (k-j) j (by omega) (fun i i1 i2=>k4 i (by omega) (by omega))
  rwa [show j+(k-j)=k by omega] at this
 have gL:=hQ (c+1) c' (Nat.le_refl _) k1 (Nat.le_refl _)
 have hlen: ∀j k,c+1≤j→j≤k→k≤c' →(H j).bs.length≤(H k).bs.length:=fun j k h1 h2 h3=>(hQ j k h1 h2 h3).1.2
 have hex:=jm bJ.st gL.1.1 gL.2;have aR:=bJ.bQ.trans hex.bQ (fun k hk=>by rw [(bJ.post.trans hex.post).a8 k (Ow.lt inv.out.st hk)])
 have hE: ∀j,c+1≤j→(listed.setIfInBounds c true).getD j false=true→jy C ops aC w0 w' φ1 A1 (a.put o.dst u) j (pn j):=fun j hj hL=>
  (inv.early j (by omega) (((bO j).1 hL).resolve_left (by omega))).mono bJ fun r d hk b5=>kh j r d (by omega) hk b5
 obtain ⟨bf,o2,pO,r2,m2,e2⟩:=fill (lst:=fun j=>(listed.setIfInBounds c true).getD j false=true) t cU (fun j h1 h2=>hQ j c' h1 h2 (Nat.le_refl _)) hlen
  (fun j k hj hk iU bM hp=>inv.mU j k (by omega) (by omega) (((bO j).1 iU).resolve_left (by omega)) (((bO k).1 bM).resolve_left (by omega)) hp) ((inv.out.trans cU bJ).trans cU hex) hE (fun id h=>bJ.st.new h) c' k1 (Nat.le_refl _)
 refine ⟨c',bf,by simp [inv.size],fun k r hk bM e he hb=> ?_,k1,k2,k3,k4,fun k hk lv=> ?_,.inr ⟨by simpa using hl,Nat.succ_pos _⟩,o2,fun k h1 h2 h3 id h4 h5=> ?_,?_,?_,fun k r d u' hk b5 bM zP aN=> ?_,fun k jA bM=>e2 k jA bM,
  fun j k hj hk iU bM hp=>inv.mU j k (by omega) (by omega) (((bO j).1 iU).resolve_left (by omega)) (((bO k).1 bM).resolve_left (by omega)) hp,fun x u' e8 aN=> ?_⟩
 ·by_cases ec:k=c
  ·subst ec;rw [ho] at hk;simp only [Option.some.injEq] at hk;subst hk;exact (bO _).2 (.inr (ha e he hb))
  ·exact (bO _).2 (.inr (inv.shut k r hk (((bO k).1 bM).resolve_left ec) e he hb))
 ·rw [bO,inv.iR k hk lv];constructor
  ·rintro (h|h)<;>omega
  ·intro h;by_cases ec:k=c
   ·exact .inl ec
   ·right;rcases Nat.lt_or_ge k b with h' |h'
    ·exact h'
    ·exact absurd hk (inv.ik k h' (by omega))
 ·cases hp:bf id with
  |none=>rfl
  |some loc=>
   exfalso;rcases m2 id loc hp with h|⟨j,j1,j2,j3,j4,j5⟩
   ·rw [bJ.st.new (Nat.le_trans (hlen (c+1) k (Nat.le_refl _) h1 (by omega)) h4)] at h;simp at h
   ·have:j=k:=by
     rcases Nat.lt_trichotomy j k with h|h|h
     ·have:=hlen (j+1) k (by omega) (by omega) (by omega);omega
     ·exact h
     ·have:=hlen (k+1) j (by omega) (by omega) (by omega);omega
    subst this;rw [h3] at j3;simp at j3
 ·cases hd:o.dst<;>simp [Act.put,inv.eI]
 ·cases hd:o.dst<;>simp [Act.put,inv.len]
 ·by_cases bR:k=c
  ·subst bR;rw [ho] at hk;simp only [Option.some.injEq] at hk;subst hk;rw [b5] at aN;simp only [Act.put,Array.getElem?_setIfInBounds] at aN;simp only [if_true] at aN;split at aN
   ·rename_i ax;simp only [Option.some.injEq] at aN;subst aN;exact (hr.mono hex.bQ).mono pO
   ·simp at aN
  ·rcases Nat.lt_or_ge k c with ax|zF
   ·rw [kh k r d bR hk b5] at aN;exact ((inv.wr k r d u' hk b5 (((bO k).1 bM).resolve_left bR) ax aN).mono aR).mono pO
   ·exact r2 k (by omega) zP bM r d u' hk b5 aN
 ·have aK:o.dst≠some x:=fun hd=>by have:=e8 c o ho hd;have h2:=(bO c).2 (.inl rfl);rw [this] at h2;simp at h2
  have:a.tmps[x]? =some u' :=by
   cases hd:o.dst with
   |none=>rw [hd] at aN;exact aN
   |some d' =>
    rw [hd] at aN;simp only [Act.put,Array.getElem?_setIfInBounds] at aN;rw [if_neg (by rintro rfl;exact aK hd)] at aN
    exact aN
  exact ((inv.un x u' (fun k r hk b5=>(jz k (e8 k r hk b5)).2) this).mono aR).mono pO
theorem zQ {op:Op} (h:gU op=true) (hc: ∀c,op≠ .call c):dI op=true:=by
 cases op<;>first|rfl|exact absurd rfl (hc _)|(simp [gU] at h)
theorem zR {X:br} {C:aH} {th:Bool} {o:Oper} {s:aj} {H H' :J} {x:AV} (hl:gU o.op=true) (h:gT C.E o.op s H=some (x,H')):wpOp X C true th o s H (fun v1 H1=>v1=x∧H1=H'):=by
 unfold wpOp;split
 ·rename_i b args tys a_;rw [a_] at hl h;cases b<;>first|(simp [gU] at hl;done)|skip
  simp only [gT] at h;rw [h];exact ⟨fun _=>rfl,rfl,rfl⟩
 ·rename_i y args tys a_;rw [a_] at hl;simp [gU] at hl
 ·rename_i h1 h2;have hc: ∀c,o.op≠ .call c:=by
   rintro ⟨zS,args,tys⟩ a_;rw [a_] at hl;cases zS with
   |builtin b=>exact h1 _ _ _ a_
   |value f=>exact h2 _ _ _ a_
   |_=>simp [gU] at hl
  have he:gT C.E o.op s H=aM C.E o.op s H:=by
   revert hc;generalize o.op=op;intro hc;cases op<;>first|rfl|exact absurd rfl (hc _)
  rw [he] at h;rw [h];exact ⟨fun _=>zQ hl hc,rfl,rfl⟩
def left (ops:Array Oper) (listed:Array Bool):Nat:=((List.range ops.size).filter fun k=> !listed.getD k false).length
theorem zT {ops:Array Oper} {listed:Array Bool} {i:Nat} (hs:listed.size=ops.size) (hi:i<ops.size) (hu:listed.getD i false=false):left ops (listed.setIfInBounds i true)<left ops listed:=by
 have bO:=mV (listed:=listed) (i:=i) (by omega)
 have he:((List.range ops.size).filter fun k=> !(listed.setIfInBounds i true).getD k false)=(((List.range ops.size).filter fun k=> !listed.getD k false).filter fun k=> !(listed.setIfInBounds i true).getD k false):=by
  rw [List.filter_filter];refine List.filter_congr fun k _=> ?_;cases hq:(listed.setIfInBounds i true).getD k false with
  |true=>simp
  |false=>
   have:listed.getD k false=false:=by
    cases mW:listed.getD k false with
    |false=>rfl
    |true=>rw [(bO k).2 (.inr mW)] at hq;simp at hq
   simp only [this,Bool.not_false,Bool.and_self]
 unfold left;rw [he];refine List.length_filter_lt_length_iff_exists.2 ⟨i,List.mem_filter.2 ⟨List.mem_range.2 hi,by rw [hu];rfl⟩,?_⟩
 rw [(bO i).2 (.inl rfl)];simp
theorem zU (hE: ∀t ti,C.E t=some ti→aS P t ti) (hX: ∀f ys H K,X f ys H K→cb P f ys H K) (dk:ii ops aC) (t:iQ X C ops aC th K s H v act) (cU:St w0 (H 0) aD A0) {Q:Exit→Act→World→Prop}
 (hq: ∀s' H' ak A' a' w',Out w0 (H 0) aD A0 w' H' ak A' →SF w' H' ak A' s' a' →K s' H' →Q .normal a' w'):
 ∀(fuel:Nat) (listed:Array Bool) (a:Act) (w:World) (b c:Nat) (φ :ag) (A:ah) (pn:Nat→Nat),Inv C ops aC s H v w0 aD A0 listed a w b c φ A pn→left ops listed≤fuel→wpAny P .any ops Q fuel listed a w:=by
 have done: ∀(listed:Array Bool) (a:Act) (w:World) (b c:Nat) (φ :ag) (A:ah) (pn:Nat→Nat),Inv C ops aC s H v w0 aD A0 listed a w b c φ A pn→Region.ready .any ops listed=[]→Q .normal a w:=by
  intro listed a w b c φ A pn inv hr;have all: ∀k,k<ops.size→listed.getD k false=true:=by
   intro k;induction k using Nat.strongRecOn with
   |_ k ih=>
    intro hk;cases hq:listed.getD k false with
    |true=>rfl
    |false=>
     exfalso;have ho:=Array.getElem?_eq_getElem (xs:=ops) hk;have:k∈Region.ready .any ops listed:=mem_ready.2 ⟨getD_in (by rw [inv.size];exact hk) hq,_,ho,fun e he hb=>by
      have ax:=dk.back k _ ho e he hb;exact ih e.on ax (by omega)⟩
     rw [hr] at this;cases this
  have lx:c=ops.size:=by
   rcases inv.cl with h|h
   ·exact h
   ·rcases Nat.lt_or_ge c ops.size with h' |h'
    ·have:=(inv.iR c h h').1 (all c h');have:=inv.bc;omega
    ·have:=inv.cn;omega
  obtain ⟨hl,hg⟩:=mR dk t ops.size (Nat.le_refl _);have sw:=t.fin;rw [Array.length_toList] at sw;have bJ:=inv.out;rw [lx] at bJ;refine hq (s ops.size) (H ops.size) φ A a w bJ ⟨by rw [hl,inv.len],fun x y u hx hu=> ?_,inv.eI⟩ sw
  have cu:x<(s 0).length:=by rw [←hl];exact (List.getElem?_eq_some_iff.1 hx).1
  have hy:(s ops.size).getD x .undef=y:=by simp [List.getD,hx]
  by_cases hw: ∃(k:Nat) (r:Oper),ops[k]? =some r∧r.dst=some x
  ·obtain ⟨k,r,hk,hr⟩:=hw;have sx:k<ops.size:=(Array.getElem?_eq_some_iff.1 hk).1;rw [(hg x cu).1 k r sx hk hr] at hy;subst hy;have:=inv.wr k r x u hk hr (all k sx) (by omega) hu
   rw [lx] at this;exact this
  ·rw [(hg x cu).2 (fun k' o' _ ey b4=>hw ⟨k',o',ey,b4⟩)] at hy
   subst hy;have:=inv.un x u (fun k' o' ey b4=>absurd ⟨k',o',ey,b4⟩ hw) hu
   rw [lx] at this;exact this
 intro fuel;induction fuel with
 |zero=>
  intro listed a w b c φ A pn inv hle;have hr:Region.ready .any ops listed=[]:=by
   cases hq:Region.ready .any ops listed with
   |nil=>rfl
   |cons i rs=>
    exfalso;have hm:i∈Region.ready .any ops listed:=by rw [hq];simp
    obtain ⟨hu,o,ho,_⟩:=mem_ready.1 hm;have hi:i<ops.size:=(Array.getElem?_eq_some_iff.1 ho).1;have:i∈((List.range ops.size).filter fun k=> !listed.getD k false):=List.mem_filter.2 ⟨List.mem_range.2 hi,by rw [getD_both hu];rfl⟩
    have:=List.length_pos_of_mem this;unfold left at hle;omega
  exact ⟨hr,done listed a w b c φ A pn inv hr⟩
 |succ fuel ih=>
  intro listed a w b c φ A pn inv hle;refine ⟨done listed a w b c φ A pn inv,fun i hi=> ?_⟩;obtain ⟨iG,o,ho,ha⟩:=mem_ready.1 hi;have hu:=getD_both iG;have cA:i<ops.size:=(Array.getElem?_eq_some_iff.1 ho).1;have B2:=zT inv.size cA hu;have jB:=inv.zM dk ho ha;obtain ⟨st1,st2,mX,sy,B3⟩:=t.step i o (by rw [Array.getElem?_toList];exact ho)
  rw [Nat.zero_add] at mX;by_cases sA:i≤c
  case neg=>
   obtain ⟨gK,hg,he,d,hd⟩:=jB.resolve_left sA;have e9:act i=true:=by
    simp only [dr,hg,Option.some.injEq] at st2;exact st2.symm
   obtain ⟨sz,el,x,uv,a_,cQ⟩:=zy hE he (mX e9);obtain ⟨arr,T,cQ,lr⟩:=cQ a w;unfold Go.wpOp;rw [ho];simp only;have hw:Region.wanted o (yielded ops a.tmps)=true:=by simp [Region.wanted,hg]
   rw [if_pos hw];refine .inl ?_;show o.upon P a _ Q _;rw [cQ];exact ih _ _ _ _ _ _ _ _ (inv.zH cU dk (by omega) ho hu gK hg hd a_ ha lr) (by omega)
  replace jB:=sA;unfold Go.wpOp;rw [ho];simp only;by_cases ga:i∈aC
  ·
   have f_:i=c:=by
    rcases Nat.lt_or_ge i c with h|h
    ·exfalso;have hb: ¬i<b:=fun h=>by have:=(inv.iR i ga cA).2 h;rw [hu] at this;simp at this
     exact inv.ik i (by omega) h ga
    ·omega
   subst f_;have a_:=inv.pM dk t jB ho hu ha (m:=i) (by omega) (Nat.le_refl _) (.inl rfl)
   have hw:=pB (H:=H i) (φ := φ) (A:=A) (w:=w) (s:=s i) (a:=a) (fun j want x hg hx=>inv.look dk t jB ho hu ha (m:=i) (by omega) (Nat.le_refl _) (.inl rfl) (by
    unfold Oper.looksAt;refine List.mem_append.2 (.inr ?_);rw [hg];simp only;rw [hx];simp)) st2
   cases e9:act i with
   |true=>
    rw [e9] at hw;rw [if_pos hw];have h3:=mX e9;rw [show (!aC.contains i)=false by simpa using ga] at h3
    refine .inl (mE hE hX inv.out.st a_ h3 fun x u w' H' ak A' k1 k2 k3=> ?_)
    obtain ⟨rfl,rfl⟩:=k3;obtain ⟨c',bf,pP⟩:=inv.su cU dk t ho ga ha k1 k2;exact ih _ _ _ _ _ _ _ _ pP (by omega)
   |false=>
    rw [e9] at hw;rw [if_neg (by rw [hw];simp)]
    obtain ⟨h4,h5⟩:=sy e9;obtain ⟨c',bf,pP⟩:=inv.su cU dk t ho ga ha (u:=undef) (w' :=w) (φ1:= φ) (A1:=A) (by rw [h5];exact .refl inv.out.st) (by rw [h4];exact .fr _ _ (.az [] #[] rfl (by simp)))
    exact ih _ _ _ _ _ _ _ _ pP (by omega)
  ·have f_:i<c:=by
    rcases Nat.lt_or_ge i c with h|h
    ·exact h
    ·have:i=c:=by omega
     subst this;rcases inv.cl with h' |h'
     ·omega
     ·exact absurd h' ga
   have lx:=inv.cn;rcases Nat.lt_or_ge i b with mY|mY
   ·
    obtain ⟨mZ,iI⟩:b-1∈aC∧0<b:=by
     rcases inv.base with h|h
     ·omega
     ·exact h
    have zO:=inv.bc;have m_:=Array.getElem?_eq_getElem (xs:=ops) (show b-1<ops.size by omega)
    have zV:=(inv.iR (b-1) mZ (by omega)).2 (by omega)
    have sB:i<b-1:=by
     rcases Nat.lt_or_ge i (b-1) with h|h
     ·exact h
     ·have:i=b-1:=by omega
      subst this;exact absurd mZ ga
    have sC:((fg ops.toList).getD (b-1) 0).testBit i=false:=by
     cases hq:((fg ops.toList).getD (b-1) 0).testBit i with
     |false=>rfl
     |true=>
      have:=mP inv.shut dk.back (b-1) _ m_ (inv.shut (b-1) _ m_ zV) i hq;rw [hu] at this;simp at this
    obtain ⟨_,hg,dB,⟨d,hd⟩,zW⟩:=dk.late (b-1) i _ o m_ ho mZ sB sC
    obtain ⟨_,_,_,_,sD⟩:=t.step (b-1) _ (by rw [Array.getElem?_toList];exact m_)
    rw [Nat.zero_add,show b-1+1=b by omega] at sD
    have na:=sD i (by
     unfold fL;rw [if_pos (by simpa using mZ)]
     exact List.mem_filter.2 ⟨List.mem_range.2 sB,by rw [sC];rfl⟩)
    unfold jR at na;rw [ho] at na;simp only [hd] at na;have a_:=inv.pM dk t jB ho hu ha (m:=b) (by omega) (by omega) (.inr zW)
    have gL:=ij t (c-b) b (by omega) (fun k h1 h2=>inv.ik k h1 (by omega))
    rw [show b+(c-b)=c by omega] at gL
    have hw:Region.wanted o (yielded ops a.tmps)=true:=by simp [Region.wanted,hg]
    rw [if_pos hw];refine .inl (VS.kf (th:=false) hE hX inv.out.st a_ gL.1.1 ⟨gL.1.1,fun id h1 h2=>absurd h2 (Nat.not_lt.2 h1)⟩ (zR dB na) fun u w' ak A' k1 k2 k3=> ?_)
    refine ih _ _ _ _ _ _ _ _ (inv.kf cU dk t f_ ho ga ha k1 (fun d' b4 ax=> ?_) (fun id loc h=> ?_)) (by omega)
    ·rw [hd] at b4;simp only [Option.some.injEq] at b4;subst b4;rw [←((mR dk t b (by omega)).2 d (by rw [inv.len];exact ax)).1 i o mY ho hd]
     exact k2
    ·rcases k3 id loc h with h|⟨h1,h2⟩
     ·exact .inl h
     ·omega
   ·
    have a_:=inv.pM dk t jB ho hu ha (m:=i) (by omega) (Nat.le_refl _) (.inl rfl)
    have hw:=pB (H:=H c) (φ := φ) (A:=A) (w:=w) (s:=s i) (a:=a) (fun j want x hg hx=>inv.look dk t jB ho hu ha (m:=i) (by omega) (Nat.le_refl _) (.inl rfl) (by
     unfold Oper.looksAt;refine List.mem_append.2 (.inr ?_);rw [hg];simp only;rw [hx];simp)) st2
    cases e9:act i with
    |true=>
     rw [e9] at hw;rw [if_pos hw];have h3:=mX e9;have gK:(!aC.contains i)=true:=by simpa using ga
     rw [gK] at h3;have ie:=ij t (c-i) i (by omega) (fun k h1 h2=>inv.ik k (by omega) (by omega))
     rw [show i+(c-i)=c by omega] at ie
     have mW:=ij t (c-(i+1)) (i+1) (by omega) (fun k h1 h2=>inv.ik k (by omega) (by omega))
     rw [show i+1+(c-(i+1))=c by omega] at mW
     refine .inl (VS.kf hE hX inv.out.st a_ ie.1.1 ⟨mW.1.1,fun id h1 h2=>inv.none i mY f_ hu id h1 h2⟩ h3 fun u w' ak A' k1 k2 k3=> ?_)
     refine ih _ _ _ _ _ _ _ _ (inv.kf cU dk t f_ ho ga ha k1 (fun d' _ _=>k2) (fun id loc h=> ?_)) (by omega)
     rcases k3 id loc h with h|h
     ·exact .inl h
     ·exact .inr ⟨mY,f_,h⟩
    |false=>
     rw [e9] at hw;rw [if_neg (by rw [hw];simp)]
     obtain ⟨h4,h5⟩:=sy e9;refine ih _ _ _ _ _ _ _ _ (inv.kf cU dk t f_ ho ga ha (.refl inv.out.st) (fun d' _ _=>by rw [h4];exact .fr _ _ (.az [] #[] rfl (by simp))) (fun id loc h=> .inl h)) (by omega)
theorem sE (dj:Exact X) (_hm:P.follows .mixedOrders=true) (hE: ∀t ti,C.E t=some ti→aS P t ti) (hX: ∀f ys H K,X f ys H K→cb P f ys H K):mJ P C X:=by
 intro ops aC th s0 H0 K Q w φ A a hd h ae hs hq;have dk:=zu hd;obtain ⟨s,H,v,act,rfl,rfl,t⟩:=si dj ops.toList 0 s0 H0 h;have aR:bI w (H 0) φ A {w with drawn:=w.drawn+1} (H 0) φ A:=⟨fun c arr T fr hc hn=>⟨⟨fr,hc⟩,hn⟩,Nat.le_refl _,fun id b h _=>⟨b,h,rfl,rfl,rfl,rfl,fun _ h=>h⟩,fun _ _=>rfl⟩;have jC:St {w with drawn:=w.drawn+1} (H 0) φ A:=by
  refine ⟨ae.inj,ae.own,ae.bX,fun id loc hl=> ?_⟩;obtain ⟨b,hb,af⟩:=ae.ap id loc hl;refine ⟨b,hb,af.ad,af.sized,af.aQ,fun c b0 he=> ?_⟩;obtain ⟨arr,T,fr,k1,k2,k3,k4⟩:=af.here c b0 he;exact ⟨arr,T,fr,k1,k2,k3,fun i x j y v hx hy hv=>⟨(k4 i x j y v hx hy hv).1.mono aR,(k4 i x j y v hx hy hv).2⟩⟩
 have sF:Out w (H 0) φ A {w with drawn:=w.drawn+1} (H 0) φ A:=⟨jC,⟨rfl,rfl,rfl,Nat.le_refl _,fun _ _ _=>rfl,fun _ _=>rfl,fun _ h=> .inl h⟩,aR,fun _ h _=>h⟩;obtain ⟨c,k1,k2,k3,k4⟩:=pK aC ops.size (ops.size-0) 0 rfl (Nat.zero_le _);have gL:=ij t c 0 (by omega) (fun k h1 h2=>k4 k h1 (by omega))
 rw [Nat.zero_add] at gL;have hex:=jm jC gL.1.1 gL.2;refine zU hE hX dk t ae hq ops.size _ a _ 0 c φ A (fun _=>0) ⟨by simp,fun i o ho hl=>by have cZ:(Array.replicate ops.size false).getD i false=true:=hl;rw [getD_replicate_false] at cZ;simp at cZ,k1,k2,k3,k4,fun i _ _=>by rw [getD_replicate_false];simp,.inl rfl,sF.trans ae hex,fun i _ _ _ id h4 h5=> ?_,hs.eI,hs.len,fun k o d u _ _ hl=>by rw [getD_replicate_false] at hl;simp at hl,fun k _ hl=>by rw [getD_replicate_false] at hl;simp at hl,fun j k _ _ hl=>by rw [getD_replicate_false] at hl;simp at hl,fun x u _ hu=> ?_⟩ ?_
 ·refine ae.new ?_;rename_i h1 h2 h3;have:=(ij t i 0 (by omega) (fun k h1 h2=>k4 k h1 (by omega))).1.2
  rw [Nat.zero_add] at this;omega
 ·have hx:=(hs.mono (sF.bQ.trans hex.bQ (fun _ _=>rfl))).ev (.tmp x);simp only [ev,Act.eval] at hx;rw [Array.getD_eq_getD_getElem?,hu] at hx;exact hx
 ·unfold left;exact Nat.le_trans (List.length_filter_le _ _) (by simp)
end draw
end Go.VS
namespace Go.VS
section mono
variable {X X' :br} {C:aH} (hX: ∀f ys H (K K' :AV→J→Prop),(∀v H,K v H→K' v H)→X f ys H K→X' f ys H K')
include hX
theorem sG {f:FuncId} {args:List AV} {th:Bool} {H:J} {K K' :AV→J→Prop} (hK: ∀v H,K v H→K' v H) (h:dq X C f args th H K):dq X' C f args th H K' :=by
 unfold dq at h⊢;split at h
 ·exact h.elim
 rename_i ys bV hy;obtain ⟨y,h1,h2,h3⟩:=h;refine ⟨y,hX _ _ _ _ _ (fun _ _ h=>h) h1,h2,?_⟩;split at h3
 ·rename_i ht;rw [if_pos ht];exact hK _ _ h3
 ·rename_i ht;rw [if_neg ht];exact hK _ _ h3
theorem il {q th:Bool} {o:Oper} {s:aj} {H:J} {K K' :AV→J→Prop} (hK: ∀v H,K v H→K' v H) (h:wpOp X C q th o s H K):wpOp X' C q th o s H K' :=by
 unfold wpOp at h⊢;split at h
 ·obtain ⟨hq,h⟩:=h;refine ⟨hq,?_⟩;split at h
  ·exact hK _ _ h
  ·exact h.elim
 ·split at h
  ·cases q with
   |true=>exact sG hX hK h
   |false=>
    rcases h with h|h
    ·exact .inl (hX _ _ _ _ _ hK h)
    ·exact .inr (sG hX hK h)
  ·exact h.elim
 ·obtain ⟨hq,h⟩:=h;refine ⟨hq,?_⟩;split at h
  ·exact hK _ _ h
  ·exact h.elim
omit hX in
theorem lz {ops:Array Oper} {s:aj} {H:J} {K K' :Prop} (hK:K→K'): ∀(l:List Nat),ff C ops s H K l→ff C ops s H K' l
 |[],h=>hK h
 |_j::js,h=>⟨h.1,lz hK js h.2⟩
theorem nb {ops:Array Oper} {q:Nat→Bool} {late:Nat→List Nat} {th:List Nat} {K K' :aj→J→Prop} (hK: ∀s H,K s H→K' s H): ∀(l:List Oper) (i:Nat) (s:aj) (H:J),cY X C ops q late th K l i s H→cY X' C ops q late th K' l i s H
 |[],i,s,H,h=>hK s H h
 |o::rest,i,s,H,h=>by
  simp only [cY] at h⊢;cases hg:o.guard with
  |none=>
   rw [hg] at h;exact il hX (fun v H' hv=>lz (nb hK rest (i+1) _ _) _ hv) h
  |some p=>
   rw [hg] at h;obtain ⟨v,H',h1,h2⟩:=h;refine ⟨v,H',?_,lz (nb hK rest (i+1) _ _) _ h2⟩;split at h1
   ·split at h1
    ·rename_i hb;simp only [hb,if_true];exact il hX (fun _ _ h=>h) h1
    ·rename_i hb;simp only [hb];exact h1
   ·exact h1.elim
theorem nc {ops:Array Oper} {th:List Nat} {fz:List (Nat×List (List Nat×List Sh))} {K K' :aj→J→Prop} (hK: ∀s H,K s H→K' s H): ∀(l:List Oper) (i:Nat) (s:aj) (H:J),cP X C ops th fz K l i s H→cP X' C ops th fz K' l i s H
 |[],i,s,H,h=>hK s H h
 |o::rest,i,s,H,h=>by
  simp only [cP] at h⊢;obtain ⟨s1,H1,hf,h⟩:=h;refine ⟨s1,H1,hf,?_⟩;cases hg:o.guard with
  |none=>
   rw [hg] at h;exact il hX (fun v H' hv=>nc hK rest (i+1) _ _ hv) h
  |some p=>
   rw [hg] at h;obtain ⟨v,H',h1,h2⟩:=h;refine ⟨v,H',?_,nc hK rest (i+1) _ _ h2⟩;split at h1
   ·split at h1
    ·rename_i hb;simp only [hb,if_true];exact il hX (fun _ _ h=>h) h1
    ·rename_i hb;simp only [hb];exact h1
   ·exact h1.elim
theorem ez: ∀(c:AC) (s:aj) (H:J) (K K' :Ex→aj→J→Prop),(∀e s H,K e s H→K' e s H)→aL X C c s H K→aL X' C c s H K' :=by
 intro c;induction c with
 |skip=>intro s H K K' hK h;exact hK _ _ _ h
 |ret=>intro s H K K' hK h;exact hK _ _ _ h
 |exit id=>intro s H K K' hK h;exact hK _ _ _ h
 |seq a b gb gd=>
  intro s H K K' hK h
  simp only [aL] at h⊢;refine gb s H _ _ (fun e s' H' h=> ?_) h
  cases e with
  |normal=>exact gd s' H' K K' hK h
  |exit id=>exact hK _ _ _ h
  |ret=>exact hK _ _ _ h
 |cond c a b gb gd=>
  intro s H K K' hK h
  simp only [aL] at h⊢;split at h
  ·split at h
   ·rename_i hb;simp only [hb,if_true];exact gb s H K K' hK h
   ·rename_i hb;simp only [hb];exact gd s H K K' hK h
  ·exact h.elim
 |block id keep a ih=>
  intro s H K K' hK h
  simp only [aL] at h⊢;refine ih s H _ _ (fun e s' H' h=> ?_) h
  cases e with
  |normal=>exact hK _ _ _ h
  |ret=>exact hK _ _ _ h
  |exit j=>
   simp only at h⊢;split at h
   ·rename_i hj;rw [if_pos hj];exact hK _ _ _ h
   ·rename_i hj;rw [if_neg hj];exact hK _ _ _ h
 |loop sp a ih=>
  intro s H K K' hK h
  simp only [aL] at h⊢;intro Y hY;refine h Y fun s' H' hB=>hY s' H' (ih s' H' _ _ (fun e s2 H2 h=> ?_) hB)
  cases e with
  |normal=>exact h
  |exit id=>exact hK _ _ _ h
  |ret=>exact hK _ _ _ h
 |region id ops draw aC th fz=>
  intro s H K K' hK h
  cases draw with
  |true=>
   simp only [aL] at h⊢;exact ⟨h.1,nb hX (fun s H h=>hK _ s H h) _ _ _ _ h.2⟩
  |false=>
   simp only [aL] at h⊢;exact nc hX (fun s H h=>hK _ s H h) _ _ _ _ h
 |fI l kp=>
  intro s H K K' hK h
  simp only [aL] at h⊢;split at h
  ·exact hK _ _ _ h
  ·exact h
 |bad=>intro s H K K' hK h;exact h
end mono
def Up (X:br):Prop:= ∀f ys H (K K' :AV→J→Prop),(∀v H,K v H→K' v H)→X f ys H K→X f ys H K'
theorem ja.round {X:br} (hU:Up X) {C:aH} {c:AC} {next:aj→J→aj×J} {K:Ex→aj→J→Prop} {s:aj} {H:J}
 (h:aL X C c s H (fun e s' H' =>match e with
  | .normal=>ja (aL X C c) next K (next s' H').1 (next s' H').2
  |e=>K e s' H')):ja (aL X C c) next K s H:=by
 intro Y hY;refine hY s H (ez hU c s H _ _ (fun e s' H' h=> ?_) h)
 cases e with
 |normal=>exact h Y hY
 |exit id=>exact h
 |ret=>exact h
theorem sH {X:br} {C:aH} (hU:Up X) (dj:Exact X) {ops:Array Oper} {q:Nat→Bool} {late:Nat→List Nat} {th:List Nat} {K:aj→J→Prop}: ∀(l:List Oper) (i:Nat) (s:aj) (H:J),cY X C ops q late th K l i s H→ ∃s' H',cY X C ops q late th (fun s1 H1=>s1=s' ∧H1=H') l i s H∧K s' H'
 |[],i,s,H,h=>⟨s,H,⟨rfl,rfl⟩,h⟩
 |o::rest,i,s,H,h=>by
  have sI: ∀(ls:List Nat) (s1:aj) (H1:J),ff C ops s1 H1 (cY X C ops q late th K rest (i+1) s1 H1) ls→ ∃s' H',ff C ops s1 H1 (cY X C ops q late th (fun s1 H1=>s1=s' ∧H1=H') rest (i+1) s1 H1) ls∧K s' H' :=by
   intro ls s1 H1 h;obtain ⟨h1,h2⟩:=mO _ _ _ _ _ _ h;obtain ⟨s',H',h3,h4⟩:=sH hU dj rest (i+1) s1 H1 h2;refine ⟨s',H',?_,h4⟩;clear h h2 h4;induction ls with
   |nil=>exact h3
   |cons j js ih=>exact ⟨h1 j (by simp),ih fun k hk=>h1 k (by simp [hk])⟩
  simp only [cY] at h⊢;cases hg:o.guard with
  |none=>
   rw [hg] at h;simp only at h⊢;obtain ⟨v,H1,h1,h2⟩:=lp dj h;obtain ⟨s',H',h3,h4⟩:=sI _ _ _ h2;exact ⟨s',H',il hU (fun v1 H2 e=>by obtain ⟨rfl,rfl⟩:=e;exact h3) h1,h4⟩
  |some p=>
   rw [hg] at h;simp only at h⊢;obtain ⟨v,H1,h1,h2⟩:=h;obtain ⟨s',H',h3,h4⟩:=sI _ _ _ h2;exact ⟨s',H',⟨v,H1,h1,h3⟩,h4⟩
theorem pQ {X:br} {C:aH} (hU:Up X) (dj:Exact X) {ops:Array Oper} {th:List Nat} {fz:List (Nat×List (List Nat×List Sh))} {K:aj→J→Prop}: ∀(l:List Oper) (i:Nat) (s:aj) (H:J),cP X C ops th fz K l i s H→ ∃s' H',cP X C ops th fz (fun s1 H1=>s1=s' ∧H1=H') l i s H∧K s' H'
 |[],i,s,H,h=>⟨s,H,⟨rfl,rfl⟩,h⟩
 |o::rest,i,s,H,h=>by
  simp only [cP] at h⊢;obtain ⟨s0,H0,hf,h⟩:=h;cases hg:o.guard with
  |none=>
   rw [hg] at h;simp only at h⊢;obtain ⟨v,H1,h1,h2⟩:=lp dj h;obtain ⟨s',H',h3,h4⟩:=pQ hU dj rest (i+1) _ _ h2;exact ⟨s',H',⟨s0,H0,hf,il hU (fun v1 H2 e=>by obtain ⟨rfl,rfl⟩:=e;exact h3) h1⟩,h4⟩
  |some p=>
   rw [hg] at h;simp only at h⊢;obtain ⟨v,H1,h1,h2⟩:=h;obtain ⟨s',H',h3,h4⟩:=pQ hU dj rest (i+1) _ _ h2;exact ⟨s',H',⟨s0,H0,hf,v,H1,h1,h3⟩,h4⟩
theorem zX {X:br} {C:aH} (hU:Up X) (dj:Exact X): ∀(c:AC) (s:aj) (H:J) (K:Ex→aj→J→Prop),aL X C c s H K→ ∃e s' H',aL X C c s H (fun e1 s1 H1=>e1=e∧s1=s' ∧H1=H')∧K e s' H' :=by
 intro c;induction c with
 |skip=>intro s H K h;exact ⟨_,_,_,⟨rfl,rfl,rfl⟩,h⟩
 |ret=>intro s H K h;exact ⟨_,_,_,⟨rfl,rfl,rfl⟩,h⟩
 |exit id=>intro s H K h;exact ⟨_,_,_,⟨rfl,rfl,rfl⟩,h⟩
 |seq a b gb gd=>
  intro s H K h;simp only [aL] at h⊢;obtain ⟨e,s1,H1,h1,h2⟩:=gb s H _ h;cases e with
  |normal=>
   obtain ⟨e,s2,H2,h3,h4⟩:=gd s1 H1 K h2;exact ⟨e,s2,H2,ez hU a s H _ _ (fun e1 s' H' q=>by obtain ⟨rfl,rfl,rfl⟩:=q;exact h3) h1,h4⟩
  |exit id=>exact ⟨.exit id,s1,H1,ez hU a s H _ _ (fun e1 s' H' q=>by obtain ⟨rfl,rfl,rfl⟩:=q;exact ⟨rfl,rfl,rfl⟩) h1,h2⟩
  |ret=>exact ⟨.ret,s1,H1,ez hU a s H _ _ (fun e1 s' H' q=>by obtain ⟨rfl,rfl,rfl⟩:=q;exact ⟨rfl,rfl,rfl⟩) h1,h2⟩
 |cond c a b gb gd=>
  intro s H K h;simp only [aL] at h⊢;split at h
  ·split at h
   ·rename_i hb;simp only [hb,if_true];exact gb s H K h
   ·rename_i hb;simp only [hb];exact gd s H K h
  ·exact h.elim
 |block id keep a ih=>
  intro s H K h;simp only [aL] at h⊢;obtain ⟨e,s1,H1,h1,h2⟩:=ih s H _ h;cases e with
  |normal=>exact ⟨.normal,dZ keep s1,H1,ez hU a s H _ _ (fun e1 s' H' q=>by obtain ⟨rfl,rfl,rfl⟩:=q;exact ⟨rfl,rfl,rfl⟩) h1,h2⟩
  |ret=>exact ⟨.ret,s1,H1,ez hU a s H _ _ (fun e1 s' H' q=>by obtain ⟨rfl,rfl,rfl⟩:=q;exact ⟨rfl,rfl,rfl⟩) h1,h2⟩
  |exit j=>
   simp only at h2;split at h2
   ·rename_i hj;exact ⟨.normal,dZ keep s1,H1,ez hU a s H _ _ (fun e1 s' H' q=>by obtain ⟨rfl,rfl,rfl⟩:=q;simp [hj]) h1,h2⟩
   ·rename_i hj;exact ⟨.exit j,s1,H1,ez hU a s H _ _ (fun e1 s' H' q=>by obtain ⟨rfl,rfl,rfl⟩:=q;simp [hj]) h1,h2⟩
 |loop sp a ih=>
  intro s H K h;simp only [aL] at h⊢;refine h (fun s1 H1=> ∃e s' H',ja (aL X C a) (gV sp H.bs.length) (fun e1 s2 H2=>e1=e∧s2=s' ∧H2=H') s1 H1∧K e s' H') fun s1 H1 hB=> ?_
  obtain ⟨e,s2,H2,h1,h2⟩:=ih s1 H1 _ hB;cases e with
  |normal=>
   obtain ⟨e,s',H',h3,h4⟩:=h2;exact ⟨e,s',H',.round hU (ez hU a s1 H1 _ _ (fun e1 s' H' q=>by obtain ⟨rfl,rfl,rfl⟩:=q;exact h3) h1),h4⟩
  |exit id=>exact ⟨_,_,_,.round hU (ez hU a s1 H1 _ _ (fun e1 s' H' q=>by obtain ⟨rfl,rfl,rfl⟩:=q;exact ⟨rfl,rfl,rfl⟩) h1),h2⟩
  |ret=>exact ⟨_,_,_,.round hU (ez hU a s1 H1 _ _ (fun e1 s' H' q=>by obtain ⟨rfl,rfl,rfl⟩:=q;exact ⟨rfl,rfl,rfl⟩) h1),h2⟩
 |region id ops draw aC th fz=>
  intro s H K h;cases draw with
  |true=>
   simp only [aL] at h⊢;obtain ⟨s',H',h1,h2⟩:=sH hU dj _ _ _ _ h.2;exact ⟨.normal,s',H',⟨h.1,nb hU (fun s H q=>⟨rfl,q⟩) _ _ _ _ h1⟩,h2⟩
  |false=>
   simp only [aL] at h⊢;obtain ⟨s',H',h1,h2⟩:=pQ hU dj _ _ _ _ h;exact ⟨.normal,s',H',nc hU (fun s H q=>⟨rfl,q⟩) _ _ _ _ h1,h2⟩
 |fI l kp=>
  intro s H K h;simp only [aL] at h⊢;split at h
  ·rename_i s' H' he;exact ⟨_,_,_,⟨rfl,rfl,rfl⟩,h⟩
  ·exact h.elim
 |bad=>intro s H K h;exact h.elim
theorem eS.mono {E:aI} {res:List ResultVar} {K K' :AV→J→Prop} (hK: ∀v H,K v H→K' v H): ∀e s H,eS E res K e s H→eS E res K' e s H
 | .normal,_,_,⟨rs,h1,h2⟩=>⟨rs,h1,hK _ _ h2⟩
 | .ret,_,_,⟨rs,h1,h2⟩=>⟨rs,h1,hK _ _ h2⟩
 | .exit _,_,_,h=>h
theorem eS.exact {E:aI} {res:List ResultVar} {K:AV→J→Prop}: ∀e s H,eS E res K e s H→ ∃v H',eS E res (fun v1 H1=>v1=v∧H1=H') e s H∧K v H'
 | .normal,_,_,⟨rs,h1,h2⟩=>⟨_,_,⟨rs,h1,rfl,rfl⟩,h2⟩
 | .ret,_,_,⟨rs,h1,h2⟩=>⟨_,_,⟨rs,h1,rfl,rfl⟩,h2⟩
 | .exit _,_,_,h=>h.elim
theorem sJ {X:br} {C:aH} (hU:Up X) (dj:Exact X) {f:FuncId} {ys:List AV} {H:J} {K:AV→J→Prop} (h:Body X C f ys H K): ∃v H',Body X C f ys H (fun v1 H1=>v1=v∧H1=H')∧K v H' :=by
 unfold Body at h⊢;split at h
 ·exact h.elim
 ·rename_i fn kI;split at h
  ·exact h.elim
  ·rename_i c hc;obtain ⟨e,s',H',h1,h2⟩:=zX hU dj _ _ _ _ h;obtain ⟨v,H2,h3,h4⟩:=eS.exact _ _ _ h2;refine ⟨v,H2,?_,h4⟩;exact ez hU _ _ _ _ _ (fun e1 s1 H1 q=>by obtain ⟨rfl,rfl,rfl⟩:=q;exact h3) h1
theorem Body.mono {X X' :br} {C:aH} (hX: ∀f ys H (K K' :AV→J→Prop),(∀v H,K v H→K' v H)→X f ys H K→X' f ys H K') {f:FuncId} {ys:List AV} {H:J} {K K' :AV→J→Prop} (hK: ∀v H,K v H→K' v H) (h:Body X C f ys H K):Body X' C f ys H K' :=by
 unfold Body at h⊢;split at h
 ·exact h.elim
 ·rename_i fn kI;split at h
  ·exact h.elim
  ·rename_i c hc;exact ez hX _ _ _ _ _ (eS.mono hK) h
def nf (C:aH):Prop:=Up C.ext
theorem aq.up {C:aH} (hE:nf C):Up (aq C):=by
 intro f ys H K K' hK h
 refine h (fun f ys H K=> ∀K',(∀v H,K v H→K' v H)→aq C f ys H K') ⟨fun f ys H K h K' hK X hX=>hX.1 _ _ _ _ (hE _ _ _ _ _ hK h),fun f ys H K h K' hK X hX=> ?_⟩ K' hK
 refine hX.2 _ _ _ _ (Body.mono (fun f ys H K K2 zY h=> ?_) hK h);exact h K2 zY X hX
theorem aq.intro {C:aH} (hE:nf C) {f:FuncId} {ys:List AV} {H:J} {K:AV→J→Prop} (h:Body (aq C) C f ys H K):aq C f ys H K:=by
 intro X hX;refine hX.2 _ _ _ _ (Body.mono (fun f ys H K K' hK hc=> ?_) (fun _ _ h=>h) h)
 exact aq.up hE _ _ _ _ _ hK hc X hX
theorem aq.exact {C:aH} (hE:nf C) (hX:Exact C.ext):Exact (aq C):=by
 intro f ys H K h;refine h (fun f ys H K=> ∃v H',aq C f ys H (fun v1 H1=>v1=v∧H1=H')∧K v H') ⟨fun f ys H K h=> ?_,fun f ys H K h=> ?_⟩
 ·obtain ⟨v,H',h1,h2⟩:=hX _ _ _ _ h;exact ⟨v,H',fun X hX=>hX.1 _ _ _ _ h1,h2⟩
 ·obtain ⟨v,H',h1,h2⟩:=sJ (X:=fun f ys H K=> ∃v H',aq C f ys H (fun v1 H1=>v1=v∧H1=H')∧K v H') (fun f ys H K K' hK ⟨v,H',h1,h2⟩=>⟨v,H',h1,hK _ _ h2⟩) (fun f ys H K ⟨v,H',h1,h2⟩=>⟨v,H',⟨v,H',h1,rfl,rfl⟩,h2⟩) h
  refine ⟨v,H',aq.intro hE (Body.mono (fun f ys H K K' hK ⟨v,H',h1,h2⟩=> ?_) (fun _ _ h=>h) h1),h2⟩
  exact aq.up hE _ _ _ _ _ (fun v1 H1 q=>by obtain ⟨rfl,rfl⟩:=q;exact hK _ _ h2) h1
theorem aq.ext {C:aH} {f:FuncId} {ys:List AV} {H:J} {K:AV→J→Prop} (h:C.ext f ys H K):aq C f ys H K:=fun _ hX=>hX.1 _ _ _ _ h
theorem B4 {P:Program} {C:aH} (hm:P.follows .mixedOrders=true) (hE: ∀t ti,C.E t=some ti→aS P t ti) (hC: ∀f fn,C.code f=some fn→P.funcs[f]? =some fn∧(fn.name== "runtime.NumGoroutine")=false∧nO (C.gq f) fn=true)
 (zZ: ∀f ys H K,C.ext f ys H K→ ∃v H',cb P f ys H (fun v1 H1=>v1=v∧H1=H')∧K v H')
 {f:FuncId} {ys:List AV} {H:J} {K:AV→J→Prop} (h:aq C f ys H K):cb P f ys H K:=by
 have hY: ∃v H',cb P f ys H (fun v1 H1=>v1=v∧H1=H')∧K v H' :=by
  let Y:br:=fun f ys H K=> ∃v H',cb P f ys H (fun v1 H1=>v1=v∧H1=H')∧K v H'
  have sK:Exact Y:=fun f ys H K ⟨v,H',h1,h2⟩=>⟨v,H',⟨v,H',h1,rfl,rfl⟩,h2⟩;have z6:Up Y:=fun f ys H K K' hK ⟨v,H',h1,h2⟩=>⟨v,H',h1,hK _ _ h2⟩
  have sL: ∀f ys H K,Y f ys H K→cb P f ys H K:=fun f ys H K ⟨v,H',h1,h2⟩=>h1.mono fun v1 H1 q=>by obtain ⟨rfl,rfl⟩:=q;exact h2
  refine h Y ⟨zZ,fun f ys H K hb=> ?_⟩;obtain ⟨v,H',h1,h2⟩:=sJ z6 sK hb;exact ⟨v,H',zj hm hE hC sL (sE sK hm hE sL) h1,h2⟩
 obtain ⟨v,H',h1,h2⟩:=hY;exact h1.mono fun v1 H1 q=>by obtain ⟨rfl,rfl⟩:=q;exact h2
end Go.VS
namespace Go.VS
structure Good (C:aH):Prop where
 up:nf C
 exact:Exact C.ext
def lA (C:aH) (b:AC) (K:Ex→aj→J→Prop):Ex→aj→J→Prop
 | .normal,s,H=>aL (aq C) C b s H K
 | .exit i,s,H=>K (.exit i) s H
 | .ret,s,H=>K .ret s H
def jD (id:Nat) (keep:Option (List Nat)) (K:Ex→aj→J→Prop):Ex→aj→J→Prop
 | .normal,s,H=>K .normal (dZ keep s) H
 | .exit j,s,H=>if j=id then K .normal (dZ keep s) H else K (.exit j) s H
 | .ret,s,H=>K .ret s H
def sM (C:aH) (v:AV) (a b:AC) (s:aj) (H:J) (K:Ex→aj→J→Prop):Prop:=
 match v with
 | .bool t=>if t then aL (aq C) C a s H K else aL (aq C) C b s H K
 |_=>False
section
variable {C:aH} {K K1:Ex→aj→J→Prop} {s:aj} {H:J}
theorem B5 {a b:AC} (h: ∀K1,K1=lA C b K→aL (aq C) C a s H K1):aL (aq C) C (.seq a b) s H K:=by
 have:=h _ rfl;have e:lA C b K=(fun e s' H' =>match e with| .normal=>aL (aq C) C b s' H' K|e=>K e s' H'):=by
  funext e s H;cases e<;>rfl
 rw [e] at this;exact this
theorem B6 {id:Nat} {kp:Option (List Nat)} {a:AC} (h: ∀K1,K1=jD id kp K→aL (aq C) C a s H K1):aL (aq C) C (.block id kp a) s H K:=by
 have:=h _ rfl;have e:jD id kp K=(fun e s' H' =>match e with
  | .exit j=>if j=id then K .normal (dZ kp s') H' else K (.exit j) s' H'
  | .normal=>K .normal (dZ kp s') H'
  | .ret=>K .ret s' H'):=by funext e s H;cases e<;>rfl
 rw [e] at this;exact this
theorem B7 (h:K .normal s H):aL (aq C) C .skip s H K:=h
theorem B8 (h:K .ret s H):aL (aq C) C .ret s H K:=h
theorem B9 {id:Nat} (h:K (.exit id) s H):aL (aq C) C (.exit id) s H K:=h
theorem B_ {c:Operand} {a b:AC} (h:sM C (ev s c) a b s H K):aL (aq C) C (.cond c a b) s H K:=h
theorem z7 {l:List (List Nat×List Sh)} {kp:Option (List Nat)} {s' :aj} {H' :J} (he:dt l s H=some (s',H')) (h:K .normal (dZ kp s') H'):aL (aq C) C (.fI l kp) s H K:=by
 simp only [aL,he];exact h
theorem Ca {kp:List Nat} (h:K .normal (eD kp s) H):aL (aq C) C (.fI [] (some kp)) s H K:=h
theorem Cb {b:AC} (hK:K1=lA C b K) (h:aL (aq C) C b s H K):K1 .normal s H:=by rw [hK];exact h
theorem Cc {b:AC} (hK:K1=lA C b K) (h:K .ret s H):K1 .ret s H:=by rw [hK];exact h
theorem Cd {b:AC} {i:Nat} (hK:K1=lA C b K) (h:K (.exit i) s H):K1 (.exit i) s H:=by rw [hK];exact h
theorem Ce {id:Nat} {kp:Option (List Nat)} (hK:K1=jD id kp K) (h:K .normal (dZ kp s) H):K1 .normal s H:=by rw [hK];exact h
theorem Cf {id:Nat} (hK:K1=jD id none K) (h:K .normal s H):K1 .normal s H:=by rw [hK];exact h
theorem Cg {id:Nat} {kp:Option (List Nat)} (hK:K1=jD id kp K) (h:K .normal (dZ kp s) H):K1 (.exit id) s H:=by rw [hK];simp only [jD,if_true];exact h
theorem Ch {id:Nat} {kp:Option (List Nat)} (hK:K1=jD id kp K) (h:K .ret s H):K1 .ret s H:=by rw [hK];exact h
theorem Ci {E:aI} {res:List ResultVar} {P:AV→J→Prop} {rs:List AV} (hK:K1=eS E res P) (hr:dz E s H res=some rs) (h:P (cq rs) H):K1 .ret s H:=by rw [hK];exact ⟨rs,hr,h⟩
theorem Cj {E:aI} {a:Tmp} {P:AV→J→Prop} (hK:K1=eS E [.tmp a] P) {x:AV} (hx:s.getD a .undef=x) (h:P x H):K1 .ret s H:=by
 rw [hK];exact ⟨[s.getD a .undef],rfl,by rw [hx];exact h⟩
theorem Ck {E:aI} {a b:Tmp} {P:AV→J→Prop} (hK:K1=eS E [.tmp a,.tmp b] P) {x y:AV} (hx:s.getD a .undef=x) (hy:s.getD b .undef=y) (h:P (.az [x,y]) H):K1 .ret s H:=by
 rw [hK];exact ⟨[s.getD a .undef,s.getD b .undef],rfl,by rw [hx,hy];exact h⟩
theorem Cl {α :Type} {c:Bool} {x y:Option α} {r: α} {a b:AC} (h:(bif c then x else y)=some r) (ht:c=true→x=some r→aL (aq C) C a s H K) (hf:c=false→y=some r→aL (aq C) C b s H K):sM C (.bool c) a b s H K:=by
 cases c with
 |true=>exact ht rfl h
 |false=>exact hf rfl h
theorem z8 {a:AC} (h:aL (aq C) C a s H K1) (hK: ∀e s H,K1 e s H→K e s H) (gC:Good C):aL (aq C) C a s H K:=ez (aq.up gC.up) a s H _ _ hK h
end
structure GO where
 d:Option Tmp
 op:Op
 g:Option (Option Tmp×Bool)
 late:List (Op×Option Tmp)
 th:Bool
 q:Bool
def lk:List Oper→Nat→Option Tmp
 |[],_=>none
 |o::_,0=>o.dst
 |_::os,n+1=>lk os n
def a7 (X:br) (C:aH) (q gp:Bool) (op:Op) (s:aj) (H:J) (K:AV→J→Prop):Prop:=wpOp X C q gp ⟨none,op,0,"",#[],none⟩ s H K
theorem sN (X:br) (C:aH) (q gp:Bool) (o:Oper) (s:aj) (H:J) (K:AV→J→Prop):wpOp X C q gp o s H K=a7 X C q gp o.op s H K:=by
 cases o;rfl
def dS (C:aH) (s:aj) (H:J) (K:Prop):List (Op×Option Tmp)→Prop
 |[]=>K
 |(op,d)::js=>(∃t,d=some t∧gT C.E op s H=some (s.getD t .undef,H))∧dS C s H K js
def ic (g:Option (Option Tmp×Bool)) (s:aj) (a b:Prop):Prop:=
 match g with
 |none=>a
 |some (none,_)=>False
 |some (some t,want)=>match s.getD t .undef with
  | .bool c=>if c=want then a else b
  | .az _=>b
  |_=>False
def eg (C:aH) (K:aj→J→Prop):List GO→aj→J→Prop
 |[],s,H=>K s H
 |o::rest,s,H=>ic o.g s (a7 (aq C) C o.q o.th o.op s H fun v H' =>dS C (bm s o.d v) H' (eg C K rest (bm s o.d v) H') o.late)
  (dS C (bm s o.d (.az [])) H (eg C K rest (bm s o.d (.az [])) H) o.late)
def kl (ops:List Oper) (j:Nat):Op×Option Tmp:=match ops[j]? with|some o=>(o.op,o.dst)|none=>(.move (.tmp 0),none)
def dT (all:List Oper) (q:Nat→Bool) (late:Nat→List Nat) (th:List Nat):List Oper→Nat→List GO
 |[],_=>[]
 |o::rest,i=>⟨o.dst,o.op,o.guard.map fun p=>(lk all p.1,p.2),(late i).map (kl all),th.contains i,q i⟩::dT all q late th rest (i+1)
theorem pR: ∀(l:List Oper) (j:Nat),lk l j=(l[j]?).bind (·.dst)
 |[],j=>by simp [lk]
 |o::os,0=>by simp [lk]
 |o::os,j+1=>by simp [lk,pR os j]
theorem pS {C:aH} {ops:Array Oper} {s:aj} {H:J} {K:Prop}: ∀(l:List Nat),dS C s H K (l.map (kl ops.toList))→ff C ops s H K l
 |[],h=>h
 |j::js,h=>by
  simp only [List.map_cons,dS] at h;refine ⟨?_,pS js h.2⟩;unfold jR;have h1:=h.1;unfold kl at h1;rw [Array.getElem?_toList] at h1;cases ho:ops[j]? with
  |none=>rw [ho] at h1;simp at h1
  |some o=>
   rw [ho] at h1;obtain ⟨t,ht,he⟩:=h1;simp only at ht he⊢;rw [ht];exact he
theorem ng {C:aH} (gC:Good C) {ops:Array Oper} {q:Nat→Bool} {late:Nat→List Nat} {th:List Nat} {K:aj→J→Prop}: ∀(l:List Oper) (i:Nat) (s:aj) (H:J),eg C K (dT ops.toList q late th l i) s H→cY (aq C) C ops q late th K l i s H
 |[],i,s,H,h=>h
 |o::rest,i,s,H,h=>by
  simp only [dT,eg] at h;have yes:(a7 (aq C) C (q i) (th.contains i) o.op s H fun v H' =>dS C (bm s o.dst v) H' (eg C K (dT ops.toList q late th rest (i+1)) (bm s o.dst v) H') ((late i).map (kl ops.toList)))→
   wpOp (aq C) C (q i) (th.contains i) o s H fun v H' =>ff C ops (bm s o.dst v) H' (cY (aq C) C ops q late th K rest (i+1) (bm s o.dst v) H') (late i):=by
   intro h;rw [←sN] at h;refine il (aq.up gC.up) (fun v H' h=> ?_) h
   exact lz (ng gC rest (i+1) _ _) _ (pS _ h)
  simp only [cY];cases hg:o.guard with
  |none=>
   rw [hg] at h;simp only [Option.map_none,ic] at h⊢;exact yes h
  |some p=>
   obtain ⟨j,want⟩:=p;rw [hg] at h;simp only [Option.map_some,pR,Array.getElem?_toList] at h⊢;cases hd:(ops[j]?).bind (·.dst) with
   |none=>rw [hd] at h;exact h.elim
   |some t=>
    rw [hd] at h;simp only [ic] at h;have no:(dS C (bm s o.dst (.az [])) H (eg C K (dT ops.toList q late th rest (i+1)) (bm s o.dst (.az [])) H) ((late i).map (kl ops.toList)))→dr ops o s=some false→ ∃v H',(match dr ops o s with
     |some b=>if b then wpOp (aq C) C (q i) (th.contains i) o s H (fun v1 H1=>v1=v∧H1=H') else v= .az []∧H' =H
     |none=>False)∧ff C ops (bm s o.dst v) H' (cY (aq C) C ops q late th K rest (i+1) (bm s o.dst v) H') (late i):=by
     intro h hb;refine ⟨.az [],H,?_,lz (ng gC rest (i+1) _ _) _ (pS _ h)⟩;rw [hb];simp
    split at h
    ·rename_i c hc;have lB:dr ops o s=some (c==want):=by
      unfold dr;rw [hg];simp only [hd,hc]
     split at h
     ·rename_i jE;obtain ⟨v,H',h1,h2⟩:=lp (aq.exact gC.up gC.exact) (yes h);refine ⟨v,H',?_,h2⟩;rw [lB,jE];simp only [beq_self_eq_true,if_true];exact h1
     ·rename_i jE;exact no h (by rw [lB];simpa using jE)
    ·rename_i hc;exact no h (by unfold dr;rw [hg];simp only [hd,hc])
    ·exact h.elim
section
variable {C:aH} {K K1:Ex→aj→J→Prop} {s:aj} {H:J}
def iV (K:Ex→aj→J→Prop):aj→J→Prop:=fun s H=>K .normal s H
theorem Cm (gC:Good C) {id:Nat} {ops:List Oper} {ls th:List Nat} (h:eg C (iV K) (dT ops (fun _=>false) (fun _=>[]) th ops 0) s H):aL (aq C) C (.region id ops.toArray false ls th []) s H K:=by
 have h2:=ng gC (ops:=ops.toArray) (q:=fun _=>false) (late:=fun _=>[]) (th:=th) ops 0 s H h;have key: ∀(l:List Oper) (i:Nat) (s:aj) (H:J),cY (aq C) C ops.toArray (fun _=>false) (fun _=>[]) th (iV K) l i s H→cP (aq C) C ops.toArray th [] (iV K) l i s H:=by
  intro l;induction l with
  |nil=>intro i s H h;exact h
  |cons o rest ih=>
   intro i s H h;simp only [cY,ff] at h;simp only [cP];refine ⟨s,H,rfl,?_⟩;cases hg:o.guard with
   |none=>
    rw [hg] at h;exact il (aq.up gC.up) (fun v H' hv=>ih (i+1) _ _ hv) h
   |some p=>
    rw [hg] at h;obtain ⟨v,H',h1,h2⟩:=h;exact ⟨v,H',h1,ih (i+1) _ _ h2⟩
 exact key _ _ _ _ h2
def gf (C:aH) (fz:List (Nat×List (List Nat×List Sh))) (K:aj→J→Prop):List GO→Nat→aj→J→Prop
 |[],_,s,H=>K s H
 |o::rest,i,s0,H0=> ∃s H,dt ((fz.lookup i).getD []) s0 H0=some (s,H)∧
  ic o.g s (a7 (aq C) C o.q o.th o.op s H fun v H' =>gf C fz K rest (i+1) (bm s o.d v) H') (gf C fz K rest (i+1) (bm s o.d (.az [])) H)
theorem pT (gC:Good C) {ops:Array Oper} {th:List Nat} {fz:List (Nat×List (List Nat×List Sh))} {K:aj→J→Prop}: ∀(l:List Oper) (i:Nat) (s:aj) (H:J),gf C fz K (dT ops.toList (fun _=>false) (fun _=>[]) th l i) i s H→cP (aq C) C ops th fz K l i s H
 |[],i,s,H,h=>h
 |o::rest,i,s0,H0,h=>by
  simp only [dT,gf] at h;obtain ⟨s,H,hf,h⟩:=h;simp only [cP];refine ⟨s,H,hf,?_⟩;have yes:(a7 (aq C) C false (th.contains i) o.op s H fun v H' =>gf C fz K (dT ops.toList (fun _=>false) (fun _=>[]) th rest (i+1)) (i+1) (bm s o.dst v) H')→
   wpOp (aq C) C false (th.contains i) o s H fun v H' =>cP (aq C) C ops th fz K rest (i+1) (bm s o.dst v) H' :=by
   intro h;rw [←sN] at h;exact il (aq.up gC.up) (fun v H' h=>pT gC rest (i+1) _ _ h) h
  cases hg:o.guard with
  |none=>
   rw [hg] at h;simp only [Option.map_none,ic] at h⊢;exact yes h
  |some p=>
   obtain ⟨j,want⟩:=p;rw [hg] at h;simp only [Option.map_some,pR,Array.getElem?_toList] at h⊢;cases hd:(ops[j]?).bind (·.dst) with
   |none=>rw [hd] at h;exact h.elim
   |some t=>
    rw [hd] at h;simp only [ic] at h;have no:gf C fz K (dT ops.toList (fun _=>false) (fun _=>[]) th rest (i+1)) (i+1) (bm s o.dst (.az [])) H→dr ops o s=some false→ ∃v H',(match dr ops o s with
     |some b=>if b then wpOp (aq C) C false (th.contains i) o s H (fun v1 H1=>v1=v∧H1=H') else v= .az []∧H' =H
     |none=>False)∧cP (aq C) C ops th fz K rest (i+1) (bm s o.dst v) H' :=by
     intro h hb;refine ⟨.az [],H,?_,pT gC rest (i+1) _ _ h⟩;rw [hb];simp
    split at h
    ·rename_i c hc;have lB:dr ops o s=some (c==want):=by
      unfold dr;rw [hg];simp only [hd,hc]
     split at h
     ·rename_i jE;obtain ⟨v,H',h1,h2⟩:=lp (aq.exact gC.up gC.exact) (yes h);refine ⟨v,H',?_,h2⟩;rw [lB,jE];simp only [beq_self_eq_true,if_true];exact h1
     ·rename_i jE;exact no h (by rw [lB];simpa using jE)
    ·rename_i hc;exact no h (by unfold dr;rw [hg];simp only [hd,hc])
    ·exact h.elim
theorem Cn (gC:Good C) {id:Nat} {ops:List Oper} {ls th:List Nat} {fz:List (Nat×List (List Nat×List Sh))} (h:gf C fz (iV K) (dT ops (fun _=>false) (fun _=>[]) th ops 0) 0 s H):aL (aq C) C (.region id ops.toArray false ls th fz) s H K:=
 pT gC (ops:=ops.toArray) ops 0 s H h
theorem sO (gC:Good C) {id:Nat} {ops:List Oper} {ls th:List Nat} {fz:List (Nat×List (List Nat×List Sh))} (hd:iE ops.toArray ls=true) (h:eg C (iV K) (dT ops (fun i=> !ls.contains i) (fL ops.toArray ls) th ops 0) s H):aL (aq C) C (.region id ops.toArray true ls th fz) s H K:=by
 have:=ng gC (ops:=ops.toArray) (q:=fun i=> !ls.contains i) (late:=fL ops.toArray ls) (th:=th) ops 0 s H h;exact ⟨hd,this⟩
theorem z_ (ops:Array Oper):fL ops []=fun _=>[]:=by funext i;rfl
theorem Co (gC:Good C) {id:Nat} {ops:List Oper} {th:List Nat} {fz:List (Nat×List (List Nat×List Sh))} (hd:iE ops.toArray []=true) (h:eg C (iV K) (dT ops (fun _=>true) (fun _=>[]) th ops 0) s H):aL (aq C) C (.region id ops.toArray true [] th fz) s H K:=
 sO gC hd (by rw [z_];exact h)
end
theorem Cp {C:aH} (gC:Good C) {f:FuncId} {fn:Func} {c:Code} {res:List ResultVar} {n:Nat} (hc:C.code f=some fn) (hb:fn.body=some c) (hr:fn.results=res.toArray) (hn:fn.ntmps=n) {ys:List AV} {H:J} {P:AV→J→Prop}
 (h: ∀K0,K0=eS C.E res P→aL (aq C) C (cX (C.gq f) 0 c) (ys ++ List.replicate (n-ys.length) .undef) H K0):aq C f ys H P:=by
 refine aq.intro gC.up ?_;unfold Body;rw [hc];simp only [hb,hr,hn];exact h _ rfl
end Go.VS
namespace Go.VS
def cM (v:Option AV) (H:J) (K:AV→J→Prop):Prop:=match v with|some v=>K v H|none=>False
def da (r:Option (AV×J)) (K:AV→J→Prop):Prop:=match r with|some (v,H)=>K v H|none=>False
section
variable {C:aH} {q th:Bool} {s:aj} {H:J} {K:AV→J→Prop}
theorem c6 (op:Op) (h:dI op=true):a7 (aq C) C q th op s H K=da (aM C.E op s H) K:=by
 have: ∀c,op≠ .call c:=by rintro c rfl;simp [dI] at h
 unfold a7 wpOp;split
 ·rename_i a_;exact absurd a_ (this _)
 ·rename_i a_;exact absurd a_ (this _)
 ·simp only [h,implies_true,true_and];rfl
theorem sP (op:Op) (h: ∀c,op≠ .call c):a7 (aq C) C false th op s H K=da (aM C.E op s H) K:=by
 unfold a7 wpOp;split
 ·rename_i a_;exact absurd a_ (h _)
 ·rename_i a_;exact absurd a_ (h _)
 ·simp only [Bool.false_eq_true,false_implies,true_and];rfl
theorem sQ (K:aj→J→Prop):eg C K [] s H=K s H:=rfl
def gM (v:AV) (w:Bool) (a b:Prop):Prop:=match v with| .bool c=>if c=w then a else b| .az _=>b|_=>False
theorem sR (a b:Prop):gM (.bool true) true a b=a:=by simp [gM]
theorem sT (a b:Prop):gM (.bool false) false a b=a:=by simp [gM]
theorem sU (a b:Prop):gM (.bool true) false a b=b:=by simp [gM]
theorem sV (a b:Prop):gM (.bool false) true a b=b:=by simp [gM]
theorem sW (K:Prop):dS C s H K []=K:=rfl
theorem sY (K:Prop) (op:Op) (t:Tmp) (js:List (Op×Option Tmp)):dS C s H K ((op,some t)::js)=(gT C.E op s H=some (s.getD t .undef,H)∧dS C s H K js):=by
 simp [dS]
theorem sZ (t:Tmp) (v:AV):bm s (some t) v=s.set t v:=rfl
theorem s4 (v:AV):bm s none v=s:=rfl
theorem s7 (t:Tmp):ev s (.tmp t)=s.getD t .undef:=rfl
theorem s8 (v:Value):ev s (.const v)=ofValue v:=rfl
theorem s9 (f:FuncId):ev s (.func f)= .fn f []:=rfl
theorem tc (k:IntKind) (n:Int):ofValue (.int k n)= .int k n:=rfl
theorem tg (b:Bool):ofValue (.bool b)= .bool b:=rfl
theorem tj:ofValue (.slice none 0 0)= .nil:=rfl
theorem tn:ofValue .nilIface= .ck false:=rfl
theorem tp:ofValue (.pointer none)= .dy:=rfl
theorem tq (b:ByteArray):ofValue (.string b)= .str b.data.toList:=rfl
theorem tv (v:AV):cM (some v) H K=K v H:=rfl
theorem tw (x:Operand):a7 (aq C) C q th (.move x) s H K=K (ev s x) H:=by rw [c6 _ rfl];rfl
theorem tz (x:Operand):a7 (aq C) C q th (.assign x) s H K=K (ev s x) H:=by rw [c6 _ rfl];rfl
theorem tA (b:BinOp) (t:TypeId) (x:Operand) (c:Value) (w:TypeId):a7 (aq C) C q th (.binOp b t x (.const c) w) s H K=cM (aJ C.E b t (ev s x) (ofValue c)) H K:=by
 rw [c6 _ rfl];simp only [aM,show ev s (.const c)=ofValue c from rfl];generalize aJ C.E b t (ev s x) (ofValue c)=r;cases r<;>rfl
def kn (E:aI) (b:BinOp) (t:TypeId) (x y:AV) (H:J) (K:AV→J→Prop):Prop:=match y with| .ck _=>False|y=>cM (aJ E b t x y) H K
theorem tB (b:BinOp) (t:TypeId) (x:Operand) (n:Tmp) (w:TypeId):a7 (aq C) C q th (.binOp b t x (.tmp n) w) s H K=kn C.E b t (ev s x) (ev s (.tmp n)) H K:=by
 rw [c6 _ rfl];simp only [aM];generalize ev s (.tmp n)=y;unfold kn;cases y
 all_goals (first|rfl|(simp only;generalize aJ C.E b t (ev s x) _=r;cases r<;>rfl))
theorem tC (E:aI) (b:BinOp) (t:TypeId) (x:AV) (k:IntKind) (n:Int):kn E b t x (.int k n) H K=cM (aJ E b t x (.int k n)) H K:=rfl
theorem tD (E:aI) (b:BinOp) (t:TypeId) (x:AV) (n:Bool):kn E b t x (.bool n) H K=cM (aJ E b t x (.bool n)) H K:=rfl
theorem tE (E:aI) (b:BinOp) (t:TypeId) (x:AV) (n:List UInt8):kn E b t x (.str n) H K=cM (aJ E b t x (.str n)) H K:=rfl
theorem tF (E:aI) (b:BinOp) (t:TypeId) (x:AV) (n:List AV):kn E b t x (.agg n) H K=cM (aJ E b t x (.agg n)) H K:=rfl
variable (E:aI) (t:TypeId) (k:IntKind) (a b:Int) (c d:Bool) (u v:List UInt8)
theorem tG:aJ E .add t (.int k a) (.int k b)=some (.int k (k.wrap (a+b))):=by simp [aJ,dc]
theorem tH:aJ E .sub t (.int k a) (.int k b)=some (.int k (k.wrap (a-b))):=by simp [aJ,dc]
theorem tI:aJ E .mul t (.int k a) (.int k b)=some (.int k (k.wrap (a*b))):=by simp [aJ,dc]
theorem Aa:aJ E .and t (.int k a) (.int k b)=some (.int k (k.wrap (BitVec.ofInt k.bits a&&&BitVec.ofInt k.bits b).toNat)):=by simp [aJ,dc]
theorem Ab:aJ E .or t (.int k a) (.int k b)=some (.int k (k.wrap (BitVec.ofInt k.bits a|||BitVec.ofInt k.bits b).toNat)):=by simp [aJ,dc]
theorem Ac:aJ E .xor t (.int k a) (.int k b)=some (.int k (k.wrap (BitVec.ofInt k.bits a^^^BitVec.ofInt k.bits b).toNat)):=by simp [aJ,dc]
theorem tJ:aJ E .eql t (.int k a) (.int k b)=some (.bool (a==b)):=by simp [aJ,dc]
theorem tK:aJ E .neq t (.int k a) (.int k b)=some (.bool (a !=b)):=by simp [aJ,dc]
theorem tL:aJ E .lss t (.int k a) (.int k b)=some (.bool (decide (a<b))):=by simp [aJ,dc]
theorem tM:aJ E .leq t (.int k a) (.int k b)=some (.bool (decide (a≤b))):=by simp [aJ,dc]
theorem tN:aJ E .gtr t (.int k a) (.int k b)=some (.bool (decide (b<a))):=by simp [aJ,dc]
theorem tO:aJ E .geq t (.int k a) (.int k b)=some (.bool (decide (b≤a))):=by simp [aJ,dc]
def dv (k:IntKind) (a b:Int):Option Int:=if b=0 then none else some (k.wrap (a.tdiv b))
def md (a b:Int):Option Int:=if b=0 then none else some (a.tmod b)
theorem tP:aJ E .quo t (.int k a) (.int k b)=(dv k a b).map (.int k):=by simp [aJ,dc,dv];split<;>rfl
theorem tQ:aJ E .rem t (.int k a) (.int k b)=(md a b).map (.int k):=by simp [aJ,dc,md];split<;>rfl
def sl (k:IntKind) (a b:Int):Option Int:=if b<0 then none else some (k.wrap (a*2^(min b.toNat k.bits)))
def sr (k:IntKind) (a b:Int):Option Int:=if b<0 then none else some (a.fdiv (2^(min b.toNat k.bits)))
theorem tR (j:IntKind):aJ E .shl t (.int k a) (.int j b)=(sl k a b).map (.int k):=by simp [aJ,sl];split<;>rfl
theorem tS (j:IntKind):aJ E .shr t (.int k a) (.int j b)=(sr k a b).map (.int k):=by simp [aJ,sr];split<;>rfl
theorem tT:aJ E .eql t (.str u) (.str v)=some (.bool (u==v)):=by simp [aJ,iZ]
theorem tU:aJ E .neq t (.str u) (.str v)=some (.bool (!(u==v))):=by simp [aJ,iZ]
def cat (u v:List UInt8):Option (List UInt8):=if u.length+v.length≤2^45 then some (u ++ v) else none
theorem tV:aJ E .add t (.str u) (.str v)=(cat u v).map .str:=by simp only [aJ,iZ,cat];split<;>rfl
theorem Cq {ti:TI} (h:E t=some ti) (hu:ti.au= .bl):aJ E .neq t (.bool c) (.bool d)=some (.bool (!(c==d))):=by simp [aJ,h,hu]
def lC (ti:Option TI) (r:Option Bool) (neg:Bool):Option AV:=match ti with|some ti=>if ti.agg then (match r with|some b=>some (.bool (if neg then !b else b))|none=>none) else none|none=>none
theorem tW (xs ys:List AV):aJ E .eql t (.agg xs) (.agg ys)=lC (E t) (dE E 8 t xs ys) false:=by
 simp only [aJ,lC];cases E t<;>rfl
theorem tX (xs ys:List AV):aJ E .neq t (.agg xs) (.agg ys)=lC (E t) (dE E 8 t xs ys) true:=by
 simp only [aJ,lC];cases E t<;>rfl
def iq (ti:Option TI) (x y:AV) (neg:Bool):Option AV:=match ti with|some ti=>(match isNil ti.au x y with|some b=>some (.bool (if neg then !b else b))|none=>none)|none=>none
theorem tY:aJ E .eql t .nil .nil=iq (E t) .nil .nil false:=by simp only [aJ,iq];cases E t<;>rfl
theorem tZ:aJ E .neq t .nil .nil=iq (E t) .nil .nil true:=by simp only [aJ,iq];cases E t<;>rfl
theorem t_ (x:Bool):aJ E .eql t (.ck x) (.ck false)=iq (E t) (.ck x) (.ck false) false:=by simp only [aJ,iq];cases E t<;>rfl
theorem ua (x:Bool):aJ E .neq t (.ck x) (.ck false)=iq (E t) (.ck x) (.ck false) true:=by simp only [aJ,iq];cases E t<;>rfl
theorem w_num {α :Type} {o:Option Int} {f:Int→Option α} {r: α} (h:o.bind f=some r) (hk: ∀n,o=some n→f n=some r→K (.int k n) H):cM (o.map (.int k)) H K:=by
 cases o with
 |none=>simp at h
 |some n=>exact hk n rfl h
theorem ub (op:UnOp) (x:Operand):a7 (aq C) C q th (.unOp op t x) s H K=cM (i_ op (ev s x)) H K:=by
 rw [c6 _ rfl];simp only [aM];generalize i_ op (ev s x)=r;cases r<;>rfl
theorem uc:i_ .not (.bool c)=some (.bool !c):=rfl
theorem ud:i_ .neg (.int k a)=some (.int k (k.wrap (0-a))):=rfl
def nh (c:AV) (x y:AV) (H:J) (K:AV→J→Prop):Prop:=match c with| .bool t=>K (if t then x else y) H|_=>False
theorem uf (x y z:Operand):a7 (aq C) C q th (.pick x y z) s H K=nh (ev s x) (ev s y) (ev s z) H K:=by
 rw [c6 _ rfl];simp only [aM];generalize ev s x=r;cases r<;>rfl
theorem ug (x y:AV):nh (.bool true) x y H K=K x H:=rfl
theorem uh (x y:AV):nh (.bool false) x y H K=K y H:=rfl
theorem ui (p:Bool):nh (.bool p) (.bool c) (.bool d) H K=K (.bool (if p then c else d)) H:=by cases p<;>rfl
def pU (x:AV) (i:Nat) (H:J) (K:AV→J→Prop):Prop:=match x with| .az vs=>cM vs[i]? H K|_=>False
theorem uj (x:Operand) (i:Nat):a7 (aq C) C q th (.extract x i) s H K=pU (ev s x) i H K:=by
 rw [c6 _ rfl];simp only [aM,pU];generalize ev s x=r;cases r<;>first|rfl|(simp only;rename_i vs;cases vs[i]? <;>rfl)
theorem uk (vs:List AV) (i:Nat):pU (.az vs) i H K=cM vs[i]? H K:=rfl
def ni (ti:TI) (x:Option AV) (off:Nat) (H:J) (K:AV→J→Prop):Prop:=match x with|some y=>cM (bP ti y off) H K|none=>False
def nj (ti:TI) (b:Option bA) (idx off:Nat) (H:J) (K:AV→J→Prop):Prop:=match b with|some b=>ni ti b.el[idx]? off H K|none=>False
def nk (ti:Option TI) (x:AV) (H:J) (K:AV→J→Prop):Prop:=
 match ti with
 |some ti=>match x with
  | .fe y off=>cM (bP ti y off) H K
  | .ptr id ad idx off=>nj ti (H.ap id ad) idx off H K
  |_=>False
 |none=>False
theorem o_load (x:Operand):a7 (aq C) C q th (.load t x) s H K=nk (C.E t) (ev s x) H K:=by
 rw [c6 _ rfl];simp only [aM,nk];cases C.E t with
 |none=>rfl
 |some ti=>
  simp only;generalize ev s x=r;cases r<;>first|rfl|skip
  ·rename_i id ad idx off;simp only [nj];cases H.ap id ad with
   |none=>rfl
   |some b=>
    simp only [ni];cases b.el[idx]? with
    |none=>rfl
    |some y=>simp only;generalize bP ti y off=z;cases z<;>rfl
  ·rename_i y off;simp only;generalize bP ti y off=z;cases z<;>rfl
theorem ul (ti:TI) (y:AV) (off:Nat):nk (some ti) (.fe y off) H K=cM (bP ti y off) H K:=rfl
theorem um (ti:TI) (id ad idx off:Nat):nk (some ti) (.ptr id ad idx off) H K=nj ti (H.ap id ad) idx off H K:=rfl
theorem uo (ti:TI) (b:bA) (idx off:Nat):nj ti (some b) idx off H K=ni ti b.el[idx]? off H K:=rfl
theorem uq (ti:TI) (y:AV) (off:Nat):ni ti (some y) off H K=cM (bP ti y off) H K:=rfl
def lD (E:aI) (t:TypeId) (f:Nat):Option (Nat×TI):=match E t with
 |some ti=>match ti.au with
  | .st fs=>match fs[f]? with
   |some (o,ft)=>match E ft with
    |some tf=>some (o,tf)
    |none=>none
   |none=>none
  |_=>none
 |none=>none
def iW (p:Option (Nat×TI)) (x:AV) (H:J) (K:AV→J→Prop):Prop:=match p with
 |some (o,tf)=>if tf.sz=0 then False else match x with
  | .ptr id ad idx off=>match H.ap id ad with
   |some _=>K (.ptr id ad idx (off+o)) H
   |none=>False
  | .fe y off=>K (.fe y (off+o)) H
  |_=>False
 |none=>False
theorem ur (x:Operand) (f:Nat):a7 (aq C) C q th (.fieldAddr t x f) s H K=iW (lD C.E t f) (ev s x) H K:=by
 rw [c6 _ rfl];simp only [aM,iW,lD];cases C.E t with
 |none=>rfl
 |some ti=>
  simp only;cases ti.au<;>try rfl
  rename_i fs;simp only;cases fs[f]? with
  |none=>rfl
  |some p=>
   obtain ⟨o,ft⟩:=p;simp only;cases C.E ft with
   |none=>rfl
   |some tf=>
    simp only;split
    ·rfl
    ·generalize ev s x=r;cases r<;>try rfl
     rename_i id ad idx off;simp only;cases H.ap id ad<;>rfl
theorem Ad (o:Nat) (tf:TI) (h:(tf.sz==0)=false) (y:AV) (off:Nat):iW (some (o,tf)) (.fe y off) H K=K (.fe y (off+o)) H:=by
 simp at h;simp [iW,h]
theorem Ae (o:Nat) (tf:TI) (h:(tf.sz==0)=false) (id ad idx off:Nat):iW (some (o,tf)) (.ptr id ad idx off) H K=(match H.ap id ad with|some _=>K (.ptr id ad idx (off+o)) H|none=>False):=by
 simp at h;simp [iW,h]
def pV (p:Option (Nat×TI)) (x:AV) (H:J) (K:AV→J→Prop):Prop:=match x with
 | .agg cs=>(match p with|some (o,tf)=>cM (bP tf (.agg cs) o) H K|none=>False)
 |_=>False
theorem uu (x:Operand) (f:Nat):a7 (aq C) C q th (.field t x f) s H K=pV (lD C.E t f) (ev s x) H K:=by
 rw [c6 _ rfl];simp only [aM,pV,lD];cases C.E t with
 |none=>simp only;generalize ev s x=r;cases r<;>rfl
 |some ti=>
  simp only;generalize ev s x=r;cases r
  case agg cs=>
   simp only;cases ti.au<;>try rfl
   rename_i fs;simp only;cases fs[f]? with
   |none=>rfl
   |some p=>
    obtain ⟨o,ft⟩:=p;simp only;cases C.E ft with
    |none=>rfl
    |some tf=>simp only;generalize bP tf (.agg cs) o=z;cases z<;>rfl
  all_goals rfl
theorem uw (o:Nat) (tf:TI) (cs:List AV):pV (some (o,tf)) (.agg cs) H K=cM (bP tf (.agg cs) o) H K:=rfl
theorem ux (x:Operand):a7 (aq C) C q th (.call {callee:= .builtin .len,args:= #[x],argTypes:= #[t]}) s H K=da (cB C.E .len #[t] [ev s x] H) K:=by
 unfold a7 wpOp;simp only [eR,implies_true,true_and];rfl
def ei (ti:Option TI) (x:AV) (n:Option Nat) (H:J) (K:AV→J→Prop):Prop:=match ti,n with
 |some ti,some n=>match ti.au,x with
  | .str,.str _=>K (.int .i64 n) H
  | .sl _,.str _=>False
  | .sl _,_=>K (.int .i64 n) H
  |_,_=>False
 |_,_=>False
theorem uy (E:aI) (t:TypeId) (x:AV):da (cB E .len #[t] [x] H) K=ei (E t) x (lenOf H x) H K:=by
 simp only [cB,ei];have:(#[t]:Array TypeId)[0]?.bind E=E t:=rfl;rw [this];cases E t with
 |none=>rfl
 |some ti=>
  obtain ⟨sz,agg,z,nl,au,eq⟩:=ti;cases lenOf H x with
  |none=>rfl
  |some n=>cases au<;>cases x<;>rfl
theorem uz (xs:Array Operand) (tys:Array TypeId):a7 (aq C) C q th (.call {callee:= .builtin .min,args:=xs,argTypes:=tys}) s H K=cM (jO (xs.toList.map (ev s))) H K:=by
 unfold a7 wpOp;simp only [eR,implies_true,true_and,cB];generalize jO _=r;cases r<;>rfl
theorem uA (xs:Array Operand) (tys:Array TypeId):a7 (aq C) C q th (.call {callee:= .builtin .max,args:=xs,argTypes:=tys}) s H K=cM (jP (xs.toList.map (ev s))) H K:=by
 unfold a7 wpOp;simp only [eR,implies_true,true_and,cB];generalize jP _=r;cases r<;>rfl
theorem min2:jO [.int k a,.int k b]=some (.int k (if b<a then b else a)):=rfl
theorem max2:jP [.int k a,.int k b]=some (.int k (if b>a then b else a)):=rfl
end
end Go.VS
namespace Go.VS
structure It where
 v:AV
 sz:Nat
 el:List AV
def bS:AV→Option Nat
 | .ref id _ _ _=>some id
 | .ptr id _ _ _=>some id
 |_=>none
def gN (H:J) (it:It):Prop:=bF it.sz it.el=true∧match it.v with
 | .nil=>it.el=[]
 | .e0=>it.el=[]
 | .ref id ad off len=>len=it.el.length∧ ∃b,H.ap id ad=some b∧b.sz=it.sz∧b.fix=false∧off+len≤b.el.length∧aB b.el off len=it.el
 | .ptr id ad idx off=>idx=0∧off=0∧it.el.length=1∧H.ap id ad=some ⟨ad,it.sz,false,it.el⟩
 |_=>False
structure ay (H:J) (L:List It):Prop where
 ok: ∀(i:Nat) (it:It),L[i]? =some it→gN H it
 b_: ∀(i j:Nat) (a b:It) (id:Nat),L[i]? =some a→L[j]? =some b→bS a.v=some id→bS b.v=some id→i=j
theorem gN.lt {H:J} {it:It} (h:gN H it) {id:Nat} (hi:bS it.v=some id):id<H.bs.length:=by
 obtain ⟨_,h⟩:=h;cases hv:it.v with
 |ref i ad off len=>
  rw [hv] at h hi;simp only [bS,Option.some.injEq] at hi;subst hi;obtain ⟨_,b,hb,_⟩:=h;exact J.fN (J.bj hb).1
 |ptr i ad ix off=>
  rw [hv] at h hi;simp only [bS,Option.some.injEq] at hi;subst hi;obtain ⟨_,_,_,hb⟩:=h;exact J.fN (J.bj hb).1
 |_=>rw [hv] at hi;simp [bS] at hi
theorem gN.frame {H H' :J} {it:It} (h:gN H it) (hk: ∀id ad,bS it.v=some id→H'.ap id ad=H.ap id ad):gN H' it:=by
 obtain ⟨h0,h⟩:=h;refine ⟨h0,?_⟩;cases hv:it.v with
 |ref i ad off len=>
  rw [hv] at h hk;obtain ⟨h1,b,hb,h2⟩:=h;exact ⟨h1,b,by rw [hk i ad rfl];exact hb,h2⟩
 |ptr i ad ix off=>
  rw [hv] at h hk;obtain ⟨h1,h2,h3,hb⟩:=h;exact ⟨h1,h2,h3,by rw [hk i ad rfl];exact hb⟩
 |_=>rw [hv] at h;exact h
theorem ay.tl {H:J} {a:It} {L:List It} (h:ay H (a::L)):ay H L:=
 ⟨fun i it hi=>h.ok (i+1) it hi,fun i j x y id h1 h2 h3 h4=>by have:=h.b_ (i+1) (j+1) x y id h1 h2 h3 h4;omega⟩
theorem ay.nil (H:J):ay H []:=⟨by simp,by simp⟩
theorem ay.aZ {H H' :J} {L:List It} (h:ay H L) {j:Nat} {it it' :It} (hj:L[j]? =some it) {i:Nat} (hi:bS it.v=some i) (hk: ∀id ad,id≠i→id<H.bs.length→H'.ap id ad=H.ap id ad) (hn:gN H' it') (bK: ∀k,bS it'.v=some k→k=i):ay H' (L.set j it'):=by
 have ax:j<L.length:=(List.getElem?_eq_some_iff.1 hj).1;refine ⟨fun k a bH=> ?_,fun k l a b id h1 h2 h3 h4=> ?_⟩
 ·rw [List.getElem?_set] at bH;split at bH
  ·simp only [Option.some.injEq] at bH;subst bH;exact hn
  ·rename_i aK;have ho:=h.ok k a bH;refine ho.frame fun id ad uB=>hk id ad (fun e=> ?_) (ho.lt uB)
   subst e;exact aK (h.b_ j k it a id hj bH hi uB)
 ·rw [List.getElem?_set] at h1 h2;split at h1
  ·rename_i e1;subst e1;simp only [Option.some.injEq] at h1;subst h1;split at h2
   ·rename_i e2;exact e2
   ·have:=bK id h3;subst this;exact h.b_ j l it b id hj h2 hi h4
  ·split at h2
   ·rename_i e2;subst e2;simp only [Option.some.injEq] at h2;subst h2;have:=bK id h4;subst this;exact h.b_ k j a it id h1 hj h3 hi
   ·exact h.b_ k l a b id h1 h2 h3 h4
theorem ay.new {H H' :J} {L:List It} (h:ay H L) (hk: ∀id ad,id<H.bs.length→H'.ap id ad=H.ap id ad) {it:It} (hn:gN H' it) (bK: ∀k,bS it.v=some k→H.bs.length≤k):ay H' (it::L):=by
 refine ⟨fun k a bH=> ?_,fun k l a b id h1 h2 h3 h4=> ?_⟩
 ·cases k with
  |zero=>simp at bH;subst bH;exact hn
  |succ k=>have ho:=h.ok k a (by simpa using bH);exact ho.frame fun id ad hi=>hk id ad (ho.lt hi)
 ·cases k with
  |zero=>
   simp at h1;subst h1;cases l with
   |zero=>rfl
   |succ l=>
    have:=(h.ok l b (by simpa using h2)).lt h4
    have:=bK id h3;omega
  |succ k=>
   cases l with
   |zero=>
    simp at h2;subst h2;have:=(h.ok k a (by simpa using h1)).lt h3
    have:=bK id h4;omega
   |succ l=>have:=h.b_ k l a b id (by simpa using h1) (by simpa using h2) h3 h4;omega
theorem ay.uC {H H' :J} {L:List It} (h:ay H L) (hk: ∀id ad,id<H.bs.length→H'.ap id ad=H.ap id ad) {j:Nat} {it' :It} (hn:gN H' it') (bK: ∀k,bS it'.v=some k→H.bs.length≤k):ay H' (L.set j it'):=by
 refine ⟨fun k a bH=> ?_,fun k l a b id h1 h2 h3 h4=> ?_⟩
 ·rw [List.getElem?_set] at bH;split at bH
  ·split at bH
   ·simp only [Option.some.injEq] at bH;subst bH;exact hn
   ·simp at bH
  ·have ho:=h.ok k a bH;exact ho.frame fun id ad hi=>hk id ad (ho.lt hi)
 ·rw [List.getElem?_set] at h1 h2;split at h1
  ·rename_i e1;subst e1;split at h1
   ·simp only [Option.some.injEq] at h1;subst h1;split at h2
    ·rename_i e2;exact e2
    ·have:=(h.ok l b h2).lt h4;have:=bK id h3;omega
   ·simp at h1
  ·split at h2
   ·rename_i e2;subst e2;split at h2
    ·simp only [Option.some.injEq] at h2;subst h2;have:=(h.ok k a h1).lt h3;have:=bK id h4;omega
    ·simp at h2
   ·exact h.b_ k l a b id h1 h2 h3 h4
theorem nn {H:J} {sz:Nat} {fx:Bool} {el:List AV} {id ad:Nat} (h:id<H.bs.length):(H.new sz fx el).ap id ad=H.ap id ad:=by
 simp only [J.ap,J.new,List.getElem?_append_left h]
theorem np {H:J} {sz:Nat} {fx:Bool} {el:List AV}:(H.new sz fx el).ap H.bs.length H.st=some ⟨H.st,sz,fx,el⟩:=by
 simp [J.ap,J.new]
theorem jF {H:J} {i id ad:Nat} {b:bA} (h:id≠i):(H.aZ i b).ap id ad=H.ap id ad:=by
 have h' : ¬i=id:=fun e=>h e.symm
 simp only [J.ap,J.aZ,List.getElem?_set,if_neg h']
theorem jG {H:J} {id:Nat} {b:bA} (h:id<H.bs.length):(H.aZ id b).ap id b.ad=some b:=by
 simp [J.ap,J.aZ,h]
section
variable {C:aH} {th:Bool} {s:aj} {H:J} {K:AV→J→Prop} {L:List It}
theorem ay.lE (hS:ay H L) {sz n:Nat} {el all:List AV} (he:all.take n=el) (hn:n=el.length) (aA:bF sz el=true):ay (H.new sz false all) (⟨.ref H.bs.length H.st 0 n,sz,el⟩::L):=by
 refine hS.new (fun id ad h=>nn h) ⟨aA,hn,_,np,rfl,rfl,?_,by simpa [aB] using he⟩ (fun k hk=>by simp [bS] at hk;omega)
 have:=congrArg List.length he;simp at this;simp only;omega
theorem ay.newVar (hS:ay H L) {sz:Nat} {a:AV} (aA:a.cells.length=sz):ay (H.new sz false [a]) (⟨.ptr H.bs.length H.st 0 0,sz,[a]⟩::L):=
 hS.new (fun id ad h=>nn h) ⟨by simp [bF,aA],rfl,rfl,rfl,np⟩ (fun k hk=>by simp [bS] at hk;omega)
theorem ay.var (hS:ay H L) (j:Nat) {id ad sz:Nat} {a:AV} (hj:L[j]? =some ⟨.ptr id ad 0 0,sz,[a]⟩):H.ap id ad=some ⟨ad,sz,false,[a]⟩:=(hS.ok j _ hj).2.2.2.2
theorem Cr {t:TypeId} {x:Operand} {ti:TI} {a:AV} (hS:ay H L) (ht:C.E t=some ti) (hx:ev s x=a) (h1:a.cells.length=ti.sz) (h2:dD a=true)
 (h: ∀id ad H',ay H' (⟨.ptr id ad 0 0,ti.sz,[a]⟩::L)→K (.ptr id ad 0 0) H') {q:Bool}:a7 (aq C) C q th (.box t x) s H K:=by
 rw [c6 _ rfl];simp only [aM,ht,hx,h1,h2,and_self,if_true,da];exact h _ _ _ (hS.newVar h1)
theorem nq {ti:TI} {z:AV} (h:dX ti=some z):z.cells.length=ti.sz:=by
 unfold dX at h;split at h
 ·rename_i hc;rcases kK h with ⟨_,rfl⟩|⟨_,hz⟩
  ·exact hc.2
  ·have:cN z=true:=by have:=hc.1;rw [hz] at this;simpa using this
   have hl:=hc.2;rw [hz] at hl;cases z<;>first|exact hl|simp [cN] at this
 ·simp at h
theorem uD {ti:TI} {z:AV} (h:gk ti=some z):z.cells.length=ti.sz:=by
 unfold gk at h;split at h
 ·rename_i z0 jg;simp only [Option.some.injEq] at h;subst h;split
  ·rw [kQ,List.length_map];exact nq jg
  ·exact nq jg
 ·simp at h
theorem Cs {t:TypeId} {ti:TI} {z:AV} (hS:ay H L) (ht:C.E t=some ti) (hz:dX ti=some z)
 (h: ∀id ad H',ay H' (⟨.ptr id ad 0 0,ti.sz,[z]⟩::L)→K (.ptr id ad 0 0) H') {q:Bool}:a7 (aq C) C q th (.alloc t) s H K:=by
 rw [c6 _ rfl];simp only [aM,ht,hz,da];exact h _ _ _ (hS.newVar (nq hz))
theorem Ct {t:TypeId} {x v:Operand} {ti:TI} {id ad sz o:Nat} {y y' a:AV} (j:Nat) (hS:ay H L) (hj:L[j]? =some ⟨.ptr id ad 0 0,sz,[y]⟩) (ht:C.E t=some ti) (hx:ev s x= .ptr id ad 0 o) (hv:ev s v=a)
 (h1:a.cells.length=ti.sz) (h2:dD a=true) (hw:gj y o a=some y') (h3:y'.cells.length=sz) (h: ∀H',ay H' (L.set j ⟨.ptr id ad 0 0,sz,[y']⟩)→K (.az []) H'):a7 (aq C) C false th (.store t x v) s H K:=by
 rw [sP _ (by simp)]
 have hb:=hS.var j hj;simp only [aM,ht,hx,hv,hb,List.getElem?_cons_zero,h1,h2,and_self,if_true,hw,List.set_cons_zero,da];refine h _ (hS.aZ hj rfl (fun eT fB aK _=>jF aK) ⟨by simp [bF,h3],rfl,rfl,rfl,?_⟩ (fun k hk=>by simpa [bS] using hk.symm))
 exact jG ((hS.ok j _ hj).lt rfl)
end
def idx {α :Type} (l:List α) (i:Int):Option α :=if 0≤i then l[i.toNat]? else none
theorem ko {α :Type} {l:List α} {i:Int} {x: α} (h:idx l i=some x):0≤i∧i<l.length∧l[i.toNat]? =some x:=by
 unfold idx at h;split at h
 ·rename_i h0;have:=(List.getElem?_eq_some_iff.1 h).1;exact ⟨h0,by omega,h⟩
 ·simp at h
def Cu (E:aI) (t:TypeId):Option TI:=match E t with
 |some ti=>match ti.au with| .sl e=>E e|_=>none
 |none=>none
section
variable {C:aH} {q th:Bool} {s:aj} {H:J} {K:AV→J→Prop} {L:List It}
def pW (l:List UInt8) (n:Int) (H:J) (K:AV→J→Prop):Prop:=match idx l n with|some b=>K (.int .u8 b.toNat) H|none=>False
def nr (E:aI) (ti:Option TI) (x i:AV) (H:J) (K:AV→J→Prop):Prop:=match ti,i with
 |some ti,.int _ n=>match ti.au,x with
  | .str,.str l=>pW l n H K
  | .ar m e,.agg cs=>match E e with
   |some te=>if 0≤n∧n<m then cM (bP te (.agg cs) (n.toNat*te.sz)) H K else False
   |none=>False
  |_,_=>False
 |_,_=>False
theorem uE (t:TypeId) (x i:Operand):a7 (aq C) C q th (.index t x i) s H K=nr C.E (C.E t) (ev s x) (ev s i) H K:=by
 rw [c6 _ rfl];simp only [aM,nr];generalize ev s i=n;generalize ev s x=a;cases C.E t with
 |none=>rfl
 |some ti=>
  cases n
  case int k n=>
   simp only;cases ti.au<;>cases a<;>try rfl
   ·rename_i m e cs;simp only;cases C.E e with
    |none=>rfl
    |some te=>
     simp only;split
     ·generalize bP te (.agg cs) (n.toNat*te.sz)=z;cases z<;>rfl
     ·rfl
   ·rename_i l;simp only [pW,idx];split
    ·cases l[n.toNat]? <;>rfl
    ·rfl
  all_goals rfl
def lF:UD→Bool
 | .str=>true
 |_=>false
theorem uF:lF .str=true:=rfl
def jH:UD→Bool
 | .sl _=>true
 |_=>false
theorem uG (e:TypeId):jH (.sl e)=true:=rfl
theorem uH (E:aI) (ti:TI) (hu:lF ti.au=true) (l:List UInt8) (k:IntKind) (n:Int):nr E (some ti) (.str l) (.int k n) H K=pW l n H K:=by
 cases h:ti.au<;>rw [h] at hu<;>simp [lF] at hu
 simp only [nr,h]
def lG (E:aI) (t:TypeId) (x i:AV) (H:J) (K:AV→J→Prop):Prop:=da (match E t,i with
 |some ti,.int _ n=>match ti.au with
  | .sl e=>match E e with
   |some te=>match x with
    | .fz xs=>if 0≤n then match xs[n.toNat]? with
     |some y=>if y.cells.length=te.sz then some (.fe y 0,H) else none
     |none=>none
     else none
    | .ref id ad off len=>match H.ap id ad with
     |some b=>if b.sz=te.sz∧0≤n∧n<len∧off+len≤b.el.length then some (.ptr id ad (off+n.toNat) 0,H) else none
     |none=>none
    |_=>none
   |none=>none
  | .ar m e=>match E e with
   |some te=>if 0≤n∧n<m then match x with
    | .ptr id ad idx off=>match H.ap id ad with
     |some _=>some (.ptr id ad idx (off+n.toNat*te.sz),H)
     |none=>none
    | .fe y off=>some (.fe y (off+n.toNat*te.sz),H)
    |_=>none
    else none
   |none=>none
  |_=>none
 |_,_=>none) K
theorem uI (t:TypeId) (x i:Operand):a7 (aq C) C q th (.indexAddr t x i) s H K=lG C.E t (ev s x) (ev s i) H K:=by
 rw [c6 _ rfl];rfl
theorem Cv {α β :Type} {E:aI} {t:TypeId} {ti te:TI} {e:TypeId} (ht:E t=some ti) (hu:ti.au= .sl e) (he:E e=some te) {l:List α} {c: α →AV} (hc: ∀x,(c x).cells.length=te.sz) {k:IntKind} {n:Int} {f: α →Option β} {r: β} (h:(idx l n).bind f=some r)
 (hk: ∀x,idx l n=some x→f x=some r→K (.fe (c x) 0) H):lG E t (.fz (l.map c)) (.int k n) H K:=by
 cases hi:idx l n with
 |none=>rw [hi] at h;simp at h
 |some x=>
  rw [hi] at h;obtain ⟨h0,_,h1⟩:=ko hi;simp only [lG,ht,hu,he,h0,if_true,List.getElem?_map,h1,Option.map_some,hc,da];exact hk x hi h
theorem Cw {α β :Type} {E:aI} {t:TypeId} {ti te:TI} {e:TypeId} (j:Nat) (hS:ay H L) {v:AV} {l:List α} {c: α →AV} {sz:Nat} (hj:L[j]? =some ⟨v,sz,l.map c⟩) (ht:E t=some ti) (hu:ti.au= .sl e) (he:E e=some te) (aA:sz=te.sz) {k:IntKind} {n:Int} {f: α →Option β} {r: β}
 (h:(idx l n).bind f=some r) (hk: ∀x id ad off,idx l n=some x→f x=some r→v= .ref id ad off l.length→K (.ptr id ad (off+n.toNat) 0) H) (hp: ∀id ad,v≠ .ptr id ad 0 0):lG E t v (.int k n) H K:=by
 cases hi:idx l n with
 |none=>rw [hi] at h;simp at h
 |some x=>
  rw [hi] at h;obtain ⟨h0,h2,h1⟩:=ko hi;have af:=(hS.ok j _ hj).2;simp only at af;have aK:l.map c≠[]:=by intro e;rw [List.map_eq_nil_iff] at e;subst e;simp at h1
  split at af
  ·exact absurd af aK
  ·exact absurd af aK
  ·rename_i id ad off len;obtain ⟨h3,b,hb,h4,_,h5,h6⟩:=af;simp only [List.length_map] at h3;subst h3;simp only [lG,ht,hu,he,hb];rw [if_pos ⟨by rw [h4,aA],h0,h2,h5⟩]
   exact hk x id ad off hi h rfl
  ·rename_i id ad ix off;obtain ⟨rfl,rfl,_⟩:=af;exact absurd rfl (hp id ad)
  ·exact af.elim
theorem ay.elem {α :Type} (hS:ay H L) (j:Nat) {id ad off n sz:Nat} {v:AV} {l:List α} {c: α →AV} (hj:L[j]? =some ⟨v,sz,l.map c⟩) (hv:v= .ref id ad off n) {i:Int} {x: α} (hx:idx l i=some x): ∃b,H.ap id ad=some b∧b.el[off+i.toNat]? =some (c x):=by
 obtain ⟨h0,h2,h1⟩:=ko hx;subst hv;obtain ⟨_,h3,b,hb,h4,_,h5,h6⟩:=hS.ok j _ hj;refine ⟨b,hb,?_⟩;simp only at h3 h6;have:=congrArg (·[i.toNat]?) h6;simp only [List.getElem?_map,h1,Option.map_some,aB] at this;rw [←this,List.getElem?_take,List.getElem?_drop,if_pos (by simp at h3;omega)]
theorem Cx {α :Type} {t:TypeId} {x w:Operand} {ti:TI} {id ad off n sz o:Nat} {v a:AV} {l:List α} {c: α →AV} {i:Int} {y y' : α} (j:Nat) (hS:ay H L) (hj:L[j]? =some ⟨v,sz,l.map c⟩) (hv:v= .ref id ad off n) (hi:idx l i=some y) (ht:C.E t=some ti) (hx:ev s x= .ptr id ad (off+i.toNat) o) (hw:ev s w=a)
 (h1:a.cells.length=ti.sz) (h2:dD a=true) (hr:gj (c y) o a=some (c y')) (h3:(c y').cells.length=sz) (h: ∀H',ay H' (L.set j ⟨v,sz,(l.set i.toNat y').map c⟩)→K (.az []) H'):a7 (aq C) C false th (.store t x w) s H K:=by
 rw [sP _ (by simp)]
 obtain ⟨b,hb,he⟩:=hS.elem j hj hv hi;simp only [aM,ht,hx,hw,hb,he,h1,h2,and_self,if_true,hr,da];subst hv;obtain ⟨k0,k1,b',aw,k2,k3,k4,k5⟩:=hS.ok j _ hj;rw [hb] at aw;simp only [Option.some.injEq] at aw;subst aw;simp only at k1 k5;obtain ⟨i0,i1,i2⟩:=ko hi;have bE:=(J.bj hb).2;refine h _ (hS.aZ hj rfl (fun eT fB aK _=>jF aK) ⟨?_,by simpa using k1,{b with el:=b.el.set (off+i.toNat) (c y')},?_,k2,k3,by simpa using k4,?_⟩ (fun k hk=>by simpa [bS] using hk.symm))
 ·simp only [bF,List.all_eq_true,List.mem_map] at k0⊢;rintro z ⟨z',hz,rfl⟩;rcases List.mem_or_eq_of_mem_set hz with h' |rfl
  ·exact k0 _ ⟨z',h',rfl⟩
  ·simpa using h3
 ·have:=jG (b:={b with el:=b.el.set (off+i.toNat) (c y')}) ((hS.ok j _ hj).lt rfl);simpa only [bE] using this
 ·simp only [aB,List.map_set] at k5⊢;rw [←k5,List.drop_set,if_neg (by omega),List.take_set]
  congr 1;omega
end
end Go.VS
namespace Go.VS
structure bp (v:AV):Prop where
 ok:v= .nil∨v= .e0∨ ∃id ad off len,v= .ref id ad off len
theorem fD (id ad off len:Nat):bp (.ref id ad off len):=⟨.inr (.inr ⟨id,ad,off,len,rfl⟩)⟩
theorem nt:bp .nil:=⟨.inl rfl⟩
theorem nu:bp .e0:=⟨.inr (.inl rfl)⟩
theorem bp.ne {v:AV} (h:bp v) (id ad:Nat):v≠ .ptr id ad 0 0:=by
 rcases h.ok with rfl|rfl|⟨_,_,_,_,rfl⟩<;>simp
theorem bp.cells {v:AV} (h:bp v):v.cells=[v]:=by
 rcases h.ok with rfl|rfl|⟨_,_,_,_,rfl⟩<;>rfl
theorem bp.qu {v:AV} (h:bp v):cN v=true:=by
 rcases h.ok with rfl|rfl|⟨_,_,_,_,rfl⟩<;>rfl
theorem bp.Cy {v:AV} (h:bp v):dD v=true:=by
 rcases h.ok with rfl|rfl|⟨_,_,_,_,rfl⟩<;>rfl
theorem bp.rd {v:AV} (h:bp v) (z:List AV) (b:Nat) (w:UD) (e:Bool):bP ⟨1,false,z,b,w,e⟩ v 0=some v:=by
 rcases h.ok with rfl|rfl|⟨_,_,_,_,rfl⟩<;>rfl
theorem bp.same {v:AV} (h:bp v):fh v v=true:=by
 rcases h.ok with rfl|rfl|⟨_,_,_,_,rfl⟩<;>simp [fh]
theorem bp.wr {v:AV} (h:bp v) (cs:List AV) (o:Nat) (ho:o<cs.length):gj (.agg cs) o v=some (.agg (cs.set o v)):=by
 simp only [gj,h.cells,List.length_cons,List.length_nil];rw [if_pos (by omega)]
 simp only [splice,List.length_cons,List.length_nil,List.append_assoc,List.cons_append,List.nil_append,Option.some.injEq,AV.agg.injEq];rw [List.set_eq_take_append_cons_drop,if_pos ho]
section
variable {C:aH} {q th:Bool} {s:aj} {H:J} {K:AV→J→Prop} {L:List It}
theorem ay.len (hS:ay H L) (j:Nat) {v:AV} {sz:Nat} {el:List AV} (hj:L[j]? =some ⟨v,sz,el⟩) (hp:bp v):lenOf H v=some el.length:=by
 have af:=(hS.ok j _ hj).2;simp only at af;split at af
 ·subst af;rfl
 ·subst af;rfl
 ·rename_i id ad off len;obtain ⟨h3,b,hb,_⟩:=af;simp only [lenOf,h3]
 ·rename_i id ad ix off;obtain ⟨rfl,rfl,_⟩:=af;exact absurd rfl (hp.ne id ad)
 ·exact af.elim
theorem ay.iu (hS:ay H L) (j:Nat) {v:AV} {sz:Nat} {el:List AV} (hj:L[j]? =some ⟨v,sz,el⟩) (hp:bp v):cO H v=some el:=by
 have af:=(hS.ok j _ hj).2;simp only at af;split at af
 ·subst af;rfl
 ·subst af;rfl
 ·rename_i id ad off len;obtain ⟨h3,b,hb,_,_,h5,h6⟩:=af;simp only [cO,hb,h5,if_true,h6]
 ·rename_i id ad ix off;obtain ⟨rfl,rfl,_⟩:=af;exact absurd rfl (hp.ne id ad)
 ·exact af.elim
theorem ay.Af (hS:ay H L) (j:Nat) {v:AV} {sz:Nat} {el:List AV} (hj:L[j]? =some ⟨v,sz,el⟩) (l:List UInt8):v≠ .str l:=by
 rintro rfl;exact (hS.ok j _ hj).2
theorem Cz (j:Nat) (hS:ay H L) {v:AV} {sz:Nat} {el:List AV} (hj:L[j]? =some ⟨v,sz,el⟩) (hp:bp v) {ti:TI} {e:TypeId} (hu:ti.au= .sl e) (h:K (.int .i64 el.length) H):ei (some ti) v (lenOf H v) H K:=by
 rw [hS.len j hj hp];have hn:=hS.Af j hj;simp only [ei,hu];cases v with
 |str l=>exact absurd rfl (hn l)
 |_=>exact h
theorem uJ (xs:List AV):lenOf H (.fz xs)=some xs.length:=rfl
theorem uK (l:List UInt8):lenOf H (.str l)=some l.length:=rfl
theorem uL:lenOf H .nil=some 0:=rfl
theorem uM:lenOf H .e0=some 0:=rfl
theorem Ag (ti:TI) {e:TypeId} (hu:ti.au= .sl e) (xs:List AV) (n:Nat):ei (some ti) (.fz xs) (some n) H K=K (.int .i64 n) H:=by simp [ei,hu]
theorem Ah (ti:TI) {e:TypeId} (hu:ti.au= .sl e) (n:Nat):ei (some ti) .nil (some n) H K=K (.int .i64 n) H:=by simp [ei,hu]
theorem Ai (ti:TI) {e:TypeId} (hu:ti.au= .sl e) (n:Nat):ei (some ti) .e0 (some n) H K=K (.int .i64 n) H:=by simp [ei,hu]
theorem Aj (ti:TI) (hu:ti.au= .str) (l:List UInt8) (n:Nat):ei (some ti) (.str l) (some n) H K=K (.int .i64 n) H:=by simp [ei,hu]
theorem Ak {α β :Type} {t:TypeId} {x y:Operand} {te:TI} {z:AV} {n:Int} {c: α →AV} {d: α} {f:List α →Option β} {r: β} (hS:ay H L) (ht:cm C.E t=some te) (hx:ev s x= .int .i64 n) (hy:ev s y= .int .i64 n) (hz:gk te=some z) (hd:c d=z) (h0:te.sz≠0)
 (hh:(if 0≤n∧roomy n.toNat te.bytes then some (List.replicate n.toNat d) else none:Option (List α)).bind f=some r)
 (h: ∀v H',bp v→0≤n→roomy n.toNat te.bytes=true→f (List.replicate n.toNat d)=some r→ay H' (⟨v,te.sz,(List.replicate n.toNat d).map c⟩::L)→K v H'):a7 (aq C) C q th (.makeSlice t x y) s H K:=by
 rw [c6 _ rfl];split at hh
 ·rename_i hc;simp only [aM,ht,hx,hy,hz];rw [if_pos ⟨hc.1,Int.le_refl _,hc.2,h0⟩];refine h _ _ (fD ..) hc.1 hc.2 hh (hS.lE (by simp [hd]) (by simp) ?_)
  simp only [bF,List.map_replicate,List.all_replicate,hd,uD hz];simp
 ·simp at hh
theorem CA {t:TypeId} {ps:Array (Nat×Operand)} {te:TI} (ht:cm C.E t=some te) (hp:ps.size=0) (h:K .e0 H):a7 (aq C) C q th (.buildSlice t 0 ps) s H K:=by
 rw [c6 _ rfl];simp only [aM,ht,hp,if_true];exact h
theorem CB {t:TypeId} {n:Nat} {ps:Array (Nat×Operand)} {te:TI} {z:AV} {el:List AV} (hS:ay H L) (ht:cm C.E t=some te) (hz:dX te=some z) (hn:(n==0)=false) (hb:(decide (n*te.sz≤1000000)&&te.sz !=0)=true)
 (he:iA te.sz (List.replicate n z) (ps.toList.map fun p=>(p.1,ev s p.2))=some el) (hl:el.length=n) (aA:bF te.sz el=true) (h: ∀v H',bp v→ay H' (⟨v,te.sz,el⟩::L)→K v H'):a7 (aq C) C q th (.buildSlice t n ps) s H K:=by
 rw [c6 _ rfl];simp at hn hb;simp only [aM,ht,if_neg hn,hz];rw [if_pos hb];simp only [he];exact h _ _ (fD ..) (hS.lE (by rw [←hl];simp) hl.symm aA)
theorem uN {sz:Nat} {a b:List AV} (ha:bF sz a=true) (hb:bF sz b=true):bF sz (a ++ b)=true:=by
 unfold bF at*;rw [List.all_append,ha,hb];rfl
theorem Al (hS:ay H L) (j:Nat) {te:TI} {v x:AV} {el xs:List AV} (hj:L[j]? =some ⟨v,te.sz,el⟩) (hp:bp v) (hx:cO H x=some xs) (aA:bF te.sz xs=true) (h0:te.sz≠0) (hr:roomy (el.length+xs.length) te.bytes=true):
 ∃v' H',ek te v x H=some (v',H')∧bp v' ∧ay H' (L.set j ⟨v',te.sz,el ++ xs⟩):=by
 have af:=hS.ok j _ hj;obtain ⟨k0,af⟩:=af;have iL: ∀it:It,L[j]? =some it→L.set j it=L:=fun it h=>List.ext_getElem? fun k=>by
  rw [List.getElem?_set];split
  ·rename_i e;subst e;have:=(List.getElem?_eq_some_iff.1 h).1;simp only [this,if_true];exact h.symm
  ·rfl
 simp only [ek,hx,aA,Bool.not_true,if_neg h0];simp only at af k0;split at af
 ·subst af;by_cases hn:xs.length=0
  ·have:xs=[]:=List.eq_nil_of_length_eq_zero hn;subst this;refine ⟨.nil,H,by simp,nt,?_⟩
   rw [List.append_nil,iL _ hj];exact hS
  ·have b5:roomy xs.length te.bytes=true:=by simpa using hr
   refine ⟨.ref H.bs.length H.st 0 xs.length,H.new te.sz false xs,by simp [hn,b5],fD ..,?_⟩
   exact hS.uC (fun id ad h=>nn h) ⟨by simpa using aA,by simp,_,np,rfl,rfl,by simp,by simp [aB]⟩ (fun k hk=>by simp [bS] at hk;omega)
 ·subst af;by_cases hn:xs.length=0
  ·have:xs=[]:=List.eq_nil_of_length_eq_zero hn;subst this;refine ⟨.e0,H,by simp,nu,?_⟩
   rw [List.append_nil,iL _ hj];exact hS
  ·have b5:roomy xs.length te.bytes=true:=by simpa using hr
   refine ⟨.ref H.bs.length H.st 0 xs.length,H.new te.sz false xs,by simp [hn,b5],fD ..,?_⟩
   exact hS.uC (fun id ad h=>nn h) ⟨by simpa using aA,by simp,_,np,rfl,rfl,by simp,by simp [aB]⟩ (fun k hk=>by simp [bS] at hk;omega)
 ·rename_i id ad off len;obtain ⟨k1,b,hb,k2,k3,k4,k5⟩:=af;have ax:=(hS.ok j _ hj).lt rfl;have bE:=(J.bj hb).2;subst k1;by_cases cA:off+el.length+xs.length≤b.el.length
  ·refine ⟨.ref id ad off (el.length+xs.length),H.aZ id {b with el:=splice b.el (off+el.length) xs},by simp [hb,k2,cA],fD ..,?_⟩
   refine hS.aZ hj rfl (fun eT fB aK _=>jF aK) ⟨uN k0 aA,by simp,{b with el:=splice b.el (off+el.length) xs},?_,k2,k3,?_,?_⟩ (fun k hk=>by simpa [bS] using hk.symm)
   ·have:=jG (b:={b with el:=splice b.el (off+el.length) xs}) ax;simpa only [bE] using this
   ·simp only [jW _ _ _ cA];omega
   ·simp only [aB] at k5⊢;have e1:(splice b.el (off+el.length) xs).drop off=el ++ (xs ++ b.el.drop (off+el.length+xs.length)):=by
     unfold splice;rw [List.append_assoc,List.drop_append_of_le_length (by simp;omega)]
     congr 1;rw [List.drop_take];have:off+el.length-off=el.length:=by omega
     rw [this,k5]
    rw [e1,←List.append_assoc,List.take_append_of_le_length (by simp),List.take_of_length_le (by simp)]
  ·refine ⟨.ref id H.st 0 (el.length+xs.length),⟨H.st+1,H.bs.set id (some ⟨H.st,b.sz,false,aB b.el off el.length ++ xs⟩)⟩,by simp [hb,k2,cA,k3,k4,hr],fD ..,?_⟩
   refine hS.aZ hj rfl (fun eT fB aK _=> ?_) ⟨uN k0 aA,by simp,⟨H.st,te.sz,false,el ++ xs⟩,?_,rfl,rfl,by simp,by simp only [aB,List.drop_zero];exact List.take_of_length_le (by simp)⟩ (fun k hk=>by simpa [bS] using hk.symm)
   ·have h' : ¬id=eT:=fun e=>aK e.symm
    simp only [J.ap,List.getElem?_set,if_neg h']
   ·simp only [J.ap,List.getElem?_set,ax,if_true,k2,aB] at k5⊢;rw [k5]
 ·rename_i id ad ix off;obtain ⟨rfl,rfl,_⟩:=af;exact absurd rfl (hp.ne id ad)
 ·exact af.elim
def app {α :Type} (nl:Nat) (l m:List α):Option (List α):=if roomy (l.length+m.length) nl then some (l ++ m) else none
theorem uO (a b:Operand) (t u:TypeId):a7 (aq C) C false th (.call {callee:= .builtin .append,args:= #[a,b],argTypes:= #[t,u]}) s H K=da (cB C.E .append #[t,u] [ev s a,ev s b] H) K:=by
 unfold a7 wpOp;simp only [Bool.false_eq_true,false_implies,true_and];rfl
theorem Am {α β :Type} {E:aI} {t u:TypeId} {te tu:TI} {e:TypeId} {v x:AV} {l m:List α} {c: α →AV} {f:List α →Option β} {r: β} (j:Nat) (hS:ay H L) (hj:L[j]? =some ⟨v,te.sz,l.map c⟩) (hp:bp v) (ht:cm E t=some te) (hu:E u=some tu) (hi:tu.au= .sl e)
 (hx:cO H x=some (m.map c)) (aA:bF te.sz (m.map c)=true) (h0:(te.sz==0)=false) (hh:(app te.bytes l m).bind f=some r) (h: ∀v' H',bp v' →app te.bytes l m=some (l ++ m)→f (l ++ m)=some r→ay H' (L.set j ⟨v',te.sz,(l ++ m).map c⟩)→K v' H'):
 da (cB E .append #[t,u] [v,x] H) K:=by
 cases hr:app te.bytes l m with
 |none=>rw [hr] at hh;simp at hh
 |some lm=>
  have b5:=hr
  unfold app at hr;split at hr
  ·rename_i l8;simp only [Option.some.injEq] at hr;subst hr;rw [b5] at hh;obtain ⟨v',H',h1,h2,h3⟩:=Al hS j hj hp hx aA (by simpa using h0) (by simpa using l8)
   have e1:(#[t,u]:Array TypeId)[0]? =some t:=rfl;have e2:((#[t,u]:Array TypeId)[1]?).bind E=E u:=rfl;simp only [cB,e1,e2,ht,hu,hi,h1,da];exact h v' H' h2 b5 hh (by rw [List.map_append];exact h3)
  ·simp at hr
def lH (C:aH) (q th:Bool) (f:AV) (args:List AV) (H:J) (K:AV→J→Prop):Prop:=
 match f with
 | .fn g bT=>if q then dq (aq C) C g (args ++ bT) th H K else aq C g (args ++ bT) H K∨dq (aq C) C g (args ++ bT) th H K
 |_=>False
theorem uP (f:Operand) (args:Array Operand) (tys:Array TypeId):a7 (aq C) C q th (.call {callee:= .value f,args,argTypes:=tys}) s H K=lH C q th (ev s f) (args.toList.map (ev s)) H K:=rfl
theorem CC {α β :Type} {g:FuncId} {bT args:List AV} {o:Option α} {f: α →Option β} {r: β} (h:o.bind f=some r) (hk: ∀x,o=some x→f x=some r→aq C g (args ++ bT) H K):lH C false th (.fn g bT) args H K:=by
 cases ho:o with
 |none=>rw [ho] at h;simp at h
 |some x=>rw [ho] at h;exact .inl (hk x ho h)
end
inductive LR (σ ρ :Type) where
 |next (x: σ)
 |done (r: ρ)
def iter {σ ρ :Type} (f: σ →Option (LR σ ρ)):Nat→ σ →Option ρ
 |0,_=>none
 |n+1,x=>(f x).bind fun y=>match y with| .next x' =>iter f n x' | .done r=>some r
open Classical in
noncomputable def eM {σ ρ :Type} (f: σ →Option (LR σ ρ)) (x: σ):Option ρ :=if h: ∃n,(iter f n x).isSome then iter f h.choose x else none
theorem pX {σ ρ :Type} {f: σ →Option (LR σ ρ)}: ∀{n m:Nat} {x: σ} {r: ρ},iter f n x=some r→n≤m→iter f m x=some r
 |0,_,_,_,h,_=>by simp [iter] at h
 |n+1,0,_,_,_,h=>by omega
 |n+1,m+1,x,r,h,hle=>by
  simp only [iter] at h⊢;cases hf:f x with
  |none=>rw [hf] at h;simp at h
  |some y=>
   rw [hf] at h;cases y with
   |next x' =>exact pX (m:=m) h (by omega)
   |done r' =>exact h
theorem nv {σ ρ :Type} {f: σ →Option (LR σ ρ)} {x: σ} {r: ρ}:eM f x=some r↔ ∃n,iter f n x=some r:=by
 unfold eM;constructor
 ·intro h;split at h
  ·exact ⟨_,h⟩
  ·simp at h
 ·rintro ⟨n,h⟩;have hex: ∃n,(iter f n x).isSome:=⟨n,by simp [h]⟩
  rw [dif_pos hex];cases hc:iter f hex.choose x with
  |none=>have:=hex.choose_spec;rw [hc] at this;simp at this
  |some r' =>
   have h1:=pX hc (Nat.le_max_left hex.choose n);have h2:=pX h (Nat.le_max_right hex.choose n);rw [h1] at h2;exact h2
theorem pY {σ ρ :Type} (f: σ →Option (LR σ ρ)) (x: σ):eM f x=(f x).bind fun y=>match y with| .next x' =>eM f x' | .done r=>some r:=by
 refine Option.ext fun r=> ?_;rw [nv];constructor
 ·rintro ⟨n,h⟩;cases n with
  |zero=>simp [iter] at h
  |succ n=>
   simp only [iter] at h;cases hf:f x with
   |none=>rw [hf] at h;simp at h
   |some y=>
    rw [hf] at h;cases y with
    |next x' =>exact nv.2 ⟨n,h⟩
    |done r' =>exact h
 ·intro h;cases hf:f x with
  |none=>rw [hf] at h;simp at h
  |some y=>
   rw [hf] at h;cases y with
   |next x' =>obtain ⟨n,hn⟩:=nv.1 h;exact ⟨n+1,by simp only [iter,hf];exact hn⟩
   |done r' =>exact ⟨1,by simp only [iter,hf];exact h⟩
def nw {σ ρ :Type} (keep:List Nat) (Inv: σ →aj→J→Prop) (y:LR σ ρ) (K:Ex→aj→J→Prop):Ex→aj→J→Prop
 | .normal,s,H=> ∃x',y= .next x' ∧Inv x' (eD keep s) H
 | .exit i,s,H=>K (.exit i) s H
 | .ret,s,H=>K .ret s H
section
variable {C:aH} {K K1:Ex→aj→J→Prop} {s:aj} {H:J}
theorem CD {σ ρ :Type} (gC:Good C) {f: σ →Option (LR σ ρ)} {x: σ} {r: ρ} {keep:List Nat} {a:AC} (hw:eM f x=some r) (Inv: σ →aj→J→Prop) (h0:Inv x (eD keep s) H)
 (hb: ∀x y s H,f x=some y→(∀r',y= .done r' →r' =r)→Inv x s H→ ∀K1,K1=nw keep Inv y K→aL (aq C) C a s H K1):aL (aq C) C (.loop ⟨keep,false⟩ a) s H K:=by
 obtain ⟨n,hn⟩:=nv.1 hw;have key: ∀(n:Nat) (x: σ) (s:aj) (H:J),iter f n x=some r→Inv x s H→ ∀m,ja (aL (aq C) C a) (gV ⟨keep,false⟩ m) K s H:=by
  intro n;induction n with
  |zero=>intro x s H h;simp [iter] at h
  |succ n ih=>
   intro x s H h hi m;simp only [iter] at h;cases hf:f x with
   |none=>rw [hf] at h;simp at h
   |some y=>
    rw [hf] at h;simp only [Option.bind_some] at h;refine ja.round (aq.up gC.up) (ez (aq.up gC.up) _ _ _ _ _ (fun e s' H' he=> ?_) (hb x y s H hf (fun r' e=>by subst e;simpa using h) hi _ rfl))
    cases e with
    |normal=>
     obtain ⟨x',rfl,gZ⟩:=he;exact ih x' _ _ h gZ m
    |exit i=>exact he
    |ret=>exact he
 exact key n x _ _ hn h0 _
theorem CE {σ ρ :Type} {keep:List Nat} {Inv: σ →aj→J→Prop} {y:LR σ ρ} {x' : σ} (hK:K1=nw keep Inv y K) (hy:some (LR.next x')=some y) (hi:Inv x' (eD keep s) H):K1 .normal s H:=by
 rw [hK];exact ⟨x',(Option.some.inj hy).symm,hi⟩
theorem CF {σ ρ :Type} {keep:List Nat} {Inv: σ →aj→J→Prop} {y:LR σ ρ} {i:Nat} (hK:K1=nw keep Inv y K) (h:K (.exit i) s H):K1 (.exit i) s H:=by rw [hK];exact h
theorem CG {σ ρ :Type} {keep:List Nat} {Inv: σ →aj→J→Prop} {y:LR σ ρ} (hK:K1=nw keep Inv y K) (h:K .ret s H):K1 .ret s H:=by rw [hK];exact h
def pZ (Q:aj→J→Prop) (K:Ex→aj→J→Prop):Ex→aj→J→Prop
 | .normal,s,H=>Q s H
 | .exit i,s,H=>K (.exit i) s H
 | .ret,s,H=>K .ret s H
theorem CH (gC:Good C) {a:AC} (Q:aj→J→Prop) (h: ∀K1,K1=pZ Q K→aL (aq C) C a s H K1) (hq: ∀s H,Q s H→K .normal s H):aL (aq C) C a s H K:=by
 refine z8 (h _ rfl) (fun e s H he=> ?_) gC;cases e with
 |normal=>exact hq s H he
 |exit i=>exact he
 |ret=>exact he
theorem CI {Q:aj→J→Prop} (hK:K1=pZ Q K) (h:Q s H):K1 .normal s H:=by rw [hK];exact h
theorem CJ {Q:aj→J→Prop} (hK:K1=pZ Q K) (h:K .ret s H):K1 .ret s H:=by rw [hK];exact h
end
end Go.VS
namespace Go.VS
section
variable {C:aH} {q th:Bool} {s:aj} {H:J} {K:AV→J→Prop} {L:List It}
theorem uQ:dZ none s=s:=rfl
def An (k:IntKind) (a b:Int):Int:=k.wrap (BitVec.ofInt k.bits a&&&BitVec.ofInt k.bits b).toNat
def Ao (k:IntKind) (a b:Int):Int:=k.wrap (BitVec.ofInt k.bits a|||BitVec.ofInt k.bits b).toNat
def Ap (k:IntKind) (a b:Int):Int:=k.wrap (BitVec.ofInt k.bits a^^^BitVec.ofInt k.bits b).toNat
def CK (k:IntKind) (a b:Int):Int:=k.wrap (a*2^(min b.toNat k.bits))
def uR (k:IntKind) (a b:Int):Int:=a.fdiv (2^(min b.toNat k.bits))
theorem uS (E:aI) (t:TypeId) (k:IntKind) (a b:Int):aJ E .and t (.int k a) (.int k b)=some (.int k (An k a b)):=Aa ..
theorem uT (E:aI) (t:TypeId) (k:IntKind) (a b:Int):aJ E .or t (.int k a) (.int k b)=some (.int k (Ao k a b)):=Ab ..
theorem uU (E:aI) (t:TypeId) (k:IntKind) (a b:Int):aJ E .xor t (.int k a) (.int k b)=some (.int k (Ap k a b)):=Ac ..
theorem CL (k:IntKind) (a b:Int) (h:decide (b<0)=false):sr k a b=some (uR k a b):=by simp at h;simp [sr,uR,Int.not_lt.2 h]
def p0 (E:aI) (src dst:TypeId) (x:AV) (H:J) (K:AV→J→Prop):Prop:=da (match E src,E dst,x with
 |some _,some td,.int _ n=>match td.au with
  | .it k=>some (.int k (k.wrap n),H)
  |_=>none
 |some _,some td,.str l=>match td.au with
  | .str=>some (.str l,H)
  | .sl e=>match E e with
   |some te=>match te.au with
    | .it .u8=>if te.sz=1∧te.bytes=1∧l.length≤2^45 then some (.ref H.bs.length H.st 0 l.length,H.new 1 false (l.map fun b=> .int .u8 b.toNat)) else none
    |_=>none
   |none=>none
  |_=>none
 |some ts,some td,x=>match ts.au,td.au with
  | .sl e,.str=>match E e with
   |some te=>match te.au with
    | .it .u8=>match cO H x with
     |some xs=>if te.sz=1 then (match (bytesOf xs).map AV.str with|some v=>some (v,H)|none=>none) else none
     |none=>none
    |_=>none
   |none=>none
  |_,_=>none
 |_,_,_=>none) K
theorem uV (a b:TypeId) (x:Operand):a7 (aq C) C q th (.convert a b x) s H K=p0 C.E a b (ev s x) H K:=by
 rw [c6 _ rfl];rfl
def p6 (ta tb:Option TI) (n:Int) (H:J) (K:AV→J→Prop):Prop:=match ta,tb with
 |some _,some td=>match td.au with| .it k=>K (.int k (k.wrap n)) H|_=>False
 |_,_=>False
theorem uW (E:aI) (a b:TypeId) (j:IntKind) (n:Int):p0 E a b (.int j n) H K=p6 (E a) (E b) n H K:=by
 simp only [p0,p6];cases E a with
 |none=>rfl
 |some ta=>
  cases E b with
  |none=>rfl
  |some tb=>simp only;cases tb.au<;>rfl
def Aq (l:List UInt8):List Int:=l.map fun b=>(b.toNat:Int)
def CM (l:List Int):List UInt8:=l.map fun n=>UInt8.ofNat n.toNat
def CN (l:List UInt8):Option (List Int):=if l.length≤2^45 then some (Aq l) else none
def dU {α :Type} (l:List α) (lo hi:Int):Option (List α):=if 0≤lo∧lo≤hi∧hi≤l.length then some ((l.drop lo.toNat).take (hi.toNat-lo.toNat)) else none
def eN (E:aI) (t:TypeId) (x:AV) (lo hi mx:Option (Option Int)) (H:J) (K:AV→J→Prop):Prop:=match lo,hi,mx with
 |some lo,some hi,some mx=>cM (eO E t x lo hi mx H) H K
 |_,_,_=>False
theorem uX (t:TypeId) (x:Operand) (lo hi mx:Option Operand):a7 (aq C) C q th (.slice t x lo hi mx) s H K=eN C.E t (ev s x) (dW (lo.map (ev s))) (dW (hi.map (ev s))) (dW (mx.map (ev s))) H K:=by
 rw [c6 _ rfl];simp only [aM,eN];generalize dW (lo.map (ev s))=a;generalize dW (hi.map (ev s))=b;generalize dW (mx.map (ev s))=c;cases a<;>cases b<;>cases c<;>first|rfl|(simp only;rename_i lo hi mx;generalize eO C.E t (ev s x) lo hi mx H=z;cases z<;>rfl)
theorem uY:dW none=some none:=rfl
theorem uZ (k:IntKind) (n:Int):dW (some (.int k n))=some (some n):=rfl
theorem nx {α :Type} {c: α →AV} {sz:Nat} (hc: ∀x,(c x).cells.length=sz) (l:List α):bF sz (l.map c)=true:=by
 simp [bF,hc]
theorem CO {α β :Type} {E:aI} {t e:TypeId} {ti te:TI} {l:List α} {c: α →AV} {lo hi:Option Int} {f:List α →Option β} {r: β} (ht:E t=some ti) (hu:ti.au= .sl e) (he:E e=some te) (hc: ∀x,(c x).cells.length=te.sz) (hh:(dU l (lo.getD 0) (hi.getD l.length)).bind f=some r)
 (h: ∀m,dU l (lo.getD 0) (hi.getD l.length)=some m→f m=some r→K (.fz (m.map c)) H):eN E t (.fz (l.map c)) (some lo) (some hi) (some none) H K:=by
 cases hm:dU l (lo.getD 0) (hi.getD l.length) with
 |none=>rw [hm] at hh;simp at hh
 |some m=>
  rw [hm] at hh;have hk:=h m hm hh;unfold dU at hm;split at hm
  ·rename_i Ar;simp only [Option.some.injEq] at hm;simp only [eN,eO,ht,hu,he,nx hc,Bool.not_true,Bool.false_eq_true,if_false,List.length_map,if_pos Ar,cM];rw [←hm,List.map_take,List.map_drop] at hk;exact hk
  ·simp at hm
theorem CP {α β :Type} {E:aI} {t e:TypeId} {ti te:TI} {v:AV} {l:List α} {c: α →AV} {lo hi:Option Int} {f:List α →Option β} {r: β} (j:Nat) (hS:ay H L) (hj:L[j]? =some ⟨v,te.sz,l.map c⟩) (hp:bp v) (ht:E t=some ti) (hu:ti.au= .sl e) (he:E e=some te) (hh:(dU l (lo.getD 0) (hi.getD l.length)).bind f=some r)
 (h: ∀v' m,bp v' →dU l (lo.getD 0) (hi.getD l.length)=some m→f m=some r→ay H (L.set j ⟨v',te.sz,m.map c⟩)→K v' H):eN E t v (some lo) (some hi) (some none) H K:=by
 cases hm:dU l (lo.getD 0) (hi.getD l.length) with
 |none=>rw [hm] at hh;simp at hh
 |some m=>
  rw [hm] at hh;have hk:=fun v' bu=>h v' m bu hm hh
  unfold dU at hm;split at hm
  ·rename_i hc;obtain ⟨di,dO,lI⟩:=hc;simp only [Option.some.injEq] at hm;have af:=hS.ok j _ hj;obtain ⟨k0,af⟩:=af;have iL:L.set j ⟨v,te.sz,l.map c⟩=L:=List.ext_getElem? fun k=>by
    rw [List.getElem?_set];split
    ·rename_i e;subst e;have:=(List.getElem?_eq_some_iff.1 hj).1;simp only [this,if_true];exact hj.symm
    ·rfl
   have As:bF te.sz (m.map c)=true:=by
    simp only [bF,List.all_eq_true,List.mem_map] at k0⊢;rintro z ⟨y,hy,rfl⟩;rw [←hm] at hy;exact k0 _ ⟨y,List.mem_of_mem_drop (List.mem_of_mem_take hy),rfl⟩
   have empty:l.map c=[]→m=[]∧l=[]∧lo.getD 0=0∧hi.getD l.length=0:=by
    intro e;rw [List.map_eq_nil_iff] at e;subst e;have e0:(([]:List α).length:Int)=0:=rfl;rw [e0] at lI dO⊢;exact ⟨by rw [←hm];simp,rfl,by omega,by omega⟩
   simp only at af k0;split at af
   ·obtain ⟨rfl,rfl,e1,e2⟩:=empty af;have ia:hi.getD 0=0:=by cases hi with|none=>rfl|some x=>simpa using e2
    simp only [eN,eO,ht,hu,he];rw [if_pos ⟨e1,ia,rfl,by simp⟩]
    exact hk .nil nt (by rw [iL];exact hS)
   ·obtain ⟨rfl,rfl,e1,e2⟩:=empty af;have ia:hi.getD 0=0:=by cases hi with|none=>rfl|some x=>simpa using e2
    simp only [eN,eO,ht,hu,he];rw [if_pos ⟨e1,ia,rfl,by simp⟩]
    exact hk .e0 nu (by rw [iL];exact hS)
   ·rename_i id ad off len;obtain ⟨k1,b,hb,k2,k3,k4,k5⟩:=af;simp only [List.length_map] at k1;subst k1;simp only [eN,eO,ht,hu,hb,he,k2,ne_eq,not_true_eq_false,if_false];rw [if_pos ⟨di,dO,by omega⟩]
    have fE:(hi.getD (l.length:Int)).toNat-(lo.getD 0).toNat=m.length:=by
     rw [←hm,List.length_take,List.length_drop];omega
    refine hk _ (fD ..) (hS.aZ hj rfl (fun _ _ _ _=>rfl) ⟨As,?_,b,hb,k2,k3,?_,?_⟩ (fun k hk=>by simpa [bS] using hk.symm))
    ·simp only [List.length_map];exact fE
    ·omega
    ·simp only [aB] at k5⊢;rw [←hm,List.map_take,List.map_drop,←k5,List.drop_take,List.drop_drop,List.take_take];congr 1;omega
   ·rename_i id ad ix off;obtain ⟨rfl,rfl,_⟩:=af;exact absurd rfl (hp.ne id ad)
   ·exact af.elim
  ·simp at hm
def iv {α :Type} (nl:Nat) (n:Int) (d: α):Option (List α):=if 0≤n∧roomy n.toNat nl then some (List.replicate n.toNat d) else none
theorem CQ {α β :Type} {t:TypeId} {x y:Operand} {te:TI} {z:AV} {n:Int} {c: α →AV} {d: α} {f:List α →Option β} {r: β} (hS:ay H L) (ht:cm C.E t=some te) (hx:ev s x= .int .i64 n) (hy:ev s y= .int .i64 n) (hz:gk te=some z) (hd:c d=z) (h0:(te.sz==0)=false)
 (hh:(iv te.bytes n d).bind f=some r) (h: ∀v H' l,bp v→iv te.bytes n d=some l→f l=some r→ay H' (⟨v,te.sz,l.map c⟩::L)→K v H'):a7 (aq C) C q th (.makeSlice t x y) s H K:=by
 refine Ak hS ht hx hy hz hd (by simpa using h0) hh fun v H' hv h1 h2 h3 h4=>h v H' _ hv (by unfold iv;rw [if_pos ⟨h1,h2⟩]) h3 h4
theorem CR {α β :Type} {E:aI} {t u:TypeId} {te tu:TI} {e:TypeId} {v x:AV} {l m:List α} {c: α →AV} {f:List α →Option β} {r: β} (j:Nat) (hS:ay H L) (hj:L[j]? =some ⟨v,te.sz,l.map c⟩) (hp:bp v) (ht:cm E t=some te) (hu:E u=some tu) (hi:tu.au= .sl e)
 (hx:cO H x=some (m.map c)) (aA: ∀x,(c x).cells.length=te.sz) (h0:(te.sz==0)=false) (hh:(app te.bytes l m).bind f=some r) (h: ∀v' H' lm,bp v' →app te.bytes l m=some lm→f lm=some r→ay H' (L.set j ⟨v',te.sz,lm.map c⟩)→K v' H'):
 da (cB E .append #[t,u] [v,x] H) K:=
 Am j hS hj hp ht hu hi hx (nx aA m) h0 hh fun v' H' h1 h2 h3 h4=>h v' H' _ h1 h2 h3 h4
theorem ay.perm {L' :List It} (h:ay H L) (hp:L.Perm L'):ay H L' :=by
 have nd: ∀{L:List It},ay H L↔(∀it∈L,gN H it)∧(L.filterMap (fun it=>bS it.v)).Nodup:=by
  intro L;constructor
  ·intro h;refine ⟨fun it hi=> ?_,?_⟩
   ·obtain ⟨i,gZ⟩:=List.mem_iff_getElem?.1 hi;exact h.ok i it gZ
   ·induction L with
    |nil=>simp
    |cons a L ih=>
     have ih:=ih h.tl;rw [List.filterMap_cons];cases ha:bS a.v with
     |none=>exact ih
     |some id=>
      refine List.nodup_cons.2 ⟨fun hm=> ?_,ih⟩;obtain ⟨b,hb,bK⟩:=List.mem_filterMap.1 hm;obtain ⟨j,hj⟩:=List.mem_iff_getElem?.1 hb;have:=h.b_ 0 (j+1) a b id rfl hj ha bK;omega
  ·rintro ⟨h1,h2⟩;refine ⟨fun i it hi=>h1 it (List.mem_of_getElem? hi),?_⟩;clear h1;induction L with
   |nil=>intro i j a b id h;simp at h
   |cons a L ih=>
    have lf:(L.filterMap (fun it=>bS it.v)).Nodup:=by
     rw [List.filterMap_cons] at h2;split at h2
     ·exact h2
     ·exact (List.nodup_cons.1 h2).2
    have no: ∀(j:Nat) (b:It) (id:Nat),L[j]? =some b→bS a.v=some id→bS b.v≠some id:=by
     intro j b id hj ha hb;rw [List.filterMap_cons,ha] at h2;exact (List.nodup_cons.1 h2).1 (List.mem_filterMap.2 ⟨b,List.mem_of_getElem? hj,hb⟩)
    intro i j x y id hi hj hx hy;cases i with
    |zero=>
     simp at hi;subst hi;cases j with
     |zero=>rfl
     |succ j=>exact absurd hy (no j y id (by simpa using hj) hx)
    |succ i=>
     cases j with
     |zero=>simp at hj;subst hj;exact absurd hx (no i x id (by simpa using hi) hy)
     |succ j=>have:=ih lf i j x y id (by simpa using hi) (by simpa using hj) hx hy;omega
 rw [nd] at h⊢;exact ⟨fun it hi=>h.1 it (hp.mem_iff.2 hi),(hp.filterMap _).nodup_iff.1 h.2⟩
theorem ay.front (h:ay H L) (j:Nat) {it:It} (hj:L[j]? =some it):ay H (it::L.eraseIdx j):=by
 refine h.perm ?_;have ax:=(List.getElem?_eq_some_iff.1 hj).1;have he:=(List.getElem?_eq_some_iff.1 hj).2;have:L=L.take j ++ it::L.drop (j+1):=by
  rw [←he,List.getElem_cons_drop,List.take_append_drop]
 rw [List.eraseIdx_eq_take_drop_succ]
 conv=>lhs;rw [this]
 exact List.perm_middle
theorem ay.Au (h:ay H L) (sz:Nat):ay H (⟨.nil,sz,[]⟩::L):=
 h.new (fun _ _ _=>rfl) ⟨rfl,rfl⟩ (fun k hk=>by simp [bS] at hk)
theorem ay.Av (h:ay H L) (sz:Nat):ay H (⟨.e0,sz,[]⟩::L):=
 h.new (fun _ _ _=>rfl) ⟨rfl,rfl⟩ (fun k hk=>by simp [bS] at hk)
theorem ay.drop (h:ay H L) (j:Nat):ay H (L.eraseIdx j):=by
 cases hj:L[j]? with
 |none=>
  rw [List.eraseIdx_of_length_le (List.getElem?_eq_none_iff.1 hj)];exact h
 |some it=>exact (h.front j hj).tl
theorem ay.CS (hS:ay H L) {id ad sz:Nat} {a:AV} (hm:⟨.ptr id ad 0 0,sz,[a]⟩∈L):H.ap id ad=some ⟨ad,sz,false,[a]⟩:=by
 obtain ⟨j,hj⟩:=List.mem_iff_getElem?.1 hm;exact hS.var j hj
theorem u2 {α β :Type} {g:FuncId} {bT args ys:List AV} {bV:Bool} {o:Option α} {f: α →Option β} {r: β} {b6:List (List Sh)} (h:o.bind f=some r) (hr:(C.gq g).b6=b6) (hp:cc [] (args ++ bT) H=some (ys,bV))
 (hk: ∀x,o=some x→f x=some r→ ∃y,aq C g ys ⟨0,[]⟩ (fun v L=> ∃rs zs L2,v=cq rs∧de b6 rs L=some (zs,L2)∧y=cq zs)∧(bV=false∨cg y=true)∧if th||bV then K (aF y H).1 (aF y H).2 else K (bB y) H):lH C q th (.fn g bT) args H K:=by
 cases ho:o with
 |none=>rw [ho] at h;simp at h
 |some x=>
  rw [ho] at h;have hq:dq (aq C) C g (args ++ bT) th H K:=by
   unfold dq;rw [hp,hr];exact hk x ho h
  cases q with
  |true=>exact hq
  |false=>exact .inr hq
end
end Go.VS
