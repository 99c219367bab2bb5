import Derived.Test.YtclgbpneokeaeaaGreatVaC
import Derived.StillTail
namespace Go.VS
structure ie (ops:Array Oper) (aB:List Nat):Prop where
 back: ∀(i:Nat) (o:Oper),ops[i]? =some o→ ∀e∈o.after,Region.binds .any e=true→e.on<i
 gG: ∀(i j:Nat) (o p:Oper) (d:Tmp),i≠j→ops[i]? =some o→ops[j]? =some p→p.dst=some d→o.dst≠some d
 ord: ∀(i j:Nat) (o p:Oper) (d:Tmp),i≠j→ops[i]? =some o→ops[j]? =some p→p.dst=some d→d∈Oper.looksAt ops o→((fc ops.toList).getD (max i j) 0).testBit (min i j)=true
 after: ∀(i j:Nat) (o p:Oper),ops[i]? =some o→ops[j]? =some p→i∈aB→i<j→((fc ops.toList).getD j 0).testBit i=true∨(j∉aB∧p.guard=none∧i_ p.op=true∧ ∃d,p.dst=some d)
 late: ∀(i j:Nat) (o p:Oper),ops[i]? =some o→ops[j]? =some p→i∈aB→j<i→((fc ops.toList).getD i 0).testBit j=false→j∉aB∧p.guard=none∧gS p.op=true∧(∃d,p.dst=some d)∧
  ∀(k:Nat) (r:Oper) (d:Tmp),ops[k]? =some r→r.dst=some d→j≤k→d∉Oper.looksAt ops p
theorem zp {ops:Array Oper} {aB:List Nat} (h:iC ops aB=true):ie ops aB:=by
 have lt: ∀{i:Nat} {o:Oper},ops[i]? =some o→i<ops.toList.length:=fun h=>by have:=(Array.getElem?_eq_some_iff.1 h).1;simpa using this
 have tl: ∀{i:Nat} {o:Oper},ops[i]? =some o→ops.toList[i]? =some o:=fun h=>by simpa using h
 have one: ∀(i:Nat) (o:Oper),ops[i]? =some o→(∀e∈o.after,Region.binds .any e=true→e.on<i)∧ ∀(j:Nat) (p:Oper),ops[j]? =some p→i≠j→
  (∀d,p.dst=some d→o.dst≠some d∧(d∈Oper.looksAt ops o→((fc ops.toList).getD (max i j) 0).testBit (min i j)=true))∧
  (i∈aB→i<j→((fc ops.toList).getD j 0).testBit i=true∨(j∉aB∧p.guard=none∧i_ p.op=true∧ ∃d,p.dst=some d))∧
  (i∈aB→j<i→((fc ops.toList).getD i 0).testBit j=false→j∉aB∧p.guard=none∧gS p.op=true∧(∃d,p.dst=some d)∧ ∀(k:Nat) (r:Oper) (d:Tmp),ops[k]? =some r→r.dst=some d→j≤k→d∉Oper.looksAt ops p):=by
  intro i o ho;simp only [iC,List.all_eq_true,List.mem_range] at h;have hi:=h i (lt ho);rw [tl ho] at hi;simp only [Bool.and_eq_true,Array.all_eq_true_iff_forall_mem,List.all_eq_true,List.mem_range,Bool.or_eq_true,Bool.not_eq_true',decide_eq_true_eq] at hi;obtain ⟨ha,hb⟩:=hi;refine ⟨fun e he pI=>(ha e he).resolve_left (by simp [pI]),fun j p hp ju=> ?_⟩
  have hj:=hb j (lt hp);rw [tl hp] at hj;simp only [Bool.or_eq_true,beq_iff_eq,Bool.and_eq_true,Bool.not_eq_true'] at hj;rcases hj with hj|⟨⟨mO,jU⟩,kc⟩
  ·exact absurd hj ju
  refine ⟨fun d hd=> ?_,fun hl ax=> ?_,fun hl ax pI=> ?_⟩
  ·rw [hd] at mO;simp only [Bool.and_eq_true,bne_iff_ne,ne_eq,Bool.or_eq_true,Bool.not_eq_true'] at mO;exact ⟨mO.1,fun hm=>mO.2.resolve_left (by simp [hm])⟩
  ·rcases jU with (jU|jU)|⟨⟨⟨q1,q2⟩,q3⟩,q4⟩
   ·simp [hl,ax] at jU
   ·exact .inl jU
   ·exact .inr ⟨by simpa using q1,by simpa using q2,q3,Option.isSome_iff_exists.1 q4⟩
  ·rcases kc with (kc|kc)|⟨⟨⟨⟨q1,q2⟩,q3⟩,q4⟩,q5⟩
   ·simp [hl,ax] at kc
   ·rw [pI] at kc;simp at kc
   ·refine ⟨by simpa using q1,by simpa using q2,q3,Option.isSome_iff_exists.1 q4,fun k r d hk hr zq hm=> ?_⟩
    simp only [List.all_eq_true,List.mem_range] at q5;have:=q5 k (lt hk);rw [tl hk] at this;simp only [hr] at this;simp [zq,hm] at this
 exact ⟨fun i o ho=>(one i o ho).1,fun i j o p d ju ho hp hd=>(((one i o ho).2 j p hp ju).1 d hd).1,fun i j o p d ju ho hp hd=>(((one i o ho).2 j p hp ju).1 d hd).2,
  fun i j o p ho hp hl ax=>((one i o ho).2 j p hp (by omega)).2.1 hl ax,fun i j o p ho hp hl ax=>((one i o ho).2 j p hp (by omega)).2.2 hl ax⟩
theorem pJ (aB:List Nat) (n:Nat): ∀(m b:Nat),m=n-b→b≤n→ ∃c,b≤c∧c≤n∧(c=n∨c∈aB)∧ ∀i,b≤i→i<c→i∉aB
 |0,b,hm,hb=>⟨b,Nat.le_refl _,hb,.inl (by omega),fun i h1 h2=>by omega⟩
 |m+1,b,hm,hb=>by
  by_cases h:b∈aB
  ·exact ⟨b,Nat.le_refl _,hb,.inr h,fun i h1 h2=>by omega⟩
  ·obtain ⟨c,h1,h2,h3,h4⟩:=pJ aB n m (b+1) (by omega) (by omega)
   refine ⟨c,by omega,h2,h3,fun i k1 k2=> ?_⟩
   by_cases hi:i=b
   ·subst hi;exact h
   ·exact h4 i (by omega) k2
section draw
variable {P:Program} {C:aG} {X:bq} {ops:Array Oper} {aB:List Nat} {th:List Nat} {K:aj→J→Prop} {s:Nat→aj} {H:Nat→J} {v:Nat→AV} {act:Nat→Bool}
abbrev iO (X:bq) (C:aG) (ops:Array Oper) (aB:List Nat) (th:List Nat) (K:aj→J→Prop) (s:Nat→aj) (H:Nat→J) (v:Nat→AV) (act:Nat→Bool):Prop:=
 Tr X C ops (fun i=> !aB.contains i) (fJ ops aB) th K ops.toList 0 s H v act
theorem ig (t:iO X C ops aB th K s H v act): ∀(m i:Nat),i+m≤ops.size→(∀k,i≤k→k<i+m→k∉aB)→QG (H i) (H (i+m))
 |0,i,_,_=> .refl _
 |m+1,i,hn,hl=>by
  have h1:=ig t m i (by omega) (fun k h1 h2=>hl k h1 (by omega))
  have ho:=Array.getElem?_eq_getElem (xs:=ops) (show i+m<ops.size by omega)
  obtain ⟨_,_,h3,h4,_⟩:=t.step (i+m) _ (by rw [Array.getElem?_toList];exact ho)
  refine h1.trans ?_;cases ha:act (i+m) with
  |true=>
   have:=h3 ha;have gH:(!aB.contains (0+(i+m)))=true:=by simp only [Nat.zero_add];simpa using hl (i+m) (by omega) (by omega)
   rw [gH] at this;exact zn this
  |false=>have:=(h4 ha).2;rw [show i+(m+1)=i+m+1 by omega,this];exact .refl _
theorem mP (dk:ie ops aB) (t:iO X C ops aB th K s H v act): ∀(i:Nat),i≤ops.size→(s i).length=(s 0).length∧ ∀x,x<(s 0).length→
 (∀k o,k<i→ops[k]? =some o→o.dst=some x→(s i).getD x .undef=v k)∧((∀k o,k<i→ops[k]? =some o→o.dst≠some x)→(s i).getD x .undef=(s 0).getD x .undef)
 |0,_=>⟨rfl,fun x hx=>⟨fun k o h=>by omega,fun _=>rfl⟩⟩
 |i+1,hi=>by
  obtain ⟨h1,h2⟩:=mP dk t i (by omega)
  have ho:=Array.getElem?_eq_getElem (xs:=ops) (show i<ops.size by omega)
  obtain ⟨hs,_⟩:=t.step i _ (by rw [Array.getElem?_toList];exact ho)
  have hlen:(s (i+1)).length=(s 0).length:=by
   rw [hs];unfold bj;split
   ·simpa using h1
   ·exact h1
  refine ⟨hlen,fun x hx=>⟨fun k o hk af hd=> ?_,fun eY=> ?_⟩⟩
  ·rw [hs];by_cases bS:k=i
   ·subst bS;rw [ho] at af;simp only [Option.some.injEq] at af;subst af;rw [hd];simp only [bj];rw [←h1] at hx;simp [List.getD,hx]
   ·have aL:=dk.gG i k _ o x (fun h=>bS h.symm) ho af hd;have:=(h2 x hx).1 k o (by omega) af hd
    rw [←this];unfold bj;split
    ·rename_i d b5;have:d≠x:=fun h=>aL (by rw [b5,h])
     simp [List.getD,List.getElem?_set_ne this]
    ·rfl
  ·rw [hs];have aL:=eY i _ (Nat.lt_succ_self _) ho;rw [←(h2 x hx).2 (fun k o hk af=>eY k o (by omega) af)]
   unfold bj;split
   ·rename_i d b5;have:d≠x:=fun h=>aL (by rw [b5,h])
    simp [List.getD,List.getElem?_set_ne this]
   ·rfl
structure pK (C:aG) (o:Op) (sz:Nat) (el:List AV) (x:Nat→Nat→AV) (u:Nat→Value):Prop where
 ev: ∀(X:bq) (q th:Bool) (o' :Oper) (s:aj) (H:J) (K:AV→J→Prop),o'.op=o→wpOp X C q th o' s H K→K (x H.bs.length H.st) (H.new sz false el)
 zr: ∀(i:Nat) (y:AV),el[i]? =some y→y.cells.length=sz
 rel: ∀(w:World) (G:J) (φ :ag) (A:ah) (id ad c:Nat),G.get id=some ⟨ad,sz,false,el⟩→ad<G.st→ φ id=some (.at_ c 0)→el.length*sz≤a8 w c→R w G φ A (x id ad) (u c)
def mQ (el:List AV) (sz:Nat) (arr:Array Value):Prop:=el.length*sz≤arr.size∧
 ∀(i:Nat) (x:AV) (j:Nat) (y:AV) (v:Value),el[i]? =some x→x.cells[j]? =some y→arr[i*sz+j]? =some v→(∀(w:World) (G:J) (φ :ag) (A:ah),R w G φ A y v)∧v.oneCell' =true
theorem zt {P:Program} {C:aG} (hE: ∀t ti,C.E t=some ti→aS P t ti) {X:bq} {q th:Bool} {o:Oper} {s:aj} {H:J} {K:AV→J→Prop} (he:i_ o.op=true) (h:wpOp X C q th o s H K):
 ∃sz el x u,pK C o.op sz el x u∧ ∀(a:Act) (w:World),∃arr T,(execOp a.eval o).run P w= .ok (.value (u w.heap.size)) (w.alloc (.cells arr T))∧mQ el sz arr:=by
 obtain ⟨dst,op,ty,pos,after,guard⟩:=o;simp only at he⊢;cases op with
 |alloc tt=>
  unfold wpOp at h;simp only [aP] at h;cases ln:C.E tt with
  |none=>rw [ln] at h;exact h.2.elim
  |some ti=>
   rw [ln] at h;cases hz:dX ti with
   |none=>simp only [hz] at h;exact h.2.elim
   |some z=>
    have cu:z.cells.length=ti.sz:=by
     obtain ⟨zv,e1,e2,e3,e4,_,e5⟩:=jc (hE _ _ ln) hz default;rw [e3,e4]
    refine ⟨ti.sz,[z],fun id ad=> .ptr id ad 0 0,fun c=> .pointer (some ⟨c,0,none⟩),⟨fun X q th o' s H K ho h=> ?_,fun i y hy=> ?_,fun w G φ A id ad c _ hv aV _=>nY hv aV⟩,fun a w=> ?_⟩
    ·obtain ⟨dst,op,ty,pos,after,guard⟩:=o';simp only at ho;subst ho;unfold wpOp at h;simp only [aP,ln,hz] at h;exact h.2
    ·cases i with
     |zero=>simp at hy;subst hy;exact cu
     |succ i=>simp at hy
    ·obtain ⟨zv,e1,e2,e3,e4,_,e5⟩:=jc (hE _ _ ln) hz w;refine ⟨zv.cells,tt,?_,by simp [e2],fun i x j y v hx hy hv=> ?_⟩
     ·show ((do pure (.value (←Instr.alloc tt true (.tuple #[]))):Sem Next).run P w)=_
      simp [Instr.alloc,e1,newVar,newRow]
     ·cases i with
      |zero=>
       simp only [List.getElem?_cons_zero,Option.some.injEq,Nat.zero_mul,Nat.zero_add] at hx hv;subst hx;rw [e3] at hy;have hh:=fun (w:World) (A:ah)=>e5 w A j y v hy hv;exact ⟨fun w G φ A=> .fr _ _ (hh w A).1,(hh w (fun _=>False)).2⟩
      |succ i=>simp at hx
 |buildSlice t n ps=>
  simp only [i_,Bool.and_eq_true,bne_iff_ne,ne_eq,List.all_eq_true] at he;obtain ⟨hn,hc⟩:=he;have zu: ∀(s s' :aj),(ps.toList.map fun p=>(p.1,ev s p.2))=ps.toList.map fun p=>(p.1,ev s' p.2):=fun s s' =>List.map_congr_left fun p hp=>by
   have:=hc p hp;cases hq:p.2 with
   |const v=>rfl
   |tmp x=>rw [hq] at this;simp [kC] at this
   |global x=>rfl
   |func x=>rfl
  unfold wpOp at h;simp only [aP,if_neg hn] at h;cases bm:cB C.E t with
  |none=>rw [bm] at h;exact h.2.elim
  |some te=>
   rw [bm] at h;obtain ⟨ti,e,ht,hu,cp⟩:=jf bm;cases hz:dX te with
   |none=>simp only [hz] at h;exact h.2.elim
   |some zA=>
    simp only [hz] at h;by_cases hcnd:n*te.sz≤1000000∧te.sz≠0
    ·rw [if_pos hcnd] at h;cases bR:iw te.sz (List.replicate n zA) (ps.toList.map fun p=>(p.1,ev s p.2)) with
     |none=>rw [bR] at h;exact h.2.elim
     |some el=>
      have parts: ∀(ρ :Operand→Value),(∀v,ρ (.const v)=v)→ ∀(w:World) (G:J) (φ :ag) (A:ah),∀p∈ps.toList,R w G φ A (ev s p.2) (ρ p.2):=fun ρ aT w G φ A p hp=>by
       have:=hc p hp;cases hq:p.2 with
       |const v=>rw [aT];exact .fr _ _ (FR.ofValue w A v)
       |tmp x=>rw [hq] at this;simp [kC] at this
       |global x=>rw [hq] at this;simp [kC] at this
       |func x=>rw [hq] at this;simp [kC] at this
      have fill: ∀(ρ :Operand→Value),(∀v,ρ (.const v)=v)→ ∀(w0:World),∃(zv:Value) (b7:Array Value),(zeroValue e).run P w0= .ok zv w0∧Instr.fill (fun i=>some (i*te.sz,te.sz)) ((Array.range (n*te.sz)).map (fun k=>zv.cells[k % zv.cells.size]!)) ((ps.map fun (i,x)=>(i,ρ x)).toList)=some b7∧b7.size=el.length*te.sz∧el.length=n∧
       (∀(i:Nat) (x:AV),el[i]? =some x→x.cells.length=te.sz)∧mQ el te.sz b7:=fun ρ aT w0=>by
       obtain ⟨zv,z1,z2,z3,z4,_,z5⟩:=jc (hE _ _ cp) hz w0;have go: ∀(w:World) (G:J) (φ :ag) (A:ah),_:=fun w G φ A=>oi (w:=w) (G:=G) (φ := φ) (A:=A) hcnd.2 _ _ (List.replicate n zA) ((Array.range (n*te.sz)).map (fun k=>zv.cells[k % zv.cells.size]!)) _ (l4 (_E:=C.E) (parts ρ aT w G φ A)).1 (l4 (_E:=C.E) (parts ρ aT w G φ A)).2
        (by simp) (fun i x hx=>by
         simp only [List.getElem?_replicate] at hx;split at hx
         ·simp only [Option.some.injEq] at hx;subst hx;rw [z3,z4]
         ·simp at hx)
        (fun i x j y v hx hy hv=>by
         simp only [List.getElem?_replicate] at hx;split at hx
         ·rename_i hi;simp only [Option.some.injEq] at hx;subst hx;rw [z3] at hy;have hj:j<te.sz:=by rw [←z4];exact (List.getElem?_eq_some_iff.1 hy).1
          have:=z5 w A j y v hy (kN z2 hi hj hv);exact ⟨.fr _ _ this.1,this.2⟩
         ·simp at hx) bR
       obtain ⟨b7,f1,f2,f3,f4,f5⟩:=go w0 ⟨0,[]⟩ (fun _=>none) (fun _=>False);refine ⟨zv,b7,z1,f1,f2,by rw [f3];simp,f4,by rw [f2];exact Nat.le_refl _,fun i x j y v hx hy hv=>⟨fun w G φ A=> ?_,(f5 i x j y v hx hy hv).2⟩⟩
       obtain ⟨BV,g1,_,_,_,g5⟩:=go w G φ A;rw [f1] at g1;simp only [Option.some.injEq] at g1;subst g1;exact (g5 i x j y v hx hy hv).1
      obtain ⟨_,_,_,_,_,hlen,zw,_⟩:=fill (fun o=>match o with| .const v=>v|_=>undef) (fun _=>rfl) default
      refine ⟨te.sz,el,fun id ad=> .ref id ad 0 n,fun c=> .slice (some ⟨c,0,none⟩) n n,⟨fun X q th o' s' H K ho h=> ?_,zw,fun w G φ A id ad c hg hv aV hb=> ?_⟩,fun a w=> ?_⟩
      ·obtain ⟨dst,op,ty,pos,after,guard⟩:=o';simp only at ho;subst ho;unfold wpOp at h;simp only [aP,if_neg hn,bm,hz,if_pos hcnd,zu s' s,bR] at h
       exact h.2
      ·exact jT hg hv aV (by simp [hlen]) (Nat.le_refl _) (by simp [hlen]) (by rw [←hlen];exact hb)
      ·obtain ⟨zv,b7,z1,f1,f2,_,_,lp⟩:=fill a.eval (fun _=>rfl) w;have iE:=(hE _ _ ht).sl w hu;have aL: ¬(n*te.sz=0):=by
        intro h0;rcases Nat.mul_eq_zero.1 h0 with h0|h0<;>omega
       have ol: ¬(n*te.sz>2^24):=by omega
       refine ⟨b7,e,?_,lp⟩;show ((do pure (.value (←Instr.buildSlice t n (ps.map fun (i,x)=>(i,a.eval x)))):Sem Next).run P w)=_
       simp only [Instr.buildSlice,Sem.run_bind,iE,Result.andThen_ok,(hE _ _ cp).sizeOf,ol,aL,if_false,z1,f1,Sem.run_pure,newRow,run_newObj,World.alloc_eq]
    ·rw [if_neg hcnd] at h;exact h.2.elim
 |_=>simp [i_] at he
structure mR (w0 w:World) (φ :ag) (A:ah) (el:List AV) (sz n:Nat):Prop where
 old:w0.heap.size≤n
 lt:n<w.heap.size
 av:A n
 ow: ¬Ow φ n
 here: ∃arr T fr,w.heap[n]? =some (.cells arr T fr)∧(∀j,j<arr.size→ ¬(fr.1≤j∧j<fr.2))∧mQ el sz arr
theorem mR.mono {w0 w w' :World} {G G' :J} {φ ak:ag} {A A' :ah} {el:List AV} {sz n:Nat} (h:mR w0 w φ A el sz n) (o:Out w G φ A w' G' ak A'):mR w0 w' ak A' el sz n:=by
 refine ⟨h.old,Nat.lt_of_lt_of_le h.lt o.post.size,o.keep n h.av h.ow,fun hw=> ?_,?_⟩
 ·rcases o.post.own n hw with k|k
  ·exact h.ow k
  ·have:=h.lt;omega
 ·rw [o.post.kept n h.lt h.ow];exact h.here
def jv (C:aG) (ops:Array Oper) (aB:List Nat) (w0 w:World) (φ :ag) (A:ah) (a:Act) (j n:Nat):Prop:=
 j∉aB∧ ∃(o:Oper) (d:Tmp) (sz:Nat) (el:List AV) (x:Nat→Nat→AV) (uv:Nat→Value),ops[j]? =some o∧o.guard=none∧o.dst=some d∧pK C o.op sz el x uv∧mR w0 w φ A el sz n∧
  ∀u,a.tmps[d]? =some u→u=uv n
theorem jv.mono {C:aG} {ops:Array Oper} {aB:List Nat} {w0 w w' :World} {G G' :J} {φ ak:ag} {A A' :ah} {a a' :Act} {j n:Nat} (h:jv C ops aB w0 w φ A a j n) (o:Out w G φ A w' G' ak A')
 (ht: ∀(r:Oper) (d:Tmp),ops[j]? =some r→r.dst=some d→a'.tmps[d]? =a.tmps[d]?):jv C ops aB w0 w' ak A' a' j n:=by
 obtain ⟨h0,r,d,sz,el,x,uv,h1,h2,h4,h5,h7,h8⟩:=h;exact ⟨h0,r,d,sz,el,x,uv,h1,h2,h4,h5,h7.mono o,fun u hu=>h8 u (by rw [←ht r d h1 h4];exact hu)⟩
structure Inv (C:aG) (ops:Array Oper) (aB:List Nat) (s:Nat→aj) (H:Nat→J) (v:Nat→AV) (w0:World) (aC:ag) (A0:ah) (listed:Array Bool) (a:Act) (w:World) (b c:Nat) (φ :ag) (A:ah) (pn:Nat→Nat):Prop where
 size:listed.size=ops.size
 shut:sm ops (fun i=>listed.getD i false=true)
 bc:b≤c
 cn:c≤ops.size
 cl:c=ops.size∨c∈aB
 ii: ∀i,b≤i→i<c→i∉aB
 iP: ∀i,i∈aB→i<ops.size→(listed.getD i false=true↔i<b)
 base:b=0∨(b-1∈aB∧0<b)
 out:Out w0 (H 0) aC A0 w (H c) φ A
 none: ∀i,b≤i→i<c→listed.getD i false=false→ ∀id,(H i).bs.length≤id→id<(H (i+1)).bs.length→ φ id=none
 eJ:a.defers=[]
 len:(s 0).length=a.tmps.size
 wr: ∀(k:Nat) (o:Oper) (d:Tmp) (u:Value),ops[k]? =some o→o.dst=some d→listed.getD k false=true→k<c→a.tmps[d]? =some u→R w (H c) φ A (v k) u
 early: ∀(k:Nat),c≤k→listed.getD k false=true→jv C ops aB w0 w φ A a k (pn k)
 mS: ∀(j k:Nat),c≤j→c≤k→listed.getD j false=true→listed.getD k false=true→pn j=pn k→j=k
 un: ∀(x:Tmp) (u:Value),(∀(k:Nat) (o:Oper),ops[k]? =some o→o.dst=some x→listed.getD k false=false)→a.tmps[x]? =some u→R w (H c) φ A ((s 0).getD x .undef) u
theorem mT {listed:Array Bool} {i:Nat} (hi:i<listed.size) (k:Nat):(listed.setIfInBounds i true).getD k false=true↔(k=i∨listed.getD k false=true):=by
 by_cases hk:k=i
 ·subst hk;simp [hi]
 ·rw [getD_set_ne false (fun h=>hk h.symm)];simp [hk]
variable {w0:World} {aC:ag} {A0:ah} {listed:Array Bool} {a:Act} {w:World} {b c:Nat} {φ :ag} {A:ah} {pn:Nat→Nat}
theorem Inv.look (inv:Inv C ops aB s H v w0 aC A0 listed a w b c φ A pn) (dk:ie ops aB) (t:iO X C ops aB th K s H v act) {i:Nat} {o:Oper} (fY:i≤c) (ho:ops[i]? =some o) (hu:listed.getD i false=false) (ha: ∀e∈o.after,Region.binds .any e=true→listed.getD e.on false=true)
 {m:Nat} (hm:m≤ops.size) (sq:i≤m) (iQ:m=i∨ ∀(k:Nat) (r:Oper) (d:Tmp),ops[k]? =some r→r.dst=some d→i≤k→d∉Oper.looksAt ops o) {x:Tmp} (hx:x∈Oper.looksAt ops o):R w (H c) φ A (ev (s m) (.tmp x)) (a.eval (.tmp x)):=by
 obtain ⟨hl,hg⟩:=mP dk t m hm;simp only [ev,Act.eval];by_cases ax:x<(s 0).length
 ·have zx:x<a.tmps.size:=by rw [←inv.len];exact ax
  have aM:=Array.getElem?_eq_getElem zx
  rw [Array.getD_eq_getD_getElem?,aM,Option.getD_some];by_cases hw: ∃(k:Nat) (r:Oper),ops[k]? =some r∧r.dst=some x
  ·obtain ⟨k,r,hk,hr⟩:=hw;rcases Nat.lt_trichotomy k i with bS|bS|bS
   ·have hb:=dk.ord i k o r x (by omega) ho hk hr hx
    rw [show max i k=i by omega,show min i k=k by omega] at hb
    have bL:=mN inv.shut dk.back i o ho ha k hb;rw [(hg x ax).1 k r (by omega) hk hr]
    exact inv.wr k r x _ hk hr bL (by omega) aM
   ·subst bS;rw [ho] at hk;simp only [Option.some.injEq] at hk;subst hk;rcases iQ with rfl|iQ
    ·rw [(hg x ax).2 (fun k' o' bG ey=>dk.gG k' m o' o x (by omega) ey ho hr)]
     refine inv.un x _ (fun k' o' ey b5=> ?_) aM
     by_cases lq:k' =m
     ·subst lq;exact hu
     ·exact absurd b5 (dk.gG k' m o' o x lq ey ho hr)
    ·exact absurd hx (iQ k o x ho hr (Nat.le_refl _))
   ·rcases iQ with rfl|iQ
    ·have hb:=dk.ord m k o r x (by omega) ho hk hr hx
     rw [show max m k=k by omega,show min m k=m by omega] at hb
     have zy:listed.getD k false=false:=by
      cases hq:listed.getD k false with
      |false=>rfl
      |true=>
       have:=mN inv.shut dk.back k r hk (inv.shut k r hk hq) m hb;rw [hu] at this;simp at this
     rw [(hg x ax).2 (fun k' o' bG ey=>dk.gG k' k o' r x (by omega) ey hk hr)]
     refine inv.un x _ (fun k' o' ey b5=> ?_) aM
     by_cases lq:k' =k
     ·subst lq;exact zy
     ·exact absurd b5 (dk.gG k' k o' r x lq ey hk hr)
    ·exact absurd hx (iQ k r x hk hr (by omega))
  ·rw [(hg x ax).2 (fun k' o' _ ey b5=>hw ⟨k',o',ey,b5⟩)]
   exact inv.un x _ (fun k' o' ey b5=>absurd ⟨k',o',ey,b5⟩ hw) aM
 ·have:(s m).getD x .undef= .undef:=by simp [List.getD,List.getElem?_eq_none (show (s m).length≤x by rw [hl];exact Nat.le_of_not_lt ax)]
  rw [this];exact .fr _ _ (.undef _)
theorem Inv.pL (inv:Inv C ops aB s H v w0 aC A0 listed a w b c φ A pn) (dk:ie ops aB) (t:iO X C ops aB th K s H v act) {i:Nat} {o:Oper} (fY:i≤c) (ho:ops[i]? =some o) (hu:listed.getD i false=false) (ha: ∀e∈o.after,Region.binds .any e=true→listed.getD e.on false=true)
 {m:Nat} (hm:m≤ops.size) (sq:i≤m) (iQ:m=i∨ ∀(k:Nat) (r:Oper) (d:Tmp),ops[k]? =some r→r.dst=some d→i≤k→d∉Oper.looksAt ops o): ∀y∈o.op.operands,R w (H c) φ A (ev (s m) y) (a.eval y):=by
 intro y hy;cases y with
 |tmp x=>
  refine inv.look dk t fY ho hu ha hm sq iQ ?_;unfold Oper.looksAt;refine List.mem_append.2 (.inl (List.mem_filterMap.2 ⟨.tmp x,by simpa using hy,rfl⟩))
 |const v=>exact .fr _ _ (FR.ofValue w A v)
 |global g=>exact .fr _ _ (.undef _)
 |func f=>exact .fr _ _ (.fn f [] #[] rfl (by simp))
theorem Inv.kb (inv:Inv C ops aB s H v w0 aC A0 listed a w b c φ A pn) (cT:St w0 (H 0) aC A0) (dk:ie ops aB) (t:iO X C ops aB th K s H v act) {i:Nat} {o:Oper} (fY:i<c) (ho:ops[i]? =some o) (hl:i∉aB) (ha: ∀e∈o.after,Region.binds .any e=true→listed.getD e.on false=true)
 {u:Value} {w' :World} {φ1:ag} {A1:ah} (bI:Out w (H c) φ A w' (H c) φ1 A1) (hr: ∀d,o.dst=some d→d<a.tmps.size→R w' (H c) φ1 A1 (v i) u)
 (bp: ∀id loc,φ1 id=some loc→ φ id=some loc∨(b≤i∧i<c∧(H i).bs.length≤id∧id<(H (i+1)).bs.length)):Inv C ops aB s H v w0 aC A0 (listed.setIfInBounds i true) (a.put o.dst u) w' b c φ1 A1 pn:=by
 have hi:i<ops.size:=(Array.getElem?_eq_some_iff.1 ho).1;have aA:i<listed.size:=by rw [inv.size];exact hi
 have bO:=mT aA;have jw: ∀k,(listed.setIfInBounds i true).getD k false=false→k≠i∧listed.getD k false=false:=fun k hk=>by
  have:=(not_congr (bO k)).1 (by rw [hk];simp)
  refine ⟨fun h=>this (.inl h),?_⟩;cases hq:listed.getD k false with
  |false=>rfl
  |true=>exact absurd (.inr hq) this
 refine ⟨by simp [inv.size],fun k r hk bL e he hb=> ?_,inv.bc,inv.cn,inv.cl,inv.ii,fun k hk lr=> ?_,inv.base,inv.out.trans cT bI,fun k h1 h2 h3 id h4 h5=> ?_,?_,?_,fun k r d u' hk b6 bL ec aM=> ?_,fun k jx bL=> ?_,fun j k hj hk iR bL hp=>inv.mS j k hj hk (((bO j).1 iR).resolve_left (by omega)) (((bO k).1 bL).resolve_left (by omega)) hp,fun x u' eY aM=> ?_⟩
 ·rcases (bO k).1 bL with rfl|bL
  ·rw [ho] at hk;simp only [Option.some.injEq] at hk;subst hk;exact (bO _).2 (.inr (ha e he hb))
  ·exact (bO _).2 (.inr (inv.shut k r hk bL e he hb))
 ·rw [bO,←inv.iP k hk lr];constructor
  ·rintro (rfl|h)
   ·exact absurd hk hl
   ·exact h
  ·exact .inr
 ·obtain ⟨bS,bL⟩:=jw k h3;have lu:=inv.cn;cases hq: φ1 id with
  |none=>rfl
  |some loc=>
   rcases bp id loc hq with h|⟨h6,h7,h8,h9⟩
   ·rw [inv.none k h1 h2 bL id h4 h5] at h;simp at h
   ·exfalso;rcases Nat.lt_or_ge k i with ax|zB
    ·have:=(ig t (i-(k+1)) (k+1) (by omega) (fun j j1 j2=>inv.ii j (by omega) (by omega))).1.2
     rw [show k+1+(i-(k+1))=i by omega] at this
     omega
    ·have:=(ig t (k-(i+1)) (i+1) (by omega) (fun j j1 j2=>inv.ii j (by omega) (by omega))).1.2
     rw [show i+1+(k-(i+1))=k by omega] at this
     omega
 ·cases hd:o.dst<;>simp [Act.put,inv.eJ]
 ·cases hd:o.dst<;>simp [Act.put,inv.len]
 ·by_cases bS:k=i
  ·subst bS;rw [ho] at hk;simp only [Option.some.injEq] at hk;subst hk;rw [b6] at aM;simp only [Act.put,Array.getElem?_setIfInBounds] at aM;simp only [if_true] at aM;split at aM
   ·rename_i ax;simp only [Option.some.injEq] at aM;subst aM;exact hr d b6 ax
   ·simp at aM
  ·have bL:=((bO k).1 bL).resolve_left bS;have aL:o.dst≠some d:=dk.gG i k o r d (fun h=>bS h.symm) ho hk b6;have:a.tmps[d]? =some u' :=by
    cases hd:o.dst with
    |none=>rw [hd] at aM;exact aM
    |some d' =>
     rw [hd] at aM;simp only [Act.put,Array.getElem?_setIfInBounds] at aM;rw [if_neg (by rintro rfl;exact aL hd)] at aM
     exact aM
   exact (inv.wr k r d u' hk b6 bL ec this).mono bI.bQ
 ·have bS:k≠i:=by omega
  refine (inv.early k jx (((bO k).1 bL).resolve_left bS)).mono bI fun r d hk b6=> ?_
  have aL:o.dst≠some d:=dk.gG i k o r d (fun h=>bS h.symm) ho hk b6;cases hd:o.dst with
  |none=>rfl
  |some d' =>
   simp only [Act.put,Array.getElem?_setIfInBounds];rw [if_neg (by rintro rfl;exact aL hd)]
 ·have aL:o.dst≠some x:=fun hd=>by have:=eY i o ho hd;have h2:=(bO i).2 (.inl rfl);rw [this] at h2;simp at h2
  have:a.tmps[x]? =some u' :=by
   cases hd:o.dst with
   |none=>rw [hd] at aM;exact aM
   |some d' =>
    rw [hd] at aM;simp only [Act.put,Array.getElem?_setIfInBounds] at aM;rw [if_neg (by rintro rfl;exact aL hd)] at aM
    exact aM
  exact (inv.un x u' (fun k r hk b6=>(jw k (eY k r hk b6)).2) this).mono bI.bQ
theorem zC {w:World} {G:J} {φ :ag} {A:ah} (ae:St w G φ A) (o:Obj):Out w G φ A (w.alloc o) G φ (fun c=>A c∨c=w.heap.size):=by
 have aR:bH w G φ A (w.alloc o) G φ (fun c=>A c∨c=w.heap.size):=⟨fun c a t fr hc hn=>⟨⟨fr,by rw [heap_alloc_old w _ (d_ hc)];exact hc⟩,fun h=>by have:=d_ hc;rcases h with h|h;exact hn h;omega⟩,Nat.le_refl _,
  fun i b' aw _=>⟨b',aw,rfl,rfl,rfl,rfl,fun loc hl=>hl⟩,fun c hc=>by unfold a8;rw [heap_alloc_old w _ (Ow.lt ae hc)]⟩
 refine ⟨⟨ae.inj,fun c hc=> .inl (ae.own c hc),fun c hc=> ?_,fun i loc hl=> ?_⟩,
  ⟨rfl,rfl,rfl,by simp,fun c hc _=>heap_alloc_old w _ hc,fun c hc=>by unfold a8;rw [heap_alloc_old w _ hc],fun c hc=> .inl hc⟩,aR,fun c hc _=> .inl hc⟩
 ·simp only [World.size_alloc];rcases hc with h|h
  ·have:=ae.bY c h;omega
  ·omega
 obtain ⟨b',cE,aw⟩:=ae.ap i loc hl;refine ⟨b',cE,aw.ad,aw.sized,aw.aQ,fun c b0 h=> ?_⟩;obtain ⟨a,t,fr,h1,h2,h3,h4⟩:=aw.here c b0 h;exact ⟨a,t,fr,by rw [heap_alloc_old w _ (d_ h1)];exact h1,h2,h3,fun i x j y v hx hy hv=>⟨(h4 i x j y v hx hy hv).1.mono aR,(h4 i x j y v hx hy hv).2⟩⟩
theorem Inv.zD (inv:Inv C ops aB s H v w0 aC A0 listed a w b c φ A pn) (cT:St w0 (H 0) aC A0) (dk:ie ops aB) {i:Nat} {o:Oper} (BW:c≤i) (ho:ops[i]? =some o) (BX:listed.getD i false=false) (hl:i∉aB) (hg:o.guard=Option.none) {d:Tmp} (hd:o.dst=some d)
 {sz:Nat} {el:List AV} {x:Nat→Nat→AV} {uv:Nat→Value} (bh:pK C o.op sz el x uv) (ha: ∀e∈o.after,Region.binds .any e=true→listed.getD e.on false=true) {arr:Array Value} {T:TypeId} (lp:mQ el sz arr):
 Inv C ops aB s H v w0 aC A0 (listed.setIfInBounds i true) (a.put o.dst (uv w.heap.size)) (w.alloc (.cells arr T)) b c φ (fun k=>A k∨k=w.heap.size) (fun k=>if k=i then w.heap.size else pn k):=by
 have hi:i<ops.size:=(Array.getElem?_eq_some_iff.1 ho).1;have zE:i<listed.size:=by rw [inv.size];exact hi
 have bO:=mT zE;have bI:=zC inv.out.st (.cells arr T);have jw: ∀k,(listed.setIfInBounds i true).getD k false=false→k≠i∧listed.getD k false=false:=fun k hk=>by
  have:=(not_congr (bO k)).1 (by rw [hk];simp)
  refine ⟨fun h=>this (.inl h),?_⟩;cases hq:listed.getD k false with
  |false=>rfl
  |true=>exact absurd (.inr hq) this
 have kd: ∀(x:Tmp),o.dst≠some x→(a.put o.dst (uv w.heap.size)).tmps[x]? =a.tmps[x]? :=fun x aL=>by
  rw [hd] at aL⊢;simp only [Act.put,Array.getElem?_setIfInBounds];rw [if_neg (by rintro rfl;exact aL rfl)]
 refine ⟨by simp [inv.size],fun k r hk bL e he hb=> ?_,inv.bc,inv.cn,inv.cl,inv.ii,fun k hk lr=> ?_,inv.base,inv.out.trans cT bI,fun k h1 h2 h3 id h4 h5=>inv.none k h1 h2 (jw k h3).2 id h4 h5,?_,?_,fun k r d' u' hk b6 bL ec aM=> ?_,fun k jx bL=> ?_,fun j k hj hk iR bL hp=> ?_,fun x u' eY aM=> ?_⟩
 ·rcases (bO k).1 bL with rfl|bL
  ·rw [ho] at hk;simp only [Option.some.injEq] at hk;subst hk;exact (bO _).2 (.inr (ha e he hb))
  ·exact (bO _).2 (.inr (inv.shut k r hk bL e he hb))
 ·rw [bO,←inv.iP k hk lr];constructor
  ·rintro (rfl|h)
   ·exact absurd hk hl
   ·exact h
  ·exact .inr
 ·rw [hd];simp [Act.put,inv.eJ]
 ·rw [hd];simp [Act.put,inv.len]
 ·have bS:k≠i:=by omega
  have aL:o.dst≠some d' :=dk.gG i k o r d' (fun h=>bS h.symm) ho hk b6
  rw [kd d' aL] at aM
  exact (inv.wr k r d' u' hk b6 (((bO k).1 bL).resolve_left bS) ec aM).mono bI.bQ
 ·by_cases bS:k=i
  ·subst bS;simp only [if_true];refine ⟨hl,o,d,sz,el,x,uv,ho,hg,hd,bh,⟨inv.out.post.size,by simp,.inr rfl,fun h=>by have:=Ow.lt inv.out.st h;omega,arr,T,(0,0),heap_alloc_new w _,fun j _ h=>absurd h.2 (Nat.not_lt_zero j),lp⟩,fun u hu=> ?_⟩
   rw [hd] at hu;simp only [Act.put,Array.getElem?_setIfInBounds,if_true] at hu;split at hu
   ·simpa using hu.symm
   ·simp at hu
  ·simp only [if_neg bS];exact (inv.early k jx (((bO k).1 bL).resolve_left bS)).mono bI fun r d' hk b6=>kd d' (dk.gG i k o r d' (fun h=>bS h.symm) ho hk b6)
 ·have one: ∀k,c≤k→(listed.setIfInBounds i true).getD k false=true→k≠i→pn k≠w.heap.size:=fun k jx bL bS he=>by
   obtain ⟨_,_,_,_,_,_,_,_,_,_,_,hp,_⟩:=inv.early k jx (((bO k).1 bL).resolve_left bS);have:=hp.lt;omega
  by_cases ke:j=i
  ·by_cases bS:k=i
   ·rw [ke,bS]
   ·simp only [ke,if_true,if_neg bS] at hp;exact absurd hp.symm (one k hk bL bS)
  ·by_cases bS:k=i
   ·simp only [bS,if_true,if_neg ke] at hp;exact absurd hp (one j hj iR ke)
   ·simp only [if_neg ke,if_neg bS] at hp;exact inv.mS j k hj hk (((bO j).1 iR).resolve_left ke) (((bO k).1 bL).resolve_left bS) hp
 ·have aL:o.dst≠some x:=fun hd=>by have:=eY i o ho hd;have h2:=(bO i).2 (.inl rfl);rw [this] at h2;simp at h2
  rw [kd x aL] at aM;exact (inv.un x u' (fun k r hk b6=>(jw k (eY k r hk b6)).2) aM).mono bI.bQ
theorem fill (t:iO X C ops aB th K s H v act) (cT:St w0 (H 0) aC A0) {lst:Nat→Prop} {lo hi:Nat} (hq: ∀j,lo≤j→j≤hi→QG (H j) (H hi)) (hlen: ∀j k,lo≤j→j≤k→k≤hi→(H j).bs.length≤(H k).bs.length)
 (hinj: ∀j k,lo≤j→lo≤k→lst j→lst k→pn j=pn k→j=k) (bI:Out w0 (H 0) aC A0 w (H hi) φ A) (hE: ∀j,lo≤j→lst j→jv C ops aB w0 w φ A a j (pn j)) (hJ: ∀id,(H lo).bs.length≤id→ φ id=none):
 ∀m,lo≤m→m≤hi→ ∃bd,Out w0 (H 0) aC A0 w (H hi) bd A∧bH w (H hi) φ A w (H hi) bd A∧(∀j,lo≤j→j<m→lst j→ ∀(o:Oper) (d:Tmp) (u:Value),ops[j]? =some o→o.dst=some d→a.tmps[d]? =some u→R w (H hi) bd A (v j) u)∧
  (∀id loc,bd id=some loc→ φ id=some loc∨ ∃j,lo≤j∧j<m∧lst j∧(H j).bs.length≤id∧id<(H (j+1)).bs.length)∧(∀j,m≤j→lst j→jv C ops aB w0 w bd A a j (pn j)):=by
 intro m hm;obtain ⟨k,rfl⟩:=Nat.exists_eq_add_of_le hm;clear hm;induction k with
 |zero=>exact fun _=>⟨φ,bI,.refl _ _ _ _,fun j h1 h2=>by omega,fun id loc h=> .inl h,hE⟩
 |succ k ih=>
  intro ss;obtain ⟨bd,k1,k2,k3,k4,k5⟩:=ih (by omega)
  rw [show lo+(k+1)=lo+k+1 by omega] at ss⊢
  have hm:lo≤lo+k:=Nat.le_add_right _ _;generalize lo+k=m at hm ss k3 k4 k5⊢;by_cases hL:lst m
  ·obtain ⟨gH,o,d,sz,el,x,uv,e1,e2,e4,e5,hp,hu⟩:=k5 m (Nat.le_refl _) hL;obtain ⟨_,s2,s3,_,_⟩:=t.step m o (by rw [Array.getElem?_toList];exact e1)
   have eZ:act m=true:=by
    simp only [dr,e2,Option.some.injEq] at s2;exact s2.symm
   have hw:=s3 eZ;obtain ⟨hv,hH⟩:v m=x (H m).bs.length (H m).st∧H (m+1)=(H m).new sz false el:=by
    have:=e5.ev _ _ _ _ _ _ _ rfl hw;exact ⟨this.1.symm,this.2.symm⟩
   have cJ:=hq (m+1) (by omega) (by omega)
   have hb:(H hi).get (H m).bs.length=some ⟨(H m).st,sz,false,el⟩:=by
    refine cJ.1.1.1 _ _ ?_;rw [hH];simp [J.get,J.new]
   have bE:(H m).st<(H hi).st:=by
    have:=cJ.1.1.2;rw [hH] at this;exact this
   have aV:bd (H m).bs.length=none:=by
    cases hc:bd (H m).bs.length with
    |none=>rfl
    |some loc=>
     exfalso;rcases k4 _ _ hc with h|⟨j,h1,h2,_,_,h4⟩
     ·rw [hJ _ (hlen lo m (Nat.le_refl _) hm (by omega))] at h;simp at h
     ·have:=hlen (j+1) m (by omega) (by omega) (by omega)
      omega
   obtain ⟨arr,T,fr,h1,h2,h3,h5⟩:=hp.here
   let cU:ag:=fun i=>if i=(H m).bs.length then some (.at_ (pn m) 0) else bd i
   have dJ: ∀c,Ow cU c→Ow bd c∨c=pn m:=by
    rintro c ⟨i,b0,h⟩;simp only [cU] at h;split at h
    ·simp only [Option.some.injEq,Loc.at_.injEq] at h;exact .inr h.1.symm
    ·exact .inl ⟨i,b0,h⟩
   have aR:bH w (H hi) bd A w (H hi) cU A:=by
    refine ⟨fun c a t fr hc hn=>⟨⟨fr,hc⟩,hn⟩,Nat.le_refl _,fun i b' aw _=>⟨b',aw,rfl,rfl,rfl,rfl,fun loc hl=> ?_⟩,fun _ _=>rfl⟩
    simp only [cU];split
    ·rename_i h;subst h;rw [aV] at hl;simp at hl
    ·exact hl
   have lv:St w (H hi) cU A:=by
    refine ⟨fun i i' c b0 b1 h1 h2=> ?_,fun c hc=> ?_,k1.st.bY,fun i loc hl=> ?_⟩
    ·simp only [cU] at h1 h2;split at h1
     ·rename_i fu;split at h2
      ·rename_i BY;omega
      ·simp only [Option.some.injEq,Loc.at_.injEq] at h1;exact absurd ⟨i',b1,by rw [h1.1];exact h2⟩ hp.ow
     ·split at h2
      ·simp only [Option.some.injEq,Loc.at_.injEq] at h2;exact absurd ⟨i,b0,by rw [h2.1];exact h1⟩ hp.ow
      ·exact k1.st.inj i i' c b0 b1 h1 h2
    ·rcases dJ c hc with h|h
     ·exact k1.st.own c h
     ·rw [h];exact hp.av
    ·simp only [cU] at hl;split at hl
     ·rename_i fu;subst fu;simp only [Option.some.injEq] at hl;subst hl;refine ⟨_,hb,bE,e5.zr,by simp,fun c b0 h=> ?_⟩
      simp only [Loc.at_.injEq] at h;obtain ⟨rfl,rfl⟩:=h;refine ⟨arr,T,fr,h1,h2,by rw [Nat.zero_add];exact h3,fun i x j y v hx hy hv=> ?_⟩
      rw [Nat.zero_add] at hv;obtain ⟨g1,g2⟩:=h5 i x j y v hx hy hv;exact ⟨g1 _ _ _ _,g2⟩
     ·obtain ⟨b',cE,aw⟩:=k1.st.ap i loc hl;refine ⟨b',cE,aw.ad,aw.sized,aw.aQ,fun c b0 h=> ?_⟩;obtain ⟨a,t,fr,h1,h2,h3,h4⟩:=aw.here c b0 h;exact ⟨a,t,fr,h1,h2,h3,fun i x j y v hx hy hv=>⟨(h4 i x j y v hx hy hv).1.mono aR,(h4 i x j y v hx hy hv).2⟩⟩
   have zF:Out w0 (H 0) aC A0 w (H hi) cU A:=by
    refine ⟨lv,⟨k1.post.os,k1.post.tape,k1.post.output,k1.post.size,k1.post.kept,k1.post.a8,fun c hc=> ?_⟩,k1.bQ.trans aR (fun c hc=>k1.post.a8 c (Ow.lt cT hc)),k1.keep⟩;rcases dJ c hc with h|h
    ·exact k1.post.own c h
    ·right;rw [h];exact hp.old
   refine ⟨cU,zF,k2.trans aR (fun _ _=>rfl),fun j j1 j2 j3 o' d' u' q1 q2 q3=> ?_,fun id loc h=> ?_,fun j j1 j2=> ?_⟩
   ·by_cases pM:j=m
    ·subst pM;rw [e1] at q1;simp only [Option.some.injEq] at q1;subst q1;rw [e4] at q2;simp only [Option.some.injEq] at q2;subst q2;rw [hu u' q3,hv]
     exact e5.rel _ _ _ _ _ _ _ hb bE (by simp [cU]) (by unfold a8;rw [h1];exact h3)
    ·exact (k3 j j1 (by omega) j3 o' d' u' q1 q2 q3).mono aR
   ·simp only [cU] at h;split at h
    ·rename_i bN;refine .inr ⟨m,hm,Nat.lt_succ_self _,hL,by omega,?_⟩
     rw [hH];simp [J.new];omega
    ·rcases k4 id loc h with h|⟨j,q1,q2,q3⟩
     ·exact .inl h
     ·exact .inr ⟨j,q1,by omega,q3⟩
   ·obtain ⟨g0,r,d',zG,gx,x',zH,g1,g2,g4,g5,g7,g8⟩:=k5 j (by omega) j2
    refine ⟨g0,r,d',zG,gx,x',zH,g1,g2,g4,g5,⟨g7.old,g7.lt,g7.av,fun h=> ?_,g7.here⟩,g8⟩;rcases dJ _ h with h|h
    ·exact g7.ow h
    ·have:=hinj j m (by omega) hm j2 hL h
     omega
  ·refine ⟨bd,k1,k2,fun j j1 j2 j3=> ?_,fun id loc h=> ?_,fun j j1 j2=>k5 j (by omega) j2⟩
   ·by_cases pM:j=m
    ·subst pM;exact absurd j3 hL
    ·exact k3 j j1 (by omega) j3
   ·rcases k4 id loc h with h|⟨j,q1,q2,q3⟩
    ·exact .inl h
    ·exact .inr ⟨j,q1,by omega,q3⟩
end draw
end Go.VS
namespace Go.VS
section draw
variable {P:Program} {C:aG} {X:bq} {ops:Array Oper} {aB:List Nat} {th:List Nat} {K:aj→J→Prop} {s:Nat→aj} {H:Nat→J} {v:Nat→AV} {act:Nat→Bool}
variable {w0:World} {aC:ag} {A0:ah} {listed:Array Bool} {a:Act} {w:World} {b c:Nat} {φ :ag} {A:ah} {pn:Nat→Nat}
theorem Inv.zI (inv:Inv C ops aB s H v w0 aC A0 listed a w b c φ A pn) (dk:ie ops aB) {i:Nat} {o:Oper} (ho:ops[i]? =some o) (ha: ∀e∈o.after,Region.binds .any e=true→listed.getD e.on false=true):i≤c∨(i∉aB∧o.guard=Option.none∧i_ o.op=true∧ ∃d,o.dst=some d):=by
 rcases Nat.lt_or_ge c i with h|h
 ·have hi:i<ops.size:=(Array.getElem?_eq_some_iff.1 ho).1;rcases inv.cl with hc|hc
  ·omega
  ·have zJ:=Array.getElem?_eq_getElem (xs:=ops) (show c<ops.size by omega)
   rcases dk.after c i _ o zJ ho hc h with hb|hb
   ·exfalso;have hL:=mN inv.shut dk.back i o ho ha c hb;have:=(inv.iP c hc (by omega)).1 hL
    have:=inv.bc;omega
   ·exact .inr hb
 ·exact .inl h
theorem Inv.su (inv:Inv C ops aB s H v w0 aC A0 listed a w b c φ A pn) (cT:St w0 (H 0) aC A0) (dk:ie ops aB) (t:iO X C ops aB th K s H v act) {o:Oper} (ho:ops[c]? =some o) (hl:c∈aB) (ha: ∀e∈o.after,Region.binds .any e=true→listed.getD e.on false=true)
 {u:Value} {w' :World} {φ1:ag} {A1:ah} (bI:Out w (H c) φ A w' (H (c+1)) φ1 A1) (hr:R w' (H (c+1)) φ1 A1 (v c) u): ∃c' bd,Inv C ops aB s H v w0 aC A0 (listed.setIfInBounds c true) (a.put o.dst u) w' (c+1) c' bd A1 pn:=by
 have hi:c<ops.size:=(Array.getElem?_eq_some_iff.1 ho).1;have aA:c<listed.size:=by rw [inv.size];exact hi
 have bO:=mT aA;have zK:=inv.bc;have BZ:listed.getD c false=false:=by
  cases hq:listed.getD c false with
  |false=>rfl
  |true=>have:=(inv.iP c hl hi).1 hq;omega
 have jw: ∀k,(listed.setIfInBounds c true).getD k false=false→k≠c∧listed.getD k false=false:=fun k hk=>by
  have:=(not_congr (bO k)).1 (by rw [hk];simp)
  refine ⟨fun h=>this (.inl h),?_⟩;cases hq:listed.getD k false with
  |false=>rfl
  |true=>exact absurd (.inr hq) this
 have kd: ∀(k:Nat) (r:Oper) (d:Tmp),k≠c→ops[k]? =some r→r.dst=some d→(a.put o.dst u).tmps[d]? =a.tmps[d]? :=fun k r d ec hk b6=>by
  have aL:o.dst≠some d:=dk.gG c k o r d (fun h=>ec h.symm) ho hk b6;cases hd:o.dst with
  |none=>rfl
  |some d' =>
   simp only [Act.put,Array.getElem?_setIfInBounds];rw [if_neg (by rintro rfl;exact aL hd)]
 obtain ⟨c',k1,k2,k3,k4⟩:=pJ aB ops.size (ops.size-(c+1)) (c+1) rfl (by omega)
 have hQ: ∀j k,c+1≤j→j≤k→k≤c' →QG (H j) (H k):=fun j k h1 h2 h3=>by
  have:=ig t (k-j) j (by omega) (fun i i1 i2=>k4 i (by omega) (by omega))
  rwa [show j+(k-j)=k by omega] at this
 have gI:=hQ (c+1) c' (Nat.le_refl _) k1 (Nat.le_refl _)
 have hlen: ∀j k,c+1≤j→j≤k→k≤c' →(H j).bs.length≤(H k).bs.length:=fun j k h1 h2 h3=>(hQ j k h1 h2 h3).1.2
 have hex:=jj bI.st gI.1.1 gI.2;have aR:=bI.bQ.trans hex.bQ (fun k hk=>by rw [(bI.post.trans hex.post).a8 k (Ow.lt inv.out.st hk)])
 have hE: ∀j,c+1≤j→(listed.setIfInBounds c true).getD j false=true→jv C ops aB w0 w' φ1 A1 (a.put o.dst u) j (pn j):=fun j hj hL=>
  (inv.early j (by omega) (((bO j).1 hL).resolve_left (by omega))).mono bI fun r d hk b6=>kd j r d (by omega) hk b6
 obtain ⟨bd,o2,pN,r2,m2,e2⟩:=fill (lst:=fun j=>(listed.setIfInBounds c true).getD j false=true) t cT (fun j h1 h2=>hQ j c' h1 h2 (Nat.le_refl _)) hlen
  (fun j k hj hk iR bL hp=>inv.mS j k (by omega) (by omega) (((bO j).1 iR).resolve_left (by omega)) (((bO k).1 bL).resolve_left (by omega)) hp) ((inv.out.trans cT bI).trans cT hex) hE (fun id h=>bI.st.new h) c' k1 (Nat.le_refl _)
 refine ⟨c',bd,by simp [inv.size],fun k r hk bL e he hb=> ?_,k1,k2,k3,k4,fun k hk lr=> ?_,.inr ⟨by simpa using hl,Nat.succ_pos _⟩,o2,fun k h1 h2 h3 id h4 h5=> ?_,?_,?_,fun k r d u' hk b6 bL zL aM=> ?_,fun k jx bL=>e2 k jx bL,
  fun j k hj hk iR bL hp=>inv.mS j k (by omega) (by omega) (((bO j).1 iR).resolve_left (by omega)) (((bO k).1 bL).resolve_left (by omega)) hp,fun x u' eY aM=> ?_⟩
 ·by_cases ec:k=c
  ·subst ec;rw [ho] at hk;simp only [Option.some.injEq] at hk;subst hk;exact (bO _).2 (.inr (ha e he hb))
  ·exact (bO _).2 (.inr (inv.shut k r hk (((bO k).1 bL).resolve_left ec) e he hb))
 ·rw [bO,inv.iP k hk lr];constructor
  ·rintro (h|h)<;>omega
  ·intro h;by_cases ec:k=c
   ·exact .inl ec
   ·right;rcases Nat.lt_or_ge k b with h' |h'
    ·exact h'
    ·exact absurd hk (inv.ii k h' (by omega))
 ·cases hp:bd id with
  |none=>rfl
  |some loc=>
   exfalso;rcases m2 id loc hp with h|⟨j,j1,j2,j3,j4,j5⟩
   ·rw [bI.st.new (Nat.le_trans (hlen (c+1) k (Nat.le_refl _) h1 (by omega)) h4)] at h;simp at h
   ·have:j=k:=by
     rcases Nat.lt_trichotomy j k with h|h|h
     ·have:=hlen (j+1) k (by omega) (by omega) (by omega);omega
     ·exact h
     ·have:=hlen (k+1) j (by omega) (by omega) (by omega);omega
    subst this;rw [h3] at j3;simp at j3
 ·cases hd:o.dst<;>simp [Act.put,inv.eJ]
 ·cases hd:o.dst<;>simp [Act.put,inv.len]
 ·by_cases bS:k=c
  ·subst bS;rw [ho] at hk;simp only [Option.some.injEq] at hk;subst hk;rw [b6] at aM;simp only [Act.put,Array.getElem?_setIfInBounds] at aM;simp only [if_true] at aM;split at aM
   ·rename_i ax;simp only [Option.some.injEq] at aM;subst aM;exact (hr.mono hex.bQ).mono pN
   ·simp at aM
  ·rcases Nat.lt_or_ge k c with ax|zB
   ·rw [kd k r d bS hk b6] at aM;exact ((inv.wr k r d u' hk b6 (((bO k).1 bL).resolve_left bS) ax aM).mono aR).mono pN
   ·exact r2 k (by omega) zL bL r d u' hk b6 aM
 ·have aL:o.dst≠some x:=fun hd=>by have:=eY c o ho hd;have h2:=(bO c).2 (.inl rfl);rw [this] at h2;simp at h2
  have:a.tmps[x]? =some u' :=by
   cases hd:o.dst with
   |none=>rw [hd] at aM;exact aM
   |some d' =>
    rw [hd] at aM;simp only [Act.put,Array.getElem?_setIfInBounds] at aM;rw [if_neg (by rintro rfl;exact aL hd)] at aM
    exact aM
  exact ((inv.un x u' (fun k r hk b6=>(jw k (eY k r hk b6)).2) this).mono aR).mono pN
theorem zM {op:Op} (h:gS op=true) (hc: ∀c,op≠ .call c):dI op=true:=by
 cases op<;>first|rfl|exact absurd rfl (hc _)|(simp [gS] at h)
theorem zN {X:bq} {C:aG} {th:Bool} {o:Oper} {s:aj} {H H' :J} {x:AV} (hl:gS o.op=true) (h:gR C.E o.op s H=some (x,H')):wpOp X C true th o s H (fun v1 H1=>v1=x∧H1=H'):=by
 unfold wpOp;split
 ·rename_i b args tys bh;rw [bh] at hl h;cases b<;>first|(simp [gS] at hl;done)|skip
  simp only [gR] at h;rw [h];exact ⟨fun _=>rfl,rfl,rfl⟩
 ·rename_i y args tys bh;rw [bh] at hl;simp [gS] at hl
 ·rename_i h1 h2;have hc: ∀c,o.op≠ .call c:=by
   rintro ⟨zO,args,tys⟩ bh;rw [bh] at hl;cases zO with
   |builtin b=>exact h1 _ _ _ bh
   |value f=>exact h2 _ _ _ bh
   |_=>simp [gS] at hl
  have he:gR C.E o.op s H=aP C.E o.op s H:=by
   revert hc;generalize o.op=op;intro hc;cases op<;>first|rfl|exact absurd rfl (hc _)
  rw [he] at h;rw [h];exact ⟨fun _=>zM hl hc,rfl,rfl⟩
def left (ops:Array Oper) (listed:Array Bool):Nat:=((List.range ops.size).filter fun k=> !listed.getD k false).length
theorem zP {ops:Array Oper} {listed:Array Bool} {i:Nat} (hs:listed.size=ops.size) (hi:i<ops.size) (hu:listed.getD i false=false):left ops (listed.setIfInBounds i true)<left ops listed:=by
 have bO:=mT (listed:=listed) (i:=i) (by omega)
 have he:((List.range ops.size).filter fun k=> !(listed.setIfInBounds i true).getD k false)=(((List.range ops.size).filter fun k=> !listed.getD k false).filter fun k=> !(listed.setIfInBounds i true).getD k false):=by
  rw [List.filter_filter];refine List.filter_congr fun k _=> ?_;cases hq:(listed.setIfInBounds i true).getD k false with
  |true=>simp
  |false=>
   have:listed.getD k false=false:=by
    cases mU:listed.getD k false with
    |false=>rfl
    |true=>rw [(bO k).2 (.inr mU)] at hq;simp at hq
   simp only [this,Bool.not_false,Bool.and_self]
 unfold left;rw [he];refine List.length_filter_lt_length_iff_exists.2 ⟨i,List.mem_filter.2 ⟨List.mem_range.2 hi,by rw [hu];rfl⟩,?_⟩
 rw [(bO i).2 (.inl rfl)];simp
theorem zQ (hE: ∀t ti,C.E t=some ti→aS P t ti) (hX: ∀f ys H K,X f ys H K→cb P f ys H K) (dk:ie ops aB) (t:iO X C ops aB th K s H v act) (cT:St w0 (H 0) aC A0) {Q:Exit→Act→World→Prop}
 (hq: ∀s' H' ak A' a' w',Out w0 (H 0) aC A0 w' H' ak A' →SF w' H' ak A' s' a' →K s' H' →Q .normal a' w'):
 ∀(fuel:Nat) (listed:Array Bool) (a:Act) (w:World) (b c:Nat) (φ :ag) (A:ah) (pn:Nat→Nat),Inv C ops aB s H v w0 aC A0 listed a w b c φ A pn→left ops listed≤fuel→wpAny P .any ops Q fuel listed a w:=by
 have done: ∀(listed:Array Bool) (a:Act) (w:World) (b c:Nat) (φ :ag) (A:ah) (pn:Nat→Nat),Inv C ops aB s H v w0 aC A0 listed a w b c φ A pn→Region.ready .any ops listed=[]→Q .normal a w:=by
  intro listed a w b c φ A pn inv hr;have all: ∀k,k<ops.size→listed.getD k false=true:=by
   intro k;induction k using Nat.strongRecOn with
   |_ k ih=>
    intro hk;cases hq:listed.getD k false with
    |true=>rfl
    |false=>
     exfalso;have ho:=Array.getElem?_eq_getElem (xs:=ops) hk;have:k∈Region.ready .any ops listed:=mem_ready.2 ⟨getD_in (by rw [inv.size];exact hk) hq,_,ho,fun e he hb=>by
      have ax:=dk.back k _ ho e he hb;exact ih e.on ax (by omega)⟩
     rw [hr] at this;cases this
  have lu:c=ops.size:=by
   rcases inv.cl with h|h
   ·exact h
   ·rcases Nat.lt_or_ge c ops.size with h' |h'
    ·have:=(inv.iP c h h').1 (all c h');have:=inv.bc;omega
    ·have:=inv.cn;omega
  obtain ⟨hl,hg⟩:=mP dk t ops.size (Nat.le_refl _);have sw:=t.fin;rw [Array.length_toList] at sw;have bI:=inv.out;rw [lu] at bI;refine hq (s ops.size) (H ops.size) φ A a w bI ⟨by rw [hl,inv.len],fun x y u hx hu=> ?_,inv.eJ⟩ sw
  have cq:x<(s 0).length:=by rw [←hl];exact (List.getElem?_eq_some_iff.1 hx).1
  have hy:(s ops.size).getD x .undef=y:=by simp [List.getD,hx]
  by_cases hw: ∃(k:Nat) (r:Oper),ops[k]? =some r∧r.dst=some x
  ·obtain ⟨k,r,hk,hr⟩:=hw;have sx:k<ops.size:=(Array.getElem?_eq_some_iff.1 hk).1;rw [(hg x cq).1 k r sx hk hr] at hy;subst hy;have:=inv.wr k r x u hk hr (all k sx) (by omega) hu
   rw [lu] at this;exact this
  ·rw [(hg x cq).2 (fun k' o' _ ey b5=>hw ⟨k',o',ey,b5⟩)] at hy
   subst hy;have:=inv.un x u (fun k' o' ey b5=>absurd ⟨k',o',ey,b5⟩ hw) hu
   rw [lu] at this;exact this
 intro fuel;induction fuel with
 |zero=>
  intro listed a w b c φ A pn inv hle;have hr:Region.ready .any ops listed=[]:=by
   cases hq:Region.ready .any ops listed with
   |nil=>rfl
   |cons i rs=>
    exfalso;have hm:i∈Region.ready .any ops listed:=by rw [hq];simp
    obtain ⟨hu,o,ho,_⟩:=mem_ready.1 hm;have hi:i<ops.size:=(Array.getElem?_eq_some_iff.1 ho).1;have:i∈((List.range ops.size).filter fun k=> !listed.getD k false):=List.mem_filter.2 ⟨List.mem_range.2 hi,by rw [getD_both hu];rfl⟩
    have:=List.length_pos_of_mem this;unfold left at hle;omega
  exact ⟨hr,done listed a w b c φ A pn inv hr⟩
 |succ fuel ih=>
  intro listed a w b c φ A pn inv hle;refine ⟨done listed a w b c φ A pn inv,fun i hi=> ?_⟩;obtain ⟨iE,o,ho,ha⟩:=mem_ready.1 hi;have hu:=getD_both iE;have cA:i<ops.size:=(Array.getElem?_eq_some_iff.1 ho).1;have B0:=zP inv.size cA hu;have jy:=inv.zI dk ho ha;obtain ⟨st1,st2,mV,sy,B1⟩:=t.step i o (by rw [Array.getElem?_toList];exact ho)
  rw [Nat.zero_add] at mV;by_cases sA:i≤c
  case neg=>
   obtain ⟨gH,hg,he,d,hd⟩:=jy.resolve_left sA;have eZ:act i=true:=by
    simp only [dr,hg,Option.some.injEq] at st2;exact st2.symm
   obtain ⟨sz,el,x,uv,bh,cP⟩:=zt hE he (mV eZ);obtain ⟨arr,T,cP,lp⟩:=cP a w;unfold Go.wpOp;rw [ho];simp only;have hw:Region.wanted o (yielded ops a.tmps)=true:=by simp [Region.wanted,hg]
   rw [if_pos hw];refine .inl ?_;show o.upon P a _ Q _;rw [cP];exact ih _ _ _ _ _ _ _ _ (inv.zD cT dk (by omega) ho hu gH hg hd bh ha lp) (by omega)
  replace jy:=sA;unfold Go.wpOp;rw [ho];simp only;by_cases fZ:i∈aB
  ·
   have fY:i=c:=by
    rcases Nat.lt_or_ge i c with h|h
    ·exfalso;have hb: ¬i<b:=fun h=>by have:=(inv.iP i fZ cA).2 h;rw [hu] at this;simp at this
     exact inv.ii i (by omega) h fZ
    ·omega
   subst fY;have bh:=inv.pL dk t jy ho hu ha (m:=i) (by omega) (Nat.le_refl _) (.inl rfl)
   have hw:=pA (H:=H i) (φ := φ) (A:=A) (w:=w) (s:=s i) (a:=a) (fun j want x hg hx=>inv.look dk t jy ho hu ha (m:=i) (by omega) (Nat.le_refl _) (.inl rfl) (by
    unfold Oper.looksAt;refine List.mem_append.2 (.inr ?_);rw [hg];simp only;rw [hx];simp)) st2
   cases eZ:act i with
   |true=>
    rw [eZ] at hw;rw [if_pos hw];have h3:=mV eZ;rw [show (!aB.contains i)=false by simpa using fZ] at h3
    refine .inl (mC hE hX inv.out.st bh h3 fun x u w' H' ak A' k1 k2 k3=> ?_)
    obtain ⟨rfl,rfl⟩:=k3;obtain ⟨c',bd,pO⟩:=inv.su cT dk t ho fZ ha k1 k2;exact ih _ _ _ _ _ _ _ _ pO (by omega)
   |false=>
    rw [eZ] at hw;rw [if_neg (by rw [hw];simp)]
    obtain ⟨h4,h5⟩:=sy eZ;obtain ⟨c',bd,pO⟩:=inv.su cT dk t ho fZ ha (u:=undef) (w' :=w) (φ1:= φ) (A1:=A) (by rw [h5];exact .refl inv.out.st) (by rw [h4];exact .fr _ _ (.ay [] #[] rfl (by simp)))
    exact ih _ _ _ _ _ _ _ _ pO (by omega)
  ·have fY:i<c:=by
    rcases Nat.lt_or_ge i c with h|h
    ·exact h
    ·have:i=c:=by omega
     subst this;rcases inv.cl with h' |h'
     ·omega
     ·exact absurd h' fZ
   have lu:=inv.cn;rcases Nat.lt_or_ge i b with mW|mW
   ·
    obtain ⟨mX,iG⟩:b-1∈aB∧0<b:=by
     rcases inv.base with h|h
     ·omega
     ·exact h
    have zK:=inv.bc;have mY:=Array.getElem?_eq_getElem (xs:=ops) (show b-1<ops.size by omega)
    have zR:=(inv.iP (b-1) mX (by omega)).2 (by omega)
    have sB:i<b-1:=by
     rcases Nat.lt_or_ge i (b-1) with h|h
     ·exact h
     ·have:i=b-1:=by omega
      subst this;exact absurd mX fZ
    have sC:((fc ops.toList).getD (b-1) 0).testBit i=false:=by
     cases hq:((fc ops.toList).getD (b-1) 0).testBit i with
     |false=>rfl
     |true=>
      have:=mN inv.shut dk.back (b-1) _ mY (inv.shut (b-1) _ mY zR) i hq;rw [hu] at this;simp at this
    obtain ⟨_,hg,dB,⟨d,hd⟩,zS⟩:=dk.late (b-1) i _ o mY ho mX sB sC
    obtain ⟨_,_,_,_,sD⟩:=t.step (b-1) _ (by rw [Array.getElem?_toList];exact mY)
    rw [Nat.zero_add,show b-1+1=b by omega] at sD
    have mZ:=sD i (by
     unfold fJ;rw [if_pos (by simpa using mX)]
     exact List.mem_filter.2 ⟨List.mem_range.2 sB,by rw [sC];rfl⟩)
    unfold jM at mZ;rw [ho] at mZ;simp only [hd] at mZ;have bh:=inv.pL dk t jy ho hu ha (m:=b) (by omega) (by omega) (.inr zS)
    have gI:=ig t (c-b) b (by omega) (fun k h1 h2=>inv.ii k h1 (by omega))
    rw [show b+(c-b)=c by omega] at gI
    have hw:Region.wanted o (yielded ops a.tmps)=true:=by simp [Region.wanted,hg]
    rw [if_pos hw];refine .inl (VS.kb (th:=false) hE hX inv.out.st bh gI.1.1 ⟨gI.1.1,fun id h1 h2=>absurd h2 (Nat.not_lt.2 h1)⟩ (zN dB mZ) fun u w' ak A' k1 k2 k3=> ?_)
    refine ih _ _ _ _ _ _ _ _ (inv.kb cT dk t fY ho fZ ha k1 (fun d' b5 ax=> ?_) (fun id loc h=> ?_)) (by omega)
    ·rw [hd] at b5;simp only [Option.some.injEq] at b5;subst b5;rw [←((mP dk t b (by omega)).2 d (by rw [inv.len];exact ax)).1 i o mW ho hd]
     exact k2
    ·rcases k3 id loc h with h|⟨h1,h2⟩
     ·exact .inl h
     ·omega
   ·
    have bh:=inv.pL dk t jy ho hu ha (m:=i) (by omega) (Nat.le_refl _) (.inl rfl)
    have hw:=pA (H:=H c) (φ := φ) (A:=A) (w:=w) (s:=s i) (a:=a) (fun j want x hg hx=>inv.look dk t jy ho hu ha (m:=i) (by omega) (Nat.le_refl _) (.inl rfl) (by
     unfold Oper.looksAt;refine List.mem_append.2 (.inr ?_);rw [hg];simp only;rw [hx];simp)) st2
    cases eZ:act i with
    |true=>
     rw [eZ] at hw;rw [if_pos hw];have h3:=mV eZ;have gH:(!aB.contains i)=true:=by simpa using fZ
     rw [gH] at h3;have ib:=ig t (c-i) i (by omega) (fun k h1 h2=>inv.ii k (by omega) (by omega))
     rw [show i+(c-i)=c by omega] at ib
     have mU:=ig t (c-(i+1)) (i+1) (by omega) (fun k h1 h2=>inv.ii k (by omega) (by omega))
     rw [show i+1+(c-(i+1))=c by omega] at mU
     refine .inl (VS.kb hE hX inv.out.st bh ib.1.1 ⟨mU.1.1,fun id h1 h2=>inv.none i mW fY hu id h1 h2⟩ h3 fun u w' ak A' k1 k2 k3=> ?_)
     refine ih _ _ _ _ _ _ _ _ (inv.kb cT dk t fY ho fZ ha k1 (fun d' _ _=>k2) (fun id loc h=> ?_)) (by omega)
     rcases k3 id loc h with h|h
     ·exact .inl h
     ·exact .inr ⟨mW,fY,h⟩
    |false=>
     rw [eZ] at hw;rw [if_neg (by rw [hw];simp)]
     obtain ⟨h4,h5⟩:=sy eZ;refine ih _ _ _ _ _ _ _ _ (inv.kb cT dk t fY ho fZ ha (.refl inv.out.st) (fun d' _ _=>by rw [h4];exact .fr _ _ (.ay [] #[] rfl (by simp))) (fun id loc h=> .inl h)) (by omega)
theorem sE (dj:Exact X) (_hm:P.follows .mixedOrders=true) (hE: ∀t ti,C.E t=some ti→aS P t ti) (hX: ∀f ys H K,X f ys H K→cb P f ys H K):mH P C X:=by
 intro ops aB th s0 H0 K Q w φ A a hd h ae hs hq;have dk:=zp hd;obtain ⟨s,H,v,act,rfl,rfl,t⟩:=si dj ops.toList 0 s0 H0 h;have aR:bH w (H 0) φ A {w with drawn:=w.drawn+1} (H 0) φ A:=⟨fun c arr T fr hc hn=>⟨⟨fr,hc⟩,hn⟩,Nat.le_refl _,fun id b h _=>⟨b,h,rfl,rfl,rfl,rfl,fun _ h=>h⟩,fun _ _=>rfl⟩;have jz:St {w with drawn:=w.drawn+1} (H 0) φ A:=by
  refine ⟨ae.inj,ae.own,ae.bY,fun id loc hl=> ?_⟩;obtain ⟨b,hb,af⟩:=ae.ap id loc hl;refine ⟨b,hb,af.ad,af.sized,af.aQ,fun c b0 he=> ?_⟩;obtain ⟨arr,T,fr,k1,k2,k3,k4⟩:=af.here c b0 he;exact ⟨arr,T,fr,k1,k2,k3,fun i x j y v hx hy hv=>⟨(k4 i x j y v hx hy hv).1.mono aR,(k4 i x j y v hx hy hv).2⟩⟩
 have sF:Out w (H 0) φ A {w with drawn:=w.drawn+1} (H 0) φ A:=⟨jz,⟨rfl,rfl,rfl,Nat.le_refl _,fun _ _ _=>rfl,fun _ _=>rfl,fun _ h=> .inl h⟩,aR,fun _ h _=>h⟩;obtain ⟨c,k1,k2,k3,k4⟩:=pJ aB ops.size (ops.size-0) 0 rfl (Nat.zero_le _);have gI:=ig t c 0 (by omega) (fun k h1 h2=>k4 k h1 (by omega))
 rw [Nat.zero_add] at gI;have hex:=jj jz gI.1.1 gI.2;refine zQ hE hX dk t ae hq ops.size _ a _ 0 c φ A (fun _=>0) ⟨by simp,fun i o ho hl=>by have cZ:(Array.replicate ops.size false).getD i false=true:=hl;rw [getD_replicate_false] at cZ;simp at cZ,k1,k2,k3,k4,fun i _ _=>by rw [getD_replicate_false];simp,.inl rfl,sF.trans ae hex,fun i _ _ _ id h4 h5=> ?_,hs.eJ,hs.len,fun k o d u _ _ hl=>by rw [getD_replicate_false] at hl;simp at hl,fun k _ hl=>by rw [getD_replicate_false] at hl;simp at hl,fun j k _ _ hl=>by rw [getD_replicate_false] at hl;simp at hl,fun x u _ hu=> ?_⟩ ?_
 ·refine ae.new ?_;rename_i h1 h2 h3;have:=(ig t i 0 (by omega) (fun k h1 h2=>k4 k h1 (by omega))).1.2
  rw [Nat.zero_add] at this;omega
 ·have hx:=(hs.mono (sF.bQ.trans hex.bQ (fun _ _=>rfl))).ev (.tmp x);simp only [ev,Act.eval] at hx;rw [Array.getD_eq_getD_getElem?,hu] at hx;exact hx
 ·unfold left;exact Nat.le_trans (List.length_filter_le _ _) (by simp)
end draw
end Go.VS
namespace Go.VS
section mono
variable {X X' :bq} {C:aG} (hX: ∀f ys H (K K' :AV→J→Prop),(∀v H,K v H→K' v H)→X f ys H K→X' f ys H K')
include hX
theorem sG {f:FuncId} {args:List AV} {th:Bool} {H:J} {K K' :AV→J→Prop} (hK: ∀v H,K v H→K' v H) (h:dq X C f args th H K):dq X' C f args th H K' :=by
 unfold dq at h⊢;split at h
 ·exact h.elim
 rename_i ys bV hy;obtain ⟨y,h1,h2,h3⟩:=h;refine ⟨y,hX _ _ _ _ _ (fun _ _ h=>h) h1,h2,?_⟩;split at h3
 ·rename_i ht;rw [if_pos ht];exact hK _ _ h3
 ·rename_i ht;rw [if_neg ht];exact hK _ _ h3
theorem ij {q th:Bool} {o:Oper} {s:aj} {H:J} {K K' :AV→J→Prop} (hK: ∀v H,K v H→K' v H) (h:wpOp X C q th o s H K):wpOp X' C q th o s H K' :=by
 unfold wpOp at h⊢;split at h
 ·obtain ⟨hq,h⟩:=h;refine ⟨hq,?_⟩;split at h
  ·exact hK _ _ h
  ·exact h.elim
 ·split at h
  ·cases q with
   |true=>exact sG hX hK h
   |false=>
    rcases h with h|h
    ·exact .inl (hX _ _ _ _ _ hK h)
    ·exact .inr (sG hX hK h)
  ·exact h.elim
 ·obtain ⟨hq,h⟩:=h;refine ⟨hq,?_⟩;split at h
  ·exact hK _ _ h
  ·exact h.elim
omit hX in
theorem lx {ops:Array Oper} {s:aj} {H:J} {K K' :Prop} (hK:K→K'): ∀(l:List Nat),fb C ops s H K l→fb C ops s H K' l
 |[],h=>hK h
 |_j::js,h=>⟨h.1,lx hK js h.2⟩
theorem m_ {ops:Array Oper} {q:Nat→Bool} {late:Nat→List Nat} {th:List Nat} {K K' :aj→J→Prop} (hK: ∀s H,K s H→K' s H): ∀(l:List Oper) (i:Nat) (s:aj) (H:J),cY X C ops q late th K l i s H→cY X' C ops q late th K' l i s H
 |[],i,s,H,h=>hK s H h
 |o::rest,i,s,H,h=>by
  simp only [cY] at h⊢;cases hg:o.guard with
  |none=>
   rw [hg] at h;exact ij hX (fun v H' hv=>lx (m_ hK rest (i+1) _ _) _ hv) h
  |some p=>
   rw [hg] at h;obtain ⟨v,H',h1,h2⟩:=h;refine ⟨v,H',?_,lx (m_ hK rest (i+1) _ _) _ h2⟩;split at h1
   ·split at h1
    ·rename_i hb;simp only [hb,if_true];exact ij hX (fun _ _ h=>h) h1
    ·rename_i hb;simp only [hb];exact h1
   ·exact h1.elim
theorem na {ops:Array Oper} {th:List Nat} {fz:List (Nat×List (List Nat×List Sh))} {K K' :aj→J→Prop} (hK: ∀s H,K s H→K' s H): ∀(l:List Oper) (i:Nat) (s:aj) (H:J),cO X C ops th fz K l i s H→cO X' C ops th fz K' l i s H
 |[],i,s,H,h=>hK s H h
 |o::rest,i,s,H,h=>by
  simp only [cO] at h⊢;obtain ⟨s1,H1,hf,h⟩:=h;refine ⟨s1,H1,hf,?_⟩;cases hg:o.guard with
  |none=>
   rw [hg] at h;exact ij hX (fun v H' hv=>na hK rest (i+1) _ _ hv) h
  |some p=>
   rw [hg] at h;obtain ⟨v,H',h1,h2⟩:=h;refine ⟨v,H',?_,na hK rest (i+1) _ _ h2⟩;split at h1
   ·split at h1
    ·rename_i hb;simp only [hb,if_true];exact ij hX (fun _ _ h=>h) h1
    ·rename_i hb;simp only [hb];exact h1
   ·exact h1.elim
theorem ez: ∀(c:AC) (s:aj) (H:J) (K K' :Ex→aj→J→Prop),(∀e s H,K e s H→K' e s H)→aJ X C c s H K→aJ X' C c s H K' :=by
 intro c;induction c with
 |skip=>intro s H K K' hK h;exact hK _ _ _ h
 |ret=>intro s H K K' hK h;exact hK _ _ _ h
 |exit id=>intro s H K K' hK h;exact hK _ _ _ h
 |seq a b f_ ga=>
  intro s H K K' hK h
  simp only [aJ] at h⊢;refine f_ s H _ _ (fun e s' H' h=> ?_) h
  cases e with
  |normal=>exact ga s' H' K K' hK h
  |exit id=>exact hK _ _ _ h
  |ret=>exact hK _ _ _ h
 |cond c a b f_ ga=>
  intro s H K K' hK h
  simp only [aJ] at h⊢;split at h
  ·split at h
   ·rename_i hb;simp only [hb,if_true];exact f_ s H K K' hK h
   ·rename_i hb;simp only [hb];exact ga s H K K' hK h
  ·exact h.elim
 |block id keep a ih=>
  intro s H K K' hK h
  simp only [aJ] at h⊢;refine ih s H _ _ (fun e s' H' h=> ?_) h
  cases e with
  |normal=>exact hK _ _ _ h
  |ret=>exact hK _ _ _ h
  |exit j=>
   simp only at h⊢;split at h
   ·rename_i hj;rw [if_pos hj];exact hK _ _ _ h
   ·rename_i hj;rw [if_neg hj];exact hK _ _ _ h
 |loop sp a ih=>
  intro s H K K' hK h
  simp only [aJ] at h⊢;intro Y hY;refine h Y fun s' H' hB=>hY s' H' (ih s' H' _ _ (fun e s2 H2 h=> ?_) hB)
  cases e with
  |normal=>exact h
  |exit id=>exact hK _ _ _ h
  |ret=>exact hK _ _ _ h
 |region id ops draw aB th fz=>
  intro s H K K' hK h
  cases draw with
  |true=>
   simp only [aJ] at h⊢;exact ⟨h.1,m_ hX (fun s H h=>hK _ s H h) _ _ _ _ h.2⟩
  |false=>
   simp only [aJ] at h⊢;exact na hX (fun s H h=>hK _ s H h) _ _ _ _ h
 |fF l kp=>
  intro s H K K' hK h
  simp only [aJ] at h⊢;split at h
  ·exact hK _ _ _ h
  ·exact h
 |bad=>intro s H K K' hK h;exact h
end mono
def Up (X:bq):Prop:= ∀f ys H (K K' :AV→J→Prop),(∀v H,K v H→K' v H)→X f ys H K→X f ys H K'
theorem iZ.round {X:bq} (hU:Up X) {C:aG} {c:AC} {next:aj→J→aj×J} {K:Ex→aj→J→Prop} {s:aj} {H:J}
 (h:aJ X C c s H (fun e s' H' =>match e with
  | .normal=>iZ (aJ X C c) next K (next s' H').1 (next s' H').2
  |e=>K e s' H')):iZ (aJ X C c) next K s H:=by
 intro Y hY;refine hY s H (ez hU c s H _ _ (fun e s' H' h=> ?_) h)
 cases e with
 |normal=>exact h Y hY
 |exit id=>exact h
 |ret=>exact h
theorem sH {X:bq} {C:aG} (hU:Up X) (dj:Exact X) {ops:Array Oper} {q:Nat→Bool} {late:Nat→List Nat} {th:List Nat} {K:aj→J→Prop}: ∀(l:List Oper) (i:Nat) (s:aj) (H:J),cY X C ops q late th K l i s H→ ∃s' H',cY X C ops q late th (fun s1 H1=>s1=s' ∧H1=H') l i s H∧K s' H'
 |[],i,s,H,h=>⟨s,H,⟨rfl,rfl⟩,h⟩
 |o::rest,i,s,H,h=>by
  have sI: ∀(ls:List Nat) (s1:aj) (H1:J),fb C ops s1 H1 (cY X C ops q late th K rest (i+1) s1 H1) ls→ ∃s' H',fb C ops s1 H1 (cY X C ops q late th (fun s1 H1=>s1=s' ∧H1=H') rest (i+1) s1 H1) ls∧K s' H' :=by
   intro ls s1 H1 h;obtain ⟨h1,h2⟩:=mM _ _ _ _ _ _ h;obtain ⟨s',H',h3,h4⟩:=sH hU dj rest (i+1) s1 H1 h2;refine ⟨s',H',?_,h4⟩;clear h h2 h4;induction ls with
   |nil=>exact h3
   |cons j js ih=>exact ⟨h1 j (by simp),ih fun k hk=>h1 k (by simp [hk])⟩
  simp only [cY] at h⊢;cases hg:o.guard with
  |none=>
   rw [hg] at h;simp only at h⊢;obtain ⟨v,H1,h1,h2⟩:=ll dj h;obtain ⟨s',H',h3,h4⟩:=sI _ _ _ h2;exact ⟨s',H',ij hU (fun v1 H2 e=>by obtain ⟨rfl,rfl⟩:=e;exact h3) h1,h4⟩
  |some p=>
   rw [hg] at h;simp only at h⊢;obtain ⟨v,H1,h1,h2⟩:=h;obtain ⟨s',H',h3,h4⟩:=sI _ _ _ h2;exact ⟨s',H',⟨v,H1,h1,h3⟩,h4⟩
theorem pP {X:bq} {C:aG} (hU:Up X) (dj:Exact X) {ops:Array Oper} {th:List Nat} {fz:List (Nat×List (List Nat×List Sh))} {K:aj→J→Prop}: ∀(l:List Oper) (i:Nat) (s:aj) (H:J),cO X C ops th fz K l i s H→ ∃s' H',cO X C ops th fz (fun s1 H1=>s1=s' ∧H1=H') l i s H∧K s' H'
 |[],i,s,H,h=>⟨s,H,⟨rfl,rfl⟩,h⟩
 |o::rest,i,s,H,h=>by
  simp only [cO] at h⊢;obtain ⟨s0,H0,hf,h⟩:=h;cases hg:o.guard with
  |none=>
   rw [hg] at h;simp only at h⊢;obtain ⟨v,H1,h1,h2⟩:=ll dj h;obtain ⟨s',H',h3,h4⟩:=pP hU dj rest (i+1) _ _ h2;exact ⟨s',H',⟨s0,H0,hf,ij hU (fun v1 H2 e=>by obtain ⟨rfl,rfl⟩:=e;exact h3) h1⟩,h4⟩
  |some p=>
   rw [hg] at h;simp only at h⊢;obtain ⟨v,H1,h1,h2⟩:=h;obtain ⟨s',H',h3,h4⟩:=pP hU dj rest (i+1) _ _ h2;exact ⟨s',H',⟨s0,H0,hf,v,H1,h1,h3⟩,h4⟩
theorem zT {X:bq} {C:aG} (hU:Up X) (dj:Exact X): ∀(c:AC) (s:aj) (H:J) (K:Ex→aj→J→Prop),aJ X C c s H K→ ∃e s' H',aJ X C c s H (fun e1 s1 H1=>e1=e∧s1=s' ∧H1=H')∧K e s' H' :=by
 intro c;induction c with
 |skip=>intro s H K h;exact ⟨_,_,_,⟨rfl,rfl,rfl⟩,h⟩
 |ret=>intro s H K h;exact ⟨_,_,_,⟨rfl,rfl,rfl⟩,h⟩
 |exit id=>intro s H K h;exact ⟨_,_,_,⟨rfl,rfl,rfl⟩,h⟩
 |seq a b f_ ga=>
  intro s H K h;simp only [aJ] at h⊢;obtain ⟨e,s1,H1,h1,h2⟩:=f_ s H _ h;cases e with
  |normal=>
   obtain ⟨e,s2,H2,h3,h4⟩:=ga s1 H1 K h2;exact ⟨e,s2,H2,ez hU a s H _ _ (fun e1 s' H' q=>by obtain ⟨rfl,rfl,rfl⟩:=q;exact h3) h1,h4⟩
  |exit id=>exact ⟨.exit id,s1,H1,ez hU a s H _ _ (fun e1 s' H' q=>by obtain ⟨rfl,rfl,rfl⟩:=q;exact ⟨rfl,rfl,rfl⟩) h1,h2⟩
  |ret=>exact ⟨.ret,s1,H1,ez hU a s H _ _ (fun e1 s' H' q=>by obtain ⟨rfl,rfl,rfl⟩:=q;exact ⟨rfl,rfl,rfl⟩) h1,h2⟩
 |cond c a b f_ ga=>
  intro s H K h;simp only [aJ] at h⊢;split at h
  ·split at h
   ·rename_i hb;simp only [hb,if_true];exact f_ s H K h
   ·rename_i hb;simp only [hb];exact ga s H K h
  ·exact h.elim
 |block id keep a ih=>
  intro s H K h;simp only [aJ] at h⊢;obtain ⟨e,s1,H1,h1,h2⟩:=ih s H _ h;cases e with
  |normal=>exact ⟨.normal,dZ keep s1,H1,ez hU a s H _ _ (fun e1 s' H' q=>by obtain ⟨rfl,rfl,rfl⟩:=q;exact ⟨rfl,rfl,rfl⟩) h1,h2⟩
  |ret=>exact ⟨.ret,s1,H1,ez hU a s H _ _ (fun e1 s' H' q=>by obtain ⟨rfl,rfl,rfl⟩:=q;exact ⟨rfl,rfl,rfl⟩) h1,h2⟩
  |exit j=>
   simp only at h2;split at h2
   ·rename_i hj;exact ⟨.normal,dZ keep s1,H1,ez hU a s H _ _ (fun e1 s' H' q=>by obtain ⟨rfl,rfl,rfl⟩:=q;simp [hj]) h1,h2⟩
   ·rename_i hj;exact ⟨.exit j,s1,H1,ez hU a s H _ _ (fun e1 s' H' q=>by obtain ⟨rfl,rfl,rfl⟩:=q;simp [hj]) h1,h2⟩
 |loop sp a ih=>
  intro s H K h;simp only [aJ] at h⊢;refine h (fun s1 H1=> ∃e s' H',iZ (aJ X C a) (gT sp H.bs.length) (fun e1 s2 H2=>e1=e∧s2=s' ∧H2=H') s1 H1∧K e s' H') fun s1 H1 hB=> ?_
  obtain ⟨e,s2,H2,h1,h2⟩:=ih s1 H1 _ hB;cases e with
  |normal=>
   obtain ⟨e,s',H',h3,h4⟩:=h2;exact ⟨e,s',H',.round hU (ez hU a s1 H1 _ _ (fun e1 s' H' q=>by obtain ⟨rfl,rfl,rfl⟩:=q;exact h3) h1),h4⟩
  |exit id=>exact ⟨_,_,_,.round hU (ez hU a s1 H1 _ _ (fun e1 s' H' q=>by obtain ⟨rfl,rfl,rfl⟩:=q;exact ⟨rfl,rfl,rfl⟩) h1),h2⟩
  |ret=>exact ⟨_,_,_,.round hU (ez hU a s1 H1 _ _ (fun e1 s' H' q=>by obtain ⟨rfl,rfl,rfl⟩:=q;exact ⟨rfl,rfl,rfl⟩) h1),h2⟩
 |region id ops draw aB th fz=>
  intro s H K h;cases draw with
  |true=>
   simp only [aJ] at h⊢;obtain ⟨s',H',h1,h2⟩:=sH hU dj _ _ _ _ h.2;exact ⟨.normal,s',H',⟨h.1,m_ hU (fun s H q=>⟨rfl,q⟩) _ _ _ _ h1⟩,h2⟩
  |false=>
   simp only [aJ] at h⊢;obtain ⟨s',H',h1,h2⟩:=pP hU dj _ _ _ _ h;exact ⟨.normal,s',H',na hU (fun s H q=>⟨rfl,q⟩) _ _ _ _ h1,h2⟩
 |fF l kp=>
  intro s H K h;simp only [aJ] at h⊢;split at h
  ·rename_i s' H' he;exact ⟨_,_,_,⟨rfl,rfl,rfl⟩,h⟩
  ·exact h.elim
 |bad=>intro s H K h;exact h.elim
theorem eR.mono {E:aK} {res:List ResultVar} {K K' :AV→J→Prop} (hK: ∀v H,K v H→K' v H): ∀e s H,eR E res K e s H→eR E res K' e s H
 | .normal,_,_,⟨rs,h1,h2⟩=>⟨rs,h1,hK _ _ h2⟩
 | .ret,_,_,⟨rs,h1,h2⟩=>⟨rs,h1,hK _ _ h2⟩
 | .exit _,_,_,h=>h
theorem eR.exact {E:aK} {res:List ResultVar} {K:AV→J→Prop}: ∀e s H,eR E res K e s H→ ∃v H',eR E res (fun v1 H1=>v1=v∧H1=H') e s H∧K v H'
 | .normal,_,_,⟨rs,h1,h2⟩=>⟨_,_,⟨rs,h1,rfl,rfl⟩,h2⟩
 | .ret,_,_,⟨rs,h1,h2⟩=>⟨_,_,⟨rs,h1,rfl,rfl⟩,h2⟩
 | .exit _,_,_,h=>h.elim
theorem sJ {X:bq} {C:aG} (hU:Up X) (dj:Exact X) {f:FuncId} {ys:List AV} {H:J} {K:AV→J→Prop} (h:Body X C f ys H K): ∃v H',Body X C f ys H (fun v1 H1=>v1=v∧H1=H')∧K v H' :=by
 unfold Body at h⊢;split at h
 ·exact h.elim
 ·rename_i fn kG;split at h
  ·exact h.elim
  ·rename_i c hc;obtain ⟨e,s',H',h1,h2⟩:=zT hU dj _ _ _ _ h;obtain ⟨v,H2,h3,h4⟩:=eR.exact _ _ _ h2;refine ⟨v,H2,?_,h4⟩;exact ez hU _ _ _ _ _ (fun e1 s1 H1 q=>by obtain ⟨rfl,rfl,rfl⟩:=q;exact h3) h1
theorem Body.mono {X X' :bq} {C:aG} (hX: ∀f ys H (K K' :AV→J→Prop),(∀v H,K v H→K' v H)→X f ys H K→X' f ys H K') {f:FuncId} {ys:List AV} {H:J} {K K' :AV→J→Prop} (hK: ∀v H,K v H→K' v H) (h:Body X C f ys H K):Body X' C f ys H K' :=by
 unfold Body at h⊢;split at h
 ·exact h.elim
 ·rename_i fn kG;split at h
  ·exact h.elim
  ·rename_i c hc;exact ez hX _ _ _ _ _ (eR.mono hK) h
def nb (C:aG):Prop:=Up C.ext
theorem aq.up {C:aG} (hE:nb C):Up (aq C):=by
 intro f ys H K K' hK h
 refine h (fun f ys H K=> ∀K',(∀v H,K v H→K' v H)→aq C f ys H K') ⟨fun f ys H K h K' hK X hX=>hX.1 _ _ _ _ (hE _ _ _ _ _ hK h),fun f ys H K h K' hK X hX=> ?_⟩ K' hK
 refine hX.2 _ _ _ _ (Body.mono (fun f ys H K K2 zU h=> ?_) hK h);exact h K2 zU X hX
theorem aq.intro {C:aG} (hE:nb C) {f:FuncId} {ys:List AV} {H:J} {K:AV→J→Prop} (h:Body (aq C) C f ys H K):aq C f ys H K:=by
 intro X hX;refine hX.2 _ _ _ _ (Body.mono (fun f ys H K K' hK hc=> ?_) (fun _ _ h=>h) h)
 exact aq.up hE _ _ _ _ _ hK hc X hX
theorem aq.exact {C:aG} (hE:nb C) (hX:Exact C.ext):Exact (aq C):=by
 intro f ys H K h;refine h (fun f ys H K=> ∃v H',aq C f ys H (fun v1 H1=>v1=v∧H1=H')∧K v H') ⟨fun f ys H K h=> ?_,fun f ys H K h=> ?_⟩
 ·obtain ⟨v,H',h1,h2⟩:=hX _ _ _ _ h;exact ⟨v,H',fun X hX=>hX.1 _ _ _ _ h1,h2⟩
 ·obtain ⟨v,H',h1,h2⟩:=sJ (X:=fun f ys H K=> ∃v H',aq C f ys H (fun v1 H1=>v1=v∧H1=H')∧K v H') (fun f ys H K K' hK ⟨v,H',h1,h2⟩=>⟨v,H',h1,hK _ _ h2⟩) (fun f ys H K ⟨v,H',h1,h2⟩=>⟨v,H',⟨v,H',h1,rfl,rfl⟩,h2⟩) h
  refine ⟨v,H',aq.intro hE (Body.mono (fun f ys H K K' hK ⟨v,H',h1,h2⟩=> ?_) (fun _ _ h=>h) h1),h2⟩
  exact aq.up hE _ _ _ _ _ (fun v1 H1 q=>by obtain ⟨rfl,rfl⟩:=q;exact hK _ _ h2) h1
theorem aq.ext {C:aG} {f:FuncId} {ys:List AV} {H:J} {K:AV→J→Prop} (h:C.ext f ys H K):aq C f ys H K:=fun _ hX=>hX.1 _ _ _ _ h
theorem B2 {P:Program} {C:aG} (hm:P.follows .mixedOrders=true) (hE: ∀t ti,C.E t=some ti→aS P t ti) (hC: ∀f fn,C.code f=some fn→P.funcs[f]? =some fn∧(fn.name== "runtime.NumGoroutine")=false∧nN (C.fH f) fn=true)
 (zV: ∀f ys H K,C.ext f ys H K→ ∃v H',cb P f ys H (fun v1 H1=>v1=v∧H1=H')∧K v H')
 {f:FuncId} {ys:List AV} {H:J} {K:AV→J→Prop} (h:aq C f ys H K):cb P f ys H K:=by
 have hY: ∃v H',cb P f ys H (fun v1 H1=>v1=v∧H1=H')∧K v H' :=by
  let Y:bq:=fun f ys H K=> ∃v H',cb P f ys H (fun v1 H1=>v1=v∧H1=H')∧K v H'
  have sK:Exact Y:=fun f ys H K ⟨v,H',h1,h2⟩=>⟨v,H',⟨v,H',h1,rfl,rfl⟩,h2⟩;have zW:Up Y:=fun f ys H K K' hK ⟨v,H',h1,h2⟩=>⟨v,H',h1,hK _ _ h2⟩
  have sL: ∀f ys H K,Y f ys H K→cb P f ys H K:=fun f ys H K ⟨v,H',h1,h2⟩=>h1.mono fun v1 H1 q=>by obtain ⟨rfl,rfl⟩:=q;exact h2
  refine h Y ⟨zV,fun f ys H K hb=> ?_⟩;obtain ⟨v,H',h1,h2⟩:=sJ zW sK hb;exact ⟨v,H',zf hm hE hC sL (sE sK hm hE sL) h1,h2⟩
 obtain ⟨v,H',h1,h2⟩:=hY;exact h1.mono fun v1 H1 q=>by obtain ⟨rfl,rfl⟩:=q;exact h2
end Go.VS
namespace Go.VS
structure Good (C:aG):Prop where
 up:nb C
 exact:Exact C.ext
def ly (C:aG) (b:AC) (K:Ex→aj→J→Prop):Ex→aj→J→Prop
 | .normal,s,H=>aJ (aq C) C b s H K
 | .exit i,s,H=>K (.exit i) s H
 | .ret,s,H=>K .ret s H
def jA (id:Nat) (keep:Option (List Nat)) (K:Ex→aj→J→Prop):Ex→aj→J→Prop
 | .normal,s,H=>K .normal (dZ keep s) H
 | .exit j,s,H=>if j=id then K .normal (dZ keep s) H else K (.exit j) s H
 | .ret,s,H=>K .ret s H
def sM (C:aG) (v:AV) (a b:AC) (s:aj) (H:J) (K:Ex→aj→J→Prop):Prop:=
 match v with
 | .bool t=>if t then aJ (aq C) C a s H K else aJ (aq C) C b s H K
 |_=>False
section
variable {C:aG} {K K1:Ex→aj→J→Prop} {s:aj} {H:J}
theorem B3 {a b:AC} (h: ∀K1,K1=ly C b K→aJ (aq C) C a s H K1):aJ (aq C) C (.seq a b) s H K:=by
 have:=h _ rfl;have e:ly C b K=(fun e s' H' =>match e with| .normal=>aJ (aq C) C b s' H' K|e=>K e s' H'):=by
  funext e s H;cases e<;>rfl
 rw [e] at this;exact this
theorem B4 {id:Nat} {kp:Option (List Nat)} {a:AC} (h: ∀K1,K1=jA id kp K→aJ (aq C) C a s H K1):aJ (aq C) C (.block id kp a) s H K:=by
 have:=h _ rfl;have e:jA id kp K=(fun e s' H' =>match e with
  | .exit j=>if j=id then K .normal (dZ kp s') H' else K (.exit j) s' H'
  | .normal=>K .normal (dZ kp s') H'
  | .ret=>K .ret s' H'):=by funext e s H;cases e<;>rfl
 rw [e] at this;exact this
theorem B5 (h:K .normal s H):aJ (aq C) C .skip s H K:=h
theorem B6 (h:K .ret s H):aJ (aq C) C .ret s H K:=h
theorem B7 {id:Nat} (h:K (.exit id) s H):aJ (aq C) C (.exit id) s H K:=h
theorem B8 {c:Operand} {a b:AC} (h:sM C (ev s c) a b s H K):aJ (aq C) C (.cond c a b) s H K:=h
theorem zX {l:List (List Nat×List Sh)} {kp:Option (List Nat)} {s' :aj} {H' :J} (he:dt l s H=some (s',H')) (h:K .normal (dZ kp s') H'):aJ (aq C) C (.fF l kp) s H K:=by
 simp only [aJ,he];exact h
theorem B9 {kp:List Nat} (h:K .normal (eE kp s) H):aJ (aq C) C (.fF [] (some kp)) s H K:=h
theorem B_ {b:AC} (hK:K1=ly C b K) (h:aJ (aq C) C b s H K):K1 .normal s H:=by rw [hK];exact h
theorem Ca {b:AC} (hK:K1=ly C b K) (h:K .ret s H):K1 .ret s H:=by rw [hK];exact h
theorem Cb {b:AC} {i:Nat} (hK:K1=ly C b K) (h:K (.exit i) s H):K1 (.exit i) s H:=by rw [hK];exact h
theorem Cc {id:Nat} {kp:Option (List Nat)} (hK:K1=jA id kp K) (h:K .normal (dZ kp s) H):K1 .normal s H:=by rw [hK];exact h
theorem Cd {id:Nat} (hK:K1=jA id none K) (h:K .normal s H):K1 .normal s H:=by rw [hK];exact h
theorem Ce {id:Nat} {kp:Option (List Nat)} (hK:K1=jA id kp K) (h:K .normal (dZ kp s) H):K1 (.exit id) s H:=by rw [hK];simp only [jA,if_true];exact h
theorem Cf {id:Nat} {kp:Option (List Nat)} (hK:K1=jA id kp K) (h:K .ret s H):K1 .ret s H:=by rw [hK];exact h
theorem Cg {E:aK} {res:List ResultVar} {P:AV→J→Prop} {rs:List AV} (hK:K1=eR E res P) (hr:dz E s H res=some rs) (h:P (cc rs) H):K1 .ret s H:=by rw [hK];exact ⟨rs,hr,h⟩
theorem Ch {E:aK} {a:Tmp} {P:AV→J→Prop} (hK:K1=eR E [.tmp a] P) {x:AV} (hx:s.getD a .undef=x) (h:P x H):K1 .ret s H:=by
 rw [hK];exact ⟨[s.getD a .undef],rfl,by rw [hx];exact h⟩
theorem Ci {E:aK} {a b:Tmp} {P:AV→J→Prop} (hK:K1=eR E [.tmp a,.tmp b] P) {x y:AV} (hx:s.getD a .undef=x) (hy:s.getD b .undef=y) (h:P (.ay [x,y]) H):K1 .ret s H:=by
 rw [hK];exact ⟨[s.getD a .undef,s.getD b .undef],rfl,by rw [hx,hy];exact h⟩
theorem Cj {α :Type} {c:Bool} {x y:Option α} {r: α} {a b:AC} (h:(bif c then x else y)=some r) (ht:c=true→x=some r→aJ (aq C) C a s H K) (hf:c=false→y=some r→aJ (aq C) C b s H K):sM C (.bool c) a b s H K:=by
 cases c with
 |true=>exact ht rfl h
 |false=>exact hf rfl h
theorem zY {a:AC} (h:aJ (aq C) C a s H K1) (hK: ∀e s H,K1 e s H→K e s H) (gC:Good C):aJ (aq C) C a s H K:=ez (aq.up gC.up) a s H _ _ hK h
end
structure GO where
 d:Option Tmp
 op:Op
 g:Option (Option Tmp×Bool)
 late:List (Op×Option Tmp)
 th:Bool
 q:Bool
def lk:List Oper→Nat→Option Tmp
 |[],_=>none
 |o::_,0=>o.dst
 |_::os,n+1=>lk os n
def aZ (X:bq) (C:aG) (q gj:Bool) (op:Op) (s:aj) (H:J) (K:AV→J→Prop):Prop:=wpOp X C q gj ⟨none,op,0,"",#[],none⟩ s H K
theorem sN (X:bq) (C:aG) (q gj:Bool) (o:Oper) (s:aj) (H:J) (K:AV→J→Prop):wpOp X C q gj o s H K=aZ X C q gj o.op s H K:=by
 cases o;rfl
def dS (C:aG) (s:aj) (H:J) (K:Prop):List (Op×Option Tmp)→Prop
 |[]=>K
 |(op,d)::js=>(∃t,d=some t∧gR C.E op s H=some (s.getD t .undef,H))∧dS C s H K js
def ia (g:Option (Option Tmp×Bool)) (s:aj) (a b:Prop):Prop:=
 match g with
 |none=>a
 |some (none,_)=>False
 |some (some t,want)=>match s.getD t .undef with
  | .bool c=>if c=want then a else b
  | .ay _=>b
  |_=>False
def eg (C:aG) (K:aj→J→Prop):List GO→aj→J→Prop
 |[],s,H=>K s H
 |o::rest,s,H=>ia o.g s (aZ (aq C) C o.q o.th o.op s H fun v H' =>dS C (bj s o.d v) H' (eg C K rest (bj s o.d v) H') o.late)
  (dS C (bj s o.d (.ay [])) H (eg C K rest (bj s o.d (.ay [])) H) o.late)
def kf (ops:List Oper) (j:Nat):Op×Option Tmp:=match ops[j]? with|some o=>(o.op,o.dst)|none=>(.move (.tmp 0),none)
def dT (all:List Oper) (q:Nat→Bool) (late:Nat→List Nat) (th:List Nat):List Oper→Nat→List GO
 |[],_=>[]
 |o::rest,i=>⟨o.dst,o.op,o.guard.map fun p=>(lk all p.1,p.2),(late i).map (kf all),th.contains i,q i⟩::dT all q late th rest (i+1)
theorem pQ: ∀(l:List Oper) (j:Nat),lk l j=(l[j]?).bind (·.dst)
 |[],j=>by simp [lk]
 |o::os,0=>by simp [lk]
 |o::os,j+1=>by simp [lk,pQ os j]
theorem pR {C:aG} {ops:Array Oper} {s:aj} {H:J} {K:Prop}: ∀(l:List Nat),dS C s H K (l.map (kf ops.toList))→fb C ops s H K l
 |[],h=>h
 |j::js,h=>by
  simp only [List.map_cons,dS] at h;refine ⟨?_,pR js h.2⟩;unfold jM;have h1:=h.1;unfold kf at h1;rw [Array.getElem?_toList] at h1;cases ho:ops[j]? with
  |none=>rw [ho] at h1;simp at h1
  |some o=>
   rw [ho] at h1;obtain ⟨t,ht,he⟩:=h1;simp only at ht he⊢;rw [ht];exact he
theorem nc {C:aG} (gC:Good C) {ops:Array Oper} {q:Nat→Bool} {late:Nat→List Nat} {th:List Nat} {K:aj→J→Prop}: ∀(l:List Oper) (i:Nat) (s:aj) (H:J),eg C K (dT ops.toList q late th l i) s H→cY (aq C) C ops q late th K l i s H
 |[],i,s,H,h=>h
 |o::rest,i,s,H,h=>by
  simp only [dT,eg] at h;have yes:(aZ (aq C) C (q i) (th.contains i) o.op s H fun v H' =>dS C (bj s o.dst v) H' (eg C K (dT ops.toList q late th rest (i+1)) (bj s o.dst v) H') ((late i).map (kf ops.toList)))→
   wpOp (aq C) C (q i) (th.contains i) o s H fun v H' =>fb C ops (bj s o.dst v) H' (cY (aq C) C ops q late th K rest (i+1) (bj s o.dst v) H') (late i):=by
   intro h;rw [←sN] at h;refine ij (aq.up gC.up) (fun v H' h=> ?_) h
   exact lx (nc gC rest (i+1) _ _) _ (pR _ h)
  simp only [cY];cases hg:o.guard with
  |none=>
   rw [hg] at h;simp only [Option.map_none,ia] at h⊢;exact yes h
  |some p=>
   obtain ⟨j,want⟩:=p;rw [hg] at h;simp only [Option.map_some,pQ,Array.getElem?_toList] at h⊢;cases hd:(ops[j]?).bind (·.dst) with
   |none=>rw [hd] at h;exact h.elim
   |some t=>
    rw [hd] at h;simp only [ia] at h;have no:(dS C (bj s o.dst (.ay [])) H (eg C K (dT ops.toList q late th rest (i+1)) (bj s o.dst (.ay [])) H) ((late i).map (kf ops.toList)))→dr ops o s=some false→ ∃v H',(match dr ops o s with
     |some b=>if b then wpOp (aq C) C (q i) (th.contains i) o s H (fun v1 H1=>v1=v∧H1=H') else v= .ay []∧H' =H
     |none=>False)∧fb C ops (bj s o.dst v) H' (cY (aq C) C ops q late th K rest (i+1) (bj s o.dst v) H') (late i):=by
     intro h hb;refine ⟨.ay [],H,?_,lx (nc gC rest (i+1) _ _) _ (pR _ h)⟩;rw [hb];simp
    split at h
    ·rename_i c hc;have lz:dr ops o s=some (c==want):=by
      unfold dr;rw [hg];simp only [hd,hc]
     split at h
     ·rename_i jB;obtain ⟨v,H',h1,h2⟩:=ll (aq.exact gC.up gC.exact) (yes h);refine ⟨v,H',?_,h2⟩;rw [lz,jB];simp only [beq_self_eq_true,if_true];exact h1
     ·rename_i jB;exact no h (by rw [lz];simpa using jB)
    ·rename_i hc;exact no h (by unfold dr;rw [hg];simp only [hd,hc])
    ·exact h.elim
section
variable {C:aG} {K K1:Ex→aj→J→Prop} {s:aj} {H:J}
def iT (K:Ex→aj→J→Prop):aj→J→Prop:=fun s H=>K .normal s H
theorem Ck (gC:Good C) {id:Nat} {ops:List Oper} {ls th:List Nat} (h:eg C (iT K) (dT ops (fun _=>false) (fun _=>[]) th ops 0) s H):aJ (aq C) C (.region id ops.toArray false ls th []) s H K:=by
 have h2:=nc gC (ops:=ops.toArray) (q:=fun _=>false) (late:=fun _=>[]) (th:=th) ops 0 s H h;have key: ∀(l:List Oper) (i:Nat) (s:aj) (H:J),cY (aq C) C ops.toArray (fun _=>false) (fun _=>[]) th (iT K) l i s H→cO (aq C) C ops.toArray th [] (iT K) l i s H:=by
  intro l;induction l with
  |nil=>intro i s H h;exact h
  |cons o rest ih=>
   intro i s H h;simp only [cY,fb] at h;simp only [cO];refine ⟨s,H,rfl,?_⟩;cases hg:o.guard with
   |none=>
    rw [hg] at h;exact ij (aq.up gC.up) (fun v H' hv=>ih (i+1) _ _ hv) h
   |some p=>
    rw [hg] at h;obtain ⟨v,H',h1,h2⟩:=h;exact ⟨v,H',h1,ih (i+1) _ _ h2⟩
 exact key _ _ _ _ h2
def gb (C:aG) (fz:List (Nat×List (List Nat×List Sh))) (K:aj→J→Prop):List GO→Nat→aj→J→Prop
 |[],_,s,H=>K s H
 |o::rest,i,s0,H0=> ∃s H,dt ((fz.lookup i).getD []) s0 H0=some (s,H)∧
  ia o.g s (aZ (aq C) C o.q o.th o.op s H fun v H' =>gb C fz K rest (i+1) (bj s o.d v) H') (gb C fz K rest (i+1) (bj s o.d (.ay [])) H)
theorem pS (gC:Good C) {ops:Array Oper} {th:List Nat} {fz:List (Nat×List (List Nat×List Sh))} {K:aj→J→Prop}: ∀(l:List Oper) (i:Nat) (s:aj) (H:J),gb C fz K (dT ops.toList (fun _=>false) (fun _=>[]) th l i) i s H→cO (aq C) C ops th fz K l i s H
 |[],i,s,H,h=>h
 |o::rest,i,s0,H0,h=>by
  simp only [dT,gb] at h;obtain ⟨s,H,hf,h⟩:=h;simp only [cO];refine ⟨s,H,hf,?_⟩;have yes:(aZ (aq C) C false (th.contains i) o.op s H fun v H' =>gb C fz K (dT ops.toList (fun _=>false) (fun _=>[]) th rest (i+1)) (i+1) (bj s o.dst v) H')→
   wpOp (aq C) C false (th.contains i) o s H fun v H' =>cO (aq C) C ops th fz K rest (i+1) (bj s o.dst v) H' :=by
   intro h;rw [←sN] at h;exact ij (aq.up gC.up) (fun v H' h=>pS gC rest (i+1) _ _ h) h
  cases hg:o.guard with
  |none=>
   rw [hg] at h;simp only [Option.map_none,ia] at h⊢;exact yes h
  |some p=>
   obtain ⟨j,want⟩:=p;rw [hg] at h;simp only [Option.map_some,pQ,Array.getElem?_toList] at h⊢;cases hd:(ops[j]?).bind (·.dst) with
   |none=>rw [hd] at h;exact h.elim
   |some t=>
    rw [hd] at h;simp only [ia] at h;have no:gb C fz K (dT ops.toList (fun _=>false) (fun _=>[]) th rest (i+1)) (i+1) (bj s o.dst (.ay [])) H→dr ops o s=some false→ ∃v H',(match dr ops o s with
     |some b=>if b then wpOp (aq C) C false (th.contains i) o s H (fun v1 H1=>v1=v∧H1=H') else v= .ay []∧H' =H
     |none=>False)∧cO (aq C) C ops th fz K rest (i+1) (bj s o.dst v) H' :=by
     intro h hb;refine ⟨.ay [],H,?_,pS gC rest (i+1) _ _ h⟩;rw [hb];simp
    split at h
    ·rename_i c hc;have lz:dr ops o s=some (c==want):=by
      unfold dr;rw [hg];simp only [hd,hc]
     split at h
     ·rename_i jB;obtain ⟨v,H',h1,h2⟩:=ll (aq.exact gC.up gC.exact) (yes h);refine ⟨v,H',?_,h2⟩;rw [lz,jB];simp only [beq_self_eq_true,if_true];exact h1
     ·rename_i jB;exact no h (by rw [lz];simpa using jB)
    ·rename_i hc;exact no h (by unfold dr;rw [hg];simp only [hd,hc])
    ·exact h.elim
theorem Cl (gC:Good C) {id:Nat} {ops:List Oper} {ls th:List Nat} {fz:List (Nat×List (List Nat×List Sh))} (h:gb C fz (iT K) (dT ops (fun _=>false) (fun _=>[]) th ops 0) 0 s H):aJ (aq C) C (.region id ops.toArray false ls th fz) s H K:=
 pS gC (ops:=ops.toArray) ops 0 s H h
theorem sO (gC:Good C) {id:Nat} {ops:List Oper} {ls th:List Nat} {fz:List (Nat×List (List Nat×List Sh))} (hd:iC ops.toArray ls=true) (h:eg C (iT K) (dT ops (fun i=> !ls.contains i) (fJ ops.toArray ls) th ops 0) s H):aJ (aq C) C (.region id ops.toArray true ls th fz) s H K:=by
 have:=nc gC (ops:=ops.toArray) (q:=fun i=> !ls.contains i) (late:=fJ ops.toArray ls) (th:=th) ops 0 s H h;exact ⟨hd,this⟩
theorem zZ (ops:Array Oper):fJ ops []=fun _=>[]:=by funext i;rfl
theorem Cm (gC:Good C) {id:Nat} {ops:List Oper} {th:List Nat} {fz:List (Nat×List (List Nat×List Sh))} (hd:iC ops.toArray []=true) (h:eg C (iT K) (dT ops (fun _=>true) (fun _=>[]) th ops 0) s H):aJ (aq C) C (.region id ops.toArray true [] th fz) s H K:=
 sO gC hd (by rw [zZ];exact h)
end
theorem Cn {C:aG} (gC:Good C) {f:FuncId} {fn:Func} {c:Code} {res:List ResultVar} {n:Nat} (hc:C.code f=some fn) (hb:fn.body=some c) (hr:fn.results=res.toArray) (hn:fn.ntmps=n) {ys:List AV} {H:J} {P:AV→J→Prop}
 (h: ∀K0,K0=eR C.E res P→aJ (aq C) C (cX (C.fH f) 0 c) (ys ++ List.replicate (n-ys.length) .undef) H K0):aq C f ys H P:=by
 refine aq.intro gC.up ?_;unfold Body;rw [hc];simp only [hb,hr,hn];exact h _ rfl
end Go.VS
namespace Go.VS
def cL (v:Option AV) (H:J) (K:AV→J→Prop):Prop:=match v with|some v=>K v H|none=>False
def cV (r:Option (AV×J)) (K:AV→J→Prop):Prop:=match r with|some (v,H)=>K v H|none=>False
section
variable {C:aG} {q th:Bool} {s:aj} {H:J} {K:AV→J→Prop}
theorem db (op:Op) (h:dI op=true):aZ (aq C) C q th op s H K=cV (aP C.E op s H) K:=by
 have: ∀c,op≠ .call c:=by rintro c rfl;simp [dI] at h
 unfold aZ wpOp;split
 ·rename_i bh;exact absurd bh (this _)
 ·rename_i bh;exact absurd bh (this _)
 ·simp only [h,implies_true,true_and];rfl
theorem sP (op:Op) (h: ∀c,op≠ .call c):aZ (aq C) C false th op s H K=cV (aP C.E op s H) K:=by
 unfold aZ wpOp;split
 ·rename_i bh;exact absurd bh (h _)
 ·rename_i bh;exact absurd bh (h _)
 ·simp only [Bool.false_eq_true,false_implies,true_and];rfl
theorem sQ (K:aj→J→Prop):eg C K [] s H=K s H:=rfl
def gJ (v:AV) (w:Bool) (a b:Prop):Prop:=match v with| .bool c=>if c=w then a else b| .ay _=>b|_=>False
theorem sR (a b:Prop):gJ (.bool true) true a b=a:=by simp [gJ]
theorem sT (a b:Prop):gJ (.bool false) false a b=a:=by simp [gJ]
theorem sU (a b:Prop):gJ (.bool true) false a b=b:=by simp [gJ]
theorem sV (a b:Prop):gJ (.bool false) true a b=b:=by simp [gJ]
theorem sW (K:Prop):dS C s H K []=K:=rfl
theorem sY (K:Prop) (op:Op) (t:Tmp) (js:List (Op×Option Tmp)):dS C s H K ((op,some t)::js)=(gR C.E op s H=some (s.getD t .undef,H)∧dS C s H K js):=by
 simp [dS]
theorem sZ (t:Tmp) (v:AV):bj s (some t) v=s.set t v:=rfl
theorem s4 (v:AV):bj s none v=s:=rfl
theorem s7 (t:Tmp):ev s (.tmp t)=s.getD t .undef:=rfl
theorem s8 (v:Value):ev s (.const v)=ofValue v:=rfl
theorem s9 (f:FuncId):ev s (.func f)= .fn f []:=rfl
theorem tc (k:IntKind) (n:Int):ofValue (.int k n)= .int k n:=rfl
theorem tg (b:Bool):ofValue (.bool b)= .bool b:=rfl
theorem tj:ofValue (.slice none 0 0)= .nil:=rfl
theorem tn:ofValue .nilIface= .cj false:=rfl
theorem tp:ofValue (.pointer none)= .dy:=rfl
theorem tq (b:ByteArray):ofValue (.string b)= .str b.data.toList:=rfl
theorem tv (v:AV):cL (some v) H K=K v H:=rfl
theorem tw (x:Operand):aZ (aq C) C q th (.move x) s H K=K (ev s x) H:=by rw [db _ rfl];rfl
theorem tz (x:Operand):aZ (aq C) C q th (.assign x) s H K=K (ev s x) H:=by rw [db _ rfl];rfl
theorem tA (b:BinOp) (t:TypeId) (x:Operand) (c:Value) (w:TypeId):aZ (aq C) C q th (.binOp b t x (.const c) w) s H K=cL (aI C.E b t (ev s x) (ofValue c)) H K:=by
 rw [db _ rfl];simp only [aP,show ev s (.const c)=ofValue c from rfl];generalize aI C.E b t (ev s x) (ofValue c)=r;cases r<;>rfl
def kg (E:aK) (b:BinOp) (t:TypeId) (x y:AV) (H:J) (K:AV→J→Prop):Prop:=match y with| .cj _=>False|y=>cL (aI E b t x y) H K
theorem tB (b:BinOp) (t:TypeId) (x:Operand) (n:Tmp) (w:TypeId):aZ (aq C) C q th (.binOp b t x (.tmp n) w) s H K=kg C.E b t (ev s x) (ev s (.tmp n)) H K:=by
 rw [db _ rfl];simp only [aP];generalize ev s (.tmp n)=y;unfold kg;cases y
 all_goals (first|rfl|(simp only;generalize aI C.E b t (ev s x) _=r;cases r<;>rfl))
theorem tC (E:aK) (b:BinOp) (t:TypeId) (x:AV) (k:IntKind) (n:Int):kg E b t x (.int k n) H K=cL (aI E b t x (.int k n)) H K:=rfl
theorem tD (E:aK) (b:BinOp) (t:TypeId) (x:AV) (n:Bool):kg E b t x (.bool n) H K=cL (aI E b t x (.bool n)) H K:=rfl
theorem tE (E:aK) (b:BinOp) (t:TypeId) (x:AV) (n:List UInt8):kg E b t x (.str n) H K=cL (aI E b t x (.str n)) H K:=rfl
theorem tF (E:aK) (b:BinOp) (t:TypeId) (x:AV) (n:List AV):kg E b t x (.agg n) H K=cL (aI E b t x (.agg n)) H K:=rfl
variable (E:aK) (t:TypeId) (k:IntKind) (a b:Int) (c d:Bool) (u v:List UInt8)
theorem tG:aI E .add t (.int k a) (.int k b)=some (.int k (k.wrap (a+b))):=by simp [aI,de]
theorem tH:aI E .sub t (.int k a) (.int k b)=some (.int k (k.wrap (a-b))):=by simp [aI,de]
theorem tI:aI E .mul t (.int k a) (.int k b)=some (.int k (k.wrap (a*b))):=by simp [aI,de]
theorem z6:aI E .and t (.int k a) (.int k b)=some (.int k (k.wrap (BitVec.ofInt k.bits a&&&BitVec.ofInt k.bits b).toNat)):=by simp [aI,de]
theorem z7:aI E .or t (.int k a) (.int k b)=some (.int k (k.wrap (BitVec.ofInt k.bits a|||BitVec.ofInt k.bits b).toNat)):=by simp [aI,de]
theorem z8:aI E .xor t (.int k a) (.int k b)=some (.int k (k.wrap (BitVec.ofInt k.bits a^^^BitVec.ofInt k.bits b).toNat)):=by simp [aI,de]
theorem tJ:aI E .eql t (.int k a) (.int k b)=some (.bool (a==b)):=by simp [aI,de]
theorem tK:aI E .neq t (.int k a) (.int k b)=some (.bool (a !=b)):=by simp [aI,de]
theorem tL:aI E .lss t (.int k a) (.int k b)=some (.bool (decide (a<b))):=by simp [aI,de]
theorem tM:aI E .leq t (.int k a) (.int k b)=some (.bool (decide (a≤b))):=by simp [aI,de]
theorem tN:aI E .gtr t (.int k a) (.int k b)=some (.bool (decide (b<a))):=by simp [aI,de]
theorem tO:aI E .geq t (.int k a) (.int k b)=some (.bool (decide (b≤a))):=by simp [aI,de]
def dv (k:IntKind) (a b:Int):Option Int:=if b=0 then none else some (k.wrap (a.tdiv b))
def md (a b:Int):Option Int:=if b=0 then none else some (a.tmod b)
theorem tP:aI E .quo t (.int k a) (.int k b)=(dv k a b).map (.int k):=by simp [aI,de,dv];split<;>rfl
theorem tQ:aI E .rem t (.int k a) (.int k b)=(md a b).map (.int k):=by simp [aI,de,md];split<;>rfl
def sl (k:IntKind) (a b:Int):Option Int:=if b<0 then none else some (k.wrap (a*2^(min b.toNat k.bits)))
def sr (k:IntKind) (a b:Int):Option Int:=if b<0 then none else some (a.fdiv (2^(min b.toNat k.bits)))
theorem tR (j:IntKind):aI E .shl t (.int k a) (.int j b)=(sl k a b).map (.int k):=by simp [aI,sl];split<;>rfl
theorem tS (j:IntKind):aI E .shr t (.int k a) (.int j b)=(sr k a b).map (.int k):=by simp [aI,sr];split<;>rfl
theorem tT:aI E .eql t (.str u) (.str v)=some (.bool (u==v)):=by simp [aI,iX]
theorem tU:aI E .neq t (.str u) (.str v)=some (.bool (!(u==v))):=by simp [aI,iX]
def cat (u v:List UInt8):Option (List UInt8):=if u.length+v.length≤2^45 then some (u ++ v) else none
theorem tV:aI E .add t (.str u) (.str v)=(cat u v).map .str:=by simp only [aI,iX,cat];split<;>rfl
theorem Co {ti:TI} (h:E t=some ti) (hu:ti.au= .bl):aI E .eql t (.bool c) (.bool d)=some (.bool (c==d)):=by simp [aI,h,hu]
theorem Cp {ti:TI} (h:E t=some ti) (hu:ti.au= .bl):aI E .neq t (.bool c) (.bool d)=some (.bool (!(c==d))):=by simp [aI,h,hu]
def lA (ti:Option TI) (r:Option Bool) (neg:Bool):Option AV:=match ti with|some ti=>if ti.agg then (match r with|some b=>some (.bool (if neg then !b else b))|none=>none) else none|none=>none
theorem tW (xs ys:List AV):aI E .eql t (.agg xs) (.agg ys)=lA (E t) (dE E 8 t xs ys) false:=by
 simp only [aI,lA];cases E t<;>rfl
theorem tX (xs ys:List AV):aI E .neq t (.agg xs) (.agg ys)=lA (E t) (dE E 8 t xs ys) true:=by
 simp only [aI,lA];cases E t<;>rfl
def ik (ti:Option TI) (x y:AV) (neg:Bool):Option AV:=match ti with|some ti=>(match isNil ti.au x y with|some b=>some (.bool (if neg then !b else b))|none=>none)|none=>none
theorem tY:aI E .eql t .nil .nil=ik (E t) .nil .nil false:=by simp only [aI,ik];cases E t<;>rfl
theorem tZ:aI E .neq t .nil .nil=ik (E t) .nil .nil true:=by simp only [aI,ik];cases E t<;>rfl
theorem t_ (x:Bool):aI E .eql t (.cj x) (.cj false)=ik (E t) (.cj x) (.cj false) false:=by simp only [aI,ik];cases E t<;>rfl
theorem ua (x:Bool):aI E .neq t (.cj x) (.cj false)=ik (E t) (.cj x) (.cj false) true:=by simp only [aI,ik];cases E t<;>rfl
theorem w_num {α :Type} {o:Option Int} {f:Int→Option α} {r: α} (h:o.bind f=some r) (hk: ∀n,o=some n→f n=some r→K (.int k n) H):cL (o.map (.int k)) H K:=by
 cases o with
 |none=>simp at h
 |some n=>exact hk n rfl h
theorem ub (op:UnOp) (x:Operand):aZ (aq C) C q th (.unOp op t x) s H K=cL (iY op (ev s x)) H K:=by
 rw [db _ rfl];simp only [aP];generalize iY op (ev s x)=r;cases r<;>rfl
theorem uc:iY .not (.bool c)=some (.bool !c):=rfl
theorem ud:iY .neg (.int k a)=some (.int k (k.wrap (0-a))):=rfl
def nf (c:AV) (x y:AV) (H:J) (K:AV→J→Prop):Prop:=match c with| .bool t=>K (if t then x else y) H|_=>False
theorem uf (x y z:Operand):aZ (aq C) C q th (.pick x y z) s H K=nf (ev s x) (ev s y) (ev s z) H K:=by
 rw [db _ rfl];simp only [aP];generalize ev s x=r;cases r<;>rfl
theorem ug (x y:AV):nf (.bool true) x y H K=K x H:=rfl
theorem uh (x y:AV):nf (.bool false) x y H K=K y H:=rfl
theorem ui (p:Bool):nf (.bool p) (.bool c) (.bool d) H K=K (.bool (if p then c else d)) H:=by cases p<;>rfl
def pT (x:AV) (i:Nat) (H:J) (K:AV→J→Prop):Prop:=match x with| .ay vs=>cL vs[i]? H K|_=>False
theorem uj (x:Operand) (i:Nat):aZ (aq C) C q th (.extract x i) s H K=pT (ev s x) i H K:=by
 rw [db _ rfl];simp only [aP,pT];generalize ev s x=r;cases r<;>first|rfl|(simp only;rename_i vs;cases vs[i]? <;>rfl)
theorem uk (vs:List AV) (i:Nat):pT (.ay vs) i H K=cL vs[i]? H K:=rfl
def ng (ti:TI) (x:Option AV) (off:Nat) (H:J) (K:AV→J→Prop):Prop:=match x with|some y=>cL (bT ti y off) H K|none=>False
def nh (ti:TI) (b:Option bB) (idx off:Nat) (H:J) (K:AV→J→Prop):Prop:=match b with|some b=>ng ti b.el[idx]? off H K|none=>False
def ni (ti:Option TI) (x:AV) (H:J) (K:AV→J→Prop):Prop:=
 match ti with
 |some ti=>match x with
  | .fe y off=>cL (bT ti y off) H K
  | .ptr id ad idx off=>nh ti (H.ap id ad) idx off H K
  |_=>False
 |none=>False
theorem o_load (x:Operand):aZ (aq C) C q th (.load t x) s H K=ni (C.E t) (ev s x) H K:=by
 rw [db _ rfl];simp only [aP,ni];cases C.E t with
 |none=>rfl
 |some ti=>
  simp only;generalize ev s x=r;cases r<;>first|rfl|skip
  ·rename_i id ad idx off;simp only [nh];cases H.ap id ad with
   |none=>rfl
   |some b=>
    simp only [ng];cases b.el[idx]? with
    |none=>rfl
    |some y=>simp only;generalize bT ti y off=z;cases z<;>rfl
  ·rename_i y off;simp only;generalize bT ti y off=z;cases z<;>rfl
theorem ul (ti:TI) (y:AV) (off:Nat):ni (some ti) (.fe y off) H K=cL (bT ti y off) H K:=rfl
theorem um (ti:TI) (id ad idx off:Nat):ni (some ti) (.ptr id ad idx off) H K=nh ti (H.ap id ad) idx off H K:=rfl
theorem uo (ti:TI) (b:bB) (idx off:Nat):nh ti (some b) idx off H K=ng ti b.el[idx]? off H K:=rfl
theorem uq (ti:TI) (y:AV) (off:Nat):ng ti (some y) off H K=cL (bT ti y off) H K:=rfl
def lB (E:aK) (t:TypeId) (f:Nat):Option (Nat×TI):=match E t with
 |some ti=>match ti.au with
  | .st fs=>match fs[f]? with
   |some (o,ft)=>match E ft with
    |some tf=>some (o,tf)
    |none=>none
   |none=>none
  |_=>none
 |none=>none
def iU (p:Option (Nat×TI)) (x:AV) (H:J) (K:AV→J→Prop):Prop:=match p with
 |some (o,tf)=>if tf.sz=0 then False else match x with
  | .ptr id ad idx off=>match H.ap id ad with
   |some _=>K (.ptr id ad idx (off+o)) H
   |none=>False
  | .fe y off=>K (.fe y (off+o)) H
  |_=>False
 |none=>False
theorem ur (x:Operand) (f:Nat):aZ (aq C) C q th (.fieldAddr t x f) s H K=iU (lB C.E t f) (ev s x) H K:=by
 rw [db _ rfl];simp only [aP,iU,lB];cases C.E t with
 |none=>rfl
 |some ti=>
  simp only;cases ti.au<;>try rfl
  rename_i fs;simp only;cases fs[f]? with
  |none=>rfl
  |some p=>
   obtain ⟨o,ft⟩:=p;simp only;cases C.E ft with
   |none=>rfl
   |some tf=>
    simp only;split
    ·rfl
    ·generalize ev s x=r;cases r<;>try rfl
     rename_i id ad idx off;simp only;cases H.ap id ad<;>rfl
theorem z_ (o:Nat) (tf:TI) (h:(tf.sz==0)=false) (y:AV) (off:Nat):iU (some (o,tf)) (.fe y off) H K=K (.fe y (off+o)) H:=by
 simp at h;simp [iU,h]
theorem Aa (o:Nat) (tf:TI) (h:(tf.sz==0)=false) (id ad idx off:Nat):iU (some (o,tf)) (.ptr id ad idx off) H K=(match H.ap id ad with|some _=>K (.ptr id ad idx (off+o)) H|none=>False):=by
 simp at h;simp [iU,h]
def pU (p:Option (Nat×TI)) (x:AV) (H:J) (K:AV→J→Prop):Prop:=match x with
 | .agg cs=>(match p with|some (o,tf)=>cL (bT tf (.agg cs) o) H K|none=>False)
 |_=>False
theorem uu (x:Operand) (f:Nat):aZ (aq C) C q th (.field t x f) s H K=pU (lB C.E t f) (ev s x) H K:=by
 rw [db _ rfl];simp only [aP,pU,lB];cases C.E t with
 |none=>simp only;generalize ev s x=r;cases r<;>rfl
 |some ti=>
  simp only;generalize ev s x=r;cases r
  case agg cs=>
   simp only;cases ti.au<;>try rfl
   rename_i fs;simp only;cases fs[f]? with
   |none=>rfl
   |some p=>
    obtain ⟨o,ft⟩:=p;simp only;cases C.E ft with
    |none=>rfl
    |some tf=>simp only;generalize bT tf (.agg cs) o=z;cases z<;>rfl
  all_goals rfl
theorem uw (o:Nat) (tf:TI) (cs:List AV):pU (some (o,tf)) (.agg cs) H K=cL (bT tf (.agg cs) o) H K:=rfl
theorem ux (x:Operand):aZ (aq C) C q th (.call {callee:= .builtin .len,args:= #[x],argTypes:= #[t]}) s H K=cV (ct C.E .len #[t] [ev s x] H) K:=by
 unfold aZ wpOp;simp only [eD,implies_true,true_and];rfl
def ei (ti:Option TI) (x:AV) (n:Option Nat) (H:J) (K:AV→J→Prop):Prop:=match ti,n with
 |some ti,some n=>match ti.au,x with
  | .str,.str _=>K (.int .i64 n) H
  | .sl _,.str _=>False
  | .sl _,_=>K (.int .i64 n) H
  |_,_=>False
 |_,_=>False
theorem uy (E:aK) (t:TypeId) (x:AV):cV (ct E .len #[t] [x] H) K=ei (E t) x (lenOf H x) H K:=by
 simp only [ct,ei];have:(#[t]:Array TypeId)[0]?.bind E=E t:=rfl;rw [this];cases E t with
 |none=>rfl
 |some ti=>
  obtain ⟨sz,agg,z,nj,au,eq⟩:=ti;cases lenOf H x with
  |none=>rfl
  |some n=>cases au<;>cases x<;>rfl
theorem uz (xs:Array Operand) (tys:Array TypeId):aZ (aq C) C q th (.call {callee:= .builtin .min,args:=xs,argTypes:=tys}) s H K=cL (jJ (xs.toList.map (ev s))) H K:=by
 unfold aZ wpOp;simp only [eD,implies_true,true_and,ct];generalize jJ _=r;cases r<;>rfl
theorem uA (xs:Array Operand) (tys:Array TypeId):aZ (aq C) C q th (.call {callee:= .builtin .max,args:=xs,argTypes:=tys}) s H K=cL (jK (xs.toList.map (ev s))) H K:=by
 unfold aZ wpOp;simp only [eD,implies_true,true_and,ct];generalize jK _=r;cases r<;>rfl
theorem min2:jJ [.int k a,.int k b]=some (.int k (if b<a then b else a)):=rfl
theorem max2:jK [.int k a,.int k b]=some (.int k (if b>a then b else a)):=rfl
end
end Go.VS
namespace Go.VS
structure It where
 v:AV
 sz:Nat
 el:List AV
def bW:AV→Option Nat
 | .ref id _ _ _=>some id
 | .ptr id _ _ _=>some id
 |_=>none
def gK (H:J) (it:It):Prop:=bK it.sz it.el=true∧match it.v with
 | .nil=>it.el=[]
 | .e0=>it.el=[]
 | .ref id ad off len=>len=it.el.length∧ ∃b,H.ap id ad=some b∧b.sz=it.sz∧b.fix=false∧off+len≤b.el.length∧aD b.el off len=it.el
 | .ptr id ad idx off=>idx=0∧off=0∧it.el.length=1∧H.ap id ad=some ⟨ad,it.sz,false,it.el⟩
 |_=>False
structure az (H:J) (L:List It):Prop where
 ok: ∀(i:Nat) (it:It),L[i]? =some it→gK H it
 b_: ∀(i j:Nat) (a b:It) (id:Nat),L[i]? =some a→L[j]? =some b→bW a.v=some id→bW b.v=some id→i=j
theorem gK.lt {H:J} {it:It} (h:gK H it) {id:Nat} (hi:bW it.v=some id):id<H.bs.length:=by
 obtain ⟨_,h⟩:=h;cases hv:it.v with
 |ref i ad off len=>
  rw [hv] at h hi;simp only [bW,Option.some.injEq] at hi;subst hi;obtain ⟨_,b,hb,_⟩:=h;exact J.gp (J.bn hb).1
 |ptr i ad ix off=>
  rw [hv] at h hi;simp only [bW,Option.some.injEq] at hi;subst hi;obtain ⟨_,_,_,hb⟩:=h;exact J.gp (J.bn hb).1
 |_=>rw [hv] at hi;simp [bW] at hi
theorem gK.frame {H H' :J} {it:It} (h:gK H it) (hk: ∀id ad,bW it.v=some id→H'.ap id ad=H.ap id ad):gK H' it:=by
 obtain ⟨h0,h⟩:=h;refine ⟨h0,?_⟩;cases hv:it.v with
 |ref i ad off len=>
  rw [hv] at h hk;obtain ⟨h1,b,hb,h2⟩:=h;exact ⟨h1,b,by rw [hk i ad rfl];exact hb,h2⟩
 |ptr i ad ix off=>
  rw [hv] at h hk;obtain ⟨h1,h2,h3,hb⟩:=h;exact ⟨h1,h2,h3,by rw [hk i ad rfl];exact hb⟩
 |_=>rw [hv] at h;exact h
theorem az.tl {H:J} {a:It} {L:List It} (h:az H (a::L)):az H L:=
 ⟨fun i it hi=>h.ok (i+1) it hi,fun i j x y id h1 h2 h3 h4=>by have:=h.b_ (i+1) (j+1) x y id h1 h2 h3 h4;omega⟩
theorem az.nil (H:J):az H []:=⟨by simp,by simp⟩
theorem az.a7 {H H' :J} {L:List It} (h:az H L) {j:Nat} {it it' :It} (hj:L[j]? =some it) {i:Nat} (hi:bW it.v=some i) (hk: ∀id ad,id≠i→id<H.bs.length→H'.ap id ad=H.ap id ad) (hn:gK H' it') (bN: ∀k,bW it'.v=some k→k=i):az H' (L.set j it'):=by
 have ax:j<L.length:=(List.getElem?_eq_some_iff.1 hj).1;refine ⟨fun k a bG=> ?_,fun k l a b id h1 h2 h3 h4=> ?_⟩
 ·rw [List.getElem?_set] at bG;split at bG
  ·simp only [Option.some.injEq] at bG;subst bG;exact hn
  ·rename_i aL;have ho:=h.ok k a bG;refine ho.frame fun id ad uB=>hk id ad (fun e=> ?_) (ho.lt uB)
   subst e;exact aL (h.b_ j k it a id hj bG hi uB)
 ·rw [List.getElem?_set] at h1 h2;split at h1
  ·rename_i e1;subst e1;simp only [Option.some.injEq] at h1;subst h1;split at h2
   ·rename_i e2;exact e2
   ·have:=bN id h3;subst this;exact h.b_ j l it b id hj h2 hi h4
  ·split at h2
   ·rename_i e2;subst e2;simp only [Option.some.injEq] at h2;subst h2;have:=bN id h4;subst this;exact h.b_ k j a it id h1 hj h3 hi
   ·exact h.b_ k l a b id h1 h2 h3 h4
theorem az.new {H H' :J} {L:List It} (h:az H L) (hk: ∀id ad,id<H.bs.length→H'.ap id ad=H.ap id ad) {it:It} (hn:gK H' it) (bN: ∀k,bW it.v=some k→H.bs.length≤k):az H' (it::L):=by
 refine ⟨fun k a bG=> ?_,fun k l a b id h1 h2 h3 h4=> ?_⟩
 ·cases k with
  |zero=>simp at bG;subst bG;exact hn
  |succ k=>have ho:=h.ok k a (by simpa using bG);exact ho.frame fun id ad hi=>hk id ad (ho.lt hi)
 ·cases k with
  |zero=>
   simp at h1;subst h1;cases l with
   |zero=>rfl
   |succ l=>
    have:=(h.ok l b (by simpa using h2)).lt h4
    have:=bN id h3;omega
  |succ k=>
   cases l with
   |zero=>
    simp at h2;subst h2;have:=(h.ok k a (by simpa using h1)).lt h3
    have:=bN id h4;omega
   |succ l=>have:=h.b_ k l a b id (by simpa using h1) (by simpa using h2) h3 h4;omega
theorem az.uC {H H' :J} {L:List It} (h:az H L) (hk: ∀id ad,id<H.bs.length→H'.ap id ad=H.ap id ad) {j:Nat} {it' :It} (hn:gK H' it') (bN: ∀k,bW it'.v=some k→H.bs.length≤k):az H' (L.set j it'):=by
 refine ⟨fun k a bG=> ?_,fun k l a b id h1 h2 h3 h4=> ?_⟩
 ·rw [List.getElem?_set] at bG;split at bG
  ·split at bG
   ·simp only [Option.some.injEq] at bG;subst bG;exact hn
   ·simp at bG
  ·have ho:=h.ok k a bG;exact ho.frame fun id ad hi=>hk id ad (ho.lt hi)
 ·rw [List.getElem?_set] at h1 h2;split at h1
  ·rename_i e1;subst e1;split at h1
   ·simp only [Option.some.injEq] at h1;subst h1;split at h2
    ·rename_i e2;exact e2
    ·have:=(h.ok l b h2).lt h4;have:=bN id h3;omega
   ·simp at h1
  ·split at h2
   ·rename_i e2;subst e2;split at h2
    ·simp only [Option.some.injEq] at h2;subst h2;have:=(h.ok k a h1).lt h3;have:=bN id h4;omega
    ·simp at h2
   ·exact h.b_ k l a b id h1 h2 h3 h4
theorem nk {H:J} {sz:Nat} {fx:Bool} {el:List AV} {id ad:Nat} (h:id<H.bs.length):(H.new sz fx el).ap id ad=H.ap id ad:=by
 simp only [J.ap,J.new,List.getElem?_append_left h]
theorem nl {H:J} {sz:Nat} {fx:Bool} {el:List AV}:(H.new sz fx el).ap H.bs.length H.st=some ⟨H.st,sz,fx,el⟩:=by
 simp [J.ap,J.new]
theorem kh {H:J} {i id ad:Nat} {b:bB} (h:id≠i):(H.a7 i b).ap id ad=H.ap id ad:=by
 have h' : ¬i=id:=fun e=>h e.symm
 simp only [J.ap,J.a7,List.getElem?_set,if_neg h']
theorem kj {H:J} {id:Nat} {b:bB} (h:id<H.bs.length):(H.a7 id b).ap id b.ad=some b:=by
 simp [J.ap,J.a7,h]
section
variable {C:aG} {th:Bool} {s:aj} {H:J} {K:AV→J→Prop} {L:List It}
theorem az.nn (hS:az H L) {sz n:Nat} {el all:List AV} (he:all.take n=el) (hn:n=el.length) (aA:bK sz el=true):az (H.new sz false all) (⟨.ref H.bs.length H.st 0 n,sz,el⟩::L):=by
 refine hS.new (fun id ad h=>nk h) ⟨aA,hn,_,nl,rfl,rfl,?_,by simpa [aD] using he⟩ (fun k hk=>by simp [bW] at hk;omega)
 have:=congrArg List.length he;simp at this;simp only;omega
theorem az.newVar (hS:az H L) {sz:Nat} {a:AV} (aA:a.cells.length=sz):az (H.new sz false [a]) (⟨.ptr H.bs.length H.st 0 0,sz,[a]⟩::L):=
 hS.new (fun id ad h=>nk h) ⟨by simp [bK,aA],rfl,rfl,rfl,nl⟩ (fun k hk=>by simp [bW] at hk;omega)
theorem az.var (hS:az H L) (j:Nat) {id ad sz:Nat} {a:AV} (hj:L[j]? =some ⟨.ptr id ad 0 0,sz,[a]⟩):H.ap id ad=some ⟨ad,sz,false,[a]⟩:=(hS.ok j _ hj).2.2.2.2
theorem Cq {t:TypeId} {x:Operand} {ti:TI} {a:AV} (hS:az H L) (ht:C.E t=some ti) (hx:ev s x=a) (h1:a.cells.length=ti.sz) (h2:dD a=true)
 (h: ∀id ad H',az H' (⟨.ptr id ad 0 0,ti.sz,[a]⟩::L)→K (.ptr id ad 0 0) H') {q:Bool}:aZ (aq C) C q th (.box t x) s H K:=by
 rw [db _ rfl];simp only [aP,ht,hx,h1,h2,and_self,if_true,cV];exact h _ _ _ (hS.newVar h1)
theorem np {ti:TI} {z:AV} (h:dX ti=some z):z.cells.length=ti.sz:=by
 unfold dX at h;split at h
 ·rename_i hc;rcases kI h with ⟨_,rfl⟩|⟨_,hz⟩
  ·exact hc.2
  ·have:cM z=true:=by have:=hc.1;rw [hz] at this;simpa using this
   have hl:=hc.2;rw [hz] at hl;cases z<;>first|exact hl|simp [cM] at this
 ·simp at h
theorem Ab {ti:TI} {z:AV} (h:iy ti=some z):z.cells.length=ti.sz:=by
 unfold iy at h;split at h
 ·rename_i z0 je;simp only [Option.some.injEq] at h;subst h;split
  ·rw [kO,List.length_map];exact np je
  ·exact np je
 ·simp at h
theorem Cr {t:TypeId} {ti:TI} {z:AV} (hS:az H L) (ht:C.E t=some ti) (hz:dX ti=some z)
 (h: ∀id ad H',az H' (⟨.ptr id ad 0 0,ti.sz,[z]⟩::L)→K (.ptr id ad 0 0) H') {q:Bool}:aZ (aq C) C q th (.alloc t) s H K:=by
 rw [db _ rfl];simp only [aP,ht,hz,cV];exact h _ _ _ (hS.newVar (np hz))
theorem Cs {t:TypeId} {x v:Operand} {ti:TI} {id ad sz o:Nat} {y y' a:AV} (j:Nat) (hS:az H L) (hj:L[j]? =some ⟨.ptr id ad 0 0,sz,[y]⟩) (ht:C.E t=some ti) (hx:ev s x= .ptr id ad 0 o) (hv:ev s v=a)
 (h1:a.cells.length=ti.sz) (h2:dD a=true) (hw:gh y o a=some y') (h3:y'.cells.length=sz) (h: ∀H',az H' (L.set j ⟨.ptr id ad 0 0,sz,[y']⟩)→K (.ay []) H'):aZ (aq C) C false th (.store t x v) s H K:=by
 rw [sP _ (by simp)]
 have hb:=hS.var j hj;simp only [aP,ht,hx,hv,hb,List.getElem?_cons_zero,h1,h2,and_self,if_true,hw,List.set_cons_zero,cV];refine h _ (hS.a7 hj rfl (fun fh fX aL _=>kh aL) ⟨by simp [bK,h3],rfl,rfl,rfl,?_⟩ (fun k hk=>by simpa [bW] using hk.symm))
 exact kj ((hS.ok j _ hj).lt rfl)
end
def idx {α :Type} (l:List α) (i:Int):Option α :=if 0≤i then l[i.toNat]? else none
theorem lC {α :Type} {l:List α} {i:Int} {x: α} (h:idx l i=some x):0≤i∧i<l.length∧l[i.toNat]? =some x:=by
 unfold idx at h;split at h
 ·rename_i h0;have:=(List.getElem?_eq_some_iff.1 h).1;exact ⟨h0,by omega,h⟩
 ·simp at h
def Ct (E:aK) (t:TypeId):Option TI:=match E t with
 |some ti=>match ti.au with| .sl e=>E e|_=>none
 |none=>none
section
variable {C:aG} {q th:Bool} {s:aj} {H:J} {K:AV→J→Prop} {L:List It}
def pV (l:List UInt8) (n:Int) (H:J) (K:AV→J→Prop):Prop:=match idx l n with|some b=>K (.int .u8 b.toNat) H|none=>False
def nq (E:aK) (ti:Option TI) (x i:AV) (H:J) (K:AV→J→Prop):Prop:=match ti,i with
 |some ti,.int _ n=>match ti.au,x with
  | .str,.str l=>pV l n H K
  | .ar m e,.agg cs=>match E e with
   |some te=>if 0≤n∧n<m then cL (bT te (.agg cs) (n.toNat*te.sz)) H K else False
   |none=>False
  |_,_=>False
 |_,_=>False
theorem uD (t:TypeId) (x i:Operand):aZ (aq C) C q th (.index t x i) s H K=nq C.E (C.E t) (ev s x) (ev s i) H K:=by
 rw [db _ rfl];simp only [aP,nq];generalize ev s i=n;generalize ev s x=a;cases C.E t with
 |none=>rfl
 |some ti=>
  cases n
  case int k n=>
   simp only;cases ti.au<;>cases a<;>try rfl
   ·rename_i m e cs;simp only;cases C.E e with
    |none=>rfl
    |some te=>
     simp only;split
     ·generalize bT te (.agg cs) (n.toNat*te.sz)=z;cases z<;>rfl
     ·rfl
   ·rename_i l;simp only [pV,idx];split
    ·cases l[n.toNat]? <;>rfl
    ·rfl
  all_goals rfl
def lD:UD→Bool
 | .str=>true
 |_=>false
theorem uE:lD .str=true:=rfl
def jC:UD→Bool
 | .sl _=>true
 |_=>false
theorem uF (e:TypeId):jC (.sl e)=true:=rfl
theorem uG (E:aK) (ti:TI) (hu:lD ti.au=true) (l:List UInt8) (k:IntKind) (n:Int):nq E (some ti) (.str l) (.int k n) H K=pV l n H K:=by
 cases h:ti.au<;>rw [h] at hu<;>simp [lD] at hu
 simp only [nq,h]
def lE (E:aK) (t:TypeId) (x i:AV) (H:J) (K:AV→J→Prop):Prop:=cV (match E t,i with
 |some ti,.int _ n=>match ti.au with
  | .sl e=>match E e with
   |some te=>match x with
    | .fz xs=>if 0≤n then match xs[n.toNat]? with
     |some y=>if y.cells.length=te.sz then some (.fe y 0,H) else none
     |none=>none
     else none
    | .ref id ad off len=>match H.ap id ad with
     |some b=>if b.sz=te.sz∧0≤n∧n<len∧off+len≤b.el.length then some (.ptr id ad (off+n.toNat) 0,H) else none
     |none=>none
    |_=>none
   |none=>none
  | .ar m e=>match E e with
   |some te=>if 0≤n∧n<m then match x with
    | .ptr id ad idx off=>match H.ap id ad with
     |some _=>some (.ptr id ad idx (off+n.toNat*te.sz),H)
     |none=>none
    | .fe y off=>some (.fe y (off+n.toNat*te.sz),H)
    |_=>none
    else none
   |none=>none
  |_=>none
 |_,_=>none) K
theorem uH (t:TypeId) (x i:Operand):aZ (aq C) C q th (.indexAddr t x i) s H K=lE C.E t (ev s x) (ev s i) H K:=by
 rw [db _ rfl];rfl
theorem Cu {α β :Type} {E:aK} {t:TypeId} {ti te:TI} {e:TypeId} (ht:E t=some ti) (hu:ti.au= .sl e) (he:E e=some te) {l:List α} {c: α →AV} (hc: ∀x,(c x).cells.length=te.sz) {k:IntKind} {n:Int} {f: α →Option β} {r: β} (h:(idx l n).bind f=some r)
 (hk: ∀x,idx l n=some x→f x=some r→K (.fe (c x) 0) H):lE E t (.fz (l.map c)) (.int k n) H K:=by
 cases hi:idx l n with
 |none=>rw [hi] at h;simp at h
 |some x=>
  rw [hi] at h;obtain ⟨h0,_,h1⟩:=lC hi;simp only [lE,ht,hu,he,h0,if_true,List.getElem?_map,h1,Option.map_some,hc,cV];exact hk x hi h
theorem Cv {α β :Type} {E:aK} {t:TypeId} {ti te:TI} {e:TypeId} (j:Nat) (hS:az H L) {v:AV} {l:List α} {c: α →AV} {sz:Nat} (hj:L[j]? =some ⟨v,sz,l.map c⟩) (ht:E t=some ti) (hu:ti.au= .sl e) (he:E e=some te) (aA:sz=te.sz) {k:IntKind} {n:Int} {f: α →Option β} {r: β}
 (h:(idx l n).bind f=some r) (hk: ∀x id ad off,idx l n=some x→f x=some r→v= .ref id ad off l.length→K (.ptr id ad (off+n.toNat) 0) H) (hp: ∀id ad,v≠ .ptr id ad 0 0):lE E t v (.int k n) H K:=by
 cases hi:idx l n with
 |none=>rw [hi] at h;simp at h
 |some x=>
  rw [hi] at h;obtain ⟨h0,h2,h1⟩:=lC hi;have af:=(hS.ok j _ hj).2;simp only at af;have aL:l.map c≠[]:=by intro e;rw [List.map_eq_nil_iff] at e;subst e;simp at h1
  split at af
  ·exact absurd af aL
  ·exact absurd af aL
  ·rename_i id ad off len;obtain ⟨h3,b,hb,h4,_,h5,h6⟩:=af;simp only [List.length_map] at h3;subst h3;simp only [lE,ht,hu,he,hb];rw [if_pos ⟨by rw [h4,aA],h0,h2,h5⟩]
   exact hk x id ad off hi h rfl
  ·rename_i id ad ix off;obtain ⟨rfl,rfl,_⟩:=af;exact absurd rfl (hp id ad)
  ·exact af.elim
theorem az.elem {α :Type} (hS:az H L) (j:Nat) {id ad off n sz:Nat} {v:AV} {l:List α} {c: α →AV} (hj:L[j]? =some ⟨v,sz,l.map c⟩) (hv:v= .ref id ad off n) {i:Int} {x: α} (hx:idx l i=some x): ∃b,H.ap id ad=some b∧b.el[off+i.toNat]? =some (c x):=by
 obtain ⟨h0,h2,h1⟩:=lC hx;subst hv;obtain ⟨_,h3,b,hb,h4,_,h5,h6⟩:=hS.ok j _ hj;refine ⟨b,hb,?_⟩;simp only at h3 h6;have:=congrArg (·[i.toNat]?) h6;simp only [List.getElem?_map,h1,Option.map_some,aD] at this;rw [←this,List.getElem?_take,List.getElem?_drop,if_pos (by simp at h3;omega)]
theorem Cw {α :Type} {t:TypeId} {x w:Operand} {ti:TI} {id ad off n sz o:Nat} {v a:AV} {l:List α} {c: α →AV} {i:Int} {y y' : α} (j:Nat) (hS:az H L) (hj:L[j]? =some ⟨v,sz,l.map c⟩) (hv:v= .ref id ad off n) (hi:idx l i=some y) (ht:C.E t=some ti) (hx:ev s x= .ptr id ad (off+i.toNat) o) (hw:ev s w=a)
 (h1:a.cells.length=ti.sz) (h2:dD a=true) (hr:gh (c y) o a=some (c y')) (h3:(c y').cells.length=sz) (h: ∀H',az H' (L.set j ⟨v,sz,(l.set i.toNat y').map c⟩)→K (.ay []) H'):aZ (aq C) C false th (.store t x w) s H K:=by
 rw [sP _ (by simp)]
 obtain ⟨b,hb,he⟩:=hS.elem j hj hv hi;simp only [aP,ht,hx,hw,hb,he,h1,h2,and_self,if_true,hr,cV];subst hv;obtain ⟨k0,k1,b',aw,k2,k3,k4,k5⟩:=hS.ok j _ hj;rw [hb] at aw;simp only [Option.some.injEq] at aw;subst aw;simp only at k1 k5;obtain ⟨i0,i1,i2⟩:=lC hi;have bE:=(J.bn hb).2;refine h _ (hS.a7 hj rfl (fun fh fX aL _=>kh aL) ⟨?_,by simpa using k1,{b with el:=b.el.set (off+i.toNat) (c y')},?_,k2,k3,by simpa using k4,?_⟩ (fun k hk=>by simpa [bW] using hk.symm))
 ·simp only [bK,List.all_eq_true,List.mem_map] at k0⊢;rintro z ⟨z',hz,rfl⟩;rcases List.mem_or_eq_of_mem_set hz with h' |rfl
  ·exact k0 _ ⟨z',h',rfl⟩
  ·simpa using h3
 ·have:=kj (b:={b with el:=b.el.set (off+i.toNat) (c y')}) ((hS.ok j _ hj).lt rfl);simpa only [bE] using this
 ·simp only [aD,List.map_set] at k5⊢;rw [←k5,List.drop_set,if_neg (by omega),List.take_set]
  congr 1;omega
end
end Go.VS
namespace Go.VS
structure bA (v:AV):Prop where
 ok:v= .nil∨v= .e0∨ ∃id ad off len,v= .ref id ad off len
theorem gL (id ad off len:Nat):bA (.ref id ad off len):=⟨.inr (.inr ⟨id,ad,off,len,rfl⟩)⟩
theorem nr:bA .nil:=⟨.inl rfl⟩
theorem nt:bA .e0:=⟨.inr (.inl rfl)⟩
theorem bA.ne {v:AV} (h:bA v) (id ad:Nat):v≠ .ptr id ad 0 0:=by
 rcases h.ok with rfl|rfl|⟨_,_,_,_,rfl⟩<;>simp
theorem bA.cells {v:AV} (h:bA v):v.cells=[v]:=by
 rcases h.ok with rfl|rfl|⟨_,_,_,_,rfl⟩<;>rfl
theorem bA.qu {v:AV} (h:bA v):cM v=true:=by
 rcases h.ok with rfl|rfl|⟨_,_,_,_,rfl⟩<;>rfl
theorem bA.Cx {v:AV} (h:bA v):dD v=true:=by
 rcases h.ok with rfl|rfl|⟨_,_,_,_,rfl⟩<;>rfl
theorem bA.rd {v:AV} (h:bA v) (z:List AV) (b:Nat) (w:UD) (e:Bool):bT ⟨1,false,z,b,w,e⟩ v 0=some v:=by
 rcases h.ok with rfl|rfl|⟨_,_,_,_,rfl⟩<;>rfl
theorem bA.same {v:AV} (h:bA v):ff v v=true:=by
 rcases h.ok with rfl|rfl|⟨_,_,_,_,rfl⟩<;>simp [ff]
theorem bA.wr {v:AV} (h:bA v) (cs:List AV) (o:Nat) (ho:o<cs.length):gh (.agg cs) o v=some (.agg (cs.set o v)):=by
 simp only [gh,h.cells,List.length_cons,List.length_nil];rw [if_pos (by omega)]
 simp only [splice,List.length_cons,List.length_nil,List.append_assoc,List.cons_append,List.nil_append,Option.some.injEq,AV.agg.injEq];rw [List.set_eq_take_append_cons_drop,if_pos ho]
section
variable {C:aG} {q th:Bool} {s:aj} {H:J} {K:AV→J→Prop} {L:List It}
theorem az.len (hS:az H L) (j:Nat) {v:AV} {sz:Nat} {el:List AV} (hj:L[j]? =some ⟨v,sz,el⟩) (hp:bA v):lenOf H v=some el.length:=by
 have af:=(hS.ok j _ hj).2;simp only at af;split at af
 ·subst af;rfl
 ·subst af;rfl
 ·rename_i id ad off len;obtain ⟨h3,b,hb,_⟩:=af;simp only [lenOf,h3]
 ·rename_i id ad ix off;obtain ⟨rfl,rfl,_⟩:=af;exact absurd rfl (hp.ne id ad)
 ·exact af.elim
theorem az.il (hS:az H L) (j:Nat) {v:AV} {sz:Nat} {el:List AV} (hj:L[j]? =some ⟨v,sz,el⟩) (hp:bA v):cN H v=some el:=by
 have af:=(hS.ok j _ hj).2;simp only at af;split at af
 ·subst af;rfl
 ·subst af;rfl
 ·rename_i id ad off len;obtain ⟨h3,b,hb,_,_,h5,h6⟩:=af;simp only [cN,hb,h5,if_true,h6]
 ·rename_i id ad ix off;obtain ⟨rfl,rfl,_⟩:=af;exact absurd rfl (hp.ne id ad)
 ·exact af.elim
theorem az.Ac (hS:az H L) (j:Nat) {v:AV} {sz:Nat} {el:List AV} (hj:L[j]? =some ⟨v,sz,el⟩) (l:List UInt8):v≠ .str l:=by
 rintro rfl;exact (hS.ok j _ hj).2
theorem Cy (j:Nat) (hS:az H L) {v:AV} {sz:Nat} {el:List AV} (hj:L[j]? =some ⟨v,sz,el⟩) (hp:bA v) {ti:TI} {e:TypeId} (hu:ti.au= .sl e) (h:K (.int .i64 el.length) H):ei (some ti) v (lenOf H v) H K:=by
 rw [hS.len j hj hp];have hn:=hS.Ac j hj;simp only [ei,hu];cases v with
 |str l=>exact absurd rfl (hn l)
 |_=>exact h
theorem uI (xs:List AV):lenOf H (.fz xs)=some xs.length:=rfl
theorem uJ (l:List UInt8):lenOf H (.str l)=some l.length:=rfl
theorem uK:lenOf H .nil=some 0:=rfl
theorem uL:lenOf H .e0=some 0:=rfl
theorem Ad (ti:TI) {e:TypeId} (hu:ti.au= .sl e) (xs:List AV) (n:Nat):ei (some ti) (.fz xs) (some n) H K=K (.int .i64 n) H:=by simp [ei,hu]
theorem Ae (ti:TI) {e:TypeId} (hu:ti.au= .sl e) (n:Nat):ei (some ti) .nil (some n) H K=K (.int .i64 n) H:=by simp [ei,hu]
theorem Af (ti:TI) {e:TypeId} (hu:ti.au= .sl e) (n:Nat):ei (some ti) .e0 (some n) H K=K (.int .i64 n) H:=by simp [ei,hu]
theorem Ag (ti:TI) (hu:ti.au= .str) (l:List UInt8) (n:Nat):ei (some ti) (.str l) (some n) H K=K (.int .i64 n) H:=by simp [ei,hu]
theorem Cz {t:TypeId} {ps:Array (Nat×Operand)} {te:TI} (ht:cB C.E t=some te) (hp:ps.size=0) (h:K .e0 H):aZ (aq C) C q th (.buildSlice t 0 ps) s H K:=by
 rw [db _ rfl];simp only [aP,ht,hp,if_true];exact h
theorem CA {t:TypeId} {n:Nat} {ps:Array (Nat×Operand)} {te:TI} {z:AV} {el:List AV} (hS:az H L) (ht:cB C.E t=some te) (hz:dX te=some z) (hn:(n==0)=false) (hb:(decide (n*te.sz≤1000000)&&te.sz !=0)=true)
 (he:iw te.sz (List.replicate n z) (ps.toList.map fun p=>(p.1,ev s p.2))=some el) (hl:el.length=n) (aA:bK te.sz el=true) (h: ∀v H',bA v→az H' (⟨v,te.sz,el⟩::L)→K v H'):aZ (aq C) C q th (.buildSlice t n ps) s H K:=by
 rw [db _ rfl];simp at hn hb;simp only [aP,ht,if_neg hn,hz];rw [if_pos hb];simp only [he];exact h _ _ (gL ..) (hS.nn (by rw [←hl];simp) hl.symm aA)
theorem uM {sz:Nat} {a b:List AV} (ha:bK sz a=true) (hb:bK sz b=true):bK sz (a ++ b)=true:=by
 unfold bK at*;rw [List.all_append,ha,hb];rfl
theorem Ah (hS:az H L) (j:Nat) {te:TI} {v x:AV} {el xs:List AV} (hj:L[j]? =some ⟨v,te.sz,el⟩) (hp:bA v) (hx:cN H x=some xs) (aA:bK te.sz xs=true) (h0:te.sz≠0) (hr:roomy (el.length+xs.length) te.bytes=true):
 ∃v' H',ek te v x H=some (v',H')∧bA v' ∧az H' (L.set j ⟨v',te.sz,el ++ xs⟩):=by
 have af:=hS.ok j _ hj;obtain ⟨k0,af⟩:=af;have iJ: ∀it:It,L[j]? =some it→L.set j it=L:=fun it h=>List.ext_getElem? fun k=>by
  rw [List.getElem?_set];split
  ·rename_i e;subst e;have:=(List.getElem?_eq_some_iff.1 h).1;simp only [this,if_true];exact h.symm
  ·rfl
 simp only [ek,hx,aA,Bool.not_true,if_neg h0];simp only at af k0;split at af
 ·subst af;by_cases hn:xs.length=0
  ·have:xs=[]:=List.eq_nil_of_length_eq_zero hn;subst this;refine ⟨.nil,H,by simp,nr,?_⟩
   rw [List.append_nil,iJ _ hj];exact hS
  ·have b6:roomy xs.length te.bytes=true:=by simpa using hr
   refine ⟨.ref H.bs.length H.st 0 xs.length,H.new te.sz false xs,by simp [hn,b6],gL ..,?_⟩
   exact hS.uC (fun id ad h=>nk h) ⟨by simpa using aA,by simp,_,nl,rfl,rfl,by simp,by simp [aD]⟩ (fun k hk=>by simp [bW] at hk;omega)
 ·subst af;by_cases hn:xs.length=0
  ·have:xs=[]:=List.eq_nil_of_length_eq_zero hn;subst this;refine ⟨.e0,H,by simp,nt,?_⟩
   rw [List.append_nil,iJ _ hj];exact hS
  ·have b6:roomy xs.length te.bytes=true:=by simpa using hr
   refine ⟨.ref H.bs.length H.st 0 xs.length,H.new te.sz false xs,by simp [hn,b6],gL ..,?_⟩
   exact hS.uC (fun id ad h=>nk h) ⟨by simpa using aA,by simp,_,nl,rfl,rfl,by simp,by simp [aD]⟩ (fun k hk=>by simp [bW] at hk;omega)
 ·rename_i id ad off len;obtain ⟨k1,b,hb,k2,k3,k4,k5⟩:=af;have ax:=(hS.ok j _ hj).lt rfl;have bE:=(J.bn hb).2;subst k1;by_cases cA:off+el.length+xs.length≤b.el.length
  ·refine ⟨.ref id ad off (el.length+xs.length),H.a7 id {b with el:=splice b.el (off+el.length) xs},by simp [hb,k2,cA],gL ..,?_⟩
   refine hS.a7 hj rfl (fun fh fX aL _=>kh aL) ⟨uM k0 aA,by simp,{b with el:=splice b.el (off+el.length) xs},?_,k2,k3,?_,?_⟩ (fun k hk=>by simpa [bW] using hk.symm)
   ·have:=kj (b:={b with el:=splice b.el (off+el.length) xs}) ax;simpa only [bE] using this
   ·simp only [jR _ _ _ cA];omega
   ·simp only [aD] at k5⊢;have e1:(splice b.el (off+el.length) xs).drop off=el ++ (xs ++ b.el.drop (off+el.length+xs.length)):=by
     unfold splice;rw [List.append_assoc,List.drop_append_of_le_length (by simp;omega)]
     congr 1;rw [List.drop_take];have:off+el.length-off=el.length:=by omega
     rw [this,k5]
    rw [e1,←List.append_assoc,List.take_append_of_le_length (by simp),List.take_of_length_le (by simp)]
  ·refine ⟨.ref id H.st 0 (el.length+xs.length),⟨H.st+1,H.bs.set id (some ⟨H.st,b.sz,false,aD b.el off el.length ++ xs⟩)⟩,by simp [hb,k2,cA,k3,k4,hr],gL ..,?_⟩
   refine hS.a7 hj rfl (fun fh fX aL _=> ?_) ⟨uM k0 aA,by simp,⟨H.st,te.sz,false,el ++ xs⟩,?_,rfl,rfl,by simp,by simp only [aD,List.drop_zero];exact List.take_of_length_le (by simp)⟩ (fun k hk=>by simpa [bW] using hk.symm)
   ·have h' : ¬id=fh:=fun e=>aL e.symm
    simp only [J.ap,List.getElem?_set,if_neg h']
   ·simp only [J.ap,List.getElem?_set,ax,if_true,k2,aD] at k5⊢;rw [k5]
 ·rename_i id ad ix off;obtain ⟨rfl,rfl,_⟩:=af;exact absurd rfl (hp.ne id ad)
 ·exact af.elim
def app {α :Type} (nj:Nat) (l m:List α):Option (List α):=if roomy (l.length+m.length) nj then some (l ++ m) else none
theorem uN (a b:Operand) (t u:TypeId):aZ (aq C) C false th (.call {callee:= .builtin .append,args:= #[a,b],argTypes:= #[t,u]}) s H K=cV (ct C.E .append #[t,u] [ev s a,ev s b] H) K:=by
 unfold aZ wpOp;simp only [Bool.false_eq_true,false_implies,true_and];rfl
theorem Ai {α β :Type} {E:aK} {t u:TypeId} {te tu:TI} {e:TypeId} {v x:AV} {l m:List α} {c: α →AV} {f:List α →Option β} {r: β} (j:Nat) (hS:az H L) (hj:L[j]? =some ⟨v,te.sz,l.map c⟩) (hp:bA v) (ht:cB E t=some te) (hu:E u=some tu) (hi:tu.au= .sl e)
 (hx:cN H x=some (m.map c)) (aA:bK te.sz (m.map c)=true) (h0:(te.sz==0)=false) (hh:(app te.bytes l m).bind f=some r) (h: ∀v' H',bA v' →app te.bytes l m=some (l ++ m)→f (l ++ m)=some r→az H' (L.set j ⟨v',te.sz,(l ++ m).map c⟩)→K v' H'):
 cV (ct E .append #[t,u] [v,x] H) K:=by
 cases hr:app te.bytes l m with
 |none=>rw [hr] at hh;simp at hh
 |some lm=>
  have b6:=hr
  unfold app at hr;split at hr
  ·rename_i l6;simp only [Option.some.injEq] at hr;subst hr;rw [b6] at hh;obtain ⟨v',H',h1,h2,h3⟩:=Ah hS j hj hp hx aA (by simpa using h0) (by simpa using l6)
   have e1:(#[t,u]:Array TypeId)[0]? =some t:=rfl;have e2:((#[t,u]:Array TypeId)[1]?).bind E=E u:=rfl;simp only [ct,e1,e2,ht,hu,hi,h1,cV];exact h v' H' h2 b6 hh (by rw [List.map_append];exact h3)
  ·simp at hr
def kl (C:aG) (q th:Bool) (f:AV) (args:List AV) (H:J) (K:AV→J→Prop):Prop:=
 match f with
 | .fn g bM=>if q then dq (aq C) C g (args ++ bM) th H K else aq C g (args ++ bM) H K∨dq (aq C) C g (args ++ bM) th H K
 |_=>False
theorem uO (f:Operand) (args:Array Operand) (tys:Array TypeId):aZ (aq C) C q th (.call {callee:= .value f,args,argTypes:=tys}) s H K=kl C q th (ev s f) (args.toList.map (ev s)) H K:=rfl
theorem CB {α β :Type} {g:FuncId} {bM args:List AV} {o:Option α} {f: α →Option β} {r: β} (h:o.bind f=some r) (hk: ∀x,o=some x→f x=some r→aq C g (args ++ bM) H K):kl C false th (.fn g bM) args H K:=by
 cases ho:o with
 |none=>rw [ho] at h;simp at h
 |some x=>rw [ho] at h;exact .inl (hk x ho h)
end
inductive LR (σ ρ :Type) where
 |next (x: σ)
 |done (r: ρ)
def iter {σ ρ :Type} (f: σ →Option (LR σ ρ)):Nat→ σ →Option ρ
 |0,_=>none
 |n+1,x=>(f x).bind fun y=>match y with| .next x' =>iter f n x' | .done r=>some r
open Classical in
noncomputable def eM {σ ρ :Type} (f: σ →Option (LR σ ρ)) (x: σ):Option ρ :=if h: ∃n,(iter f n x).isSome then iter f h.choose x else none
theorem pW {σ ρ :Type} {f: σ →Option (LR σ ρ)}: ∀{n m:Nat} {x: σ} {r: ρ},iter f n x=some r→n≤m→iter f m x=some r
 |0,_,_,_,h,_=>by simp [iter] at h
 |n+1,0,_,_,_,h=>by omega
 |n+1,m+1,x,r,h,hle=>by
  simp only [iter] at h⊢;cases hf:f x with
  |none=>rw [hf] at h;simp at h
  |some y=>
   rw [hf] at h;cases y with
   |next x' =>exact pW (m:=m) h (by omega)
   |done r' =>exact h
theorem nu {σ ρ :Type} {f: σ →Option (LR σ ρ)} {x: σ} {r: ρ}:eM f x=some r↔ ∃n,iter f n x=some r:=by
 unfold eM;constructor
 ·intro h;split at h
  ·exact ⟨_,h⟩
  ·simp at h
 ·rintro ⟨n,h⟩;have hex: ∃n,(iter f n x).isSome:=⟨n,by simp [h]⟩
  rw [dif_pos hex];cases hc:iter f hex.choose x with
  |none=>have:=hex.choose_spec;rw [hc] at this;simp at this
  |some r' =>
   have h1:=pW hc (Nat.le_max_left hex.choose n);have h2:=pW h (Nat.le_max_right hex.choose n);rw [h1] at h2;exact h2
theorem pX {σ ρ :Type} (f: σ →Option (LR σ ρ)) (x: σ):eM f x=(f x).bind fun y=>match y with| .next x' =>eM f x' | .done r=>some r:=by
 refine Option.ext fun r=> ?_;rw [nu];constructor
 ·rintro ⟨n,h⟩;cases n with
  |zero=>simp [iter] at h
  |succ n=>
   simp only [iter] at h;cases hf:f x with
   |none=>rw [hf] at h;simp at h
   |some y=>
    rw [hf] at h;cases y with
    |next x' =>exact nu.2 ⟨n,h⟩
    |done r' =>exact h
 ·intro h;cases hf:f x with
  |none=>rw [hf] at h;simp at h
  |some y=>
   rw [hf] at h;cases y with
   |next x' =>obtain ⟨n,hn⟩:=nu.1 h;exact ⟨n+1,by simp only [iter,hf];exact hn⟩
   |done r' =>exact ⟨1,by simp only [iter,hf];exact h⟩
def nv {σ ρ :Type} (keep:List Nat) (Inv: σ →aj→J→Prop) (y:LR σ ρ) (K:Ex→aj→J→Prop):Ex→aj→J→Prop
 | .normal,s,H=> ∃x',y= .next x' ∧Inv x' (eE keep s) H
 | .exit i,s,H=>K (.exit i) s H
 | .ret,s,H=>K .ret s H
section
variable {C:aG} {K K1:Ex→aj→J→Prop} {s:aj} {H:J}
theorem CC {σ ρ :Type} (gC:Good C) {f: σ →Option (LR σ ρ)} {x: σ} {r: ρ} {keep:List Nat} {a:AC} (hw:eM f x=some r) (Inv: σ →aj→J→Prop) (h0:Inv x (eE keep s) H)
 (hb: ∀x y s H,f x=some y→(∀r',y= .done r' →r' =r)→Inv x s H→ ∀K1,K1=nv keep Inv y K→aJ (aq C) C a s H K1):aJ (aq C) C (.loop ⟨keep,false⟩ a) s H K:=by
 obtain ⟨n,hn⟩:=nu.1 hw;have key: ∀(n:Nat) (x: σ) (s:aj) (H:J),iter f n x=some r→Inv x s H→ ∀m,iZ (aJ (aq C) C a) (gT ⟨keep,false⟩ m) K s H:=by
  intro n;induction n with
  |zero=>intro x s H h;simp [iter] at h
  |succ n ih=>
   intro x s H h hi m;simp only [iter] at h;cases hf:f x with
   |none=>rw [hf] at h;simp at h
   |some y=>
    rw [hf] at h;simp only [Option.bind_some] at h;refine iZ.round (aq.up gC.up) (ez (aq.up gC.up) _ _ _ _ _ (fun e s' H' he=> ?_) (hb x y s H hf (fun r' e=>by subst e;simpa using h) hi _ rfl))
    cases e with
    |normal=>
     obtain ⟨x',rfl,gX⟩:=he;exact ih x' _ _ h gX m
    |exit i=>exact he
    |ret=>exact he
 exact key n x _ _ hn h0 _
theorem CD {σ ρ :Type} {keep:List Nat} {Inv: σ →aj→J→Prop} {y:LR σ ρ} {x' : σ} (hK:K1=nv keep Inv y K) (hy:some (LR.next x')=some y) (hi:Inv x' (eE keep s) H):K1 .normal s H:=by
 rw [hK];exact ⟨x',(Option.some.inj hy).symm,hi⟩
theorem CE {σ ρ :Type} {keep:List Nat} {Inv: σ →aj→J→Prop} {y:LR σ ρ} {i:Nat} (hK:K1=nv keep Inv y K) (h:K (.exit i) s H):K1 (.exit i) s H:=by rw [hK];exact h
theorem CF {σ ρ :Type} {keep:List Nat} {Inv: σ →aj→J→Prop} {y:LR σ ρ} (hK:K1=nv keep Inv y K) (h:K .ret s H):K1 .ret s H:=by rw [hK];exact h
def pY (Q:aj→J→Prop) (K:Ex→aj→J→Prop):Ex→aj→J→Prop
 | .normal,s,H=>Q s H
 | .exit i,s,H=>K (.exit i) s H
 | .ret,s,H=>K .ret s H
theorem CG (gC:Good C) {a:AC} (Q:aj→J→Prop) (h: ∀K1,K1=pY Q K→aJ (aq C) C a s H K1) (hq: ∀s H,Q s H→K .normal s H):aJ (aq C) C a s H K:=by
 refine zY (h _ rfl) (fun e s H he=> ?_) gC;cases e with
 |normal=>exact hq s H he
 |exit i=>exact he
 |ret=>exact he
theorem CH {Q:aj→J→Prop} (hK:K1=pY Q K) (h:Q s H):K1 .normal s H:=by rw [hK];exact h
theorem CI {Q:aj→J→Prop} (hK:K1=pY Q K) (h:K .ret s H):K1 .ret s H:=by rw [hK];exact h
end
end Go.VS
namespace Go.VS
section
variable {C:aG} {q th:Bool} {s:aj} {H:J} {K:AV→J→Prop} {L:List It}
theorem uP:dZ none s=s:=rfl
def Aj (k:IntKind) (a b:Int):Int:=k.wrap (BitVec.ofInt k.bits a&&&BitVec.ofInt k.bits b).toNat
def Ak (k:IntKind) (a b:Int):Int:=k.wrap (BitVec.ofInt k.bits a|||BitVec.ofInt k.bits b).toNat
def Al (k:IntKind) (a b:Int):Int:=k.wrap (BitVec.ofInt k.bits a^^^BitVec.ofInt k.bits b).toNat
def CJ (k:IntKind) (a b:Int):Int:=k.wrap (a*2^(min b.toNat k.bits))
def uQ (k:IntKind) (a b:Int):Int:=a.fdiv (2^(min b.toNat k.bits))
theorem uR (E:aK) (t:TypeId) (k:IntKind) (a b:Int):aI E .and t (.int k a) (.int k b)=some (.int k (Aj k a b)):=z6 ..
theorem uS (E:aK) (t:TypeId) (k:IntKind) (a b:Int):aI E .or t (.int k a) (.int k b)=some (.int k (Ak k a b)):=z7 ..
theorem uT (E:aK) (t:TypeId) (k:IntKind) (a b:Int):aI E .xor t (.int k a) (.int k b)=some (.int k (Al k a b)):=z8 ..
theorem CK (k:IntKind) (a b:Int) (h:decide (b<0)=false):sr k a b=some (uQ k a b):=by simp at h;simp [sr,uQ,Int.not_lt.2 h]
def pZ (E:aK) (src dst:TypeId) (x:AV) (H:J) (K:AV→J→Prop):Prop:=cV (match E src,E dst,x with
 |some _,some td,.int _ n=>match td.au with
  | .it k=>some (.int k (k.wrap n),H)
  |_=>none
 |some _,some td,.str l=>match td.au with
  | .str=>some (.str l,H)
  | .sl e=>match E e with
   |some te=>match te.au with
    | .it .u8=>if te.sz=1∧te.bytes=1∧l.length≤2^45 then some (.ref H.bs.length H.st 0 l.length,H.new 1 false (l.map fun b=> .int .u8 b.toNat)) else none
    |_=>none
   |none=>none
  |_=>none
 |some ts,some td,x=>match ts.au,td.au with
  | .sl e,.str=>match E e with
   |some te=>match te.au with
    | .it .u8=>match cN H x with
     |some xs=>if te.sz=1 then (match (bytesOf xs).map AV.str with|some v=>some (v,H)|none=>none) else none
     |none=>none
    |_=>none
   |none=>none
  |_,_=>none
 |_,_,_=>none) K
theorem uU (a b:TypeId) (x:Operand):aZ (aq C) C q th (.convert a b x) s H K=pZ C.E a b (ev s x) H K:=by
 rw [db _ rfl];rfl
def p0 (ta tb:Option TI) (n:Int) (H:J) (K:AV→J→Prop):Prop:=match ta,tb with
 |some _,some td=>match td.au with| .it k=>K (.int k (k.wrap n)) H|_=>False
 |_,_=>False
theorem uV (E:aK) (a b:TypeId) (j:IntKind) (n:Int):pZ E a b (.int j n) H K=p0 (E a) (E b) n H K:=by
 simp only [pZ,p0];cases E a with
 |none=>rfl
 |some ta=>
  cases E b with
  |none=>rfl
  |some tb=>simp only;cases tb.au<;>rfl
def Am (l:List UInt8):List Int:=l.map fun b=>(b.toNat:Int)
def CL (l:List Int):List UInt8:=l.map fun n=>UInt8.ofNat n.toNat
def CM (l:List UInt8):Option (List Int):=if l.length≤2^45 then some (Am l) else none
def dU {α :Type} (l:List α) (lo hi:Int):Option (List α):=if 0≤lo∧lo≤hi∧hi≤l.length then some ((l.drop lo.toNat).take (hi.toNat-lo.toNat)) else none
def eN (E:aK) (t:TypeId) (x:AV) (lo hi mx:Option (Option Int)) (H:J) (K:AV→J→Prop):Prop:=match lo,hi,mx with
 |some lo,some hi,some mx=>cL (eO E t x lo hi mx H) H K
 |_,_,_=>False
theorem uW (t:TypeId) (x:Operand) (lo hi mx:Option Operand):aZ (aq C) C q th (.slice t x lo hi mx) s H K=eN C.E t (ev s x) (dW (lo.map (ev s))) (dW (hi.map (ev s))) (dW (mx.map (ev s))) H K:=by
 rw [db _ rfl];simp only [aP,eN];generalize dW (lo.map (ev s))=a;generalize dW (hi.map (ev s))=b;generalize dW (mx.map (ev s))=c;cases a<;>cases b<;>cases c<;>first|rfl|(simp only;rename_i lo hi mx;generalize eO C.E t (ev s x) lo hi mx H=z;cases z<;>rfl)
theorem uX:dW none=some none:=rfl
theorem uY (k:IntKind) (n:Int):dW (some (.int k n))=some (some n):=rfl
theorem nw {α :Type} {c: α →AV} {sz:Nat} (hc: ∀x,(c x).cells.length=sz) (l:List α):bK sz (l.map c)=true:=by
 simp [bK,hc]
theorem CN {α β :Type} {E:aK} {t e:TypeId} {ti te:TI} {l:List α} {c: α →AV} {lo hi:Option Int} {f:List α →Option β} {r: β} (ht:E t=some ti) (hu:ti.au= .sl e) (he:E e=some te) (hc: ∀x,(c x).cells.length=te.sz) (hh:(dU l (lo.getD 0) (hi.getD l.length)).bind f=some r)
 (h: ∀m,dU l (lo.getD 0) (hi.getD l.length)=some m→f m=some r→K (.fz (m.map c)) H):eN E t (.fz (l.map c)) (some lo) (some hi) (some none) H K:=by
 cases hm:dU l (lo.getD 0) (hi.getD l.length) with
 |none=>rw [hm] at hh;simp at hh
 |some m=>
  rw [hm] at hh;have hk:=h m hm hh;unfold dU at hm;split at hm
  ·rename_i An;simp only [Option.some.injEq] at hm;simp only [eN,eO,ht,hu,he,nw hc,Bool.not_true,Bool.false_eq_true,if_false,List.length_map,if_pos An,cL];rw [←hm,List.map_take,List.map_drop] at hk;exact hk
  ·simp at hm
theorem CO {α β :Type} {E:aK} {t e:TypeId} {ti te:TI} {v:AV} {l:List α} {c: α →AV} {lo hi:Option Int} {f:List α →Option β} {r: β} (j:Nat) (hS:az H L) (hj:L[j]? =some ⟨v,te.sz,l.map c⟩) (hp:bA v) (ht:E t=some ti) (hu:ti.au= .sl e) (he:E e=some te) (hh:(dU l (lo.getD 0) (hi.getD l.length)).bind f=some r)
 (h: ∀v' m,bA v' →dU l (lo.getD 0) (hi.getD l.length)=some m→f m=some r→az H (L.set j ⟨v',te.sz,m.map c⟩)→K v' H):eN E t v (some lo) (some hi) (some none) H K:=by
 cases hm:dU l (lo.getD 0) (hi.getD l.length) with
 |none=>rw [hm] at hh;simp at hh
 |some m=>
  rw [hm] at hh;have hk:=fun v' bu=>h v' m bu hm hh
  unfold dU at hm;split at hm
  ·rename_i hc;obtain ⟨di,dO,lF⟩:=hc;simp only [Option.some.injEq] at hm;have af:=hS.ok j _ hj;obtain ⟨k0,af⟩:=af;have iJ:L.set j ⟨v,te.sz,l.map c⟩=L:=List.ext_getElem? fun k=>by
    rw [List.getElem?_set];split
    ·rename_i e;subst e;have:=(List.getElem?_eq_some_iff.1 hj).1;simp only [this,if_true];exact hj.symm
    ·rfl
   have Ao:bK te.sz (m.map c)=true:=by
    simp only [bK,List.all_eq_true,List.mem_map] at k0⊢;rintro z ⟨y,hy,rfl⟩;rw [←hm] at hy;exact k0 _ ⟨y,List.mem_of_mem_drop (List.mem_of_mem_take hy),rfl⟩
   have empty:l.map c=[]→m=[]∧l=[]∧lo.getD 0=0∧hi.getD l.length=0:=by
    intro e;rw [List.map_eq_nil_iff] at e;subst e;have e0:(([]:List α).length:Int)=0:=rfl;rw [e0] at lF dO⊢;exact ⟨by rw [←hm];simp,rfl,by omega,by omega⟩
   simp only at af k0;split at af
   ·obtain ⟨rfl,rfl,e1,e2⟩:=empty af;have hZ:hi.getD 0=0:=by cases hi with|none=>rfl|some x=>simpa using e2
    simp only [eN,eO,ht,hu,he];rw [if_pos ⟨e1,hZ,rfl,by simp⟩]
    exact hk .nil nr (by rw [iJ];exact hS)
   ·obtain ⟨rfl,rfl,e1,e2⟩:=empty af;have hZ:hi.getD 0=0:=by cases hi with|none=>rfl|some x=>simpa using e2
    simp only [eN,eO,ht,hu,he];rw [if_pos ⟨e1,hZ,rfl,by simp⟩]
    exact hk .e0 nt (by rw [iJ];exact hS)
   ·rename_i id ad off len;obtain ⟨k1,b,hb,k2,k3,k4,k5⟩:=af;simp only [List.length_map] at k1;subst k1;simp only [eN,eO,ht,hu,hb,he,k2,ne_eq,not_true_eq_false,if_false];rw [if_pos ⟨di,dO,by omega⟩]
    have gM:(hi.getD (l.length:Int)).toNat-(lo.getD 0).toNat=m.length:=by
     rw [←hm,List.length_take,List.length_drop];omega
    refine hk _ (gL ..) (hS.a7 hj rfl (fun _ _ _ _=>rfl) ⟨Ao,?_,b,hb,k2,k3,?_,?_⟩ (fun k hk=>by simpa [bW] using hk.symm))
    ·simp only [List.length_map];exact gM
    ·omega
    ·simp only [aD] at k5⊢;rw [←hm,List.map_take,List.map_drop,←k5,List.drop_take,List.drop_drop,List.take_take];congr 1;omega
   ·rename_i id ad ix off;obtain ⟨rfl,rfl,_⟩:=af;exact absurd rfl (hp.ne id ad)
   ·exact af.elim
  ·simp at hm
def kn {α :Type} (nj:Nat) (n:Int) (d: α):Option (List α):=if 0≤n∧roomy n.toNat nj then some (List.replicate n.toNat d) else none
theorem CP {α β :Type} {E:aK} {t u:TypeId} {te tu:TI} {e:TypeId} {v x:AV} {l m:List α} {c: α →AV} {f:List α →Option β} {r: β} (j:Nat) (hS:az H L) (hj:L[j]? =some ⟨v,te.sz,l.map c⟩) (hp:bA v) (ht:cB E t=some te) (hu:E u=some tu) (hi:tu.au= .sl e)
 (hx:cN H x=some (m.map c)) (aA: ∀x,(c x).cells.length=te.sz) (h0:(te.sz==0)=false) (hh:(app te.bytes l m).bind f=some r) (h: ∀v' H' lm,bA v' →app te.bytes l m=some lm→f lm=some r→az H' (L.set j ⟨v',te.sz,lm.map c⟩)→K v' H'):
 cV (ct E .append #[t,u] [v,x] H) K:=
 Ai j hS hj hp ht hu hi hx (nw aA m) h0 hh fun v' H' h1 h2 h3 h4=>h v' H' _ h1 h2 h3 h4
theorem az.perm {L' :List It} (h:az H L) (hp:L.Perm L'):az H L' :=by
 have nd: ∀{L:List It},az H L↔(∀it∈L,gK H it)∧(L.filterMap (fun it=>bW it.v)).Nodup:=by
  intro L;constructor
  ·intro h;refine ⟨fun it hi=> ?_,?_⟩
   ·obtain ⟨i,gX⟩:=List.mem_iff_getElem?.1 hi;exact h.ok i it gX
   ·induction L with
    |nil=>simp
    |cons a L ih=>
     have ih:=ih h.tl;rw [List.filterMap_cons];cases ha:bW a.v with
     |none=>exact ih
     |some id=>
      refine List.nodup_cons.2 ⟨fun hm=> ?_,ih⟩;obtain ⟨b,hb,bN⟩:=List.mem_filterMap.1 hm;obtain ⟨j,hj⟩:=List.mem_iff_getElem?.1 hb;have:=h.b_ 0 (j+1) a b id rfl hj ha bN;omega
  ·rintro ⟨h1,h2⟩;refine ⟨fun i it hi=>h1 it (List.mem_of_getElem? hi),?_⟩;clear h1;induction L with
   |nil=>intro i j a b id h;simp at h
   |cons a L ih=>
    have la:(L.filterMap (fun it=>bW it.v)).Nodup:=by
     rw [List.filterMap_cons] at h2;split at h2
     ·exact h2
     ·exact (List.nodup_cons.1 h2).2
    have no: ∀(j:Nat) (b:It) (id:Nat),L[j]? =some b→bW a.v=some id→bW b.v≠some id:=by
     intro j b id hj ha hb;rw [List.filterMap_cons,ha] at h2;exact (List.nodup_cons.1 h2).1 (List.mem_filterMap.2 ⟨b,List.mem_of_getElem? hj,hb⟩)
    intro i j x y id hi hj hx hy;cases i with
    |zero=>
     simp at hi;subst hi;cases j with
     |zero=>rfl
     |succ j=>exact absurd hy (no j y id (by simpa using hj) hx)
    |succ i=>
     cases j with
     |zero=>simp at hj;subst hj;exact absurd hx (no i x id (by simpa using hi) hy)
     |succ j=>have:=ih la i j x y id (by simpa using hi) (by simpa using hj) hx hy;omega
 rw [nd] at h⊢;exact ⟨fun it hi=>h.1 it (hp.mem_iff.2 hi),(hp.filterMap _).nodup_iff.1 h.2⟩
theorem az.front (h:az H L) (j:Nat) {it:It} (hj:L[j]? =some it):az H (it::L.eraseIdx j):=by
 refine h.perm ?_;have ax:=(List.getElem?_eq_some_iff.1 hj).1;have he:=(List.getElem?_eq_some_iff.1 hj).2;have:L=L.take j ++ it::L.drop (j+1):=by
  rw [←he,List.getElem_cons_drop,List.take_append_drop]
 rw [List.eraseIdx_eq_take_drop_succ]
 conv=>lhs;rw [this]
 exact List.perm_middle
theorem az.Ap (h:az H L) (sz:Nat):az H (⟨.nil,sz,[]⟩::L):=
 h.new (fun _ _ _=>rfl) ⟨rfl,rfl⟩ (fun k hk=>by simp [bW] at hk)
theorem az.Aq (h:az H L) (sz:Nat):az H (⟨.e0,sz,[]⟩::L):=
 h.new (fun _ _ _=>rfl) ⟨rfl,rfl⟩ (fun k hk=>by simp [bW] at hk)
theorem az.drop (h:az H L) (j:Nat):az H (L.eraseIdx j):=by
 cases hj:L[j]? with
 |none=>
  rw [List.eraseIdx_of_length_le (List.getElem?_eq_none_iff.1 hj)];exact h
 |some it=>exact (h.front j hj).tl
theorem az.CQ (hS:az H L) {id ad sz:Nat} {a:AV} (hm:⟨.ptr id ad 0 0,sz,[a]⟩∈L):H.ap id ad=some ⟨ad,sz,false,[a]⟩:=by
 obtain ⟨j,hj⟩:=List.mem_iff_getElem?.1 hm;exact hS.var j hj
theorem p6 {α β :Type} {g:FuncId} {bM args ys:List AV} {bV:Bool} {o:Option α} {f: α →Option β} {r: β} {bP:List (List Sh)} (h:o.bind f=some r) (hr:(C.fH g).bP=bP) (hp:b9 [] (args ++ bM) H=some (ys,bV))
 (hk: ∀x,o=some x→f x=some r→ ∃y,aq C g ys ⟨0,[]⟩ (fun v L=> ∃rs zs L2,v=cc rs∧c7 bP rs L=some (zs,L2)∧y=cc zs)∧(bV=false∨cf y=true)∧if th||bV then K (aF y H).1 (aF y H).2 else K (br y) H):kl C q th (.fn g bM) args H K:=by
 cases ho:o with
 |none=>rw [ho] at h;simp at h
 |some x=>
  rw [ho] at h;have hq:dq (aq C) C g (args ++ bM) th H K:=by
   unfold dq;rw [hp,hr];exact hk x ho h
  cases q with
  |true=>exact hq
  |false=>exact .inr hq
end
end Go.VS
