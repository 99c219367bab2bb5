import Derived.Test.YtmmomohapflagaaVaC
import Derived.StillTail
namespace Go.VS
structure gZ (ops:Array Oper) (az:List Nat):Prop where
 back: ∀(i:Nat) (o:Oper),ops[i]? =some o→ ∀e∈o.after,Region.binds .any e=true→e.on<i
 gy: ∀(i j:Nat) (o p:Oper) (d:Tmp),i≠j→ops[i]? =some o→ops[j]? =some p→p.dst=some d→o.dst≠some d
 ord: ∀(i j:Nat) (o p:Oper) (d:Tmp),i≠j→ops[i]? =some o→ops[j]? =some p→p.dst=some d→d∈Oper.looksAt ops o→((eY ops.toList).getD (max i j) 0).testBit (min i j)=true
 after: ∀(i j:Nat) (o p:Oper),ops[i]? =some o→ops[j]? =some p→i∈az→i<j→((eY ops.toList).getD j 0).testBit i=true∨(j∉az∧p.guard=none∧iG p.op=true∧ ∃d,p.dst=some d)
 late: ∀(i j:Nat) (o p:Oper),ops[i]? =some o→ops[j]? =some p→i∈az→j<i→((eY ops.toList).getD i 0).testBit j=false→j∉az∧p.guard=none∧j9 p.op=true∧(∃d,p.dst=some d)∧
  ∀(k:Nat) (r:Oper) (d:Tmp),ops[k]? =some r→r.dst=some d→j≤k→d∉Oper.looksAt ops p
theorem yp {ops:Array Oper} {az:List Nat} (h:ia ops az=true):gZ ops az:=by
 have lt: ∀{i:Nat} {o:Oper},ops[i]? =some o→i<ops.toList.length:=fun h=>by have:=(Array.getElem?_eq_some_iff.1 h).1;simpa using this
 have tl: ∀{i:Nat} {o:Oper},ops[i]? =some o→ops.toList[i]? =some o:=fun h=>by simpa using h
 have one: ∀(i:Nat) (o:Oper),ops[i]? =some o→(∀e∈o.after,Region.binds .any e=true→e.on<i)∧ ∀(j:Nat) (p:Oper),ops[j]? =some p→i≠j→
  (∀d,p.dst=some d→o.dst≠some d∧(d∈Oper.looksAt ops o→((eY ops.toList).getD (max i j) 0).testBit (min i j)=true))∧
  (i∈az→i<j→((eY ops.toList).getD j 0).testBit i=true∨(j∉az∧p.guard=none∧iG p.op=true∧ ∃d,p.dst=some d))∧
  (i∈az→j<i→((eY ops.toList).getD i 0).testBit j=false→j∉az∧p.guard=none∧j9 p.op=true∧(∃d,p.dst=some d)∧ ∀(k:Nat) (r:Oper) (d:Tmp),ops[k]? =some r→r.dst=some d→j≤k→d∉Oper.looksAt ops p):=by
  intro i o ho;simp only [ia,List.all_eq_true,List.mem_range] at h;have hi:=h i (lt ho);rw [tl ho] at hi;simp only [Bool.and_eq_true,Array.all_eq_true_iff_forall_mem,List.all_eq_true,List.mem_range,Bool.or_eq_true,Bool.not_eq_true',decide_eq_true_eq] at hi;obtain ⟨ha,hb⟩:=hi;refine ⟨fun e he oU=>(ha e he).resolve_left (by simp [oU]),fun j p hp kQ=> ?_⟩
  have hj:=hb j (lt hp);rw [tl hp] at hj;simp only [Bool.or_eq_true,beq_iff_eq,Bool.and_eq_true,Bool.not_eq_true'] at hj;rcases hj with hj|⟨⟨ml,jA⟩,jO⟩
  ·exact absurd hj kQ
  refine ⟨fun d hd=> ?_,fun hl aw=> ?_,fun hl aw oU=> ?_⟩
  ·rw [hd] at ml;simp only [Bool.and_eq_true,bne_iff_ne,ne_eq,Bool.or_eq_true,Bool.not_eq_true'] at ml;exact ⟨ml.1,fun hm=>ml.2.resolve_left (by simp [hm])⟩
  ·rcases jA with (jA|jA)|⟨⟨⟨q1,q2⟩,q3⟩,q4⟩
   ·simp [hl,aw] at jA
   ·exact .inl jA
   ·exact .inr ⟨by simpa using q1,by simpa using q2,q3,Option.isSome_iff_exists.1 q4⟩
  ·rcases jO with (jO|jO)|⟨⟨⟨⟨q1,q2⟩,q3⟩,q4⟩,q5⟩
   ·simp [hl,aw] at jO
   ·rw [oU] at jO;simp at jO
   ·refine ⟨by simpa using q1,by simpa using q2,q3,Option.isSome_iff_exists.1 q4,fun k r d hk hr yq hm=> ?_⟩
    simp only [List.all_eq_true,List.mem_range] at q5;have:=q5 k (lt hk);rw [tl hk] at this;simp only [hr] at this;simp [yq,hm] at this
 exact ⟨fun i o ho=>(one i o ho).1,fun i j o p d kQ ho hp hd=>(((one i o ho).2 j p hp kQ).1 d hd).1,fun i j o p d kQ ho hp hd=>(((one i o ho).2 j p hp kQ).1 d hd).2,
  fun i j o p ho hp hl aw=>((one i o ho).2 j p hp (by omega)).2.1 hl aw,fun i j o p ho hp hl aw=>((one i o ho).2 j p hp (by omega)).2.2 hl aw⟩
theorem oV (az:List Nat) (n:Nat): ∀(m b:Nat),m=n-b→b≤n→ ∃c,b≤c∧c≤n∧(c=n∨c∈az)∧ ∀i,b≤i→i<c→i∉az
 |0,b,hm,hb=>⟨b,Nat.le_refl _,hb,.inl (by omega),fun i h1 h2=>by omega⟩
 |m+1,b,hm,hb=>by
  by_cases h:b∈az
  ·exact ⟨b,Nat.le_refl _,hb,.inr h,fun i h1 h2=>by omega⟩
  ·obtain ⟨c,h1,h2,h3,h4⟩:=oV az n m (b+1) (by omega) (by omega)
   refine ⟨c,by omega,h2,h3,fun i k1 k2=> ?_⟩
   by_cases hi:i=b
   ·subst hi;exact h
   ·exact h4 i (by omega) k2
section draw
variable {P:Program} {C:aF} {X:bD} {ops:Array Oper} {az:List Nat} {th:List Nat} {K:aj→J→Prop} {s:Nat→aj} {H:Nat→J} {v:Nat→AV} {act:Nat→Bool}
abbrev iu (X:bD) (C:aF) (ops:Array Oper) (az:List Nat) (th:List Nat) (K:aj→J→Prop) (s:Nat→aj) (H:Nat→J) (v:Nat→AV) (act:Nat→Bool):Prop:=
 Tr X C ops (fun i=> !az.contains i) (fB ops az) th K ops.toList 0 s H v act
theorem g6 (t:iu X C ops az th K s H v act): ∀(m i:Nat),i+m≤ops.size→(∀k,i≤k→k<i+m→k∉az)→QG (H i) (H (i+m))
 |0,i,_,_=> .refl _
 |m+1,i,hn,hl=>by
  have h1:=g6 t m i (by omega) (fun k h1 h2=>hl k h1 (by omega))
  have ho:=Array.getElem?_eq_getElem (xs:=ops) (show i+m<ops.size by omega)
  obtain ⟨_,_,h3,h4,_⟩:=t.step (i+m) _ (by rw [Array.getElem?_toList];exact ho)
  refine h1.trans ?_;cases ha:act (i+m) with
  |true=>
   have:=h3 ha;have jP:(!az.contains (0+(i+m)))=true:=by simp only [Nat.zero_add];simpa using hl (i+m) (by omega) (by omega)
   rw [jP] at this;exact yn this
  |false=>have:=(h4 ha).2;rw [show i+(m+1)=i+m+1 by omega,this];exact .refl _
theorem mm (dk:gZ ops az) (t:iu X C ops az th K s H v act): ∀(i:Nat),i≤ops.size→(s i).length=(s 0).length∧ ∀x,x<(s 0).length→
 (∀k o,k<i→ops[k]? =some o→o.dst=some x→(s i).getD x .undef=v k)∧((∀k o,k<i→ops[k]? =some o→o.dst≠some x)→(s i).getD x .undef=(s 0).getD x .undef)
 |0,_=>⟨rfl,fun x hx=>⟨fun k o h=>by omega,fun _=>rfl⟩⟩
 |i+1,hi=>by
  obtain ⟨h1,h2⟩:=mm dk t i (by omega)
  have ho:=Array.getElem?_eq_getElem (xs:=ops) (show i<ops.size by omega)
  obtain ⟨hs,_⟩:=t.step i _ (by rw [Array.getElem?_toList];exact ho)
  have hlen:(s (i+1)).length=(s 0).length:=by
   rw [hs];unfold bd;split
   ·simpa using h1
   ·exact h1
  refine ⟨hlen,fun x hx=>⟨fun k o hk af hd=> ?_,fun eR=> ?_⟩⟩
  ·rw [hs];by_cases bP:k=i
   ·subst bP;rw [ho] at af;simp only [Option.some.injEq] at af;subst af;rw [hd];simp only [bd];rw [←h1] at hx;simp [List.getD,hx]
   ·have aK:=dk.gy i k _ o x (fun h=>bP h.symm) ho af hd;have:=(h2 x hx).1 k o (by omega) af hd
    rw [←this];unfold bd;split
    ·rename_i d bZ;have:d≠x:=fun h=>aK (by rw [bZ,h])
     simp [List.getD,List.getElem?_set_ne this]
    ·rfl
  ·rw [hs];have aK:=eR i _ (Nat.lt_succ_self _) ho;rw [←(h2 x hx).2 (fun k o hk af=>eR k o (by omega) af)]
   unfold bd;split
   ·rename_i d bZ;have:d≠x:=fun h=>aK (by rw [bZ,h])
    simp [List.getD,List.getElem?_set_ne this]
   ·rfl
structure oW (C:aF) (o:Op) (sz:Nat) (el:List AV) (x:Nat→Nat→AV) (u:Nat→Value):Prop where
 ev: ∀(X:bD) (q th:Bool) (o' :Oper) (s:aj) (H:J) (K:AV→J→Prop),o'.op=o→wpOp X C q th o' s H K→K (x H.bs.length H.st) (H.new sz false el)
 yr: ∀(i:Nat) (y:AV),el[i]? =some y→y.cells.length=sz
 rel: ∀(w:World) (G:J) (φ :ag) (A:ah) (id ad c:Nat),G.get id=some ⟨ad,sz,false,el⟩→ad<G.st→ φ id=some (.at_ c 0)→el.length*sz≤a_ w c→R w G φ A (x id ad) (u c)
def mn (el:List AV) (sz:Nat) (arr:Array Value):Prop:=el.length*sz≤arr.size∧
 ∀(i:Nat) (x:AV) (j:Nat) (y:AV) (v:Value),el[i]? =some x→x.cells[j]? =some y→arr[i*sz+j]? =some v→(∀(w:World) (G:J) (φ :ag) (A:ah),R w G φ A y v)∧v.oneCell' =true
theorem yt {P:Program} {C:aF} (hE: ∀t ti,C.E t=some ti→aT P t ti) {X:bD} {q th:Bool} {o:Oper} {s:aj} {H:J} {K:AV→J→Prop} (he:iG o.op=true) (h:wpOp X C q th o s H K):
 ∃sz el x u,oW C o.op sz el x u∧ ∀(a:Act) (w:World),∃arr T,(execOp a.eval o).run P w= .ok (.value (u w.heap.size)) (w.alloc (.cells arr T))∧mn el sz arr:=by
 obtain ⟨dst,op,ty,pos,after,guard⟩:=o;simp only at he⊢;cases op with
 |alloc tt=>
  unfold wpOp at h;simp only [aL] at h;cases kR:C.E tt with
  |none=>rw [kR] at h;exact h.2.elim
  |some ti=>
   rw [kR] at h;cases hz:dU ti with
   |none=>simp only [hz] at h;exact h.2.elim
   |some z=>
    have db:z.cells.length=ti.sz:=by
     obtain ⟨zv,e1,e2,e3,e4,_,e5⟩:=iK (hE _ _ kR) hz default;rw [e3,e4]
    refine ⟨ti.sz,[z],fun id ad=> .ptr id ad 0 0,fun c=> .pointer (some ⟨c,0,none⟩),⟨fun X q th o' s H K ho h=> ?_,fun i y hy=> ?_,fun w G φ A id ad c _ hv aY _=>nk hv aY⟩,fun a w=> ?_⟩
    ·obtain ⟨dst,op,ty,pos,after,guard⟩:=o';simp only at ho;subst ho;unfold wpOp at h;simp only [aL,kR,hz] at h;exact h.2
    ·cases i with
     |zero=>simp at hy;subst hy;exact db
     |succ i=>simp at hy
    ·obtain ⟨zv,e1,e2,e3,e4,_,e5⟩:=iK (hE _ _ kR) hz w;refine ⟨zv.cells,tt,?_,by simp [e2],fun i x j y v hx hy hv=> ?_⟩
     ·show ((do pure (.value (←Instr.alloc tt true (.tuple #[]))):Sem Next).run P w)=_
      simp [Instr.alloc,e1,newVar,newRow]
     ·cases i with
      |zero=>
       simp only [List.getElem?_cons_zero,Option.some.injEq,Nat.zero_mul,Nat.zero_add] at hx hv;subst hx;rw [e3] at hy;have hh:=fun (w:World) (A:ah)=>e5 w A j y v hy hv;exact ⟨fun w G φ A=> .fr _ _ (hh w A).1,(hh w (fun _=>False)).2⟩
      |succ i=>simp at hx
 |buildSlice t n ps=>
  simp only [iG,Bool.and_eq_true,bne_iff_ne,ne_eq,List.all_eq_true] at he;obtain ⟨hn,hc⟩:=he;have yu: ∀(s s' :aj),(ps.toList.map fun p=>(p.1,ev s p.2))=ps.toList.map fun p=>(p.1,ev s' p.2):=fun s s' =>List.map_congr_left fun p hp=>by
   have:=hc p hp;cases hq:p.2 with
   |const v=>rfl
   |tmp x=>rw [hq] at this;simp [j_] at this
   |global x=>rfl
   |func x=>rfl
  unfold wpOp at h;simp only [aL,if_neg hn] at h;cases bf:cm C.E t with
  |none=>rw [bf] at h;exact h.2.elim
  |some te=>
   rw [bf] at h;obtain ⟨ti,e,ht,hu,ci⟩:=iN bf;cases hz:dU te with
   |none=>simp only [hz] at h;exact h.2.elim
   |some zA=>
    simp only [hz] at h;by_cases hcnd:n*te.sz≤1000000∧te.sz≠0
    ·rw [if_pos hcnd] at h;cases cE:hO te.sz (List.replicate n zA) (ps.toList.map fun p=>(p.1,ev s p.2)) with
     |none=>rw [cE] at h;exact h.2.elim
     |some el=>
      have parts: ∀(ρ :Operand→Value),(∀v,ρ (.const v)=v)→ ∀(w:World) (G:J) (φ :ag) (A:ah),∀p∈ps.toList,R w G φ A (ev s p.2) (ρ p.2):=fun ρ aR w G φ A p hp=>by
       have:=hc p hp;cases hq:p.2 with
       |const v=>rw [aR];exact .fr _ _ (FR.ofValue w A v)
       |tmp x=>rw [hq] at this;simp [j_] at this
       |global x=>rw [hq] at this;simp [j_] at this
       |func x=>rw [hq] at this;simp [j_] at this
      have fill: ∀(ρ :Operand→Value),(∀v,ρ (.const v)=v)→ ∀(w0:World),∃(zv:Value) (b4:Array Value),(zeroValue e).run P w0= .ok zv w0∧Instr.fill (fun i=>some (i*te.sz,te.sz)) ((Array.range (n*te.sz)).map (fun k=>zv.cells[k % zv.cells.size]!)) ((ps.map fun (i,x)=>(i,ρ x)).toList)=some b4∧b4.size=el.length*te.sz∧el.length=n∧
       (∀(i:Nat) (x:AV),el[i]? =some x→x.cells.length=te.sz)∧mn el te.sz b4:=fun ρ aR w0=>by
       obtain ⟨zv,z1,z2,z3,z4,_,z5⟩:=iK (hE _ _ ci) hz w0;have go: ∀(w:World) (G:J) (φ :ag) (A:ah),_:=fun w G φ A=>nC (w:=w) (G:=G) (φ := φ) (A:=A) hcnd.2 _ _ (List.replicate n zA) ((Array.range (n*te.sz)).map (fun k=>zv.cells[k % zv.cells.size]!)) _ (lE (_E:=C.E) (parts ρ aR w G φ A)).1 (lE (_E:=C.E) (parts ρ aR w G φ A)).2
        (by simp) (fun i x hx=>by
         simp only [List.getElem?_replicate] at hx;split at hx
         ·simp only [Option.some.injEq] at hx;subst hx;rw [z3,z4]
         ·simp at hx)
        (fun i x j y v hx hy hv=>by
         simp only [List.getElem?_replicate] at hx;split at hx
         ·rename_i hi;simp only [Option.some.injEq] at hx;subst hx;rw [z3] at hy;have hj:j<te.sz:=by rw [←z4];exact (List.getElem?_eq_some_iff.1 hy).1
          have:=z5 w A j y v hy (kl z2 hi hj hv);exact ⟨.fr _ _ this.1,this.2⟩
         ·simp at hx) cE
       obtain ⟨b4,f1,f2,f3,f4,f5⟩:=go w0 ⟨0,[]⟩ (fun _=>none) (fun _=>False);refine ⟨zv,b4,z1,f1,f2,by rw [f3];simp,f4,by rw [f2];exact Nat.le_refl _,fun i x j y v hx hy hv=>⟨fun w G φ A=> ?_,(f5 i x j y v hx hy hv).2⟩⟩
       obtain ⟨An,g1,_,_,_,g5⟩:=go w G φ A;rw [f1] at g1;simp only [Option.some.injEq] at g1;subst g1;exact (g5 i x j y v hx hy hv).1
      obtain ⟨_,_,_,_,_,hlen,yv,_⟩:=fill (fun o=>match o with| .const v=>v|_=>undef) (fun _=>rfl) default
      refine ⟨te.sz,el,fun id ad=> .ref id ad 0 n,fun c=> .slice (some ⟨c,0,none⟩) n n,⟨fun X q th o' s' H K ho h=> ?_,yv,fun w G φ A id ad c hg hv aY hb=> ?_⟩,fun a w=> ?_⟩
      ·obtain ⟨dst,op,ty,pos,after,guard⟩:=o';simp only at ho;subst ho;unfold wpOp at h;simp only [aL,if_neg hn,bf,hz,if_pos hcnd,yu s' s,cE] at h
       exact h.2
      ·exact jz hg hv aY (by simp [hlen]) (Nat.le_refl _) (by simp [hlen]) (by rw [←hlen];exact hb)
      ·obtain ⟨zv,b4,z1,f1,f2,_,_,kS⟩:=fill a.eval (fun _=>rfl) w;have ie:=(hE _ _ ht).sl w hu;have aK: ¬(n*te.sz=0):=by
        intro h0;rcases Nat.mul_eq_zero.1 h0 with h0|h0<;>omega
       have nE: ¬(n*te.sz>2^24):=by omega
       refine ⟨b4,e,?_,kS⟩;show ((do pure (.value (←Instr.buildSlice t n (ps.map fun (i,x)=>(i,a.eval x)))):Sem Next).run P w)=_
       simp only [Instr.buildSlice,Sem.run_bind,ie,Result.andThen_ok,(hE _ _ ci).sizeOf,nE,aK,if_false,z1,f1,Sem.run_pure,newRow,run_newObj,World.alloc_eq]
    ·rw [if_neg hcnd] at h;exact h.2.elim
 |_=>simp [iG] at he
structure mo (w0 w:World) (φ :ag) (A:ah) (el:List AV) (sz n:Nat):Prop where
 old:w0.heap.size≤n
 lt:n<w.heap.size
 av:A n
 ow: ¬Ow φ n
 here: ∃arr T fr,w.heap[n]? =some (.cells arr T fr)∧(∀j,j<arr.size→ ¬(fr.1≤j∧j<fr.2))∧mn el sz arr
theorem mo.mono {w0 w w' :World} {G G' :J} {φ ak:ag} {A A' :ah} {el:List AV} {sz n:Nat} (h:mo w0 w φ A el sz n) (o:Out w G φ A w' G' ak A'):mo w0 w' ak A' el sz n:=by
 refine ⟨h.old,Nat.lt_of_lt_of_le h.lt o.post.size,o.bK n h.av h.ow,fun hw=> ?_,?_⟩
 ·rcases o.post.own n hw with k|k
  ·exact h.ow k
  ·have:=h.lt;omega
 ·rw [o.post.kept n h.lt h.ow];exact h.here
def ja (C:aF) (ops:Array Oper) (az:List Nat) (w0 w:World) (φ :ag) (A:ah) (a:Act) (j n:Nat):Prop:=
 j∉az∧ ∃(o:Oper) (d:Tmp) (sz:Nat) (el:List AV) (x:Nat→Nat→AV) (uv:Nat→Value),ops[j]? =some o∧o.guard=none∧o.dst=some d∧oW C o.op sz el x uv∧mo w0 w φ A el sz n∧
  ∀u,a.tmps[d]? =some u→u=uv n
theorem ja.mono {C:aF} {ops:Array Oper} {az:List Nat} {w0 w w' :World} {G G' :J} {φ ak:ag} {A A' :ah} {a a' :Act} {j n:Nat} (h:ja C ops az w0 w φ A a j n) (o:Out w G φ A w' G' ak A')
 (ht: ∀(r:Oper) (d:Tmp),ops[j]? =some r→r.dst=some d→a'.tmps[d]? =a.tmps[d]?):ja C ops az w0 w' ak A' a' j n:=by
 obtain ⟨h0,r,d,sz,el,x,uv,h1,h2,h4,h5,h7,h8⟩:=h;exact ⟨h0,r,d,sz,el,x,uv,h1,h2,h4,h5,h7.mono o,fun u hu=>h8 u (by rw [←ht r d h1 h4];exact hu)⟩
structure Inv (C:aF) (ops:Array Oper) (az:List Nat) (s:Nat→aj) (H:Nat→J) (v:Nat→AV) (w0:World) (aA:ag) (A0:ah) (listed:Array Bool) (a:Act) (w:World) (b c:Nat) (φ :ag) (A:ah) (pn:Nat→Nat):Prop where
 size:listed.size=ops.size
 shut:rz ops (fun i=>listed.getD i false=true)
 bc:b≤c
 cn:c≤ops.size
 cl:c=ops.size∨c∈az
 g9: ∀i,b≤i→i<c→i∉az
 iv: ∀i,i∈az→i<ops.size→(listed.getD i false=true↔i<b)
 base:b=0∨(b-1∈az∧0<b)
 out:Out w0 (H 0) aA A0 w (H c) φ A
 none: ∀i,b≤i→i<c→listed.getD i false=false→ ∀id,(H i).bs.length≤id→id<(H (i+1)).bs.length→ φ id=none
 eF:a.defers=[]
 len:(s 0).length=a.tmps.size
 wr: ∀(k:Nat) (o:Oper) (d:Tmp) (u:Value),ops[k]? =some o→o.dst=some d→listed.getD k false=true→k<c→a.tmps[d]? =some u→R w (H c) φ A (v k) u
 early: ∀(k:Nat),c≤k→listed.getD k false=true→ja C ops az w0 w φ A a k (pn k)
 mq: ∀(j k:Nat),c≤j→c≤k→listed.getD j false=true→listed.getD k false=true→pn j=pn k→j=k
 un: ∀(x:Tmp) (u:Value),(∀(k:Nat) (o:Oper),ops[k]? =some o→o.dst=some x→listed.getD k false=false)→a.tmps[x]? =some u→R w (H c) φ A ((s 0).getD x .undef) u
theorem mr {listed:Array Bool} {i:Nat} (hi:i<listed.size) (k:Nat):(listed.setIfInBounds i true).getD k false=true↔(k=i∨listed.getD k false=true):=by
 by_cases hk:k=i
 ·subst hk;simp [hi]
 ·rw [getD_set_ne false (fun h=>hk h.symm)];simp [hk]
variable {w0:World} {aA:ag} {A0:ah} {listed:Array Bool} {a:Act} {w:World} {b c:Nat} {φ :ag} {A:ah} {pn:Nat→Nat}
theorem Inv.look (inv:Inv C ops az s H v w0 aA A0 listed a w b c φ A pn) (dk:gZ ops az) (t:iu X C ops az th K s H v act) {i:Nat} {o:Oper} (fR:i≤c) (ho:ops[i]? =some o) (hu:listed.getD i false=false) (ha: ∀e∈o.after,Region.binds .any e=true→listed.getD e.on false=true)
 {m:Nat} (hm:m≤ops.size) (rC:i≤m) (iw:m=i∨ ∀(k:Nat) (r:Oper) (d:Tmp),ops[k]? =some r→r.dst=some d→i≤k→d∉Oper.looksAt ops o) {x:Tmp} (hx:x∈Oper.looksAt ops o):R w (H c) φ A (ev (s m) (.tmp x)) (a.eval (.tmp x)):=by
 obtain ⟨hl,hg⟩:=mm dk t m hm;simp only [ev,Act.eval];by_cases aw:x<(s 0).length
 ·have yw:x<a.tmps.size:=by rw [←inv.len];exact aw
  have aN:=Array.getElem?_eq_getElem yw
  rw [Array.getD_eq_getD_getElem?,aN,Option.getD_some];by_cases hw: ∃(k:Nat) (r:Oper),ops[k]? =some r∧r.dst=some x
  ·obtain ⟨k,r,hk,hr⟩:=hw;rcases Nat.lt_trichotomy k i with bP|bP|bP
   ·have hb:=dk.ord i k o r x (by omega) ho hk hr hx
    rw [show max i k=i by omega,show min i k=k by omega] at hb
    have bH:=mj inv.shut dk.back i o ho ha k hb;rw [(hg x aw).1 k r (by omega) hk hr]
    exact inv.wr k r x _ hk hr bH (by omega) aN
   ·subst bP;rw [ho] at hk;simp only [Option.some.injEq] at hk;subst hk;rcases iw with rfl|iw
    ·rw [(hg x aw).2 (fun k' o' bB er=>dk.gy k' m o' o x (by omega) er ho hr)]
     refine inv.un x _ (fun k' o' er bZ=> ?_) aN
     by_cases kT:k' =m
     ·subst kT;exact hu
     ·exact absurd bZ (dk.gy k' m o' o x kT er ho hr)
    ·exact absurd hx (iw k o x ho hr (Nat.le_refl _))
   ·rcases iw with rfl|iw
    ·have hb:=dk.ord m k o r x (by omega) ho hk hr hx
     rw [show max m k=k by omega,show min m k=m by omega] at hb
     have yx:listed.getD k false=false:=by
      cases hq:listed.getD k false with
      |false=>rfl
      |true=>
       have:=mj inv.shut dk.back k r hk (inv.shut k r hk hq) m hb;rw [hu] at this;simp at this
     rw [(hg x aw).2 (fun k' o' bB er=>dk.gy k' k o' r x (by omega) er hk hr)]
     refine inv.un x _ (fun k' o' er bZ=> ?_) aN
     by_cases kT:k' =k
     ·subst kT;exact yx
     ·exact absurd bZ (dk.gy k' k o' r x kT er hk hr)
    ·exact absurd hx (iw k r x hk hr (by omega))
  ·rw [(hg x aw).2 (fun k' o' _ er bZ=>hw ⟨k',o',er,bZ⟩)]
   exact inv.un x _ (fun k' o' er bZ=>absurd ⟨k',o',er,bZ⟩ hw) aN
 ·have:(s m).getD x .undef= .undef:=by simp [List.getD,List.getElem?_eq_none (show (s m).length≤x by rw [hl];exact Nat.le_of_not_lt aw)]
  rw [this];exact .fr _ _ (.undef _)
theorem Inv.oX (inv:Inv C ops az s H v w0 aA A0 listed a w b c φ A pn) (dk:gZ ops az) (t:iu X C ops az th K s H v act) {i:Nat} {o:Oper} (fR:i≤c) (ho:ops[i]? =some o) (hu:listed.getD i false=false) (ha: ∀e∈o.after,Region.binds .any e=true→listed.getD e.on false=true)
 {m:Nat} (hm:m≤ops.size) (rC:i≤m) (iw:m=i∨ ∀(k:Nat) (r:Oper) (d:Tmp),ops[k]? =some r→r.dst=some d→i≤k→d∉Oper.looksAt ops o): ∀y∈o.op.operands,R w (H c) φ A (ev (s m) y) (a.eval y):=by
 intro y hy;cases y with
 |tmp x=>
  refine inv.look dk t fR ho hu ha hm rC iw ?_;unfold Oper.looksAt;refine List.mem_append.2 (.inl (List.mem_filterMap.2 ⟨.tmp x,by simpa using hy,rfl⟩))
 |const v=>exact .fr _ _ (FR.ofValue w A v)
 |global g=>exact .fr _ _ (.undef _)
 |func f=>exact .fr _ _ (.fn f [] #[] rfl (by simp))
theorem Inv.kO (inv:Inv C ops az s H v w0 aA A0 listed a w b c φ A pn) (cM:St w0 (H 0) aA A0) (dk:gZ ops az) (t:iu X C ops az th K s H v act) {i:Nat} {o:Oper} (fR:i<c) (ho:ops[i]? =some o) (hl:i∉az) (ha: ∀e∈o.after,Region.binds .any e=true→listed.getD e.on false=true)
 {u:Value} {w' :World} {φ1:ag} {A1:ah} (bE:Out w (H c) φ A w' (H c) φ1 A1) (hr: ∀d,o.dst=some d→d<a.tmps.size→R w' (H c) φ1 A1 (v i) u)
 (bw: ∀id loc,φ1 id=some loc→ φ id=some loc∨(b≤i∧i<c∧(H i).bs.length≤id∧id<(H (i+1)).bs.length)):Inv C ops az s H v w0 aA A0 (listed.setIfInBounds i true) (a.put o.dst u) w' b c φ1 A1 pn:=by
 have hi:i<ops.size:=(Array.getElem?_eq_some_iff.1 ho).1;have aH:i<listed.size:=by rw [inv.size];exact hi
 have bL:=mr aH;have jb: ∀k,(listed.setIfInBounds i true).getD k false=false→k≠i∧listed.getD k false=false:=fun k hk=>by
  have:=(not_congr (bL k)).1 (by rw [hk];simp)
  refine ⟨fun h=>this (.inl h),?_⟩;cases hq:listed.getD k false with
  |false=>rfl
  |true=>exact absurd (.inr hq) this
 refine ⟨by simp [inv.size],fun k r hk bH e he hb=> ?_,inv.bc,inv.cn,inv.cl,inv.g9,fun k hk kU=> ?_,inv.base,inv.out.trans cM bE,fun k h1 h2 h3 id h4 h5=> ?_,?_,?_,fun k r d u' hk bQ bH dZ aN=> ?_,fun k jc bH=> ?_,fun j k hj hk iy bH hp=>inv.mq j k hj hk (((bL j).1 iy).resolve_left (by omega)) (((bL k).1 bH).resolve_left (by omega)) hp,fun x u' eR aN=> ?_⟩
 ·rcases (bL k).1 bH with rfl|bH
  ·rw [ho] at hk;simp only [Option.some.injEq] at hk;subst hk;exact (bL _).2 (.inr (ha e he hb))
  ·exact (bL _).2 (.inr (inv.shut k r hk bH e he hb))
 ·rw [bL,←inv.iv k hk kU];constructor
  ·rintro (rfl|h)
   ·exact absurd hk hl
   ·exact h
  ·exact .inr
 ·obtain ⟨bP,bH⟩:=jb k h3;have kV:=inv.cn;cases hq: φ1 id with
  |none=>rfl
  |some loc=>
   rcases bw id loc hq with h|⟨h6,h7,h8,h9⟩
   ·rw [inv.none k h1 h2 bH id h4 h5] at h;simp at h
   ·exfalso;rcases Nat.lt_or_ge k i with aw|yy
    ·have:=(g6 t (i-(k+1)) (k+1) (by omega) (fun j j1 j2=>inv.g9 j (by omega) (by omega))).1.2
     rw [show k+1+(i-(k+1))=i by omega] at this
     omega
    ·have:=(g6 t (k-(i+1)) (i+1) (by omega) (fun j j1 j2=>inv.g9 j (by omega) (by omega))).1.2
     rw [show i+1+(k-(i+1))=k by omega] at this
     omega
 ·cases hd:o.dst<;>simp [Act.put,inv.eF]
 ·cases hd:o.dst<;>simp [Act.put,inv.len]
 ·by_cases bP:k=i
  ·subst bP;rw [ho] at hk;simp only [Option.some.injEq] at hk;subst hk;rw [bQ] at aN;simp only [Act.put,Array.getElem?_setIfInBounds] at aN;simp only [if_true] at aN;split at aN
   ·rename_i aw;simp only [Option.some.injEq] at aN;subst aN;exact hr d bQ aw
   ·simp at aN
  ·have bH:=((bL k).1 bH).resolve_left bP;have aK:o.dst≠some d:=dk.gy i k o r d (fun h=>bP h.symm) ho hk bQ;have:a.tmps[d]? =some u' :=by
    cases hd:o.dst with
    |none=>rw [hd] at aN;exact aN
    |some d' =>
     rw [hd] at aN;simp only [Act.put,Array.getElem?_setIfInBounds] at aN;rw [if_neg (by rintro rfl;exact aK hd)] at aN
     exact aN
   exact (inv.wr k r d u' hk bQ bH dZ this).mono bE.bW
 ·have bP:k≠i:=by omega
  refine (inv.early k jc (((bL k).1 bH).resolve_left bP)).mono bE fun r d hk bQ=> ?_
  have aK:o.dst≠some d:=dk.gy i k o r d (fun h=>bP h.symm) ho hk bQ;cases hd:o.dst with
  |none=>rfl
  |some d' =>
   simp only [Act.put,Array.getElem?_setIfInBounds];rw [if_neg (by rintro rfl;exact aK hd)]
 ·have aK:o.dst≠some x:=fun hd=>by have:=eR i o ho hd;have h2:=(bL i).2 (.inl rfl);rw [this] at h2;simp at h2
  have:a.tmps[x]? =some u' :=by
   cases hd:o.dst with
   |none=>rw [hd] at aN;exact aN
   |some d' =>
    rw [hd] at aN;simp only [Act.put,Array.getElem?_setIfInBounds] at aN;rw [if_neg (by rintro rfl;exact aK hd)] at aN
    exact aN
  exact (inv.un x u' (fun k r hk bQ=>(jb k (eR k r hk bQ)).2) this).mono bE.bW
theorem yz {w:World} {G:J} {φ :ag} {A:ah} (ae:St w G φ A) (o:Obj):Out w G φ A (w.alloc o) G φ (fun c=>A c∨c=w.heap.size):=by
 have aW:bM w G φ A (w.alloc o) G φ (fun c=>A c∨c=w.heap.size):=⟨fun c a t fr hc hn=>⟨⟨fr,by rw [heap_alloc_old w _ (gh hc)];exact hc⟩,fun h=>by have:=gh hc;rcases h with h|h;exact hn h;omega⟩,Nat.le_refl _,
  fun i b' ax _=>⟨b',ax,rfl,rfl,rfl,rfl,fun loc hl=>hl⟩,fun c hc=>by unfold a_;rw [heap_alloc_old w _ (Ow.lt ae hc)]⟩
 refine ⟨⟨ae.inj,fun c hc=> .inl (ae.own c hc),fun c hc=> ?_,fun i loc hl=> ?_⟩,
  ⟨rfl,rfl,rfl,by simp,fun c hc _=>heap_alloc_old w _ hc,fun c hc=>by unfold a_;rw [heap_alloc_old w _ hc],fun c hc=> .inl hc⟩,aW,fun c hc _=> .inl hc⟩
 ·simp only [World.size_alloc];rcases hc with h|h
  ·have:=ae.ca c h;omega
  ·omega
 obtain ⟨b',cS,ax⟩:=ae.ap i loc hl;refine ⟨b',cS,ax.ad,ax.sized,ax.aQ,fun c b0 h=> ?_⟩;obtain ⟨a,t,fr,h1,h2,h3,h4⟩:=ax.here c b0 h;exact ⟨a,t,fr,by rw [heap_alloc_old w _ (gh h1)];exact h1,h2,h3,fun i x j y v hx hy hv=>⟨(h4 i x j y v hx hy hv).1.mono aW,(h4 i x j y v hx hy hv).2⟩⟩
theorem Inv.yA (inv:Inv C ops az s H v w0 aA A0 listed a w b c φ A pn) (cM:St w0 (H 0) aA A0) (dk:gZ ops az) {i:Nat} {o:Oper} (Ao:c≤i) (ho:ops[i]? =some o) (Ap:listed.getD i false=false) (hl:i∉az) (hg:o.guard=Option.none) {d:Tmp} (hd:o.dst=some d)
 {sz:Nat} {el:List AV} {x:Nat→Nat→AV} {uv:Nat→Value} (bp:oW C o.op sz el x uv) (ha: ∀e∈o.after,Region.binds .any e=true→listed.getD e.on false=true) {arr:Array Value} {T:TypeId} (kS:mn el sz arr):
 Inv C ops az s H v w0 aA A0 (listed.setIfInBounds i true) (a.put o.dst (uv w.heap.size)) (w.alloc (.cells arr T)) b c φ (fun k=>A k∨k=w.heap.size) (fun k=>if k=i then w.heap.size else pn k):=by
 have hi:i<ops.size:=(Array.getElem?_eq_some_iff.1 ho).1;have yB:i<listed.size:=by rw [inv.size];exact hi
 have bL:=mr yB;have bE:=yz inv.out.st (.cells arr T);have jb: ∀k,(listed.setIfInBounds i true).getD k false=false→k≠i∧listed.getD k false=false:=fun k hk=>by
  have:=(not_congr (bL k)).1 (by rw [hk];simp)
  refine ⟨fun h=>this (.inl h),?_⟩;cases hq:listed.getD k false with
  |false=>rfl
  |true=>exact absurd (.inr hq) this
 have jQ: ∀(x:Tmp),o.dst≠some x→(a.put o.dst (uv w.heap.size)).tmps[x]? =a.tmps[x]? :=fun x aK=>by
  rw [hd] at aK⊢;simp only [Act.put,Array.getElem?_setIfInBounds];rw [if_neg (by rintro rfl;exact aK rfl)]
 refine ⟨by simp [inv.size],fun k r hk bH e he hb=> ?_,inv.bc,inv.cn,inv.cl,inv.g9,fun k hk kU=> ?_,inv.base,inv.out.trans cM bE,fun k h1 h2 h3 id h4 h5=>inv.none k h1 h2 (jb k h3).2 id h4 h5,?_,?_,fun k r d' u' hk bQ bH dZ aN=> ?_,fun k jc bH=> ?_,fun j k hj hk iy bH hp=> ?_,fun x u' eR aN=> ?_⟩
 ·rcases (bL k).1 bH with rfl|bH
  ·rw [ho] at hk;simp only [Option.some.injEq] at hk;subst hk;exact (bL _).2 (.inr (ha e he hb))
  ·exact (bL _).2 (.inr (inv.shut k r hk bH e he hb))
 ·rw [bL,←inv.iv k hk kU];constructor
  ·rintro (rfl|h)
   ·exact absurd hk hl
   ·exact h
  ·exact .inr
 ·rw [hd];simp [Act.put,inv.eF]
 ·rw [hd];simp [Act.put,inv.len]
 ·have bP:k≠i:=by omega
  have aK:o.dst≠some d' :=dk.gy i k o r d' (fun h=>bP h.symm) ho hk bQ
  rw [jQ d' aK] at aN
  exact (inv.wr k r d' u' hk bQ (((bL k).1 bH).resolve_left bP) dZ aN).mono bE.bW
 ·by_cases bP:k=i
  ·subst bP;simp only [if_true];refine ⟨hl,o,d,sz,el,x,uv,ho,hg,hd,bp,⟨inv.out.post.size,by simp,.inr rfl,fun h=>by have:=Ow.lt inv.out.st h;omega,arr,T,(0,0),heap_alloc_new w _,fun j _ h=>absurd h.2 (Nat.not_lt_zero j),kS⟩,fun u hu=> ?_⟩
   rw [hd] at hu;simp only [Act.put,Array.getElem?_setIfInBounds,if_true] at hu;split at hu
   ·simpa using hu.symm
   ·simp at hu
  ·simp only [if_neg bP];exact (inv.early k jc (((bL k).1 bH).resolve_left bP)).mono bE fun r d' hk bQ=>jQ d' (dk.gy i k o r d' (fun h=>bP h.symm) ho hk bQ)
 ·have one: ∀k,c≤k→(listed.setIfInBounds i true).getD k false=true→k≠i→pn k≠w.heap.size:=fun k jc bH bP he=>by
   obtain ⟨_,_,_,_,_,_,_,_,_,_,_,hp,_⟩:=inv.early k jc (((bL k).1 bH).resolve_left bP);have:=hp.lt;omega
  by_cases jR:j=i
  ·by_cases bP:k=i
   ·rw [jR,bP]
   ·simp only [jR,if_true,if_neg bP] at hp;exact absurd hp.symm (one k hk bH bP)
  ·by_cases bP:k=i
   ·simp only [bP,if_true,if_neg jR] at hp;exact absurd hp (one j hj iy jR)
   ·simp only [if_neg jR,if_neg bP] at hp;exact inv.mq j k hj hk (((bL j).1 iy).resolve_left jR) (((bL k).1 bH).resolve_left bP) hp
 ·have aK:o.dst≠some x:=fun hd=>by have:=eR i o ho hd;have h2:=(bL i).2 (.inl rfl);rw [this] at h2;simp at h2
  rw [jQ x aK] at aN;exact (inv.un x u' (fun k r hk bQ=>(jb k (eR k r hk bQ)).2) aN).mono bE.bW
theorem fill (t:iu X C ops az th K s H v act) (cM:St w0 (H 0) aA A0) {lst:Nat→Prop} {lo hi:Nat} (hq: ∀j,lo≤j→j≤hi→QG (H j) (H hi)) (hlen: ∀j k,lo≤j→j≤k→k≤hi→(H j).bs.length≤(H k).bs.length)
 (hinj: ∀j k,lo≤j→lo≤k→lst j→lst k→pn j=pn k→j=k) (bE:Out w0 (H 0) aA A0 w (H hi) φ A) (hE: ∀j,lo≤j→lst j→ja C ops az w0 w φ A a j (pn j)) (gR: ∀id,(H lo).bs.length≤id→ φ id=none):
 ∀m,lo≤m→m≤hi→ ∃a7,Out w0 (H 0) aA A0 w (H hi) a7 A∧bM w (H hi) φ A w (H hi) a7 A∧(∀j,lo≤j→j<m→lst j→ ∀(o:Oper) (d:Tmp) (u:Value),ops[j]? =some o→o.dst=some d→a.tmps[d]? =some u→R w (H hi) a7 A (v j) u)∧
  (∀id loc,a7 id=some loc→ φ id=some loc∨ ∃j,lo≤j∧j<m∧lst j∧(H j).bs.length≤id∧id<(H (j+1)).bs.length)∧(∀j,m≤j→lst j→ja C ops az w0 w a7 A a j (pn j)):=by
 intro m hm;obtain ⟨k,rfl⟩:=Nat.exists_eq_add_of_le hm;clear hm;induction k with
 |zero=>exact fun _=>⟨φ,bE,.refl _ _ _ _,fun j h1 h2=>by omega,fun id loc h=> .inl h,hE⟩
 |succ k ih=>
  intro rD;obtain ⟨a7,k1,k2,k3,k4,k5⟩:=ih (by omega)
  rw [show lo+(k+1)=lo+k+1 by omega] at rD⊢
  have hm:lo≤lo+k:=Nat.le_add_right _ _;generalize lo+k=m at hm rD k3 k4 k5⊢;by_cases hL:lst m
  ·obtain ⟨jP,o,d,sz,el,x,uv,e1,e2,e4,e5,hp,hu⟩:=k5 m (Nat.le_refl _) hL;obtain ⟨_,s2,s3,_,_⟩:=t.step m o (by rw [Array.getElem?_toList];exact e1)
   have eS:act m=true:=by
    simp only [dn,e2,Option.some.injEq] at s2;exact s2.symm
   have hw:=s3 eS;obtain ⟨hv,hH⟩:v m=x (H m).bs.length (H m).st∧H (m+1)=(H m).new sz false el:=by
    have:=e5.ev _ _ _ _ _ _ _ rfl hw;exact ⟨this.1.symm,this.2.symm⟩
   have cC:=hq (m+1) (by omega) (by omega)
   have hb:(H hi).get (H m).bs.length=some ⟨(H m).st,sz,false,el⟩:=by
    refine cC.1.1.1 _ _ ?_;rw [hH];simp [J.get,J.new]
   have bG:(H m).st<(H hi).st:=by
    have:=cC.1.1.2;rw [hH] at this;exact this
   have aY:a7 (H m).bs.length=none:=by
    cases hc:a7 (H m).bs.length with
    |none=>rfl
    |some loc=>
     exfalso;rcases k4 _ _ hc with h|⟨j,h1,h2,_,_,h4⟩
     ·rw [gR _ (hlen lo m (Nat.le_refl _) hm (by omega))] at h;simp at h
     ·have:=hlen (j+1) m (by omega) (by omega) (by omega)
      omega
   obtain ⟨arr,T,fr,h1,h2,h3,h5⟩:=hp.here
   let cN:ag:=fun i=>if i=(H m).bs.length then some (.at_ (pn m) 0) else a7 i
   have dG: ∀c,Ow cN c→Ow a7 c∨c=pn m:=by
    rintro c ⟨i,b0,h⟩;simp only [cN] at h;split at h
    ·simp only [Option.some.injEq,Loc.at_.injEq] at h;exact .inr h.1.symm
    ·exact .inl ⟨i,b0,h⟩
   have aW:bM w (H hi) a7 A w (H hi) cN A:=by
    refine ⟨fun c a t fr hc hn=>⟨⟨fr,hc⟩,hn⟩,Nat.le_refl _,fun i b' ax _=>⟨b',ax,rfl,rfl,rfl,rfl,fun loc hl=> ?_⟩,fun _ _=>rfl⟩
    simp only [cN];split
    ·rename_i h;subst h;rw [aY] at hl;simp at hl
    ·exact hl
   have kW:St w (H hi) cN A:=by
    refine ⟨fun i i' c b0 b1 h1 h2=> ?_,fun c hc=> ?_,k1.st.ca,fun i loc hl=> ?_⟩
    ·simp only [cN] at h1 h2;split at h1
     ·rename_i fk;split at h2
      ·rename_i Aq;omega
      ·simp only [Option.some.injEq,Loc.at_.injEq] at h1;exact absurd ⟨i',b1,by rw [h1.1];exact h2⟩ hp.ow
     ·split at h2
      ·simp only [Option.some.injEq,Loc.at_.injEq] at h2;exact absurd ⟨i,b0,by rw [h2.1];exact h1⟩ hp.ow
      ·exact k1.st.inj i i' c b0 b1 h1 h2
    ·rcases dG c hc with h|h
     ·exact k1.st.own c h
     ·rw [h];exact hp.av
    ·simp only [cN] at hl;split at hl
     ·rename_i fk;subst fk;simp only [Option.some.injEq] at hl;subst hl;refine ⟨_,hb,bG,e5.yr,by simp,fun c b0 h=> ?_⟩
      simp only [Loc.at_.injEq] at h;obtain ⟨rfl,rfl⟩:=h;refine ⟨arr,T,fr,h1,h2,by rw [Nat.zero_add];exact h3,fun i x j y v hx hy hv=> ?_⟩
      rw [Nat.zero_add] at hv;obtain ⟨g1,g2⟩:=h5 i x j y v hx hy hv;exact ⟨g1 _ _ _ _,g2⟩
     ·obtain ⟨b',cS,ax⟩:=k1.st.ap i loc hl;refine ⟨b',cS,ax.ad,ax.sized,ax.aQ,fun c b0 h=> ?_⟩;obtain ⟨a,t,fr,h1,h2,h3,h4⟩:=ax.here c b0 h;exact ⟨a,t,fr,h1,h2,h3,fun i x j y v hx hy hv=>⟨(h4 i x j y v hx hy hv).1.mono aW,(h4 i x j y v hx hy hv).2⟩⟩
   have yC:Out w0 (H 0) aA A0 w (H hi) cN A:=by
    refine ⟨kW,⟨k1.post.os,k1.post.tape,k1.post.output,k1.post.size,k1.post.kept,k1.post.a_,fun c hc=> ?_⟩,k1.bW.trans aW (fun c hc=>k1.post.a_ c (Ow.lt cM hc)),k1.bK⟩;rcases dG c hc with h|h
    ·exact k1.post.own c h
    ·right;rw [h];exact hp.old
   refine ⟨cN,yC,k2.trans aW (fun _ _=>rfl),fun j j1 j2 j3 o' d' u' q1 q2 q3=> ?_,fun id loc h=> ?_,fun j j1 j2=> ?_⟩
   ·by_cases oY:j=m
    ·subst oY;rw [e1] at q1;simp only [Option.some.injEq] at q1;subst q1;rw [e4] at q2;simp only [Option.some.injEq] at q2;subst q2;rw [hu u' q3,hv]
     exact e5.rel _ _ _ _ _ _ _ hb bG (by simp [cN]) (by unfold a_;rw [h1];exact h3)
    ·exact (k3 j j1 (by omega) j3 o' d' u' q1 q2 q3).mono aW
   ·simp only [cN] at h;split at h
    ·rename_i bU;refine .inr ⟨m,hm,Nat.lt_succ_self _,hL,by omega,?_⟩
     rw [hH];simp [J.new];omega
    ·rcases k4 id loc h with h|⟨j,q1,q2,q3⟩
     ·exact .inl h
     ·exact .inr ⟨j,q1,by omega,q3⟩
   ·obtain ⟨g0,r,d',yD,gk,x',yE,g1,g2,g4,g5,g7,g8⟩:=k5 j (by omega) j2
    refine ⟨g0,r,d',yD,gk,x',yE,g1,g2,g4,g5,⟨g7.old,g7.lt,g7.av,fun h=> ?_,g7.here⟩,g8⟩;rcases dG _ h with h|h
    ·exact g7.ow h
    ·have:=hinj j m (by omega) hm j2 hL h
     omega
  ·refine ⟨a7,k1,k2,fun j j1 j2 j3=> ?_,fun id loc h=> ?_,fun j j1 j2=>k5 j (by omega) j2⟩
   ·by_cases oY:j=m
    ·subst oY;exact absurd j3 hL
    ·exact k3 j j1 (by omega) j3
   ·rcases k4 id loc h with h|⟨j,q1,q2,q3⟩
    ·exact .inl h
    ·exact .inr ⟨j,q1,by omega,q3⟩
end draw
end Go.VS
namespace Go.VS
section draw
variable {P:Program} {C:aF} {X:bD} {ops:Array Oper} {az:List Nat} {th:List Nat} {K:aj→J→Prop} {s:Nat→aj} {H:Nat→J} {v:Nat→AV} {act:Nat→Bool}
variable {w0:World} {aA:ag} {A0:ah} {listed:Array Bool} {a:Act} {w:World} {b c:Nat} {φ :ag} {A:ah} {pn:Nat→Nat}
theorem Inv.yF (inv:Inv C ops az s H v w0 aA A0 listed a w b c φ A pn) (dk:gZ ops az) {i:Nat} {o:Oper} (ho:ops[i]? =some o) (ha: ∀e∈o.after,Region.binds .any e=true→listed.getD e.on false=true):i≤c∨(i∉az∧o.guard=Option.none∧iG o.op=true∧ ∃d,o.dst=some d):=by
 rcases Nat.lt_or_ge c i with h|h
 ·have hi:i<ops.size:=(Array.getElem?_eq_some_iff.1 ho).1;rcases inv.cl with hc|hc
  ·omega
  ·have yG:=Array.getElem?_eq_getElem (xs:=ops) (show c<ops.size by omega)
   rcases dk.after c i _ o yG ho hc h with hb|hb
   ·exfalso;have hL:=mj inv.shut dk.back i o ho ha c hb;have:=(inv.iv c hc (by omega)).1 hL
    have:=inv.bc;omega
   ·exact .inr hb
 ·exact .inl h
theorem Inv.rE (inv:Inv C ops az s H v w0 aA A0 listed a w b c φ A pn) (cM:St w0 (H 0) aA A0) (dk:gZ ops az) (t:iu X C ops az th K s H v act) {o:Oper} (ho:ops[c]? =some o) (hl:c∈az) (ha: ∀e∈o.after,Region.binds .any e=true→listed.getD e.on false=true)
 {u:Value} {w' :World} {φ1:ag} {A1:ah} (bE:Out w (H c) φ A w' (H (c+1)) φ1 A1) (hr:R w' (H (c+1)) φ1 A1 (v c) u): ∃c' a7,Inv C ops az s H v w0 aA A0 (listed.setIfInBounds c true) (a.put o.dst u) w' (c+1) c' a7 A1 pn:=by
 have hi:c<ops.size:=(Array.getElem?_eq_some_iff.1 ho).1;have aH:c<listed.size:=by rw [inv.size];exact hi
 have bL:=mr aH;have yH:=inv.bc;have Ar:listed.getD c false=false:=by
  cases hq:listed.getD c false with
  |false=>rfl
  |true=>have:=(inv.iv c hl hi).1 hq;omega
 have jb: ∀k,(listed.setIfInBounds c true).getD k false=false→k≠c∧listed.getD k false=false:=fun k hk=>by
  have:=(not_congr (bL k)).1 (by rw [hk];simp)
  refine ⟨fun h=>this (.inl h),?_⟩;cases hq:listed.getD k false with
  |false=>rfl
  |true=>exact absurd (.inr hq) this
 have jQ: ∀(k:Nat) (r:Oper) (d:Tmp),k≠c→ops[k]? =some r→r.dst=some d→(a.put o.dst u).tmps[d]? =a.tmps[d]? :=fun k r d dZ hk bQ=>by
  have aK:o.dst≠some d:=dk.gy c k o r d (fun h=>dZ h.symm) ho hk bQ;cases hd:o.dst with
  |none=>rfl
  |some d' =>
   simp only [Act.put,Array.getElem?_setIfInBounds];rw [if_neg (by rintro rfl;exact aK hd)]
 obtain ⟨c',k1,k2,k3,k4⟩:=oV az ops.size (ops.size-(c+1)) (c+1) rfl (by omega)
 have hQ: ∀j k,c+1≤j→j≤k→k≤c' →QG (H j) (H k):=fun j k h1 h2 h3=>by
  have:=g6 t (k-j) j (by omega) (fun i i1 i2=>k4 i (by omega) (by omega))
  rwa [show j+(k-j)=k by omega] at this
 have gA:=hQ (c+1) c' (Nat.le_refl _) k1 (Nat.le_refl _)
 have hlen: ∀j k,c+1≤j→j≤k→k≤c' →(H j).bs.length≤(H k).bs.length:=fun j k h1 h2 h3=>(hQ j k h1 h2 h3).1.2
 have hex:=iQ bE.st gA.1.1 gA.2;have aW:=bE.bW.trans hex.bW (fun k hk=>by rw [(bE.post.trans hex.post).a_ k (Ow.lt inv.out.st hk)])
 have hE: ∀j,c+1≤j→(listed.setIfInBounds c true).getD j false=true→ja C ops az w0 w' φ1 A1 (a.put o.dst u) j (pn j):=fun j hj hL=>
  (inv.early j (by omega) (((bL j).1 hL).resolve_left (by omega))).mono bE fun r d hk bQ=>jQ j r d (by omega) hk bQ
 obtain ⟨a7,o2,oZ,r2,m2,e2⟩:=fill (lst:=fun j=>(listed.setIfInBounds c true).getD j false=true) t cM (fun j h1 h2=>hQ j c' h1 h2 (Nat.le_refl _)) hlen
  (fun j k hj hk iy bH hp=>inv.mq j k (by omega) (by omega) (((bL j).1 iy).resolve_left (by omega)) (((bL k).1 bH).resolve_left (by omega)) hp) ((inv.out.trans cM bE).trans cM hex) hE (fun id h=>bE.st.new h) c' k1 (Nat.le_refl _)
 refine ⟨c',a7,by simp [inv.size],fun k r hk bH e he hb=> ?_,k1,k2,k3,k4,fun k hk kU=> ?_,.inr ⟨by simpa using hl,Nat.succ_pos _⟩,o2,fun k h1 h2 h3 id h4 h5=> ?_,?_,?_,fun k r d u' hk bQ bH yI aN=> ?_,fun k jc bH=>e2 k jc bH,
  fun j k hj hk iy bH hp=>inv.mq j k (by omega) (by omega) (((bL j).1 iy).resolve_left (by omega)) (((bL k).1 bH).resolve_left (by omega)) hp,fun x u' eR aN=> ?_⟩
 ·by_cases dZ:k=c
  ·subst dZ;rw [ho] at hk;simp only [Option.some.injEq] at hk;subst hk;exact (bL _).2 (.inr (ha e he hb))
  ·exact (bL _).2 (.inr (inv.shut k r hk (((bL k).1 bH).resolve_left dZ) e he hb))
 ·rw [bL,inv.iv k hk kU];constructor
  ·rintro (h|h)<;>omega
  ·intro h;by_cases dZ:k=c
   ·exact .inl dZ
   ·right;rcases Nat.lt_or_ge k b with h' |h'
    ·exact h'
    ·exact absurd hk (inv.g9 k h' (by omega))
 ·cases hp:a7 id with
  |none=>rfl
  |some loc=>
   exfalso;rcases m2 id loc hp with h|⟨j,j1,j2,j3,j4,j5⟩
   ·rw [bE.st.new (Nat.le_trans (hlen (c+1) k (Nat.le_refl _) h1 (by omega)) h4)] at h;simp at h
   ·have:j=k:=by
     rcases Nat.lt_trichotomy j k with h|h|h
     ·have:=hlen (j+1) k (by omega) (by omega) (by omega);omega
     ·exact h
     ·have:=hlen (k+1) j (by omega) (by omega) (by omega);omega
    subst this;rw [h3] at j3;simp at j3
 ·cases hd:o.dst<;>simp [Act.put,inv.eF]
 ·cases hd:o.dst<;>simp [Act.put,inv.len]
 ·by_cases bP:k=c
  ·subst bP;rw [ho] at hk;simp only [Option.some.injEq] at hk;subst hk;rw [bQ] at aN;simp only [Act.put,Array.getElem?_setIfInBounds] at aN;simp only [if_true] at aN;split at aN
   ·rename_i aw;simp only [Option.some.injEq] at aN;subst aN;exact (hr.mono hex.bW).mono oZ
   ·simp at aN
  ·rcases Nat.lt_or_ge k c with aw|yy
   ·rw [jQ k r d bP hk bQ] at aN;exact ((inv.wr k r d u' hk bQ (((bL k).1 bH).resolve_left bP) aw aN).mono aW).mono oZ
   ·exact r2 k (by omega) yI bH r d u' hk bQ aN
 ·have aK:o.dst≠some x:=fun hd=>by have:=eR c o ho hd;have h2:=(bL c).2 (.inl rfl);rw [this] at h2;simp at h2
  have:a.tmps[x]? =some u' :=by
   cases hd:o.dst with
   |none=>rw [hd] at aN;exact aN
   |some d' =>
    rw [hd] at aN;simp only [Act.put,Array.getElem?_setIfInBounds] at aN;rw [if_neg (by rintro rfl;exact aK hd)] at aN
    exact aN
  exact ((inv.un x u' (fun k r hk bQ=>(jb k (eR k r hk bQ)).2) this).mono aW).mono oZ
theorem yJ {op:Op} (h:j9 op=true):dF op=true:=by
 cases op<;>first|rfl|(simp [j9] at h)
def left (ops:Array Oper) (listed:Array Bool):Nat:=((List.range ops.size).filter fun k=> !listed.getD k false).length
theorem yK {ops:Array Oper} {listed:Array Bool} {i:Nat} (hs:listed.size=ops.size) (hi:i<ops.size) (hu:listed.getD i false=false):left ops (listed.setIfInBounds i true)<left ops listed:=by
 have bL:=mr (listed:=listed) (i:=i) (by omega)
 have he:((List.range ops.size).filter fun k=> !(listed.setIfInBounds i true).getD k false)=(((List.range ops.size).filter fun k=> !listed.getD k false).filter fun k=> !(listed.setIfInBounds i true).getD k false):=by
  rw [List.filter_filter];refine List.filter_congr fun k _=> ?_;cases hq:(listed.setIfInBounds i true).getD k false with
  |true=>simp
  |false=>
   have:listed.getD k false=false:=by
    cases mu:listed.getD k false with
    |false=>rfl
    |true=>rw [(bL k).2 (.inr mu)] at hq;simp at hq
   simp only [this,Bool.not_false,Bool.and_self]
 unfold left;rw [he];refine List.length_filter_lt_length_iff_exists.2 ⟨i,List.mem_filter.2 ⟨List.mem_range.2 hi,by rw [hu];rfl⟩,?_⟩
 rw [(bL i).2 (.inl rfl)];simp
theorem yL (hE: ∀t ti,C.E t=some ti→aT P t ti) (hX: ∀f ys H K,X f ys H K→cV P f ys H K) (dk:gZ ops az) (t:iu X C ops az th K s H v act) (cM:St w0 (H 0) aA A0) {Q:Exit→Act→World→Prop}
 (hq: ∀s' H' ak A' a' w',Out w0 (H 0) aA A0 w' H' ak A' →SF w' H' ak A' s' a' →K s' H' →Q .normal a' w'):
 ∀(fuel:Nat) (listed:Array Bool) (a:Act) (w:World) (b c:Nat) (φ :ag) (A:ah) (pn:Nat→Nat),Inv C ops az s H v w0 aA A0 listed a w b c φ A pn→left ops listed≤fuel→wpAny P .any ops Q fuel listed a w:=by
 have done: ∀(listed:Array Bool) (a:Act) (w:World) (b c:Nat) (φ :ag) (A:ah) (pn:Nat→Nat),Inv C ops az s H v w0 aA A0 listed a w b c φ A pn→Region.ready .any ops listed=[]→Q .normal a w:=by
  intro listed a w b c φ A pn inv hr;have all: ∀k,k<ops.size→listed.getD k false=true:=by
   intro k;induction k using Nat.strongRecOn with
   |_ k ih=>
    intro hk;cases hq:listed.getD k false with
    |true=>rfl
    |false=>
     exfalso;have ho:=Array.getElem?_eq_getElem (xs:=ops) hk;have:k∈Region.ready .any ops listed:=mem_ready.2 ⟨getD_in (by rw [inv.size];exact hk) hq,_,ho,fun e he hb=>by
      have aw:=dk.back k _ ho e he hb;exact ih e.on aw (by omega)⟩
     rw [hr] at this;cases this
  have kV:c=ops.size:=by
   rcases inv.cl with h|h
   ·exact h
   ·rcases Nat.lt_or_ge c ops.size with h' |h'
    ·have:=(inv.iv c h h').1 (all c h');have:=inv.bc;omega
    ·have:=inv.cn;omega
  obtain ⟨hl,hg⟩:=mm dk t ops.size (Nat.le_refl _);have rF:=t.fin;rw [Array.length_toList] at rF;have bE:=inv.out;rw [kV] at bE;refine hq (s ops.size) (H ops.size) φ A a w bE ⟨by rw [hl,inv.len],fun x y u hx hu=> ?_,inv.eF⟩ rF
  have cj:x<(s 0).length:=by rw [←hl];exact (List.getElem?_eq_some_iff.1 hx).1
  have hy:(s ops.size).getD x .undef=y:=by simp [List.getD,hx]
  by_cases hw: ∃(k:Nat) (r:Oper),ops[k]? =some r∧r.dst=some x
  ·obtain ⟨k,r,hk,hr⟩:=hw;have rG:k<ops.size:=(Array.getElem?_eq_some_iff.1 hk).1;rw [(hg x cj).1 k r rG hk hr] at hy;subst hy;have:=inv.wr k r x u hk hr (all k rG) (by omega) hu
   rw [kV] at this;exact this
  ·rw [(hg x cj).2 (fun k' o' _ er bZ=>hw ⟨k',o',er,bZ⟩)] at hy
   subst hy;have:=inv.un x u (fun k' o' er bZ=>absurd ⟨k',o',er,bZ⟩ hw) hu
   rw [kV] at this;exact this
 intro fuel;induction fuel with
 |zero=>
  intro listed a w b c φ A pn inv hle;have hr:Region.ready .any ops listed=[]:=by
   cases hq:Region.ready .any ops listed with
   |nil=>rfl
   |cons i rs=>
    exfalso;have hm:i∈Region.ready .any ops listed:=by rw [hq];simp
    obtain ⟨hu,o,ho,_⟩:=mem_ready.1 hm;have hi:i<ops.size:=(Array.getElem?_eq_some_iff.1 ho).1;have:i∈((List.range ops.size).filter fun k=> !listed.getD k false):=List.mem_filter.2 ⟨List.mem_range.2 hi,by rw [getD_both hu];rfl⟩
    have:=List.length_pos_of_mem this;unfold left at hle;omega
  exact ⟨hr,done listed a w b c φ A pn inv hr⟩
 |succ fuel ih=>
  intro listed a w b c φ A pn inv hle;refine ⟨done listed a w b c φ A pn inv,fun i hi=> ?_⟩;obtain ⟨ie,o,ho,ha⟩:=mem_ready.1 hi;have hu:=getD_both ie;have cr:i<ops.size:=(Array.getElem?_eq_some_iff.1 ho).1;have As:=yK inv.size cr hu;have jd:=inv.yF dk ho ha;obtain ⟨At,mv,mw,rH,Au⟩:=t.step i o (by rw [Array.getElem?_toList];exact ho)
  rw [Nat.zero_add] at mw;by_cases rI:i≤c
  case neg=>
   obtain ⟨jP,hg,he,d,hd⟩:=jd.resolve_left rI;have eS:act i=true:=by
    simp only [dn,hg,Option.some.injEq] at mv;exact mv.symm
   obtain ⟨sz,el,x,uv,bp,cH⟩:=yt hE he (mw eS);obtain ⟨arr,T,cH,kS⟩:=cH a w;unfold Go.wpOp;rw [ho];simp only;have hw:Region.wanted o (yielded ops a.tmps)=true:=by simp [Region.wanted,hg]
   rw [if_pos hw];refine .inl ?_;show o.upon P a _ Q _;rw [cH];exact ih _ _ _ _ _ _ _ _ (inv.yA cM dk (by omega) ho hu jP hg hd bp ha kS) (by omega)
  replace jd:=rI;unfold Go.wpOp;rw [ho];simp only;by_cases fS:i∈az
  ·
   have fR:i=c:=by
    rcases Nat.lt_or_ge i c with h|h
    ·exfalso;have hb: ¬i<b:=fun h=>by have:=(inv.iv i fS cr).2 h;rw [hu] at this;simp at this
     exact inv.g9 i (by omega) h fS
    ·omega
   subst fR;have bp:=inv.oX dk t jd ho hu ha (m:=i) (by omega) (Nat.le_refl _) (.inl rfl)
   have hw:=oM (H:=H i) (φ := φ) (A:=A) (w:=w) (s:=s i) (a:=a) (fun j ec x hg hx=>inv.look dk t jd ho hu ha (m:=i) (by omega) (Nat.le_refl _) (.inl rfl) (by
    unfold Oper.looksAt;refine List.mem_append.2 (.inr ?_);rw [hg];simp only;rw [hx];simp)) mv
   cases eS:act i with
   |true=>
    rw [eS] at hw;rw [if_pos hw];have h3:=mw eS;rw [show (!az.contains i)=false by simpa using fS] at h3
    refine .inl (l7 hE hX inv.out.st bp h3 fun x u w' H' ak A' k1 k2 k3=> ?_)
    obtain ⟨rfl,rfl⟩:=k3;obtain ⟨c',a7,o0⟩:=inv.rE cM dk t ho fS ha k1 k2;exact ih _ _ _ _ _ _ _ _ o0 (by omega)
   |false=>
    rw [eS] at hw;rw [if_neg (by rw [hw];simp)]
    obtain ⟨h4,h5⟩:=rH eS;obtain ⟨c',a7,o0⟩:=inv.rE cM dk t ho fS ha (u:=undef) (w' :=w) (φ1:= φ) (A1:=A) (by rw [h5];exact .refl inv.out.st) (by rw [h4];exact .fr _ _ (.aC [] #[] rfl (by simp)))
    exact ih _ _ _ _ _ _ _ _ o0 (by omega)
  ·have fR:i<c:=by
    rcases Nat.lt_or_ge i c with h|h
    ·exact h
    ·have:i=c:=by omega
     subst this;rcases inv.cl with h' |h'
     ·omega
     ·exact absurd h' fS
   have kV:=inv.cn;rcases Nat.lt_or_ge i b with my|my
   ·
    obtain ⟨mz,fg⟩:b-1∈az∧0<b:=by
     rcases inv.base with h|h
     ·omega
     ·exact h
    have yH:=inv.bc;have mA:=Array.getElem?_eq_getElem (xs:=ops) (show b-1<ops.size by omega)
    have yM:=(inv.iv (b-1) mz (by omega)).2 (by omega)
    have rJ:i<b-1:=by
     rcases Nat.lt_or_ge i (b-1) with h|h
     ·exact h
     ·have:i=b-1:=by omega
      subst this;exact absurd mz fS
    have rK:((eY ops.toList).getD (b-1) 0).testBit i=false:=by
     cases hq:((eY ops.toList).getD (b-1) 0).testBit i with
     |false=>rfl
     |true=>
      have:=mj inv.shut dk.back (b-1) _ mA (inv.shut (b-1) _ mA yM) i hq;rw [hu] at this;simp at this
    obtain ⟨_,hg,da,⟨d,hd⟩,yN⟩:=dk.late (b-1) i _ o mA ho mz rJ rK
    obtain ⟨_,_,_,_,rL⟩:=t.step (b-1) _ (by rw [Array.getElem?_toList];exact mA)
    rw [Nat.zero_add,show b-1+1=b by omega] at rL
    have mB:=rL i (by
     unfold fB;rw [if_pos (by simpa using mz)]
     exact List.mem_filter.2 ⟨List.mem_range.2 rJ,by rw [rK];rfl⟩)
    unfold jr at mB;rw [ho] at mB;simp only [hd] at mB;have bp:=inv.oX dk t jd ho hu ha (m:=b) (by omega) (by omega) (.inr yN)
    have gA:=g6 t (c-b) b (by omega) (fun k h1 h2=>inv.g9 k h1 (by omega))
    rw [show b+(c-b)=c by omega] at gA
    have hw:Region.wanted o (yielded ops a.tmps)=true:=by simp [Region.wanted,hg]
    rw [if_pos hw];refine .inl ((nP hE inv.out.st gA.1.1 gA.1.1 (fun h=>absurd h (Nat.lt_irrefl _)) (yJ da) bp mB).upon fun u w' ak A' k1 k2 k3=> ?_)
    refine ih _ _ _ _ _ _ _ _ (inv.kO cM dk t fR ho fS ha k1 (fun d' bZ aw=> ?_) (fun id loc h=> ?_)) (by omega)
    ·rw [hd] at bZ;simp only [Option.some.injEq] at bZ;subst bZ;rw [←((mm dk t b (by omega)).2 d (by rw [inv.len];exact aw)).1 i o my ho hd]
     exact k2
    ·rcases k3 id loc h with h|⟨h1,h2⟩
     ·exact .inl h
     ·omega
   ·
    have bp:=inv.oX dk t jd ho hu ha (m:=i) (by omega) (Nat.le_refl _) (.inl rfl)
    have hw:=oM (H:=H c) (φ := φ) (A:=A) (w:=w) (s:=s i) (a:=a) (fun j ec x hg hx=>inv.look dk t jd ho hu ha (m:=i) (by omega) (Nat.le_refl _) (.inl rfl) (by
     unfold Oper.looksAt;refine List.mem_append.2 (.inr ?_);rw [hg];simp only;rw [hx];simp)) mv
    cases eS:act i with
    |true=>
     rw [eS] at hw;rw [if_pos hw];have h3:=mw eS;have jP:(!az.contains i)=true:=by simpa using fS
     rw [jP] at h3;have gX:=g6 t (c-i) i (by omega) (fun k h1 h2=>inv.g9 k (by omega) (by omega))
     rw [show i+(c-i)=c by omega] at gX
     have mu:=g6 t (c-(i+1)) (i+1) (by omega) (fun k h1 h2=>inv.g9 k (by omega) (by omega))
     rw [show i+1+(c-(i+1))=c by omega] at mu
     refine .inl (VS.kO hE hX inv.out.st bp gX.1.1 ⟨mu.1.1,fun id h1 h2=>inv.none i my fR hu id h1 h2⟩ h3 fun u w' ak A' k1 k2 k3=> ?_)
     refine ih _ _ _ _ _ _ _ _ (inv.kO cM dk t fR ho fS ha k1 (fun d' _ _=>k2) (fun id loc h=> ?_)) (by omega)
     rcases k3 id loc h with h|h
     ·exact .inl h
     ·exact .inr ⟨my,fR,h⟩
    |false=>
     rw [eS] at hw;rw [if_neg (by rw [hw];simp)]
     obtain ⟨h4,h5⟩:=rH eS;refine ih _ _ _ _ _ _ _ _ (inv.kO cM dk t fR ho fS ha (.refl inv.out.st) (fun d' _ _=>by rw [h4];exact .fr _ _ (.aC [] #[] rfl (by simp))) (fun id loc h=> .inl h)) (by omega)
theorem rM (dg:Exact X) (_hm:P.follows .mixedOrders=true) (hE: ∀t ti,C.E t=some ti→aT P t ti) (hX: ∀f ys H K,X f ys H K→cV P f ys H K):mb P C X:=by
 intro ops az th s0 H0 K Q w φ A a hd h ae hs hq;have dk:=yp hd;obtain ⟨s,H,v,act,rfl,rfl,t⟩:=ru dg ops.toList 0 s0 H0 h;have aW:bM w (H 0) φ A {w with drawn:=w.drawn+1} (H 0) φ A:=⟨fun c arr T fr hc hn=>⟨⟨fr,hc⟩,hn⟩,Nat.le_refl _,fun id b h _=>⟨b,h,rfl,rfl,rfl,rfl,fun _ h=>h⟩,fun _ _=>rfl⟩;have kX:St {w with drawn:=w.drawn+1} (H 0) φ A:=by
  refine ⟨ae.inj,ae.own,ae.ca,fun id loc hl=> ?_⟩;obtain ⟨b,hb,af⟩:=ae.ap id loc hl;refine ⟨b,hb,af.ad,af.sized,af.aQ,fun c b0 he=> ?_⟩;obtain ⟨arr,T,fr,k1,k2,k3,k4⟩:=af.here c b0 he;exact ⟨arr,T,fr,k1,k2,k3,fun i x j y v hx hy hv=>⟨(k4 i x j y v hx hy hv).1.mono aW,(k4 i x j y v hx hy hv).2⟩⟩
 have rN:Out w (H 0) φ A {w with drawn:=w.drawn+1} (H 0) φ A:=⟨kX,⟨rfl,rfl,rfl,Nat.le_refl _,fun _ _ _=>rfl,fun _ _=>rfl,fun _ h=> .inl h⟩,aW,fun _ h _=>h⟩;obtain ⟨c,k1,k2,k3,k4⟩:=oV az ops.size (ops.size-0) 0 rfl (Nat.zero_le _);have gA:=g6 t c 0 (by omega) (fun k h1 h2=>k4 k h1 (by omega))
 rw [Nat.zero_add] at gA;have hex:=iQ kX gA.1.1 gA.2;refine yL hE hX dk t ae hq ops.size _ a _ 0 c φ A (fun _=>0) ⟨by simp,fun i o ho hl=>by have c9:(Array.replicate ops.size false).getD i false=true:=hl;rw [getD_replicate_false] at c9;simp at c9,k1,k2,k3,k4,fun i _ _=>by rw [getD_replicate_false];simp,.inl rfl,rN.trans ae hex,fun i _ _ _ id h4 h5=> ?_,hs.eF,hs.len,fun k o d u _ _ hl=>by rw [getD_replicate_false] at hl;simp at hl,fun k _ hl=>by rw [getD_replicate_false] at hl;simp at hl,fun j k _ _ hl=>by rw [getD_replicate_false] at hl;simp at hl,fun x u _ hu=> ?_⟩ ?_
 ·refine ae.new ?_;rename_i h1 h2 h3;have:=(g6 t i 0 (by omega) (fun k h1 h2=>k4 k h1 (by omega))).1.2
  rw [Nat.zero_add] at this;omega
 ·have hx:=(hs.mono (rN.bW.trans hex.bW (fun _ _=>rfl))).ev (.tmp x);simp only [ev,Act.eval] at hx;rw [Array.getD_eq_getD_getElem?,hu] at hx;exact hx
 ·unfold left;exact Nat.le_trans (List.length_filter_le _ _) (by simp)
end draw
end Go.VS
namespace Go.VS
section mono
variable {X X' :bD} {C:aF} (hX: ∀f ys H (K K' :AV→J→Prop),(∀v H,K v H→K' v H)→X f ys H K→X' f ys H K')
include hX
theorem rO {f:FuncId} {args:List AV} {th:Bool} {H:J} {K K' :AV→J→Prop} (hK: ∀v H,K v H→K' v H) (h:dm X C f args th H K):dm X' C f args th H K' :=by
 unfold dm at h⊢;split at h
 ·exact h.elim
 rename_i ys bS hy;obtain ⟨y,h1,h2,h3⟩:=h;refine ⟨y,hX _ _ _ _ _ (fun _ _ h=>h) h1,h2,?_⟩;split at h3
 ·rename_i ht;rw [if_pos ht];exact hK _ _ h3
 ·rename_i ht;rw [if_neg ht];exact hK _ _ h3
theorem g_ {q th:Bool} {o:Oper} {s:aj} {H:J} {K K' :AV→J→Prop} (hK: ∀v H,K v H→K' v H) (h:wpOp X C q th o s H K):wpOp X' C q th o s H K' :=by
 unfold wpOp at h⊢;split at h
 ·obtain ⟨hq,h⟩:=h;refine ⟨hq,?_⟩;split at h
  ·exact hK _ _ h
  ·exact h.elim
 ·split at h
  ·cases q with
   |true=>exact rO hX hK h
   |false=>
    rcases h with h|h
    ·exact .inl (hX _ _ _ _ _ hK h)
    ·exact .inr (rO hX hK h)
  ·exact h.elim
 ·obtain ⟨hq,h⟩:=h;refine ⟨hq,?_⟩;split at h
  ·exact hK _ _ h
  ·exact h.elim
omit hX in
theorem kY {ops:Array Oper} {s:aj} {H:J} {K K' :Prop} (hK:K→K'): ∀(l:List Nat),eX C ops s H K l→eX C ops s H K' l
 |[],h=>hK h
 |_j::js,h=>⟨h.1,kY hK js h.2⟩
theorem mC {ops:Array Oper} {q:Nat→Bool} {late:Nat→List Nat} {th:List Nat} {K K' :aj→J→Prop} (hK: ∀s H,K s H→K' s H): ∀(l:List Oper) (i:Nat) (s:aj) (H:J),cR X C ops q late th K l i s H→cR X' C ops q late th K' l i s H
 |[],i,s,H,h=>hK s H h
 |o::rest,i,s,H,h=>by
  simp only [cR] at h⊢;cases hg:o.guard with
  |none=>
   rw [hg] at h;exact g_ hX (fun v H' hv=>kY (mC hK rest (i+1) _ _) _ hv) h
  |some p=>
   rw [hg] at h;obtain ⟨v,H',h1,h2⟩:=h;refine ⟨v,H',?_,kY (mC hK rest (i+1) _ _) _ h2⟩;split at h1
   ·split at h1
    ·rename_i hb;simp only [hb,if_true];exact g_ hX (fun _ _ h=>h) h1
    ·rename_i hb;simp only [hb];exact h1
   ·exact h1.elim
theorem mD {ops:Array Oper} {th:List Nat} {fz:List (Nat×List (List Nat×List Sh))} {K K' :aj→J→Prop} (hK: ∀s H,K s H→K' s H): ∀(l:List Oper) (i:Nat) (s:aj) (H:J),cG X C ops th fz K l i s H→cG X' C ops th fz K' l i s H
 |[],i,s,H,h=>hK s H h
 |o::rest,i,s,H,h=>by
  simp only [cG] at h⊢;obtain ⟨s1,H1,hf,h⟩:=h;refine ⟨s1,H1,hf,?_⟩;cases hg:o.guard with
  |none=>
   rw [hg] at h;exact g_ hX (fun v H' hv=>mD hK rest (i+1) _ _ hv) h
  |some p=>
   rw [hg] at h;obtain ⟨v,H',h1,h2⟩:=h;refine ⟨v,H',?_,mD hK rest (i+1) _ _ h2⟩;split at h1
   ·split at h1
    ·rename_i hb;simp only [hb,if_true];exact g_ hX (fun _ _ h=>h) h1
    ·rename_i hb;simp only [hb];exact h1
   ·exact h1.elim
theorem et: ∀(c:AC) (s:aj) (H:J) (K K' :Ex→aj→J→Prop),(∀e s H,K e s H→K' e s H)→aM X C c s H K→aM X' C c s H K' :=by
 intro c;induction c with
 |skip=>intro s H K K' hK h;exact hK _ _ _ h
 |ret=>intro s H K K' hK h;exact hK _ _ _ h
 |exit id=>intro s H K K' hK h;exact hK _ _ _ h
 |seq a b fT fU=>
  intro s H K K' hK h
  simp only [aM] at h⊢;refine fT s H _ _ (fun e s' H' h=> ?_) h
  cases e with
  |normal=>exact fU s' H' K K' hK h
  |exit id=>exact hK _ _ _ h
  |ret=>exact hK _ _ _ h
 |cond c a b fT fU=>
  intro s H K K' hK h
  simp only [aM] at h⊢;split at h
  ·split at h
   ·rename_i hb;simp only [hb,if_true];exact fT s H K K' hK h
   ·rename_i hb;simp only [hb];exact fU s H K K' hK h
  ·exact h.elim
 |block id bK a ih=>
  intro s H K K' hK h
  simp only [aM] at h⊢;refine ih s H _ _ (fun e s' H' h=> ?_) h
  cases e with
  |normal=>exact hK _ _ _ h
  |ret=>exact hK _ _ _ h
  |exit j=>
   simp only at h⊢;split at h
   ·rename_i hj;rw [if_pos hj];exact hK _ _ _ h
   ·rename_i hj;rw [if_neg hj];exact hK _ _ _ h
 |loop sp a ih=>
  intro s H K K' hK h
  simp only [aM] at h⊢;intro Y hY;refine h Y fun s' H' hB=>hY s' H' (ih s' H' _ _ (fun e s2 H2 h=> ?_) hB)
  cases e with
  |normal=>exact h
  |exit id=>exact hK _ _ _ h
  |ret=>exact hK _ _ _ h
 |region id ops draw az th fz=>
  intro s H K K' hK h
  cases draw with
  |true=>
   simp only [aM] at h⊢;exact ⟨h.1,mC hX (fun s H h=>hK _ s H h) _ _ _ _ h.2⟩
  |false=>
   simp only [aM] at h⊢;exact mD hX (fun s H h=>hK _ s H h) _ _ _ _ h
 |gH l kp=>
  intro s H K K' hK h
  simp only [aM] at h⊢;split at h
  ·exact hK _ _ _ h
  ·exact h
 |bad=>intro s H K K' hK h;exact h
end mono
def Up (X:bD):Prop:= ∀f ys H (K K' :AV→J→Prop),(∀v H,K v H→K' v H)→X f ys H K→X f ys H K'
theorem iF.round {X:bD} (hU:Up X) {C:aF} {c:AC} {next:aj→J→aj×J} {K:Ex→aj→J→Prop} {s:aj} {H:J}
 (h:aM X C c s H (fun e s' H' =>match e with
  | .normal=>iF (aM X C c) next K (next s' H').1 (next s' H').2
  |e=>K e s' H')):iF (aM X C c) next K s H:=by
 intro Y hY;refine hY s H (et hU c s H _ _ (fun e s' H' h=> ?_) h)
 cases e with
 |normal=>exact h Y hY
 |exit id=>exact h
 |ret=>exact h
theorem rP {X:bD} {C:aF} (hU:Up X) (dg:Exact X) {ops:Array Oper} {q:Nat→Bool} {late:Nat→List Nat} {th:List Nat} {K:aj→J→Prop}: ∀(l:List Oper) (i:Nat) (s:aj) (H:J),cR X C ops q late th K l i s H→ ∃s' H',cR X C ops q late th (fun s1 H1=>s1=s' ∧H1=H') l i s H∧K s' H'
 |[],i,s,H,h=>⟨s,H,⟨rfl,rfl⟩,h⟩
 |o::rest,i,s,H,h=>by
  have rQ: ∀(ls:List Nat) (s1:aj) (H1:J),eX C ops s1 H1 (cR X C ops q late th K rest (i+1) s1 H1) ls→ ∃s' H',eX C ops s1 H1 (cR X C ops q late th (fun s1 H1=>s1=s' ∧H1=H') rest (i+1) s1 H1) ls∧K s' H' :=by
   intro ls s1 H1 h;obtain ⟨h1,h2⟩:=mh _ _ _ _ _ _ h;obtain ⟨s',H',h3,h4⟩:=rP hU dg rest (i+1) s1 H1 h2;refine ⟨s',H',?_,h4⟩;clear h h2 h4;induction ls with
   |nil=>exact h3
   |cons j js ih=>exact ⟨h1 j (by simp),ih fun k hk=>h1 k (by simp [hk])⟩
  simp only [cR] at h⊢;cases hg:o.guard with
  |none=>
   rw [hg] at h;simp only at h⊢;obtain ⟨v,H1,h1,h2⟩:=kP dg h;obtain ⟨s',H',h3,h4⟩:=rQ _ _ _ h2;exact ⟨s',H',g_ hU (fun v1 H2 e=>by obtain ⟨rfl,rfl⟩:=e;exact h3) h1,h4⟩
  |some p=>
   rw [hg] at h;simp only at h⊢;obtain ⟨v,H1,h1,h2⟩:=h;obtain ⟨s',H',h3,h4⟩:=rQ _ _ _ h2;exact ⟨s',H',⟨v,H1,h1,h3⟩,h4⟩
theorem o7 {X:bD} {C:aF} (hU:Up X) (dg:Exact X) {ops:Array Oper} {th:List Nat} {fz:List (Nat×List (List Nat×List Sh))} {K:aj→J→Prop}: ∀(l:List Oper) (i:Nat) (s:aj) (H:J),cG X C ops th fz K l i s H→ ∃s' H',cG X C ops th fz (fun s1 H1=>s1=s' ∧H1=H') l i s H∧K s' H'
 |[],i,s,H,h=>⟨s,H,⟨rfl,rfl⟩,h⟩
 |o::rest,i,s,H,h=>by
  simp only [cG] at h⊢;obtain ⟨s0,H0,hf,h⟩:=h;cases hg:o.guard with
  |none=>
   rw [hg] at h;simp only at h⊢;obtain ⟨v,H1,h1,h2⟩:=kP dg h;obtain ⟨s',H',h3,h4⟩:=o7 hU dg rest (i+1) _ _ h2;exact ⟨s',H',⟨s0,H0,hf,g_ hU (fun v1 H2 e=>by obtain ⟨rfl,rfl⟩:=e;exact h3) h1⟩,h4⟩
  |some p=>
   rw [hg] at h;simp only at h⊢;obtain ⟨v,H1,h1,h2⟩:=h;obtain ⟨s',H',h3,h4⟩:=o7 hU dg rest (i+1) _ _ h2;exact ⟨s',H',⟨s0,H0,hf,v,H1,h1,h3⟩,h4⟩
theorem yO {X:bD} {C:aF} (hU:Up X) (dg:Exact X): ∀(c:AC) (s:aj) (H:J) (K:Ex→aj→J→Prop),aM X C c s H K→ ∃e s' H',aM X C c s H (fun e1 s1 H1=>e1=e∧s1=s' ∧H1=H')∧K e s' H' :=by
 intro c;induction c with
 |skip=>intro s H K h;exact ⟨_,_,_,⟨rfl,rfl,rfl⟩,h⟩
 |ret=>intro s H K h;exact ⟨_,_,_,⟨rfl,rfl,rfl⟩,h⟩
 |exit id=>intro s H K h;exact ⟨_,_,_,⟨rfl,rfl,rfl⟩,h⟩
 |seq a b fT fU=>
  intro s H K h;simp only [aM] at h⊢;obtain ⟨e,s1,H1,h1,h2⟩:=fT s H _ h;cases e with
  |normal=>
   obtain ⟨e,s2,H2,h3,h4⟩:=fU s1 H1 K h2;exact ⟨e,s2,H2,et hU a s H _ _ (fun e1 s' H' q=>by obtain ⟨rfl,rfl,rfl⟩:=q;exact h3) h1,h4⟩
  |exit id=>exact ⟨.exit id,s1,H1,et hU a s H _ _ (fun e1 s' H' q=>by obtain ⟨rfl,rfl,rfl⟩:=q;exact ⟨rfl,rfl,rfl⟩) h1,h2⟩
  |ret=>exact ⟨.ret,s1,H1,et hU a s H _ _ (fun e1 s' H' q=>by obtain ⟨rfl,rfl,rfl⟩:=q;exact ⟨rfl,rfl,rfl⟩) h1,h2⟩
 |cond c a b fT fU=>
  intro s H K h;simp only [aM] at h⊢;split at h
  ·split at h
   ·rename_i hb;simp only [hb,if_true];exact fT s H K h
   ·rename_i hb;simp only [hb];exact fU s H K h
  ·exact h.elim
 |block id bK a ih=>
  intro s H K h;simp only [aM] at h⊢;obtain ⟨e,s1,H1,h1,h2⟩:=ih s H _ h;cases e with
  |normal=>exact ⟨.normal,eA bK s1,H1,et hU a s H _ _ (fun e1 s' H' q=>by obtain ⟨rfl,rfl,rfl⟩:=q;exact ⟨rfl,rfl,rfl⟩) h1,h2⟩
  |ret=>exact ⟨.ret,s1,H1,et hU a s H _ _ (fun e1 s' H' q=>by obtain ⟨rfl,rfl,rfl⟩:=q;exact ⟨rfl,rfl,rfl⟩) h1,h2⟩
  |exit j=>
   simp only at h2;split at h2
   ·rename_i hj;exact ⟨.normal,eA bK s1,H1,et hU a s H _ _ (fun e1 s' H' q=>by obtain ⟨rfl,rfl,rfl⟩:=q;simp [hj]) h1,h2⟩
   ·rename_i hj;exact ⟨.exit j,s1,H1,et hU a s H _ _ (fun e1 s' H' q=>by obtain ⟨rfl,rfl,rfl⟩:=q;simp [hj]) h1,h2⟩
 |loop sp a ih=>
  intro s H K h;simp only [aM] at h⊢;refine h (fun s1 H1=> ∃e s' H',iF (aM X C a) (gI sp H.bs.length) (fun e1 s2 H2=>e1=e∧s2=s' ∧H2=H') s1 H1∧K e s' H') fun s1 H1 hB=> ?_
  obtain ⟨e,s2,H2,h1,h2⟩:=ih s1 H1 _ hB;cases e with
  |normal=>
   obtain ⟨e,s',H',h3,h4⟩:=h2;exact ⟨e,s',H',.round hU (et hU a s1 H1 _ _ (fun e1 s' H' q=>by obtain ⟨rfl,rfl,rfl⟩:=q;exact h3) h1),h4⟩
  |exit id=>exact ⟨_,_,_,.round hU (et hU a s1 H1 _ _ (fun e1 s' H' q=>by obtain ⟨rfl,rfl,rfl⟩:=q;exact ⟨rfl,rfl,rfl⟩) h1),h2⟩
  |ret=>exact ⟨_,_,_,.round hU (et hU a s1 H1 _ _ (fun e1 s' H' q=>by obtain ⟨rfl,rfl,rfl⟩:=q;exact ⟨rfl,rfl,rfl⟩) h1),h2⟩
 |region id ops draw az th fz=>
  intro s H K h;cases draw with
  |true=>
   simp only [aM] at h⊢;obtain ⟨s',H',h1,h2⟩:=rP hU dg _ _ _ _ h.2;exact ⟨.normal,s',H',⟨h.1,mC hU (fun s H q=>⟨rfl,q⟩) _ _ _ _ h1⟩,h2⟩
  |false=>
   simp only [aM] at h⊢;obtain ⟨s',H',h1,h2⟩:=o7 hU dg _ _ _ _ h;exact ⟨.normal,s',H',mD hU (fun s H q=>⟨rfl,q⟩) _ _ _ _ h1,h2⟩
 |gH l kp=>
  intro s H K h;simp only [aM] at h⊢;split at h
  ·rename_i s' H' he;exact ⟨_,_,_,⟨rfl,rfl,rfl⟩,h⟩
  ·exact h.elim
 |bad=>intro s H K h;exact h.elim
theorem eB.mono {E:aJ} {res:List ResultVar} {K K' :AV→J→Prop} (hK: ∀v H,K v H→K' v H): ∀e s H,eB E res K e s H→eB E res K' e s H
 | .normal,_,_,⟨rs,h1,h2⟩=>⟨rs,h1,hK _ _ h2⟩
 | .ret,_,_,⟨rs,h1,h2⟩=>⟨rs,h1,hK _ _ h2⟩
 | .exit _,_,_,h=>h
theorem eB.exact {E:aJ} {res:List ResultVar} {K:AV→J→Prop}: ∀e s H,eB E res K e s H→ ∃v H',eB E res (fun v1 H1=>v1=v∧H1=H') e s H∧K v H'
 | .normal,_,_,⟨rs,h1,h2⟩=>⟨_,_,⟨rs,h1,rfl,rfl⟩,h2⟩
 | .ret,_,_,⟨rs,h1,h2⟩=>⟨_,_,⟨rs,h1,rfl,rfl⟩,h2⟩
 | .exit _,_,_,h=>h.elim
theorem rR {X:bD} {C:aF} (hU:Up X) (dg:Exact X) {f:FuncId} {ys:List AV} {H:J} {K:AV→J→Prop} (h:Body X C f ys H K): ∃v H',Body X C f ys H (fun v1 H1=>v1=v∧H1=H')∧K v H' :=by
 unfold Body at h⊢;split at h
 ·exact h.elim
 ·rename_i fn kd;split at h
  ·exact h.elim
  ·rename_i c hc;obtain ⟨e,s',H',h1,h2⟩:=yO hU dg _ _ _ _ h;obtain ⟨v,H2,h3,h4⟩:=eB.exact _ _ _ h2;refine ⟨v,H2,?_,h4⟩;exact et hU _ _ _ _ _ (fun e1 s1 H1 q=>by obtain ⟨rfl,rfl,rfl⟩:=q;exact h3) h1
theorem Body.mono {X X' :bD} {C:aF} (hX: ∀f ys H (K K' :AV→J→Prop),(∀v H,K v H→K' v H)→X f ys H K→X' f ys H K') {f:FuncId} {ys:List AV} {H:J} {K K' :AV→J→Prop} (hK: ∀v H,K v H→K' v H) (h:Body X C f ys H K):Body X' C f ys H K' :=by
 unfold Body at h⊢;split at h
 ·exact h.elim
 ·rename_i fn kd;split at h
  ·exact h.elim
  ·rename_i c hc;exact et hX _ _ _ _ _ (eB.mono hK) h
def mE (C:aF):Prop:=Up C.ext
theorem au.up {C:aF} (hE:mE C):Up (au C):=by
 intro f ys H K K' hK h
 refine h (fun f ys H K=> ∀K',(∀v H,K v H→K' v H)→au C f ys H K') ⟨fun f ys H K h K' hK X hX=>hX.1 _ _ _ _ (hE _ _ _ _ _ hK h),fun f ys H K h K' hK X hX=> ?_⟩ K' hK
 refine hX.2 _ _ _ _ (Body.mono (fun f ys H K K2 yP h=> ?_) hK h);exact h K2 yP X hX
theorem au.intro {C:aF} (hE:mE C) {f:FuncId} {ys:List AV} {H:J} {K:AV→J→Prop} (h:Body (au C) C f ys H K):au C f ys H K:=by
 intro X hX;refine hX.2 _ _ _ _ (Body.mono (fun f ys H K K' hK hc=> ?_) (fun _ _ h=>h) h)
 exact au.up hE _ _ _ _ _ hK hc X hX
theorem au.exact {C:aF} (hE:mE C) (hX:Exact C.ext):Exact (au C):=by
 intro f ys H K h;refine h (fun f ys H K=> ∃v H',au C f ys H (fun v1 H1=>v1=v∧H1=H')∧K v H') ⟨fun f ys H K h=> ?_,fun f ys H K h=> ?_⟩
 ·obtain ⟨v,H',h1,h2⟩:=hX _ _ _ _ h;exact ⟨v,H',fun X hX=>hX.1 _ _ _ _ h1,h2⟩
 ·obtain ⟨v,H',h1,h2⟩:=rR (X:=fun f ys H K=> ∃v H',au C f ys H (fun v1 H1=>v1=v∧H1=H')∧K v H') (fun f ys H K K' hK ⟨v,H',h1,h2⟩=>⟨v,H',h1,hK _ _ h2⟩) (fun f ys H K ⟨v,H',h1,h2⟩=>⟨v,H',⟨v,H',h1,rfl,rfl⟩,h2⟩) h
  refine ⟨v,H',au.intro hE (Body.mono (fun f ys H K K' hK ⟨v,H',h1,h2⟩=> ?_) (fun _ _ h=>h) h1),h2⟩
  exact au.up hE _ _ _ _ _ (fun v1 H1 q=>by obtain ⟨rfl,rfl⟩:=q;exact hK _ _ h2) h1
theorem au.ext {C:aF} {f:FuncId} {ys:List AV} {H:J} {K:AV→J→Prop} (h:C.ext f ys H K):au C f ys H K:=fun _ hX=>hX.1 _ _ _ _ h
theorem Av {P:Program} {C:aF} (hm:P.follows .mixedOrders=true) (hE: ∀t ti,C.E t=some ti→aT P t ti) (hC: ∀f fn,C.code f=some fn→P.funcs[f]? =some fn∧(fn.name== "runtime.NumGoroutine")=false∧m8 (C.fy f) fn=true)
 (yQ: ∀f ys H K,C.ext f ys H K→ ∃v H',cV P f ys H (fun v1 H1=>v1=v∧H1=H')∧K v H')
 {f:FuncId} {ys:List AV} {H:J} {K:AV→J→Prop} (h:au C f ys H K):cV P f ys H K:=by
 have hY: ∃v H',cV P f ys H (fun v1 H1=>v1=v∧H1=H')∧K v H' :=by
  let Y:bD:=fun f ys H K=> ∃v H',cV P f ys H (fun v1 H1=>v1=v∧H1=H')∧K v H'
  have rS:Exact Y:=fun f ys H K ⟨v,H',h1,h2⟩=>⟨v,H',⟨v,H',h1,rfl,rfl⟩,h2⟩;have yR:Up Y:=fun f ys H K K' hK ⟨v,H',h1,h2⟩=>⟨v,H',h1,hK _ _ h2⟩
  have rT: ∀f ys H K,Y f ys H K→cV P f ys H K:=fun f ys H K ⟨v,H',h1,h2⟩=>h1.mono fun v1 H1 q=>by obtain ⟨rfl,rfl⟩:=q;exact h2
  refine h Y ⟨yQ,fun f ys H K hb=> ?_⟩;obtain ⟨v,H',h1,h2⟩:=rR yR rS hb;exact ⟨v,H',ye hm hE hC rT (rM rS hm hE rT) h1,h2⟩
 obtain ⟨v,H',h1,h2⟩:=hY;exact h1.mono fun v1 H1 q=>by obtain ⟨rfl,rfl⟩:=q;exact h2
end Go.VS
namespace Go.VS
structure Good (C:aF):Prop where
 up:mE C
 exact:Exact C.ext
def kZ (C:aF) (b:AC) (K:Ex→aj→J→Prop):Ex→aj→J→Prop
 | .normal,s,H=>aM (au C) C b s H K
 | .exit i,s,H=>K (.exit i) s H
 | .ret,s,H=>K .ret s H
def je (id:Nat) (bK:Option (List Nat)) (K:Ex→aj→J→Prop):Ex→aj→J→Prop
 | .normal,s,H=>K .normal (eA bK s) H
 | .exit j,s,H=>if j=id then K .normal (eA bK s) H else K (.exit j) s H
 | .ret,s,H=>K .ret s H
def rU (C:aF) (v:AV) (a b:AC) (s:aj) (H:J) (K:Ex→aj→J→Prop):Prop:=
 match v with
 | .bool t=>if t then aM (au C) C a s H K else aM (au C) C b s H K
 |_=>False
section
variable {C:aF} {K K1:Ex→aj→J→Prop} {s:aj} {H:J}
theorem Aw {a b:AC} (h: ∀K1,K1=kZ C b K→aM (au C) C a s H K1):aM (au C) C (.seq a b) s H K:=by
 have:=h _ rfl;have e:kZ C b K=(fun e s' H' =>match e with| .normal=>aM (au C) C b s' H' K|e=>K e s' H'):=by
  funext e s H;cases e<;>rfl
 rw [e] at this;exact this
theorem Ax {id:Nat} {kp:Option (List Nat)} {a:AC} (h: ∀K1,K1=je id kp K→aM (au C) C a s H K1):aM (au C) C (.block id kp a) s H K:=by
 have:=h _ rfl;have e:je id kp K=(fun e s' H' =>match e with
  | .exit j=>if j=id then K .normal (eA kp s') H' else K (.exit j) s' H'
  | .normal=>K .normal (eA kp s') H'
  | .ret=>K .ret s' H'):=by funext e s H;cases e<;>rfl
 rw [e] at this;exact this
theorem Ay (h:K .normal s H):aM (au C) C .skip s H K:=h
theorem Az (h:K .ret s H):aM (au C) C .ret s H K:=h
theorem AA {id:Nat} (h:K (.exit id) s H):aM (au C) C (.exit id) s H K:=h
theorem AB {c:Operand} {a b:AC} (h:rU C (ev s c) a b s H K):aM (au C) C (.cond c a b) s H K:=h
theorem AD {kp:List Nat} (h:K .normal (ez kp s) H):aM (au C) C (.gH [] (some kp)) s H K:=h
theorem AE {b:AC} (hK:K1=kZ C b K) (h:aM (au C) C b s H K):K1 .normal s H:=by rw [hK];exact h
theorem AF {b:AC} (hK:K1=kZ C b K) (h:K .ret s H):K1 .ret s H:=by rw [hK];exact h
theorem AG {b:AC} {i:Nat} (hK:K1=kZ C b K) (h:K (.exit i) s H):K1 (.exit i) s H:=by rw [hK];exact h
theorem AI {id:Nat} {kp:Option (List Nat)} (hK:K1=je id kp K) (h:K .normal (eA kp s) H):K1 .normal s H:=by rw [hK];exact h
theorem AJ {id:Nat} (hK:K1=je id none K) (h:K .normal s H):K1 .normal s H:=by rw [hK];exact h
theorem AK {id:Nat} {kp:Option (List Nat)} (hK:K1=je id kp K) (h:K .normal (eA kp s) H):K1 (.exit id) s H:=by rw [hK];simp only [je,if_true];exact h
theorem AM {id:Nat} {kp:Option (List Nat)} (hK:K1=je id kp K) (h:K .ret s H):K1 .ret s H:=by rw [hK];exact h
theorem AN {E:aJ} {res:List ResultVar} {P:AV→J→Prop} {rs:List AV} (hK:K1=eB E res P) (hr:dy E s H res=some rs) (h:P (b9 rs) H):K1 .ret s H:=by rw [hK];exact ⟨rs,hr,h⟩
theorem AO {E:aJ} {a:Tmp} {P:AV→J→Prop} (hK:K1=eB E [.tmp a] P) {x:AV} (hx:s.getD a .undef=x) (h:P x H):K1 .ret s H:=by
 rw [hK];exact ⟨[s.getD a .undef],rfl,by rw [hx];exact h⟩
theorem AP {E:aJ} {a b:Tmp} {P:AV→J→Prop} (hK:K1=eB E [.tmp a,.tmp b] P) {x y:AV} (hx:s.getD a .undef=x) (hy:s.getD b .undef=y) (h:P (.aC [x,y]) H):K1 .ret s H:=by
 rw [hK];exact ⟨[s.getD a .undef,s.getD b .undef],rfl,by rw [hx,hy];exact h⟩
theorem AQ {E:aJ} {P:AV→J→Prop} (hK:K1=eB E [] P) (h:P (.aC []) H):K1 .normal s H:=by
 rw [hK];exact ⟨[],rfl,h⟩
theorem AR {α :Type} {c:Bool} {x y:Option α} {r: α} {a b:AC} (h:(bif c then x else y)=some r) (ht:c=true→x=some r→aM (au C) C a s H K) (hf:c=false→y=some r→aM (au C) C b s H K):rU C (.bool c) a b s H K:=by
 cases c with
 |true=>exact ht rfl h
 |false=>exact hf rfl h
theorem yS {a:AC} (h:aM (au C) C a s H K1) (hK: ∀e s H,K1 e s H→K e s H) (gC:Good C):aM (au C) C a s H K:=et (au.up gC.up) a s H _ _ hK h
end
structure GO where
 d:Option Tmp
 op:Op
 g:Option (Option Tmp×Bool)
 late:List (Op×Option Tmp)
 th:Bool
 q:Bool
def lk:List Oper→Nat→Option Tmp
 |[],_=>none
 |o::_,0=>o.dst
 |_::os,n+1=>lk os n
def aZ (X:bD) (C:aF) (q f_:Bool) (op:Op) (s:aj) (H:J) (K:AV→J→Prop):Prop:=wpOp X C q f_ ⟨none,op,0,"",#[],none⟩ s H K
theorem rV (X:bD) (C:aF) (q f_:Bool) (o:Oper) (s:aj) (H:J) (K:AV→J→Prop):wpOp X C q f_ o s H K=aZ X C q f_ o.op s H K:=by
 cases o;rfl
def dQ (C:aF) (s:aj) (H:J) (K:Prop):List (Op×Option Tmp)→Prop
 |[]=>K
 |(op,d)::js=>(∃t,d=some t∧aL C.E op s H=some (s.getD t .undef,H))∧dQ C s H K js
def gW (g:Option (Option Tmp×Bool)) (s:aj) (a b:Prop):Prop:=
 match g with
 |none=>a
 |some (none,_)=>False
 |some (some t,ec)=>match s.getD t .undef with
  | .bool c=>if c=ec then a else b
  | .aC _=>b
  |_=>False
def ea (C:aF) (K:aj→J→Prop):List GO→aj→J→Prop
 |[],s,H=>K s H
 |o::rest,s,H=>gW o.g s (aZ (au C) C o.q o.th o.op s H fun v H' =>dQ C (bd s o.d v) H' (ea C K rest (bd s o.d v) H') o.late)
  (dQ C (bd s o.d (.aC [])) H (ea C K rest (bd s o.d (.aC [])) H) o.late)
def jS (ops:List Oper) (j:Nat):Op×Option Tmp:=match ops[j]? with|some o=>(o.op,o.dst)|none=>(.move (.tmp 0),none)
def dR (all:List Oper) (q:Nat→Bool) (late:Nat→List Nat) (th:List Nat):List Oper→Nat→List GO
 |[],_=>[]
 |o::rest,i=>⟨o.dst,o.op,o.guard.map fun p=>(lk all p.1,p.2),(late i).map (jS all),th.contains i,q i⟩::dR all q late th rest (i+1)
theorem o8: ∀(l:List Oper) (j:Nat),lk l j=(l[j]?).bind (·.dst)
 |[],j=>by simp [lk]
 |o::os,0=>by simp [lk]
 |o::os,j+1=>by simp [lk,o8 os j]
theorem o9 {C:aF} {ops:Array Oper} {s:aj} {H:J} {K:Prop}: ∀(l:List Nat),dQ C s H K (l.map (jS ops.toList))→eX C ops s H K l
 |[],h=>h
 |j::js,h=>by
  simp only [List.map_cons,dQ] at h;refine ⟨?_,o9 js h.2⟩;unfold jr;have h1:=h.1;unfold jS at h1;rw [Array.getElem?_toList] at h1;cases ho:ops[j]? with
  |none=>rw [ho] at h1;simp at h1
  |some o=>
   rw [ho] at h1;obtain ⟨t,ht,he⟩:=h1;simp only at ht he⊢;rw [ht];exact he
theorem mF {C:aF} (gC:Good C) {ops:Array Oper} {q:Nat→Bool} {late:Nat→List Nat} {th:List Nat} {K:aj→J→Prop}: ∀(l:List Oper) (i:Nat) (s:aj) (H:J),ea C K (dR ops.toList q late th l i) s H→cR (au C) C ops q late th K l i s H
 |[],i,s,H,h=>h
 |o::rest,i,s,H,h=>by
  simp only [dR,ea] at h;have yes:(aZ (au C) C (q i) (th.contains i) o.op s H fun v H' =>dQ C (bd s o.dst v) H' (ea C K (dR ops.toList q late th rest (i+1)) (bd s o.dst v) H') ((late i).map (jS ops.toList)))→
   wpOp (au C) C (q i) (th.contains i) o s H fun v H' =>eX C ops (bd s o.dst v) H' (cR (au C) C ops q late th K rest (i+1) (bd s o.dst v) H') (late i):=by
   intro h;rw [←rV] at h;refine g_ (au.up gC.up) (fun v H' h=> ?_) h
   exact kY (mF gC rest (i+1) _ _) _ (o9 _ h)
  simp only [cR];cases hg:o.guard with
  |none=>
   rw [hg] at h;simp only [Option.map_none,gW] at h⊢;exact yes h
  |some p=>
   obtain ⟨j,ec⟩:=p;rw [hg] at h;simp only [Option.map_some,o8,Array.getElem?_toList] at h⊢;cases hd:(ops[j]?).bind (·.dst) with
   |none=>rw [hd] at h;exact h.elim
   |some t=>
    rw [hd] at h;simp only [gW] at h;have no:(dQ C (bd s o.dst (.aC [])) H (ea C K (dR ops.toList q late th rest (i+1)) (bd s o.dst (.aC [])) H) ((late i).map (jS ops.toList)))→dn ops o s=some false→ ∃v H',(match dn ops o s with
     |some b=>if b then wpOp (au C) C (q i) (th.contains i) o s H (fun v1 H1=>v1=v∧H1=H') else v= .aC []∧H' =H
     |none=>False)∧eX C ops (bd s o.dst v) H' (cR (au C) C ops q late th K rest (i+1) (bd s o.dst v) H') (late i):=by
     intro h hb;refine ⟨.aC [],H,?_,kY (mF gC rest (i+1) _ _) _ (o9 _ h)⟩;rw [hb];simp
    split at h
    ·rename_i c hc;have k9:dn ops o s=some (c==ec):=by
      unfold dn;rw [hg];simp only [hd,hc]
     split at h
     ·rename_i jf;obtain ⟨v,H',h1,h2⟩:=kP (au.exact gC.up gC.exact) (yes h);refine ⟨v,H',?_,h2⟩;rw [k9,jf];simp only [beq_self_eq_true,if_true];exact h1
     ·rename_i jf;exact no h (by rw [k9];simpa using jf)
    ·rename_i hc;exact no h (by unfold dn;rw [hg];simp only [hd,hc])
    ·exact h.elim
section
variable {C:aF} {K K1:Ex→aj→J→Prop} {s:aj} {H:J}
def iz (K:Ex→aj→J→Prop):aj→J→Prop:=fun s H=>K .normal s H
theorem AS (gC:Good C) {id:Nat} {ops:List Oper} {ls th:List Nat} (h:ea C (iz K) (dR ops (fun _=>false) (fun _=>[]) th ops 0) s H):aM (au C) C (.region id ops.toArray false ls th []) s H K:=by
 have h2:=mF gC (ops:=ops.toArray) (q:=fun _=>false) (late:=fun _=>[]) (th:=th) ops 0 s H h;have key: ∀(l:List Oper) (i:Nat) (s:aj) (H:J),cR (au C) C ops.toArray (fun _=>false) (fun _=>[]) th (iz K) l i s H→cG (au C) C ops.toArray th [] (iz K) l i s H:=by
  intro l;induction l with
  |nil=>intro i s H h;exact h
  |cons o rest ih=>
   intro i s H h;simp only [cR,eX] at h;simp only [cG];refine ⟨s,H,rfl,?_⟩;cases hg:o.guard with
   |none=>
    rw [hg] at h;exact g_ (au.up gC.up) (fun v H' hv=>ih (i+1) _ _ hv) h
   |some p=>
    rw [hg] at h;obtain ⟨v,H',h1,h2⟩:=h;exact ⟨v,H',h1,ih (i+1) _ _ h2⟩
 exact key _ _ _ _ h2
def fV (C:aF) (fz:List (Nat×List (List Nat×List Sh))) (K:aj→J→Prop):List GO→Nat→aj→J→Prop
 |[],_,s,H=>K s H
 |o::rest,i,s0,H0=> ∃s H,dx ((fz.lookup i).getD []) s0 H0=some (s,H)∧
  gW o.g s (aZ (au C) C o.q o.th o.op s H fun v H' =>fV C fz K rest (i+1) (bd s o.d v) H') (fV C fz K rest (i+1) (bd s o.d (.aC [])) H)
theorem o_ (gC:Good C) {ops:Array Oper} {th:List Nat} {fz:List (Nat×List (List Nat×List Sh))} {K:aj→J→Prop}: ∀(l:List Oper) (i:Nat) (s:aj) (H:J),fV C fz K (dR ops.toList (fun _=>false) (fun _=>[]) th l i) i s H→cG (au C) C ops th fz K l i s H
 |[],i,s,H,h=>h
 |o::rest,i,s0,H0,h=>by
  simp only [dR,fV] at h;obtain ⟨s,H,hf,h⟩:=h;simp only [cG];refine ⟨s,H,hf,?_⟩;have yes:(aZ (au C) C false (th.contains i) o.op s H fun v H' =>fV C fz K (dR ops.toList (fun _=>false) (fun _=>[]) th rest (i+1)) (i+1) (bd s o.dst v) H')→
   wpOp (au C) C false (th.contains i) o s H fun v H' =>cG (au C) C ops th fz K rest (i+1) (bd s o.dst v) H' :=by
   intro h;rw [←rV] at h;exact g_ (au.up gC.up) (fun v H' h=>o_ gC rest (i+1) _ _ h) h
  cases hg:o.guard with
  |none=>
   rw [hg] at h;simp only [Option.map_none,gW] at h⊢;exact yes h
  |some p=>
   obtain ⟨j,ec⟩:=p;rw [hg] at h;simp only [Option.map_some,o8,Array.getElem?_toList] at h⊢;cases hd:(ops[j]?).bind (·.dst) with
   |none=>rw [hd] at h;exact h.elim
   |some t=>
    rw [hd] at h;simp only [gW] at h;have no:fV C fz K (dR ops.toList (fun _=>false) (fun _=>[]) th rest (i+1)) (i+1) (bd s o.dst (.aC [])) H→dn ops o s=some false→ ∃v H',(match dn ops o s with
     |some b=>if b then wpOp (au C) C false (th.contains i) o s H (fun v1 H1=>v1=v∧H1=H') else v= .aC []∧H' =H
     |none=>False)∧cG (au C) C ops th fz K rest (i+1) (bd s o.dst v) H' :=by
     intro h hb;refine ⟨.aC [],H,?_,o_ gC rest (i+1) _ _ h⟩;rw [hb];simp
    split at h
    ·rename_i c hc;have k9:dn ops o s=some (c==ec):=by
      unfold dn;rw [hg];simp only [hd,hc]
     split at h
     ·rename_i jf;obtain ⟨v,H',h1,h2⟩:=kP (au.exact gC.up gC.exact) (yes h);refine ⟨v,H',?_,h2⟩;rw [k9,jf];simp only [beq_self_eq_true,if_true];exact h1
     ·rename_i jf;exact no h (by rw [k9];simpa using jf)
    ·rename_i hc;exact no h (by unfold dn;rw [hg];simp only [hd,hc])
    ·exact h.elim
theorem AT (gC:Good C) {id:Nat} {ops:List Oper} {ls th:List Nat} {fz:List (Nat×List (List Nat×List Sh))} (h:fV C fz (iz K) (dR ops (fun _=>false) (fun _=>[]) th ops 0) 0 s H):aM (au C) C (.region id ops.toArray false ls th fz) s H K:=
 o_ gC (ops:=ops.toArray) ops 0 s H h
theorem rW (gC:Good C) {id:Nat} {ops:List Oper} {ls th:List Nat} {fz:List (Nat×List (List Nat×List Sh))} (hd:ia ops.toArray ls=true) (h:ea C (iz K) (dR ops (fun i=> !ls.contains i) (fB ops.toArray ls) th ops 0) s H):aM (au C) C (.region id ops.toArray true ls th fz) s H K:=by
 have:=mF gC (ops:=ops.toArray) (q:=fun i=> !ls.contains i) (late:=fB ops.toArray ls) (th:=th) ops 0 s H h;exact ⟨hd,this⟩
theorem yT (ops:Array Oper):fB ops []=fun _=>[]:=by funext i;rfl
theorem AU (gC:Good C) {id:Nat} {ops:List Oper} {th:List Nat} {fz:List (Nat×List (List Nat×List Sh))} (hd:ia ops.toArray []=true) (h:ea C (iz K) (dR ops (fun _=>true) (fun _=>[]) th ops 0) s H):aM (au C) C (.region id ops.toArray true [] th fz) s H K:=
 rW gC hd (by rw [yT];exact h)
end
theorem AW {C:aF} (gC:Good C) {f:FuncId} {fn:Func} {c:Code} {res:List ResultVar} {n:Nat} (hc:C.code f=some fn) (hb:fn.body=some c) (hr:fn.results=res.toArray) (hn:fn.ntmps=n) {ys:List AV} {H:J} {P:AV→J→Prop}
 (h: ∀K0,K0=eB C.E res P→aM (au C) C (cQ (C.fy f) 0 c) (ys ++ List.replicate (n-ys.length) .undef) H K0):au C f ys H P:=by
 refine au.intro gC.up ?_;unfold Body;rw [hc];simp only [hb,hr,hn];exact h _ rfl
end Go.VS
namespace Go.VS
def cO (v:Option AV) (H:J) (K:AV→J→Prop):Prop:=match v with|some v=>K v H|none=>False
def cz (r:Option (AV×J)) (K:AV→J→Prop):Prop:=match r with|some (v,H)=>K v H|none=>False
section
variable {C:aF} {q th:Bool} {s:aj} {H:J} {K:AV→J→Prop}
theorem c6 (op:Op) (h:dF op=true):aZ (au C) C q th op s H K=cz (aL C.E op s H) K:=by
 have: ∀c,op≠ .call c:=by rintro c rfl;simp [dF] at h
 unfold aZ wpOp;split
 ·rename_i bp;exact absurd bp (this _)
 ·rename_i bp;exact absurd bp (this _)
 ·simp only [h,implies_true,true_and];rfl
theorem rX (op:Op) (h: ∀c,op≠ .call c):aZ (au C) C false th op s H K=cz (aL C.E op s H) K:=by
 unfold aZ wpOp;split
 ·rename_i bp;exact absurd bp (h _)
 ·rename_i bp;exact absurd bp (h _)
 ·simp only [Bool.false_eq_true,false_implies,true_and];rfl
theorem rY (K:aj→J→Prop):ea C K [] s H=K s H:=rfl
def gB (v:AV) (w:Bool) (a b:Prop):Prop:=match v with| .bool c=>if c=w then a else b| .aC _=>b|_=>False
theorem rZ (a b:Prop):gB (.bool true) true a b=a:=by simp [gB]
theorem r6 (a b:Prop):gB (.bool false) false a b=a:=by simp [gB]
theorem r7 (a b:Prop):gB (.bool true) false a b=b:=by simp [gB]
theorem r8 (a b:Prop):gB (.bool false) true a b=b:=by simp [gB]
theorem r9 (K:Prop):dQ C s H K []=K:=rfl
theorem r_ (K:Prop) (op:Op) (t:Tmp) (js:List (Op×Option Tmp)):dQ C s H K ((op,some t)::js)=(aL C.E op s H=some (s.getD t .undef,H)∧dQ C s H K js):=by
 simp [dQ]
theorem sa (t:Tmp) (v:AV):bd s (some t) v=s.set t v:=rfl
theorem sb (v:AV):bd s none v=s:=rfl
theorem sd (t:Tmp):ev s (.tmp t)=s.getD t .undef:=rfl
theorem se (v:Value):ev s (.const v)=ofValue v:=rfl
theorem sf (f:FuncId):ev s (.func f)= .fn f []:=rfl
theorem sg (k:IntKind) (n:Int):ofValue (.int k n)= .int k n:=rfl
theorem si (b:Bool):ofValue (.bool b)= .bool b:=rfl
theorem sj:ofValue (.slice none 0 0)= .nil:=rfl
theorem sk:ofValue .nilIface= .cf false:=rfl
theorem sm:ofValue (.pointer none)= .dt:=rfl
theorem sn (b:ByteArray):ofValue (.string b)= .str b.data.toList:=rfl
theorem so (v:AV):cO (some v) H K=K v H:=rfl
theorem sq (x:Operand):aZ (au C) C q th (.move x) s H K=K (ev s x) H:=by rw [c6 _ rfl];rfl
theorem ss (x:Operand):aZ (au C) C q th (.assign x) s H K=K (ev s x) H:=by rw [c6 _ rfl];rfl
theorem su (b:BinOp) (t:TypeId) (x:Operand) (c:Value) (w:TypeId):aZ (au C) C q th (.binOp b t x (.const c) w) s H K=cO (aI C.E b t (ev s x) (ofValue c)) H K:=by
 rw [c6 _ rfl];simp only [aL,show ev s (.const c)=ofValue c from rfl];generalize aI C.E b t (ev s x) (ofValue c)=r;cases r<;>rfl
def jT (E:aJ) (b:BinOp) (t:TypeId) (x y:AV) (H:J) (K:AV→J→Prop):Prop:=match y with| .cf _=>False|y=>cO (aI E b t x y) H K
theorem sw (b:BinOp) (t:TypeId) (x:Operand) (n:Tmp) (w:TypeId):aZ (au C) C q th (.binOp b t x (.tmp n) w) s H K=jT C.E b t (ev s x) (ev s (.tmp n)) H K:=by
 rw [c6 _ rfl];simp only [aL];generalize ev s (.tmp n)=y;unfold jT;cases y
 all_goals (first|rfl|(simp only;generalize aI C.E b t (ev s x) _=r;cases r<;>rfl))
theorem sx (E:aJ) (b:BinOp) (t:TypeId) (x:AV) (k:IntKind) (n:Int):jT E b t x (.int k n) H K=cO (aI E b t x (.int k n)) H K:=rfl
theorem sy (E:aJ) (b:BinOp) (t:TypeId) (x:AV) (n:Bool):jT E b t x (.bool n) H K=cO (aI E b t x (.bool n)) H K:=rfl
theorem sA (E:aJ) (b:BinOp) (t:TypeId) (x:AV) (n:List UInt8):jT E b t x (.str n) H K=cO (aI E b t x (.str n)) H K:=rfl
theorem sB (E:aJ) (b:BinOp) (t:TypeId) (x:AV) (n:List AV):jT E b t x (.agg n) H K=cO (aI E b t x (.agg n)) H K:=rfl
variable (E:aJ) (t:TypeId) (k:IntKind) (a b:Int) (c d:Bool) (u v:List UInt8)
theorem sC:aI E .add t (.int k a) (.int k b)=some (.int k (k.wrap (a+b))):=by simp [aI,c8]
theorem sD:aI E .sub t (.int k a) (.int k b)=some (.int k (k.wrap (a-b))):=by simp [aI,c8]
theorem sE:aI E .mul t (.int k a) (.int k b)=some (.int k (k.wrap (a*b))):=by simp [aI,c8]
theorem yU:aI E .and t (.int k a) (.int k b)=some (.int k (k.wrap (BitVec.ofInt k.bits a&&&BitVec.ofInt k.bits b).toNat)):=by simp [aI,c8]
theorem yV:aI E .or t (.int k a) (.int k b)=some (.int k (k.wrap (BitVec.ofInt k.bits a|||BitVec.ofInt k.bits b).toNat)):=by simp [aI,c8]
theorem yW:aI E .xor t (.int k a) (.int k b)=some (.int k (k.wrap (BitVec.ofInt k.bits a^^^BitVec.ofInt k.bits b).toNat)):=by simp [aI,c8]
theorem sF:aI E .eql t (.int k a) (.int k b)=some (.bool (a==b)):=by simp [aI,c8]
theorem sG:aI E .neq t (.int k a) (.int k b)=some (.bool (a !=b)):=by simp [aI,c8]
theorem sH:aI E .lss t (.int k a) (.int k b)=some (.bool (decide (a<b))):=by simp [aI,c8]
theorem sI:aI E .leq t (.int k a) (.int k b)=some (.bool (decide (a≤b))):=by simp [aI,c8]
theorem sJ:aI E .gtr t (.int k a) (.int k b)=some (.bool (decide (b<a))):=by simp [aI,c8]
theorem sK:aI E .geq t (.int k a) (.int k b)=some (.bool (decide (b≤a))):=by simp [aI,c8]
def dv (k:IntKind) (a b:Int):Option Int:=if b=0 then none else some (k.wrap (a.tdiv b))
def md (a b:Int):Option Int:=if b=0 then none else some (a.tmod b)
theorem sL:aI E .quo t (.int k a) (.int k b)=(dv k a b).map (.int k):=by simp [aI,c8,dv];split<;>rfl
theorem sM:aI E .rem t (.int k a) (.int k b)=(md a b).map (.int k):=by simp [aI,c8,md];split<;>rfl
def sl (k:IntKind) (a b:Int):Option Int:=if b<0 then none else some (k.wrap (a*2^(min b.toNat k.bits)))
def sr (k:IntKind) (a b:Int):Option Int:=if b<0 then none else some (a.fdiv (2^(min b.toNat k.bits)))
theorem sN (j:IntKind):aI E .shl t (.int k a) (.int j b)=(sl k a b).map (.int k):=by simp [aI,sl];split<;>rfl
theorem sO (j:IntKind):aI E .shr t (.int k a) (.int j b)=(sr k a b).map (.int k):=by simp [aI,sr];split<;>rfl
theorem sP:aI E .eql t (.str u) (.str v)=some (.bool (u==v)):=by simp [aI,iD]
theorem sQ:aI E .neq t (.str u) (.str v)=some (.bool (!(u==v))):=by simp [aI,iD]
def cat (u v:List UInt8):Option (List UInt8):=if u.length+v.length≤2^45 then some (u ++ v) else none
theorem sR:aI E .add t (.str u) (.str v)=(cat u v).map .str:=by simp only [aI,iD,cat];split<;>rfl
theorem AX {ti:TI} (h:E t=some ti) (hu:ti.aq= .bl):aI E .eql t (.bool c) (.bool d)=some (.bool (c==d)):=by simp [aI,h,hu]
theorem AY {ti:TI} (h:E t=some ti) (hu:ti.aq= .bl):aI E .neq t (.bool c) (.bool d)=some (.bool (!(c==d))):=by simp [aI,h,hu]
def k_ (ti:Option TI) (r:Option Bool) (neg:Bool):Option AV:=match ti with|some ti=>if ti.agg then (match r with|some b=>some (.bool (if neg then !b else b))|none=>none) else none|none=>none
theorem sT (xs ys:List AV):aI E .eql t (.agg xs) (.agg ys)=k_ (E t) (dC E 8 t xs ys) false:=by
 simp only [aI,k_];cases E t<;>rfl
theorem sU (xs ys:List AV):aI E .neq t (.agg xs) (.agg ys)=k_ (E t) (dC E 8 t xs ys) true:=by
 simp only [aI,k_];cases E t<;>rfl
def hG (ti:Option TI) (x y:AV) (neg:Bool):Option AV:=match ti with|some ti=>(match isNil ti.aq x y with|some b=>some (.bool (if neg then !b else b))|none=>none)|none=>none
theorem sV:aI E .eql t .nil .nil=hG (E t) .nil .nil false:=by simp only [aI,hG];cases E t<;>rfl
theorem sW:aI E .neq t .nil .nil=hG (E t) .nil .nil true:=by simp only [aI,hG];cases E t<;>rfl
theorem sY (x:Bool):aI E .eql t (.cf x) (.cf false)=hG (E t) (.cf x) (.cf false) false:=by simp only [aI,hG];cases E t<;>rfl
theorem sZ (x:Bool):aI E .neq t (.cf x) (.cf false)=hG (E t) (.cf x) (.cf false) true:=by simp only [aI,hG];cases E t<;>rfl
theorem AZ {α :Type} {o:Option Int} {f:Int→Option α} {r: α} (h:o.bind f=some r) (hk: ∀n,o=some n→f n=some r→K (.int k n) H):cO (o.map (.int k)) H K:=by
 cases o with
 |none=>simp at h
 |some n=>exact hk n rfl h
theorem s4 (op:UnOp) (x:Operand):aZ (au C) C q th (.unOp op t x) s H K=cO (iE op (ev s x)) H K:=by
 rw [c6 _ rfl];simp only [aL];generalize iE op (ev s x)=r;cases r<;>rfl
theorem s7:iE .not (.bool c)=some (.bool !c):=rfl
theorem s8:iE .neg (.int k a)=some (.int k (k.wrap (0-a))):=rfl
def mG (c:AV) (x y:AV) (H:J) (K:AV→J→Prop):Prop:=match c with| .bool t=>K (if t then x else y) H|_=>False
theorem s9 (x y z:Operand):aZ (au C) C q th (.pick x y z) s H K=mG (ev s x) (ev s y) (ev s z) H K:=by
 rw [c6 _ rfl];simp only [aL];generalize ev s x=r;cases r<;>rfl
theorem tc (x y:AV):mG (.bool true) x y H K=K x H:=rfl
theorem tg (x y:AV):mG (.bool false) x y H K=K y H:=rfl
theorem tj (p:Bool):mG (.bool p) (.bool c) (.bool d) H K=K (.bool (if p then c else d)) H:=by cases p<;>rfl
def pa (x:AV) (i:Nat) (H:J) (K:AV→J→Prop):Prop:=match x with| .aC vs=>cO vs[i]? H K|_=>False
theorem tn (x:Operand) (i:Nat):aZ (au C) C q th (.extract x i) s H K=pa (ev s x) i H K:=by
 rw [c6 _ rfl];simp only [aL,pa];generalize ev s x=r;cases r<;>first|rfl|(simp only;rename_i vs;cases vs[i]? <;>rfl)
theorem tp (vs:List AV) (i:Nat):pa (.aC vs) i H K=cO vs[i]? H K:=rfl
def mH (ti:TI) (x:Option AV) (off:Nat) (H:J) (K:AV→J→Prop):Prop:=match x with|some y=>cO (bN ti y off) H K|none=>False
def mI (ti:TI) (b:Option bI) (idx off:Nat) (H:J) (K:AV→J→Prop):Prop:=match b with|some b=>mH ti b.el[idx]? off H K|none=>False
def mJ (ti:Option TI) (x:AV) (H:J) (K:AV→J→Prop):Prop:=
 match ti with
 |some ti=>match x with
  | .fe y off=>cO (bN ti y off) H K
  | .ptr id ad idx off=>mI ti (H.ap id ad) idx off H K
  |_=>False
 |none=>False
theorem tq (x:Operand):aZ (au C) C q th (.load t x) s H K=mJ (C.E t) (ev s x) H K:=by
 rw [c6 _ rfl];simp only [aL,mJ];cases C.E t with
 |none=>rfl
 |some ti=>
  simp only;generalize ev s x=r;cases r<;>first|rfl|skip
  ·rename_i id ad idx off;simp only [mI];cases H.ap id ad with
   |none=>rfl
   |some b=>
    simp only [mH];cases b.el[idx]? with
    |none=>rfl
    |some y=>simp only;generalize bN ti y off=z;cases z<;>rfl
  ·rename_i y off;simp only;generalize bN ti y off=z;cases z<;>rfl
theorem tv (ti:TI) (y:AV) (off:Nat):mJ (some ti) (.fe y off) H K=cO (bN ti y off) H K:=rfl
theorem tw (ti:TI) (id ad idx off:Nat):mJ (some ti) (.ptr id ad idx off) H K=mI ti (H.ap id ad) idx off H K:=rfl
theorem tz (ti:TI) (b:bI) (idx off:Nat):mI ti (some b) idx off H K=mH ti b.el[idx]? off H K:=rfl
theorem tA (ti:TI) (y:AV) (off:Nat):mH ti (some y) off H K=cO (bN ti y off) H K:=rfl
def la (E:aJ) (t:TypeId) (f:Nat):Option (Nat×TI):=match E t with
 |some ti=>match ti.aq with
  | .st fs=>match fs[f]? with
   |some (o,ft)=>match E ft with
    |some tf=>some (o,tf)
    |none=>none
   |none=>none
  |_=>none
 |none=>none
def iA (p:Option (Nat×TI)) (x:AV) (H:J) (K:AV→J→Prop):Prop:=match p with
 |some (o,tf)=>if tf.sz=0 then False else match x with
  | .ptr id ad idx off=>match H.ap id ad with
   |some _=>K (.ptr id ad idx (off+o)) H
   |none=>False
  | .fe y off=>K (.fe y (off+o)) H
  |_=>False
 |none=>False
theorem tB (x:Operand) (f:Nat):aZ (au C) C q th (.fieldAddr t x f) s H K=iA (la C.E t f) (ev s x) H K:=by
 rw [c6 _ rfl];simp only [aL,iA,la];cases C.E t with
 |none=>rfl
 |some ti=>
  simp only;cases ti.aq<;>try rfl
  rename_i fs;simp only;cases fs[f]? with
  |none=>rfl
  |some p=>
   obtain ⟨o,ft⟩:=p;simp only;cases C.E ft with
   |none=>rfl
   |some tf=>
    simp only;split
    ·rfl
    ·generalize ev s x=r;cases r<;>try rfl
     rename_i id ad idx off;simp only;cases H.ap id ad<;>rfl
theorem yX (o:Nat) (tf:TI) (h:(tf.sz==0)=false) (y:AV) (off:Nat):iA (some (o,tf)) (.fe y off) H K=K (.fe y (off+o)) H:=by
 simp at h;simp [iA,h]
theorem yY (o:Nat) (tf:TI) (h:(tf.sz==0)=false) (id ad idx off:Nat):iA (some (o,tf)) (.ptr id ad idx off) H K=(match H.ap id ad with|some _=>K (.ptr id ad idx (off+o)) H|none=>False):=by
 simp at h;simp [iA,h]
def pb (p:Option (Nat×TI)) (x:AV) (H:J) (K:AV→J→Prop):Prop:=match x with
 | .agg cs=>(match p with|some (o,tf)=>cO (bN tf (.agg cs) o) H K|none=>False)
 |_=>False
theorem tC (x:Operand) (f:Nat):aZ (au C) C q th (.field t x f) s H K=pb (la C.E t f) (ev s x) H K:=by
 rw [c6 _ rfl];simp only [aL,pb,la];cases C.E t with
 |none=>simp only;generalize ev s x=r;cases r<;>rfl
 |some ti=>
  simp only;generalize ev s x=r;cases r
  case agg cs=>
   simp only;cases ti.aq<;>try rfl
   rename_i fs;simp only;cases fs[f]? with
   |none=>rfl
   |some p=>
    obtain ⟨o,ft⟩:=p;simp only;cases C.E ft with
    |none=>rfl
    |some tf=>simp only;generalize bN tf (.agg cs) o=z;cases z<;>rfl
  all_goals rfl
theorem tD (o:Nat) (tf:TI) (cs:List AV):pb (some (o,tf)) (.agg cs) H K=cO (bN tf (.agg cs) o) H K:=rfl
theorem tE (x:Operand):aZ (au C) C q th (.call {callee:= .builtin .len,args:= #[x],argTypes:= #[t]}) s H K=cz (cp C.E .len #[t] [ev s x] H) K:=by
 unfold aZ wpOp;simp only [ey,implies_true,true_and];rfl
def eb (ti:Option TI) (x:AV) (n:Option Nat) (H:J) (K:AV→J→Prop):Prop:=match ti,n with
 |some ti,some n=>match ti.aq,x with
  | .str,.str _=>K (.int .i64 n) H
  | .sl _,.str _=>False
  | .sl _,_=>K (.int .i64 n) H
  |_,_=>False
 |_,_=>False
theorem tF (E:aJ) (t:TypeId) (x:AV):cz (cp E .len #[t] [x] H) K=eb (E t) x (lenOf H x) H K:=by
 simp only [cp,eb];have:(#[t]:Array TypeId)[0]?.bind E=E t:=rfl;rw [this];cases E t with
 |none=>rfl
 |some ti=>
  obtain ⟨sz,agg,z,mK,aq,eq⟩:=ti;cases lenOf H x with
  |none=>rfl
  |some n=>cases aq<;>cases x<;>rfl
theorem tG (xs:Array Operand) (tys:Array TypeId):aZ (au C) C q th (.call {callee:= .builtin .min,args:=xs,argTypes:=tys}) s H K=cO (jo (xs.toList.map (ev s))) H K:=by
 unfold aZ wpOp;simp only [ey,implies_true,true_and,cp];generalize jo _=r;cases r<;>rfl
theorem tH (xs:Array Operand) (tys:Array TypeId):aZ (au C) C q th (.call {callee:= .builtin .max,args:=xs,argTypes:=tys}) s H K=cO (jp (xs.toList.map (ev s))) H K:=by
 unfold aZ wpOp;simp only [ey,implies_true,true_and,cp];generalize jp _=r;cases r<;>rfl
theorem min2:jo [.int k a,.int k b]=some (.int k (if b<a then b else a)):=rfl
theorem max2:jp [.int k a,.int k b]=some (.int k (if b>a then b else a)):=rfl
end
end Go.VS
namespace Go.VS
structure It where
 v:AV
 sz:Nat
 el:List AV
def bV:AV→Option Nat
 | .ref id _ _ _=>some id
 | .ptr id _ _ _=>some id
 |_=>none
def gD (H:J) (it:It):Prop:=bC it.sz it.el=true∧match it.v with
 | .nil=>it.el=[]
 | .e0=>it.el=[]
 | .ref id ad off len=>len=it.el.length∧ ∃b,H.ap id ad=some b∧b.sz=it.sz∧b.fix=false∧off+len≤b.el.length∧aG b.el off len=it.el
 | .ptr id ad idx off=>idx=0∧off=0∧it.el.length=1∧H.ap id ad=some ⟨ad,it.sz,false,it.el⟩
 |_=>False
structure ay (H:J) (L:List It):Prop where
 ok: ∀(i:Nat) (it:It),L[i]? =some it→gD H it
 b7: ∀(i j:Nat) (a b:It) (id:Nat),L[i]? =some a→L[j]? =some b→bV a.v=some id→bV b.v=some id→i=j
theorem gD.lt {H:J} {it:It} (h:gD H it) {id:Nat} (hi:bV it.v=some id):id<H.bs.length:=by
 obtain ⟨_,h⟩:=h;cases hv:it.v with
 |ref i ad off len=>
  rw [hv] at h hi;simp only [bV,Option.some.injEq] at hi;subst hi;obtain ⟨_,b,hb,_⟩:=h;exact J.ib (J.br hb).1
 |ptr i ad ix off=>
  rw [hv] at h hi;simp only [bV,Option.some.injEq] at hi;subst hi;obtain ⟨_,_,_,hb⟩:=h;exact J.ib (J.br hb).1
 |_=>rw [hv] at hi;simp [bV] at hi
theorem gD.frame {H H' :J} {it:It} (h:gD H it) (hk: ∀id ad,bV it.v=some id→H'.ap id ad=H.ap id ad):gD H' it:=by
 obtain ⟨h0,h⟩:=h;refine ⟨h0,?_⟩;cases hv:it.v with
 |ref i ad off len=>
  rw [hv] at h hk;obtain ⟨h1,b,hb,h2⟩:=h;exact ⟨h1,b,by rw [hk i ad rfl];exact hb,h2⟩
 |ptr i ad ix off=>
  rw [hv] at h hk;obtain ⟨h1,h2,h3,hb⟩:=h;exact ⟨h1,h2,h3,by rw [hk i ad rfl];exact hb⟩
 |_=>rw [hv] at h;exact h
theorem ay.tl {H:J} {a:It} {L:List It} (h:ay H (a::L)):ay H L:=
 ⟨fun i it hi=>h.ok (i+1) it hi,fun i j x y id h1 h2 h3 h4=>by have:=h.b7 (i+1) (j+1) x y id h1 h2 h3 h4;omega⟩
theorem ay.nil (H:J):ay H []:=⟨by simp,by simp⟩
theorem ay.bq {H H' :J} {L:List It} (h:ay H L) {j:Nat} {it jg:It} (hj:L[j]? =some it) {i:Nat} (hi:bV it.v=some i) (hk: ∀id ad,id≠i→id<H.bs.length→H'.ap id ad=H.ap id ad) (hn:gD H' jg) (bU: ∀k,bV jg.v=some k→k=i):ay H' (L.set j jg):=by
 have aw:j<L.length:=(List.getElem?_eq_some_iff.1 hj).1;refine ⟨fun k a bB=> ?_,fun k l a b id h1 h2 h3 h4=> ?_⟩
 ·rw [List.getElem?_set] at bB;split at bB
  ·simp only [Option.some.injEq] at bB;subst bB;exact hn
  ·rename_i aK;have ho:=h.ok k a bB;refine ho.frame fun id ad tI=>hk id ad (fun e=> ?_) (ho.lt tI)
   subst e;exact aK (h.b7 j k it a id hj bB hi tI)
 ·rw [List.getElem?_set] at h1 h2;split at h1
  ·rename_i e1;subst e1;simp only [Option.some.injEq] at h1;subst h1;split at h2
   ·rename_i e2;exact e2
   ·have:=bU id h3;subst this;exact h.b7 j l it b id hj h2 hi h4
  ·split at h2
   ·rename_i e2;subst e2;simp only [Option.some.injEq] at h2;subst h2;have:=bU id h4;subst this;exact h.b7 k j a it id h1 hj h3 hi
   ·exact h.b7 k l a b id h1 h2 h3 h4
theorem ay.new {H H' :J} {L:List It} (h:ay H L) (hk: ∀id ad,id<H.bs.length→H'.ap id ad=H.ap id ad) {it:It} (hn:gD H' it) (bU: ∀k,bV it.v=some k→H.bs.length≤k):ay H' (it::L):=by
 refine ⟨fun k a bB=> ?_,fun k l a b id h1 h2 h3 h4=> ?_⟩
 ·cases k with
  |zero=>simp at bB;subst bB;exact hn
  |succ k=>have ho:=h.ok k a (by simpa using bB);exact ho.frame fun id ad hi=>hk id ad (ho.lt hi)
 ·cases k with
  |zero=>
   simp at h1;subst h1;cases l with
   |zero=>rfl
   |succ l=>
    have:=(h.ok l b (by simpa using h2)).lt h4
    have:=bU id h3;omega
  |succ k=>
   cases l with
   |zero=>
    simp at h2;subst h2;have:=(h.ok k a (by simpa using h1)).lt h3
    have:=bU id h4;omega
   |succ l=>have:=h.b7 k l a b id (by simpa using h1) (by simpa using h2) h3 h4;omega
theorem ay.tJ {H H' :J} {L:List It} (h:ay H L) (hk: ∀id ad,id<H.bs.length→H'.ap id ad=H.ap id ad) {j:Nat} {jg:It} (hn:gD H' jg) (bU: ∀k,bV jg.v=some k→H.bs.length≤k):ay H' (L.set j jg):=by
 refine ⟨fun k a bB=> ?_,fun k l a b id h1 h2 h3 h4=> ?_⟩
 ·rw [List.getElem?_set] at bB;split at bB
  ·split at bB
   ·simp only [Option.some.injEq] at bB;subst bB;exact hn
   ·simp at bB
  ·have ho:=h.ok k a bB;exact ho.frame fun id ad hi=>hk id ad (ho.lt hi)
 ·rw [List.getElem?_set] at h1 h2;split at h1
  ·rename_i e1;subst e1;split at h1
   ·simp only [Option.some.injEq] at h1;subst h1;split at h2
    ·rename_i e2;exact e2
    ·have:=(h.ok l b h2).lt h4;have:=bU id h3;omega
   ·simp at h1
  ·split at h2
   ·rename_i e2;subst e2;split at h2
    ·simp only [Option.some.injEq] at h2;subst h2;have:=(h.ok k a h1).lt h3;have:=bU id h4;omega
    ·simp at h2
   ·exact h.b7 k l a b id h1 h2 h3 h4
theorem mL {H:J} {sz:Nat} {fx:Bool} {el:List AV} {id ad:Nat} (h:id<H.bs.length):(H.new sz fx el).ap id ad=H.ap id ad:=by
 simp only [J.ap,J.new,List.getElem?_append_left h]
theorem mM {H:J} {sz:Nat} {fx:Bool} {el:List AV}:(H.new sz fx el).ap H.bs.length H.st=some ⟨H.st,sz,fx,el⟩:=by
 simp [J.ap,J.new]
theorem mN {H:J} {i id ad:Nat} {b:bI} (h:id≠i):(H.bq i b).ap id ad=H.ap id ad:=by
 have h' : ¬i=id:=fun e=>h e.symm
 simp only [J.ap,J.bq,List.getElem?_set,if_neg h']
theorem lb {H:J} {id:Nat} {b:bI} (h:id<H.bs.length):(H.bq id b).ap id b.ad=some b:=by
 simp [J.ap,J.bq,h]
section
variable {C:aF} {th:Bool} {s:aj} {H:J} {K:AV→J→Prop} {L:List It}
theorem ay.mO (hS:ay H L) {sz n:Nat} {el all:List AV} (he:all.take n=el) (hn:n=el.length) (aH:bC sz el=true):ay (H.new sz false all) (⟨.ref H.bs.length H.st 0 n,sz,el⟩::L):=by
 refine hS.new (fun id ad h=>mL h) ⟨aH,hn,_,mM,rfl,rfl,?_,by simpa [aG] using he⟩ (fun k hk=>by simp [bV] at hk;omega)
 have:=congrArg List.length he;simp at this;simp only;omega
theorem ay.newVar (hS:ay H L) {sz:Nat} {a:AV} (aH:a.cells.length=sz):ay (H.new sz false [a]) (⟨.ptr H.bs.length H.st 0 0,sz,[a]⟩::L):=
 hS.new (fun id ad h=>mL h) ⟨by simp [bC,aH],rfl,rfl,rfl,mM⟩ (fun k hk=>by simp [bV] at hk;omega)
theorem ay.var (hS:ay H L) (j:Nat) {id ad sz:Nat} {a:AV} (hj:L[j]? =some ⟨.ptr id ad 0 0,sz,[a]⟩):H.ap id ad=some ⟨ad,sz,false,[a]⟩:=(hS.ok j _ hj).2.2.2.2
theorem A7 {t:TypeId} {x:Operand} {ti:TI} {a:AV} (hS:ay H L) (ht:C.E t=some ti) (hx:ev s x=a) (h1:a.cells.length=ti.sz) (h2:dB a=true)
 (h: ∀id ad H',ay H' (⟨.ptr id ad 0 0,ti.sz,[a]⟩::L)→K (.ptr id ad 0 0) H') {q:Bool}:aZ (au C) C q th (.box t x) s H K:=by
 rw [c6 _ rfl];simp only [aL,ht,hx,h1,h2,and_self,if_true,cz];exact h _ _ _ (hS.newVar h1)
theorem pc {ti:TI} {z:AV} (h:dU ti=some z):z.cells.length=ti.sz:=by
 unfold dU at h;split at h
 ·rename_i hc;rcases kf h with ⟨_,rfl⟩|⟨_,hz⟩
  ·exact hc.2
  ·have:cF z=true:=by have:=hc.1;rw [hz] at this;simpa using this
   have hl:=hc.2;rw [hz] at hl;cases z<;>first|exact hl|simp [cF] at this
 ·simp at h
theorem yZ {ti:TI} {z:AV} (h:hR ti=some z):z.cells.length=ti.sz:=by
 unfold hR at h;split at h
 ·rename_i z0 iM;simp only [Option.some.injEq] at h;subst h;split
  ·rw [kn,List.length_map];exact pc iM
  ·exact pc iM
 ·simp at h
theorem A8 {t:TypeId} {ti:TI} {z:AV} (hS:ay H L) (ht:C.E t=some ti) (hz:dU ti=some z)
 (h: ∀id ad H',ay H' (⟨.ptr id ad 0 0,ti.sz,[z]⟩::L)→K (.ptr id ad 0 0) H') {q:Bool}:aZ (au C) C q th (.alloc t) s H K:=by
 rw [c6 _ rfl];simp only [aL,ht,hz,cz];exact h _ _ _ (hS.newVar (pc hz))
theorem A9 {t:TypeId} {x v:Operand} {ti:TI} {id ad sz o:Nat} {y y' a:AV} (j:Nat) (hS:ay H L) (hj:L[j]? =some ⟨.ptr id ad 0 0,sz,[y]⟩) (ht:C.E t=some ti) (hx:ev s x= .ptr id ad 0 o) (hv:ev s v=a)
 (h1:a.cells.length=ti.sz) (h2:dB a=true) (hw:fY y o a=some y') (h3:y'.cells.length=sz) (h: ∀H',ay H' (L.set j ⟨.ptr id ad 0 0,sz,[y']⟩)→K (.aC []) H'):aZ (au C) C false th (.store t x v) s H K:=by
 rw [rX _ (by simp)]
 have hb:=hS.var j hj;simp only [aL,ht,hx,hv,hb,List.getElem?_cons_zero,h1,h2,and_self,if_true,hw,List.set_cons_zero,cz];refine h _ (hS.bq hj rfl (fun fC gp aK _=>mN aK) ⟨by simp [bC,h3],rfl,rfl,rfl,?_⟩ (fun k hk=>by simpa [bV] using hk.symm))
 exact lb ((hS.ok j _ hj).lt rfl)
end
def idx {α :Type} (l:List α) (i:Int):Option α :=if 0≤i then l[i.toNat]? else none
theorem jU {α :Type} {l:List α} {i:Int} {x: α} (h:idx l i=some x):0≤i∧i<l.length∧l[i.toNat]? =some x:=by
 unfold idx at h;split at h
 ·rename_i h0;have:=(List.getElem?_eq_some_iff.1 h).1;exact ⟨h0,by omega,h⟩
 ·simp at h
def A_ (E:aJ) (t:TypeId):Option TI:=match E t with
 |some ti=>match ti.aq with| .sl e=>E e|_=>none
 |none=>none
section
variable {C:aF} {q th:Bool} {s:aj} {H:J} {K:AV→J→Prop} {L:List It}
def pd (l:List UInt8) (n:Int) (H:J) (K:AV→J→Prop):Prop:=match idx l n with|some b=>K (.int .u8 b.toNat) H|none=>False
def mP (E:aJ) (ti:Option TI) (x i:AV) (H:J) (K:AV→J→Prop):Prop:=match ti,i with
 |some ti,.int _ n=>match ti.aq,x with
  | .str,.str l=>pd l n H K
  | .ar m e,.agg cs=>match E e with
   |some te=>if 0≤n∧n<m then cO (bN te (.agg cs) (n.toNat*te.sz)) H K else False
   |none=>False
  |_,_=>False
 |_,_=>False
theorem tK (t:TypeId) (x i:Operand):aZ (au C) C q th (.index t x i) s H K=mP C.E (C.E t) (ev s x) (ev s i) H K:=by
 rw [c6 _ rfl];simp only [aL,mP];generalize ev s i=n;generalize ev s x=a;cases C.E t with
 |none=>rfl
 |some ti=>
  cases n
  case int k n=>
   simp only;cases ti.aq<;>cases a<;>try rfl
   ·rename_i m e cs;simp only;cases C.E e with
    |none=>rfl
    |some te=>
     simp only;split
     ·generalize bN te (.agg cs) (n.toNat*te.sz)=z;cases z<;>rfl
     ·rfl
   ·rename_i l;simp only [pd,idx];split
    ·cases l[n.toNat]? <;>rfl
    ·rfl
  all_goals rfl
def ld:UD→Bool
 | .str=>true
 |_=>false
theorem tL:ld .str=true:=rfl
def jh:UD→Bool
 | .sl _=>true
 |_=>false
theorem tM (e:TypeId):jh (.sl e)=true:=rfl
theorem tN (E:aJ) (ti:TI) (hu:ld ti.aq=true) (l:List UInt8) (k:IntKind) (n:Int):mP E (some ti) (.str l) (.int k n) H K=pd l n H K:=by
 cases h:ti.aq<;>rw [h] at hu<;>simp [ld] at hu
 simp only [mP,h]
def lf (E:aJ) (t:TypeId) (x i:AV) (H:J) (K:AV→J→Prop):Prop:=cz (match E t,i with
 |some ti,.int _ n=>match ti.aq with
  | .sl e=>match E e with
   |some te=>match x with
    | .fz xs=>if 0≤n then match xs[n.toNat]? with
     |some y=>if y.cells.length=te.sz then some (.fe y 0,H) else none
     |none=>none
     else none
    | .ref id ad off len=>match H.ap id ad with
     |some b=>if b.sz=te.sz∧0≤n∧n<len∧off+len≤b.el.length then some (.ptr id ad (off+n.toNat) 0,H) else none
     |none=>none
    |_=>none
   |none=>none
  | .ar m e=>match E e with
   |some te=>if 0≤n∧n<m then match x with
    | .ptr id ad idx off=>match H.ap id ad with
     |some _=>some (.ptr id ad idx (off+n.toNat*te.sz),H)
     |none=>none
    | .fe y off=>some (.fe y (off+n.toNat*te.sz),H)
    |_=>none
    else none
   |none=>none
  |_=>none
 |_,_=>none) K
theorem tO (t:TypeId) (x i:Operand):aZ (au C) C q th (.indexAddr t x i) s H K=lf C.E t (ev s x) (ev s i) H K:=by
 rw [c6 _ rfl];rfl
theorem Ba {α β :Type} {E:aJ} {t:TypeId} {ti te:TI} {e:TypeId} (ht:E t=some ti) (hu:ti.aq= .sl e) (he:E e=some te) {l:List α} {c: α →AV} (hc: ∀x,(c x).cells.length=te.sz) {k:IntKind} {n:Int} {f: α →Option β} {r: β} (h:(idx l n).bind f=some r)
 (hk: ∀x,idx l n=some x→f x=some r→K (.fe (c x) 0) H):lf E t (.fz (l.map c)) (.int k n) H K:=by
 cases hi:idx l n with
 |none=>rw [hi] at h;simp at h
 |some x=>
  rw [hi] at h;obtain ⟨h0,_,h1⟩:=jU hi;simp only [lf,ht,hu,he,h0,if_true,List.getElem?_map,h1,Option.map_some,hc,cz];exact hk x hi h
theorem Bb {α β :Type} {E:aJ} {t:TypeId} {ti te:TI} {e:TypeId} (j:Nat) (hS:ay H L) {v:AV} {l:List α} {c: α →AV} {sz:Nat} (hj:L[j]? =some ⟨v,sz,l.map c⟩) (ht:E t=some ti) (hu:ti.aq= .sl e) (he:E e=some te) (aH:sz=te.sz) {k:IntKind} {n:Int} {f: α →Option β} {r: β}
 (h:(idx l n).bind f=some r) (hk: ∀x id ad off,idx l n=some x→f x=some r→v= .ref id ad off l.length→K (.ptr id ad (off+n.toNat) 0) H) (hp: ∀id ad,v≠ .ptr id ad 0 0):lf E t v (.int k n) H K:=by
 cases hi:idx l n with
 |none=>rw [hi] at h;simp at h
 |some x=>
  rw [hi] at h;obtain ⟨h0,h2,h1⟩:=jU hi;have af:=(hS.ok j _ hj).2;simp only at af;have aK:l.map c≠[]:=by intro e;rw [List.map_eq_nil_iff] at e;subst e;simp at h1
  split at af
  ·exact absurd af aK
  ·exact absurd af aK
  ·rename_i id ad off len;obtain ⟨h3,b,hb,h4,_,h5,h6⟩:=af;simp only [List.length_map] at h3;subst h3;simp only [lf,ht,hu,he,hb];rw [if_pos ⟨by rw [h4,aH],h0,h2,h5⟩]
   exact hk x id ad off hi h rfl
  ·rename_i id ad ix off;obtain ⟨rfl,rfl,_⟩:=af;exact absurd rfl (hp id ad)
  ·exact af.elim
theorem ay.elem {α :Type} (hS:ay H L) (j:Nat) {id ad off n sz:Nat} {v:AV} {l:List α} {c: α →AV} (hj:L[j]? =some ⟨v,sz,l.map c⟩) (hv:v= .ref id ad off n) {i:Int} {x: α} (hx:idx l i=some x): ∃b,H.ap id ad=some b∧b.el[off+i.toNat]? =some (c x):=by
 obtain ⟨h0,h2,h1⟩:=jU hx;subst hv;obtain ⟨_,h3,b,hb,h4,_,h5,h6⟩:=hS.ok j _ hj;refine ⟨b,hb,?_⟩;simp only at h3 h6;have:=congrArg (·[i.toNat]?) h6;simp only [List.getElem?_map,h1,Option.map_some,aG] at this;rw [←this,List.getElem?_take,List.getElem?_drop,if_pos (by simp at h3;omega)]
theorem Bc {α :Type} {t:TypeId} {x w:Operand} {ti:TI} {id ad off n sz o:Nat} {v a:AV} {l:List α} {c: α →AV} {i:Int} {y y' : α} (j:Nat) (hS:ay H L) (hj:L[j]? =some ⟨v,sz,l.map c⟩) (hv:v= .ref id ad off n) (hi:idx l i=some y) (ht:C.E t=some ti) (hx:ev s x= .ptr id ad (off+i.toNat) o) (hw:ev s w=a)
 (h1:a.cells.length=ti.sz) (h2:dB a=true) (hr:fY (c y) o a=some (c y')) (h3:(c y').cells.length=sz) (h: ∀H',ay H' (L.set j ⟨v,sz,(l.set i.toNat y').map c⟩)→K (.aC []) H'):aZ (au C) C false th (.store t x w) s H K:=by
 rw [rX _ (by simp)]
 obtain ⟨b,hb,he⟩:=hS.elem j hj hv hi;simp only [aL,ht,hx,hw,hb,he,h1,h2,and_self,if_true,hr,cz];subst hv;obtain ⟨k0,k1,b',ax,k2,k3,k4,k5⟩:=hS.ok j _ hj;rw [hb] at ax;simp only [Option.some.injEq] at ax;subst ax;simp only at k1 k5;obtain ⟨i0,i1,i2⟩:=jU hi;have bG:=(J.br hb).2;refine h _ (hS.bq hj rfl (fun fC gp aK _=>mN aK) ⟨?_,by simpa using k1,{b with el:=b.el.set (off+i.toNat) (c y')},?_,k2,k3,by simpa using k4,?_⟩ (fun k hk=>by simpa [bV] using hk.symm))
 ·simp only [bC,List.all_eq_true,List.mem_map] at k0⊢;rintro z ⟨z',hz,rfl⟩;rcases List.mem_or_eq_of_mem_set hz with h' |rfl
  ·exact k0 _ ⟨z',h',rfl⟩
  ·simpa using h3
 ·have:=lb (b:={b with el:=b.el.set (off+i.toNat) (c y')}) ((hS.ok j _ hj).lt rfl);simpa only [bG] using this
 ·simp only [aG,List.map_set] at k5⊢;rw [←k5,List.drop_set,if_neg (by omega),List.take_set]
  congr 1;omega
end
end Go.VS
namespace Go.VS
structure bm (v:AV):Prop where
 ok:v= .nil∨v= .e0∨ ∃id ad off len,v= .ref id ad off len
theorem gE (id ad off len:Nat):bm (.ref id ad off len):=⟨.inr (.inr ⟨id,ad,off,len,rfl⟩)⟩
theorem mQ:bm .nil:=⟨.inl rfl⟩
theorem mR:bm .e0:=⟨.inr (.inl rfl)⟩
theorem bm.ne {v:AV} (h:bm v) (id ad:Nat):v≠ .ptr id ad 0 0:=by
 rcases h.ok with rfl|rfl|⟨_,_,_,_,rfl⟩<;>simp
theorem bm.cells {v:AV} (h:bm v):v.cells=[v]:=by
 rcases h.ok with rfl|rfl|⟨_,_,_,_,rfl⟩<;>rfl
theorem bm.pF {v:AV} (h:bm v):cF v=true:=by
 rcases h.ok with rfl|rfl|⟨_,_,_,_,rfl⟩<;>rfl
theorem bm.Bd {v:AV} (h:bm v):dB v=true:=by
 rcases h.ok with rfl|rfl|⟨_,_,_,_,rfl⟩<;>rfl
theorem bm.rd {v:AV} (h:bm v) (z:List AV) (b:Nat) (w:UD) (e:Bool):bN ⟨1,false,z,b,w,e⟩ v 0=some v:=by
 rcases h.ok with rfl|rfl|⟨_,_,_,_,rfl⟩<;>rfl
theorem bm.same {v:AV} (h:bm v):eZ v v=true:=by
 rcases h.ok with rfl|rfl|⟨_,_,_,_,rfl⟩<;>simp [eZ]
theorem bm.wr {v:AV} (h:bm v) (cs:List AV) (o:Nat) (ho:o<cs.length):fY (.agg cs) o v=some (.agg (cs.set o v)):=by
 simp only [fY,h.cells,List.length_cons,List.length_nil];rw [if_pos (by omega)]
 simp only [splice,List.length_cons,List.length_nil,List.append_assoc,List.cons_append,List.nil_append,Option.some.injEq,AV.agg.injEq];rw [List.set_eq_take_append_cons_drop,if_pos ho]
section
variable {C:aF} {q th:Bool} {s:aj} {H:J} {K:AV→J→Prop} {L:List It}
theorem ay.len (hS:ay H L) (j:Nat) {v:AV} {sz:Nat} {el:List AV} (hj:L[j]? =some ⟨v,sz,el⟩) (hp:bm v):lenOf H v=some el.length:=by
 have af:=(hS.ok j _ hj).2;simp only at af;split at af
 ·subst af;rfl
 ·subst af;rfl
 ·rename_i id ad off len;obtain ⟨h3,b,hb,_⟩:=af;simp only [lenOf,h3]
 ·rename_i id ad ix off;obtain ⟨rfl,rfl,_⟩:=af;exact absurd rfl (hp.ne id ad)
 ·exact af.elim
theorem ay.hI (hS:ay H L) (j:Nat) {v:AV} {sz:Nat} {el:List AV} (hj:L[j]? =some ⟨v,sz,el⟩) (hp:bm v):ct H v=some el:=by
 have af:=(hS.ok j _ hj).2;simp only at af;split at af
 ·subst af;rfl
 ·subst af;rfl
 ·rename_i id ad off len;obtain ⟨h3,b,hb,_,_,h5,h6⟩:=af;simp only [ct,hb,h5,if_true,h6]
 ·rename_i id ad ix off;obtain ⟨rfl,rfl,_⟩:=af;exact absurd rfl (hp.ne id ad)
 ·exact af.elim
theorem ay.y0 (hS:ay H L) (j:Nat) {v:AV} {sz:Nat} {el:List AV} (hj:L[j]? =some ⟨v,sz,el⟩) (l:List UInt8):v≠ .str l:=by
 rintro rfl;exact (hS.ok j _ hj).2
theorem Be (j:Nat) (hS:ay H L) {v:AV} {sz:Nat} {el:List AV} (hj:L[j]? =some ⟨v,sz,el⟩) (hp:bm v) {ti:TI} {e:TypeId} (hu:ti.aq= .sl e) (h:K (.int .i64 el.length) H):eb (some ti) v (lenOf H v) H K:=by
 rw [hS.len j hj hp];have hn:=hS.y0 j hj;simp only [eb,hu];cases v with
 |str l=>exact absurd rfl (hn l)
 |_=>exact h
theorem tP (xs:List AV):lenOf H (.fz xs)=some xs.length:=rfl
theorem tQ (l:List UInt8):lenOf H (.str l)=some l.length:=rfl
theorem tR:lenOf H .nil=some 0:=rfl
theorem tS:lenOf H .e0=some 0:=rfl
theorem y1 (ti:TI) {e:TypeId} (hu:ti.aq= .sl e) (xs:List AV) (n:Nat):eb (some ti) (.fz xs) (some n) H K=K (.int .i64 n) H:=by simp [eb,hu]
theorem y2 (ti:TI) {e:TypeId} (hu:ti.aq= .sl e) (n:Nat):eb (some ti) .nil (some n) H K=K (.int .i64 n) H:=by simp [eb,hu]
theorem y3 (ti:TI) {e:TypeId} (hu:ti.aq= .sl e) (n:Nat):eb (some ti) .e0 (some n) H K=K (.int .i64 n) H:=by simp [eb,hu]
theorem y4 (ti:TI) (hu:ti.aq= .str) (l:List UInt8) (n:Nat):eb (some ti) (.str l) (some n) H K=K (.int .i64 n) H:=by simp [eb,hu]
theorem Bf {t:TypeId} {ps:Array (Nat×Operand)} {te:TI} (ht:cm C.E t=some te) (hp:ps.size=0) (h:K .e0 H):aZ (au C) C q th (.buildSlice t 0 ps) s H K:=by
 rw [c6 _ rfl];simp only [aL,ht,hp,if_true];exact h
theorem Bg {t:TypeId} {n:Nat} {ps:Array (Nat×Operand)} {te:TI} {z:AV} {el:List AV} (hS:ay H L) (ht:cm C.E t=some te) (hz:dU te=some z) (hn:(n==0)=false) (hb:(decide (n*te.sz≤1000000)&&te.sz !=0)=true)
 (he:hO te.sz (List.replicate n z) (ps.toList.map fun p=>(p.1,ev s p.2))=some el) (hl:el.length=n) (aH:bC te.sz el=true) (h: ∀v H',bm v→ay H' (⟨v,te.sz,el⟩::L)→K v H'):aZ (au C) C q th (.buildSlice t n ps) s H K:=by
 rw [c6 _ rfl];simp at hn hb;simp only [aL,ht,if_neg hn,hz];rw [if_pos hb];simp only [he];exact h _ _ (gE ..) (hS.mO (by rw [←hl];simp) hl.symm aH)
theorem tT {sz:Nat} {a b:List AV} (ha:bC sz a=true) (hb:bC sz b=true):bC sz (a ++ b)=true:=by
 unfold bC at*;rw [List.all_append,ha,hb];rfl
theorem tU (hS:ay H L) (j:Nat) {te:TI} {v x:AV} {el xs:List AV} (hj:L[j]? =some ⟨v,te.sz,el⟩) (hp:bm v) (hx:ct H x=some xs) (aH:bC te.sz xs=true) (h0:te.sz≠0) (hr:roomy (el.length+xs.length) te.bytes=true):
 ∃v' H',dw te v x H=some (v',H')∧bm v' ∧ay H' (L.set j ⟨v',te.sz,el ++ xs⟩):=by
 have af:=hS.ok j _ hj;obtain ⟨k0,af⟩:=af;have eP: ∀it:It,L[j]? =some it→L.set j it=L:=fun it h=>List.ext_getElem? fun k=>by
  rw [List.getElem?_set];split
  ·rename_i e;subst e;have:=(List.getElem?_eq_some_iff.1 h).1;simp only [this,if_true];exact h.symm
  ·rfl
 simp only [dw,hx,aH,Bool.not_true,if_neg h0];simp only at af k0;split at af
 ·subst af;by_cases hn:xs.length=0
  ·have:xs=[]:=List.eq_nil_of_length_eq_zero hn;subst this;refine ⟨.nil,H,by simp,mQ,?_⟩
   rw [List.append_nil,eP _ hj];exact hS
  ·have bQ:roomy xs.length te.bytes=true:=by simpa using hr
   refine ⟨.ref H.bs.length H.st 0 xs.length,H.new te.sz false xs,by simp [hn,bQ],gE ..,?_⟩
   exact hS.tJ (fun id ad h=>mL h) ⟨by simpa using aH,by simp,_,mM,rfl,rfl,by simp,by simp [aG]⟩ (fun k hk=>by simp [bV] at hk;omega)
 ·subst af;by_cases hn:xs.length=0
  ·have:xs=[]:=List.eq_nil_of_length_eq_zero hn;subst this;refine ⟨.e0,H,by simp,mR,?_⟩
   rw [List.append_nil,eP _ hj];exact hS
  ·have bQ:roomy xs.length te.bytes=true:=by simpa using hr
   refine ⟨.ref H.bs.length H.st 0 xs.length,H.new te.sz false xs,by simp [hn,bQ],gE ..,?_⟩
   exact hS.tJ (fun id ad h=>mL h) ⟨by simpa using aH,by simp,_,mM,rfl,rfl,by simp,by simp [aG]⟩ (fun k hk=>by simp [bV] at hk;omega)
 ·rename_i id ad off len;obtain ⟨k1,b,hb,k2,k3,k4,k5⟩:=af;have aw:=(hS.ok j _ hj).lt rfl;have bG:=(J.br hb).2;subst k1;by_cases cr:off+el.length+xs.length≤b.el.length
  ·refine ⟨.ref id ad off (el.length+xs.length),H.bq id {b with el:=splice b.el (off+el.length) xs},by simp [hb,k2,cr],gE ..,?_⟩
   refine hS.bq hj rfl (fun fC gp aK _=>mN aK) ⟨tT k0 aH,by simp,{b with el:=splice b.el (off+el.length) xs},?_,k2,k3,?_,?_⟩ (fun k hk=>by simpa [bV] using hk.symm)
   ·have:=lb (b:={b with el:=splice b.el (off+el.length) xs}) aw;simpa only [bG] using this
   ·simp only [iJ _ _ _ cr];omega
   ·simp only [aG] at k5⊢;have e1:(splice b.el (off+el.length) xs).drop off=el ++ (xs ++ b.el.drop (off+el.length+xs.length)):=by
     unfold splice;rw [List.append_assoc,List.drop_append_of_le_length (by simp;omega)]
     congr 1;rw [List.drop_take];have:off+el.length-off=el.length:=by omega
     rw [this,k5]
    rw [e1,←List.append_assoc,List.take_append_of_le_length (by simp),List.take_of_length_le (by simp)]
  ·refine ⟨.ref id H.st 0 (el.length+xs.length),⟨H.st+1,H.bs.set id (some ⟨H.st,b.sz,false,aG b.el off el.length ++ xs⟩)⟩,by simp [hb,k2,cr,k3,k4,hr],gE ..,?_⟩
   refine hS.bq hj rfl (fun fC gp aK _=> ?_) ⟨tT k0 aH,by simp,⟨H.st,te.sz,false,el ++ xs⟩,?_,rfl,rfl,by simp,by simp only [aG,List.drop_zero];exact List.take_of_length_le (by simp)⟩ (fun k hk=>by simpa [bV] using hk.symm)
   ·have h' : ¬id=fC:=fun e=>aK e.symm
    simp only [J.ap,List.getElem?_set,if_neg h']
   ·simp only [J.ap,List.getElem?_set,aw,if_true,k2,aG] at k5⊢;rw [k5]
 ·rename_i id ad ix off;obtain ⟨rfl,rfl,_⟩:=af;exact absurd rfl (hp.ne id ad)
 ·exact af.elim
def app {α :Type} (mK:Nat) (l m:List α):Option (List α):=if roomy (l.length+m.length) mK then some (l ++ m) else none
theorem tV (a b:Operand) (t u:TypeId):aZ (au C) C false th (.call {callee:= .builtin .append,args:= #[a,b],argTypes:= #[t,u]}) s H K=cz (cp C.E .append #[t,u] [ev s a,ev s b] H) K:=by
 unfold aZ wpOp;simp only [Bool.false_eq_true,false_implies,true_and];rfl
theorem y5 {α β :Type} {E:aJ} {t u:TypeId} {te tu:TI} {e:TypeId} {v x:AV} {l m:List α} {c: α →AV} {f:List α →Option β} {r: β} (j:Nat) (hS:ay H L) (hj:L[j]? =some ⟨v,te.sz,l.map c⟩) (hp:bm v) (ht:cm E t=some te) (hu:E u=some tu) (hi:tu.aq= .sl e)
 (hx:ct H x=some (m.map c)) (aH:bC te.sz (m.map c)=true) (h0:(te.sz==0)=false) (hh:(app te.bytes l m).bind f=some r) (h: ∀v' H',bm v' →app te.bytes l m=some (l ++ m)→f (l ++ m)=some r→ay H' (L.set j ⟨v',te.sz,(l ++ m).map c⟩)→K v' H'):
 cz (cp E .append #[t,u] [v,x] H) K:=by
 cases hr:app te.bytes l m with
 |none=>rw [hr] at hh;simp at hh
 |some lm=>
  have bQ:=hr
  unfold app at hr;split at hr
  ·rename_i jD;simp only [Option.some.injEq] at hr;subst hr;rw [bQ] at hh;obtain ⟨v',H',h1,h2,h3⟩:=tU hS j hj hp hx aH (by simpa using h0) (by simpa using jD)
   have e1:(#[t,u]:Array TypeId)[0]? =some t:=rfl;have e2:((#[t,u]:Array TypeId)[1]?).bind E=E u:=rfl;simp only [cp,e1,e2,ht,hu,hi,h1,cz];exact h v' H' h2 bQ hh (by rw [List.map_append];exact h3)
  ·simp at hr
def jV (C:aF) (q th:Bool) (f:AV) (args:List AV) (H:J) (K:AV→J→Prop):Prop:=
 match f with
 | .fn g bJ=>if q then dm (au C) C g (args ++ bJ) th H K else au C g (args ++ bJ) H K∨dm (au C) C g (args ++ bJ) th H K
 |_=>False
theorem tW (f:Operand) (args:Array Operand) (tys:Array TypeId):aZ (au C) C q th (.call {callee:= .value f,args,argTypes:=tys}) s H K=jV C q th (ev s f) (args.toList.map (ev s)) H K:=rfl
theorem Bh {α β :Type} {g:FuncId} {bJ args:List AV} {o:Option α} {f: α →Option β} {r: β} (h:o.bind f=some r) (hk: ∀x,o=some x→f x=some r→au C g (args ++ bJ) H K):jV C false th (.fn g bJ) args H K:=by
 cases ho:o with
 |none=>rw [ho] at h;simp at h
 |some x=>rw [ho] at h;exact .inl (hk x ho h)
end
inductive LR (σ ρ :Type) where
 |next (x: σ)
 |done (r: ρ)
def iter {σ ρ :Type} (f: σ →Option (LR σ ρ)):Nat→ σ →Option ρ
 |0,_=>none
 |n+1,x=>(f x).bind fun y=>match y with| .next x' =>iter f n x' | .done r=>some r
open Classical in
noncomputable def eT {σ ρ :Type} (f: σ →Option (LR σ ρ)) (x: σ):Option ρ :=if h: ∃n,(iter f n x).isSome then iter f h.choose x else none
theorem pe {σ ρ :Type} {f: σ →Option (LR σ ρ)}: ∀{n m:Nat} {x: σ} {r: ρ},iter f n x=some r→n≤m→iter f m x=some r
 |0,_,_,_,h,_=>by simp [iter] at h
 |n+1,0,_,_,_,h=>by omega
 |n+1,m+1,x,r,h,hle=>by
  simp only [iter] at h⊢;cases hf:f x with
  |none=>rw [hf] at h;simp at h
  |some y=>
   rw [hf] at h;cases y with
   |next x' =>exact pe (m:=m) h (by omega)
   |done r' =>exact h
theorem mS {σ ρ :Type} {f: σ →Option (LR σ ρ)} {x: σ} {r: ρ}:eT f x=some r↔ ∃n,iter f n x=some r:=by
 unfold eT;constructor
 ·intro h;split at h
  ·exact ⟨_,h⟩
  ·simp at h
 ·rintro ⟨n,h⟩;have hex: ∃n,(iter f n x).isSome:=⟨n,by simp [h]⟩
  rw [dif_pos hex];cases hc:iter f hex.choose x with
  |none=>have:=hex.choose_spec;rw [hc] at this;simp at this
  |some r' =>
   have h1:=pe hc (Nat.le_max_left hex.choose n);have h2:=pe h (Nat.le_max_right hex.choose n);rw [h1] at h2;exact h2
theorem pf {σ ρ :Type} (f: σ →Option (LR σ ρ)) (x: σ):eT f x=(f x).bind fun y=>match y with| .next x' =>eT f x' | .done r=>some r:=by
 refine Option.ext fun r=> ?_;rw [mS];constructor
 ·rintro ⟨n,h⟩;cases n with
  |zero=>simp [iter] at h
  |succ n=>
   simp only [iter] at h;cases hf:f x with
   |none=>rw [hf] at h;simp at h
   |some y=>
    rw [hf] at h;cases y with
    |next x' =>exact mS.2 ⟨n,h⟩
    |done r' =>exact h
 ·intro h;cases hf:f x with
  |none=>rw [hf] at h;simp at h
  |some y=>
   rw [hf] at h;cases y with
   |next x' =>obtain ⟨n,hn⟩:=mS.1 h;exact ⟨n+1,by simp only [iter,hf];exact hn⟩
   |done r' =>exact ⟨1,by simp only [iter,hf];exact h⟩
def mT {σ ρ :Type} (bK:List Nat) (Inv: σ →aj→J→Prop) (y:LR σ ρ) (K:Ex→aj→J→Prop):Ex→aj→J→Prop
 | .normal,s,H=> ∃x',y= .next x' ∧Inv x' (ez bK s) H
 | .exit i,s,H=>K (.exit i) s H
 | .ret,s,H=>K .ret s H
section
variable {C:aF} {K K1:Ex→aj→J→Prop} {s:aj} {H:J}
theorem Bi {σ ρ :Type} (gC:Good C) {f: σ →Option (LR σ ρ)} {x: σ} {r: ρ} {bK:List Nat} {a:AC} (hw:eT f x=some r) (Inv: σ →aj→J→Prop) (h0:Inv x (ez bK s) H)
 (hb: ∀x y s H,f x=some y→(∀r',y= .done r' →r' =r)→Inv x s H→ ∀K1,K1=mT bK Inv y K→aM (au C) C a s H K1):aM (au C) C (.loop ⟨bK,false⟩ a) s H K:=by
 obtain ⟨n,hn⟩:=mS.1 hw;have key: ∀(n:Nat) (x: σ) (s:aj) (H:J),iter f n x=some r→Inv x s H→ ∀m,iF (aM (au C) C a) (gI ⟨bK,false⟩ m) K s H:=by
  intro n;induction n with
  |zero=>intro x s H h;simp [iter] at h
  |succ n ih=>
   intro x s H h hi m;simp only [iter] at h;cases hf:f x with
   |none=>rw [hf] at h;simp at h
   |some y=>
    rw [hf] at h;simp only [Option.bind_some] at h;refine iF.round (au.up gC.up) (et (au.up gC.up) _ _ _ _ _ (fun e s' H' he=> ?_) (hb x y s H hf (fun r' e=>by subst e;simpa using h) hi _ rfl))
    cases e with
    |normal=>
     obtain ⟨x',rfl,fG⟩:=he;exact ih x' _ _ h fG m
    |exit i=>exact he
    |ret=>exact he
 exact key n x _ _ hn h0 _
theorem Bj {σ ρ :Type} {bK:List Nat} {Inv: σ →aj→J→Prop} {y:LR σ ρ} {x' : σ} (hK:K1=mT bK Inv y K) (hy:some (LR.next x')=some y) (hi:Inv x' (ez bK s) H):K1 .normal s H:=by
 rw [hK];exact ⟨x',(Option.some.inj hy).symm,hi⟩
theorem Bk {σ ρ :Type} {bK:List Nat} {Inv: σ →aj→J→Prop} {y:LR σ ρ} {i:Nat} (hK:K1=mT bK Inv y K) (h:K (.exit i) s H):K1 (.exit i) s H:=by rw [hK];exact h
theorem Bl {σ ρ :Type} {bK:List Nat} {Inv: σ →aj→J→Prop} {y:LR σ ρ} (hK:K1=mT bK Inv y K) (h:K .ret s H):K1 .ret s H:=by rw [hK];exact h
def pg (Q:aj→J→Prop) (K:Ex→aj→J→Prop):Ex→aj→J→Prop
 | .normal,s,H=>Q s H
 | .exit i,s,H=>K (.exit i) s H
 | .ret,s,H=>K .ret s H
theorem Bm (gC:Good C) {a:AC} (Q:aj→J→Prop) (h: ∀K1,K1=pg Q K→aM (au C) C a s H K1) (hq: ∀s H,Q s H→K .normal s H):aM (au C) C a s H K:=by
 refine yS (h _ rfl) (fun e s H he=> ?_) gC;cases e with
 |normal=>exact hq s H he
 |exit i=>exact he
 |ret=>exact he
theorem Bn {Q:aj→J→Prop} (hK:K1=pg Q K) (h:Q s H):K1 .normal s H:=by rw [hK];exact h
theorem Bo {Q:aj→J→Prop} (hK:K1=pg Q K) (h:K .ret s H):K1 .ret s H:=by rw [hK];exact h
end
end Go.VS
namespace Go.VS
section
variable {C:aF} {q th:Bool} {s:aj} {H:J} {K:AV→J→Prop} {L:List It}
theorem tX:eA none s=s:=rfl
def y6 (k:IntKind) (a b:Int):Int:=k.wrap (BitVec.ofInt k.bits a&&&BitVec.ofInt k.bits b).toNat
def y7 (k:IntKind) (a b:Int):Int:=k.wrap (BitVec.ofInt k.bits a|||BitVec.ofInt k.bits b).toNat
def y8 (k:IntKind) (a b:Int):Int:=k.wrap (BitVec.ofInt k.bits a^^^BitVec.ofInt k.bits b).toNat
def Bp (k:IntKind) (a b:Int):Int:=k.wrap (a*2^(min b.toNat k.bits))
def tY (k:IntKind) (a b:Int):Int:=a.fdiv (2^(min b.toNat k.bits))
theorem tZ (E:aJ) (t:TypeId) (k:IntKind) (a b:Int):aI E .and t (.int k a) (.int k b)=some (.int k (y6 k a b)):=yU ..
theorem t_ (E:aJ) (t:TypeId) (k:IntKind) (a b:Int):aI E .or t (.int k a) (.int k b)=some (.int k (y7 k a b)):=yV ..
theorem ua (E:aJ) (t:TypeId) (k:IntKind) (a b:Int):aI E .xor t (.int k a) (.int k b)=some (.int k (y8 k a b)):=yW ..
theorem Bq (k:IntKind) (a b:Int) (h:decide (b<0)=false):sr k a b=some (tY k a b):=by simp at h;simp [sr,tY,Int.not_lt.2 h]
def ph (E:aJ) (src dst:TypeId) (x:AV) (H:J) (K:AV→J→Prop):Prop:=cz (match E src,E dst,x with
 |some _,some td,.int _ n=>match td.aq with
  | .it k=>some (.int k (k.wrap n),H)
  |_=>none
 |some _,some td,.str l=>match td.aq with
  | .str=>some (.str l,H)
  | .sl e=>match E e with
   |some te=>match te.aq with
    | .it .u8=>if te.sz=1∧te.bytes=1∧l.length≤2^45 then some (.ref H.bs.length H.st 0 l.length,H.new 1 false (l.map fun b=> .int .u8 b.toNat)) else none
    |_=>none
   |none=>none
  |_=>none
 |some ts,some td,x=>match ts.aq,td.aq with
  | .sl e,.str=>match E e with
   |some te=>match te.aq with
    | .it .u8=>match ct H x with
     |some xs=>if te.sz=1 then (match (bytesOf xs).map AV.str with|some v=>some (v,H)|none=>none) else none
     |none=>none
    |_=>none
   |none=>none
  |_,_=>none
 |_,_,_=>none) K
theorem ub (a b:TypeId) (x:Operand):aZ (au C) C q th (.convert a b x) s H K=ph C.E a b (ev s x) H K:=by
 rw [c6 _ rfl];rfl
def pi (ta tb:Option TI) (n:Int) (H:J) (K:AV→J→Prop):Prop:=match ta,tb with
 |some _,some td=>match td.aq with| .it k=>K (.int k (k.wrap n)) H|_=>False
 |_,_=>False
theorem uc (E:aJ) (a b:TypeId) (j:IntKind) (n:Int):ph E a b (.int j n) H K=pi (E a) (E b) n H K:=by
 simp only [ph,pi];cases E a with
 |none=>rfl
 |some ta=>
  cases E b with
  |none=>rfl
  |some tb=>simp only;cases tb.aq<;>rfl
def y9 (l:List UInt8):List Int:=l.map fun b=>(b.toNat:Int)
def Br (l:List Int):List UInt8:=l.map fun n=>UInt8.ofNat n.toNat
def Bs (l:List UInt8):Option (List Int):=if l.length≤2^45 then some (y9 l) else none
def eu {α :Type} (l:List α) (lo hi:Int):Option (List α):=if 0≤lo∧lo≤hi∧hi≤l.length then some ((l.drop lo.toNat).take (hi.toNat-lo.toNat)) else none
def dh (E:aJ) (t:TypeId) (x:AV) (lo hi mx:Option (Option Int)) (H:J) (K:AV→J→Prop):Prop:=match lo,hi,mx with
 |some lo,some hi,some mx=>cO (du E t x lo hi mx H) H K
 |_,_,_=>False
theorem ud (t:TypeId) (x:Operand) (lo hi mx:Option Operand):aZ (au C) C q th (.slice t x lo hi mx) s H K=dh C.E t (ev s x) (dT (lo.map (ev s))) (dT (hi.map (ev s))) (dT (mx.map (ev s))) H K:=by
 rw [c6 _ rfl];simp only [aL,dh];generalize dT (lo.map (ev s))=a;generalize dT (hi.map (ev s))=b;generalize dT (mx.map (ev s))=c;cases a<;>cases b<;>cases c<;>first|rfl|(simp only;rename_i lo hi mx;generalize du C.E t (ev s x) lo hi mx H=z;cases z<;>rfl)
theorem uf:dT none=some none:=rfl
theorem ug (k:IntKind) (n:Int):dT (some (.int k n))=some (some n):=rfl
theorem lg {α :Type} {c: α →AV} {sz:Nat} (hc: ∀x,(c x).cells.length=sz) (l:List α):bC sz (l.map c)=true:=by
 simp [bC,hc]
theorem Bt {α β :Type} {E:aJ} {t e:TypeId} {ti te:TI} {v:AV} {l:List α} {c: α →AV} {lo hi:Option Int} {f:List α →Option β} {r: β} (j:Nat) (hS:ay H L) (hj:L[j]? =some ⟨v,te.sz,l.map c⟩) (hp:bm v) (ht:E t=some ti) (hu:ti.aq= .sl e) (he:E e=some te) (hh:(eu l (lo.getD 0) (hi.getD l.length)).bind f=some r)
 (h: ∀v' m,bm v' →eu l (lo.getD 0) (hi.getD l.length)=some m→f m=some r→ay H (L.set j ⟨v',te.sz,m.map c⟩)→K v' H):dh E t v (some lo) (some hi) (some none) H K:=by
 cases hm:eu l (lo.getD 0) (hi.getD l.length) with
 |none=>rw [hm] at hh;simp at hh
 |some m=>
  rw [hm] at hh;have hk:=fun v' bg=>h v' m bg hm hh
  unfold eu at hm;split at hm
  ·rename_i hc;obtain ⟨cK,de,hJ⟩:=hc;simp only [Option.some.injEq] at hm;have af:=hS.ok j _ hj;obtain ⟨k0,af⟩:=af;have eP:L.set j ⟨v,te.sz,l.map c⟩=L:=List.ext_getElem? fun k=>by
    rw [List.getElem?_set];split
    ·rename_i e;subst e;have:=(List.getElem?_eq_some_iff.1 hj).1;simp only [this,if_true];exact hj.symm
    ·rfl
   have y_:bC te.sz (m.map c)=true:=by
    simp only [bC,List.all_eq_true,List.mem_map] at k0⊢;rintro z ⟨y,hy,rfl⟩;rw [←hm] at hy;exact k0 _ ⟨y,List.mem_of_mem_drop (List.mem_of_mem_take hy),rfl⟩
   have empty:l.map c=[]→m=[]∧l=[]∧lo.getD 0=0∧hi.getD l.length=0:=by
    intro e;rw [List.map_eq_nil_iff] at e;subst e;have e0:(([]:List α).length:Int)=0:=rfl;rw [e0] at hJ de⊢;exact ⟨by rw [←hm];simp,rfl,by omega,by omega⟩
   simp only at af k0;split at af
   ·obtain ⟨rfl,rfl,e1,e2⟩:=empty af;have gU:hi.getD 0=0:=by cases hi with|none=>rfl|some x=>simpa using e2
    simp only [dh,du,ht,hu,he];rw [if_pos ⟨e1,gU,rfl,by simp⟩]
    exact hk .nil mQ (by rw [eP];exact hS)
   ·obtain ⟨rfl,rfl,e1,e2⟩:=empty af;have gU:hi.getD 0=0:=by cases hi with|none=>rfl|some x=>simpa using e2
    simp only [dh,du,ht,hu,he];rw [if_pos ⟨e1,gU,rfl,by simp⟩]
    exact hk .e0 mR (by rw [eP];exact hS)
   ·rename_i id ad off len;obtain ⟨k1,b,hb,k2,k3,k4,k5⟩:=af;simp only [List.length_map] at k1;subst k1;simp only [dh,du,ht,hu,hb,he,k2,ne_eq,not_true_eq_false,if_false];rw [if_pos ⟨cK,de,by omega⟩]
    have iB:(hi.getD (l.length:Int)).toNat-(lo.getD 0).toNat=m.length:=by
     rw [←hm,List.length_take,List.length_drop];omega
    refine hk _ (gE ..) (hS.bq hj rfl (fun _ _ _ _=>rfl) ⟨y_,?_,b,hb,k2,k3,?_,?_⟩ (fun k hk=>by simpa [bV] using hk.symm))
    ·simp only [List.length_map];exact iB
    ·omega
    ·simp only [aG] at k5⊢;rw [←hm,List.map_take,List.map_drop,←k5,List.drop_take,List.drop_drop,List.take_take];congr 1;omega
   ·rename_i id ad ix off;obtain ⟨rfl,rfl,_⟩:=af;exact absurd rfl (hp.ne id ad)
   ·exact af.elim
  ·simp at hm
def jW {α :Type} (mK:Nat) (n:Int) (d: α):Option (List α):=if 0≤n∧roomy n.toNat mK then some (List.replicate n.toNat d) else none
theorem Bu {α β :Type} {E:aJ} {t u:TypeId} {te tu:TI} {e:TypeId} {v x:AV} {l m:List α} {c: α →AV} {f:List α →Option β} {r: β} (j:Nat) (hS:ay H L) (hj:L[j]? =some ⟨v,te.sz,l.map c⟩) (hp:bm v) (ht:cm E t=some te) (hu:E u=some tu) (hi:tu.aq= .sl e)
 (hx:ct H x=some (m.map c)) (aH: ∀x,(c x).cells.length=te.sz) (h0:(te.sz==0)=false) (hh:(app te.bytes l m).bind f=some r) (h: ∀v' H' lm,bm v' →app te.bytes l m=some lm→f lm=some r→ay H' (L.set j ⟨v',te.sz,lm.map c⟩)→K v' H'):
 cz (cp E .append #[t,u] [v,x] H) K:=
 y5 j hS hj hp ht hu hi hx (lg aH m) h0 hh fun v' H' h1 h2 h3 h4=>h v' H' _ h1 h2 h3 h4
theorem ay.perm {L' :List It} (h:ay H L) (hp:L.Perm L'):ay H L' :=by
 have nd: ∀{L:List It},ay H L↔(∀it∈L,gD H it)∧(L.filterMap (fun it=>bV it.v)).Nodup:=by
  intro L;constructor
  ·intro h;refine ⟨fun it hi=> ?_,?_⟩
   ·obtain ⟨i,fG⟩:=List.mem_iff_getElem?.1 hi;exact h.ok i it fG
   ·induction L with
    |nil=>simp
    |cons a L ih=>
     have ih:=ih h.tl;rw [List.filterMap_cons];cases ha:bV a.v with
     |none=>exact ih
     |some id=>
      refine List.nodup_cons.2 ⟨fun hm=> ?_,ih⟩;obtain ⟨b,hb,bU⟩:=List.mem_filterMap.1 hm;obtain ⟨j,hj⟩:=List.mem_iff_getElem?.1 hb;have:=h.b7 0 (j+1) a b id rfl hj ha bU;omega
  ·rintro ⟨h1,h2⟩;refine ⟨fun i it hi=>h1 it (List.mem_of_getElem? hi),?_⟩;clear h1;induction L with
   |nil=>intro i j a b id h;simp at h
   |cons a L ih=>
    have kG:(L.filterMap (fun it=>bV it.v)).Nodup:=by
     rw [List.filterMap_cons] at h2;split at h2
     ·exact h2
     ·exact (List.nodup_cons.1 h2).2
    have no: ∀(j:Nat) (b:It) (id:Nat),L[j]? =some b→bV a.v=some id→bV b.v≠some id:=by
     intro j b id hj ha hb;rw [List.filterMap_cons,ha] at h2;exact (List.nodup_cons.1 h2).1 (List.mem_filterMap.2 ⟨b,List.mem_of_getElem? hj,hb⟩)
    intro i j x y id hi hj hx hy;cases i with
    |zero=>
     simp at hi;subst hi;cases j with
     |zero=>rfl
     |succ j=>exact absurd hy (no j y id (by simpa using hj) hx)
    |succ i=>
     cases j with
     |zero=>simp at hj;subst hj;exact absurd hx (no i x id (by simpa using hi) hy)
     |succ j=>have:=ih kG i j x y id (by simpa using hi) (by simpa using hj) hx hy;omega
 rw [nd] at h⊢;exact ⟨fun it hi=>h.1 it (hp.mem_iff.2 hi),(hp.filterMap _).nodup_iff.1 h.2⟩
theorem ay.front (h:ay H L) (j:Nat) {it:It} (hj:L[j]? =some it):ay H (it::L.eraseIdx j):=by
 refine h.perm ?_;have aw:=(List.getElem?_eq_some_iff.1 hj).1;have he:=(List.getElem?_eq_some_iff.1 hj).2;have:L=L.take j ++ it::L.drop (j+1):=by
  rw [←he,List.getElem_cons_drop,List.take_append_drop]
 rw [List.eraseIdx_eq_take_drop_succ]
 conv=>lhs;rw [this]
 exact List.perm_middle
theorem ay.za (h:ay H L) (sz:Nat):ay H (⟨.nil,sz,[]⟩::L):=
 h.new (fun _ _ _=>rfl) ⟨rfl,rfl⟩ (fun k hk=>by simp [bV] at hk)
theorem ay.zb (h:ay H L) (sz:Nat):ay H (⟨.e0,sz,[]⟩::L):=
 h.new (fun _ _ _=>rfl) ⟨rfl,rfl⟩ (fun k hk=>by simp [bV] at hk)
theorem ay.drop (h:ay H L) (j:Nat):ay H (L.eraseIdx j):=by
 cases hj:L[j]? with
 |none=>
  rw [List.eraseIdx_of_length_le (List.getElem?_eq_none_iff.1 hj)];exact h
 |some it=>exact (h.front j hj).tl
theorem ay.Bv (hS:ay H L) {id ad sz:Nat} {a:AV} (hm:⟨.ptr id ad 0 0,sz,[a]⟩∈L):H.ap id ad=some ⟨ad,sz,false,[a]⟩:=by
 obtain ⟨j,hj⟩:=List.mem_iff_getElem?.1 hm;exact hS.var j hj
theorem pj {α β :Type} {g:FuncId} {bJ args ys:List AV} {bS:Bool} {o:Option α} {f: α →Option β} {r: β} {bO:List (List Sh)} (h:o.bind f=some r) (hr:(C.fy g).bO=bO) (hp:b6 [] (args ++ bJ) H=some (ys,bS))
 (hk: ∀x,o=some x→f x=some r→ ∃y,au C g ys ⟨0,[]⟩ (fun v L=> ∃rs zs L2,v=b9 rs∧cX bO rs L=some (zs,L2)∧y=b9 zs)∧(bS=false∨cb y=true)∧if th||bS then K (aD y H).1 (aD y H).2 else K (bn y) H):jV C q th (.fn g bJ) args H K:=by
 cases ho:o with
 |none=>rw [ho] at h;simp at h
 |some x=>
  rw [ho] at h;have hq:dm (au C) C g (args ++ bJ) th H K:=by
   unfold dm;rw [hp,hr];exact hk x ho h
  cases q with
  |true=>exact hq
  |false=>exact .inr hq
end
end Go.VS
