import Derived.Test.YtclgbpneokeaeaaVaC
import Derived.StillTail
namespace Go.VS
structure gZ (ops:Array Oper) (aA:List Nat):Prop where
 back: ∀(i:Nat) (o:Oper),ops[i]? =some o→ ∀e∈o.after,Region.binds .any e=true→e.on<i
 gk: ∀(i j:Nat) (o p:Oper) (d:Tmp),i≠j→ops[i]? =some o→ops[j]? =some p→p.dst=some d→o.dst≠some d
 ord: ∀(i j:Nat) (o p:Oper) (d:Tmp),i≠j→ops[i]? =some o→ops[j]? =some p→p.dst=some d→d∈Oper.looksAt ops o→((eT ops.toList).getD (max i j) 0).testBit (min i j)=true
 after: ∀(i j:Nat) (o p:Oper),ops[i]? =some o→ops[j]? =some p→i∈aA→i<j→((eT ops.toList).getD j 0).testBit i=true∨(j∉aA∧p.guard=none∧iO p.op=true∧ ∃d,p.dst=some d)
 late: ∀(i j:Nat) (o p:Oper),ops[i]? =some o→ops[j]? =some p→i∈aA→j<i→((eT ops.toList).getD i 0).testBit j=false→j∉aA∧p.guard=none∧gG p.op=true∧(∃d,p.dst=some d)∧
  ∀(k:Nat) (r:Oper) (d:Tmp),ops[k]? =some r→r.dst=some d→j≤k→d∉Oper.looksAt ops p
theorem y2 {ops:Array Oper} {aA:List Nat} (h:ij ops aA=true):gZ ops aA:=by
 have lt: ∀{i:Nat} {o:Oper},ops[i]? =some o→i<ops.toList.length:=fun h=>by have:=(Array.getElem?_eq_some_iff.1 h).1;simpa using this
 have tl: ∀{i:Nat} {o:Oper},ops[i]? =some o→ops.toList[i]? =some o:=fun h=>by simpa using h
 have one: ∀(i:Nat) (o:Oper),ops[i]? =some o→(∀e∈o.after,Region.binds .any e=true→e.on<i)∧ ∀(j:Nat) (p:Oper),ops[j]? =some p→i≠j→
  (∀d,p.dst=some d→o.dst≠some d∧(d∈Oper.looksAt ops o→((eT ops.toList).getD (max i j) 0).testBit (min i j)=true))∧
  (i∈aA→i<j→((eT ops.toList).getD j 0).testBit i=true∨(j∉aA∧p.guard=none∧iO p.op=true∧ ∃d,p.dst=some d))∧
  (i∈aA→j<i→((eT ops.toList).getD i 0).testBit j=false→j∉aA∧p.guard=none∧gG p.op=true∧(∃d,p.dst=some d)∧ ∀(k:Nat) (r:Oper) (d:Tmp),ops[k]? =some r→r.dst=some d→j≤k→d∉Oper.looksAt ops p):=by
  intro i o ho;simp only [ij,List.all_eq_true,List.mem_range] at h;have hi:=h i (lt ho);rw [tl ho] at hi;simp only [Bool.and_eq_true,Array.all_eq_true_iff_forall_mem,List.all_eq_true,List.mem_range,Bool.or_eq_true,Bool.not_eq_true',decide_eq_true_eq] at hi;obtain ⟨ha,hb⟩:=hi;refine ⟨fun e he pu=>(ha e he).resolve_left (by simp [pu]),fun j p hp kW=> ?_⟩
  have hj:=hb j (lt hp);rw [tl hp] at hj;simp only [Bool.or_eq_true,beq_iff_eq,Bool.and_eq_true,Bool.not_eq_true'] at hj;rcases hj with hj|⟨⟨mC,jH⟩,jU⟩
  ·exact absurd hj kW
  refine ⟨fun d hd=> ?_,fun hl ax=> ?_,fun hl ax pu=> ?_⟩
  ·rw [hd] at mC;simp only [Bool.and_eq_true,bne_iff_ne,ne_eq,Bool.or_eq_true,Bool.not_eq_true'] at mC;exact ⟨mC.1,fun hm=>mC.2.resolve_left (by simp [hm])⟩
  ·rcases jH with (jH|jH)|⟨⟨⟨q1,q2⟩,q3⟩,q4⟩
   ·simp [hl,ax] at jH
   ·exact .inl jH
   ·exact .inr ⟨by simpa using q1,by simpa using q2,q3,Option.isSome_iff_exists.1 q4⟩
  ·rcases jU with (jU|jU)|⟨⟨⟨⟨q1,q2⟩,q3⟩,q4⟩,q5⟩
   ·simp [hl,ax] at jU
   ·rw [pu] at jU;simp at jU
   ·refine ⟨by simpa using q1,by simpa using q2,q3,Option.isSome_iff_exists.1 q4,fun k r d hk hr y3 hm=> ?_⟩
    simp only [List.all_eq_true,List.mem_range] at q5;have:=q5 k (lt hk);rw [tl hk] at this;simp only [hr] at this;simp [y3,hm] at this
 exact ⟨fun i o ho=>(one i o ho).1,fun i j o p d kW ho hp hd=>(((one i o ho).2 j p hp kW).1 d hd).1,fun i j o p d kW ho hp hd=>(((one i o ho).2 j p hp kW).1 d hd).2,
  fun i j o p ho hp hl ax=>((one i o ho).2 j p hp (by omega)).2.1 hl ax,fun i j o p ho hp hl ax=>((one i o ho).2 j p hp (by omega)).2.2 hl ax⟩
theorem pv (aA:List Nat) (n:Nat): ∀(m b:Nat),m=n-b→b≤n→ ∃c,b≤c∧c≤n∧(c=n∨c∈aA)∧ ∀i,b≤i→i<c→i∉aA
 |0,b,hm,hb=>⟨b,Nat.le_refl _,hb,.inl (by omega),fun i h1 h2=>by omega⟩
 |m+1,b,hm,hb=>by
  by_cases h:b∈aA
  ·exact ⟨b,Nat.le_refl _,hb,.inr h,fun i h1 h2=>by omega⟩
  ·obtain ⟨c,h1,h2,h3,h4⟩:=pv aA n m (b+1) (by omega) (by omega)
   refine ⟨c,by omega,h2,h3,fun i k1 k2=> ?_⟩
   by_cases hi:i=b
   ·subst hi;exact h
   ·exact h4 i (by omega) k2
section draw
variable {P:Program} {C:aH} {X:bq} {ops:Array Oper} {aA:List Nat} {th:List Nat} {K:ak→J→Prop} {s:Nat→ak} {H:Nat→J} {v:Nat→AV} {act:Nat→Bool}
abbrev iC (X:bq) (C:aH) (ops:Array Oper) (aA:List Nat) (th:List Nat) (K:ak→J→Prop) (s:Nat→ak) (H:Nat→J) (v:Nat→AV) (act:Nat→Bool):Prop:=
 Tr X C ops (fun i=> !aA.contains i) (fm ops aA) th K ops.toList 0 s H v act
theorem g_ (t:iC X C ops aA th K s H v act): ∀(m i:Nat),i+m≤ops.size→(∀k,i≤k→k<i+m→k∉aA)→QG (H i) (H (i+m))
 |0,i,_,_=> .refl _
 |m+1,i,hn,hl=>by
  have h1:=g_ t m i (by omega) (fun k h1 h2=>hl k h1 (by omega))
  have ho:=Array.getElem?_eq_getElem (xs:=ops) (show i+m<ops.size by omega)
  obtain ⟨_,_,h3,h4,_⟩:=t.step (i+m) _ (by rw [Array.getElem?_toList];exact ho)
  refine h1.trans ?_;cases ha:act (i+m) with
  |true=>
   have:=h3 ha;have gn:(!aA.contains (0+(i+m)))=true:=by simp only [Nat.zero_add];simpa using hl (i+m) (by omega) (by omega)
   rw [gn] at this;exact y0 this
  |false=>have:=(h4 ha).2;rw [show i+(m+1)=i+m+1 by omega,this];exact .refl _
theorem mD (dk:gZ ops aA) (t:iC X C ops aA th K s H v act): ∀(i:Nat),i≤ops.size→(s i).length=(s 0).length∧ ∀x,x<(s 0).length→
 (∀k o,k<i→ops[k]? =some o→o.dst=some x→(s i).getD x .undef=v k)∧((∀k o,k<i→ops[k]? =some o→o.dst≠some x)→(s i).getD x .undef=(s 0).getD x .undef)
 |0,_=>⟨rfl,fun x hx=>⟨fun k o h=>by omega,fun _=>rfl⟩⟩
 |i+1,hi=>by
  obtain ⟨h1,h2⟩:=mD dk t i (by omega)
  have ho:=Array.getElem?_eq_getElem (xs:=ops) (show i<ops.size by omega)
  obtain ⟨hs,_⟩:=t.step i _ (by rw [Array.getElem?_toList];exact ho)
  have hlen:(s (i+1)).length=(s 0).length:=by
   rw [hs];unfold bj;split
   ·simpa using h1
   ·exact h1
  refine ⟨hlen,fun x hx=>⟨fun k o hk ag hd=> ?_,fun eL=> ?_⟩⟩
  ·rw [hs];by_cases bP:k=i
   ·subst bP;rw [ho] at ag;simp only [Option.some.injEq] at ag;subst ag;rw [hd];simp only [bj];rw [←h1] at hx;simp [List.getD,hx]
   ·have aM:=dk.gk i k _ o x (fun h=>bP h.symm) ho ag hd;have:=(h2 x hx).1 k o (by omega) ag hd
    rw [←this];unfold bj;split
    ·rename_i d bY;have:d≠x:=fun h=>aM (by rw [bY,h])
     simp [List.getD,List.getElem?_set_ne this]
    ·rfl
  ·rw [hs];have aM:=eL i _ (Nat.lt_succ_self _) ho;rw [←(h2 x hx).2 (fun k o hk ag=>eL k o (by omega) ag)]
   unfold bj;split
   ·rename_i d bY;have:d≠x:=fun h=>aM (by rw [bY,h])
    simp [List.getD,List.getElem?_set_ne this]
   ·rfl
structure pw (C:aH) (o:Op) (sz:Nat) (el:List AV) (x:Nat→Nat→AV) (u:Nat→Value):Prop where
 ev: ∀(X:bq) (q th:Bool) (o' :Oper) (s:ak) (H:J) (K:AV→J→Prop),o'.op=o→wpOp X C q th o' s H K→K (x H.bs.length H.st) (H.new sz false el)
 y4: ∀(i:Nat) (y:AV),el[i]? =some y→y.cells.length=sz
 rel: ∀(w:World) (G:J) (φ :af) (A:ah) (id ad c:Nat),G.get id=some ⟨ad,sz,false,el⟩→ad<G.st→ φ id=some (.at_ c 0)→el.length*sz≤aY w c→R w G φ A (x id ad) (u c)
def mE (el:List AV) (sz:Nat) (arr:Array Value):Prop:=el.length*sz≤arr.size∧
 ∀(i:Nat) (x:AV) (j:Nat) (y:AV) (v:Value),el[i]? =some x→x.cells[j]? =some y→arr[i*sz+j]? =some v→(∀(w:World) (G:J) (φ :af) (A:ah),R w G φ A y v)∧v.oneCell' =true
theorem y5 {P:Program} {C:aH} (hE: ∀t ti,C.E t=some ti→aQ P t ti) {X:bq} {q th:Bool} {o:Oper} {s:ak} {H:J} {K:AV→J→Prop} (he:iO o.op=true) (h:wpOp X C q th o s H K):
 ∃sz el x u,pw C o.op sz el x u∧ ∀(a:Act) (w:World),∃arr T,(execOp a.eval o).run P w= .ok (.value (u w.heap.size)) (w.alloc (.cells arr T))∧mE el sz arr:=by
 obtain ⟨dst,op,ty,pos,after,guard⟩:=o;simp only at he⊢;cases op with
 |alloc tt=>
  unfold wpOp at h;simp only [aO] at h;cases kX:C.E tt with
  |none=>rw [kX] at h;exact h.2.elim
  |some ti=>
   rw [kX] at h;cases hz:ek ti with
   |none=>simp only [hz] at h;exact h.2.elim
   |some z=>
    have c9:z.cells.length=ti.sz:=by
     obtain ⟨zv,e1,e2,e3,e4,_,e5⟩:=iR (hE _ _ kX) hz default;rw [e3,e4]
    refine ⟨ti.sz,[z],fun id ad=> .ptr id ad 0 0,fun c=> .pointer (some ⟨c,0,none⟩),⟨fun X q th o' s H K ho h=> ?_,fun i y hy=> ?_,fun w G φ A id ad c _ hv aU _=>nJ hv aU⟩,fun a w=> ?_⟩
    ·obtain ⟨dst,op,ty,pos,after,guard⟩:=o';simp only at ho;subst ho;unfold wpOp at h;simp only [aO,kX,hz] at h;exact h.2
    ·cases i with
     |zero=>simp at hy;subst hy;exact c9
     |succ i=>simp at hy
    ·obtain ⟨zv,e1,e2,e3,e4,_,e5⟩:=iR (hE _ _ kX) hz w;refine ⟨zv.cells,tt,?_,by simp [e2],fun i x j y v hx hy hv=> ?_⟩
     ·show ((do pure (.value (←Instr.alloc tt true (.tuple #[]))):Sem Next).run P w)=_
      simp [Instr.alloc,e1,newVar,newRow]
     ·cases i with
      |zero=>
       simp only [List.getElem?_cons_zero,Option.some.injEq,Nat.zero_mul,Nat.zero_add] at hx hv;subst hx;rw [e3] at hy;have hh:=fun (w:World) (A:ah)=>e5 w A j y v hy hv;exact ⟨fun w G φ A=> .fr _ _ (hh w A).1,(hh w (fun _=>False)).2⟩
      |succ i=>simp at hx
 |buildSlice t n ps=>
  simp only [iO,Bool.and_eq_true,bne_iff_ne,ne_eq,List.all_eq_true] at he;obtain ⟨hn,hc⟩:=he;have y6: ∀(s s' :ak),(ps.toList.map fun p=>(p.1,ev s p.2))=ps.toList.map fun p=>(p.1,ev s' p.2):=fun s s' =>List.map_congr_left fun p hp=>by
   have:=hc p hp;cases hq:p.2 with
   |const v=>rfl
   |tmp x=>rw [hq] at this;simp [ke] at this
   |global x=>rfl
   |func x=>rfl
  unfold wpOp at h;simp only [aO,if_neg hn] at h;cases bh:cD C.E t with
  |none=>rw [bh] at h;exact h.2.elim
  |some te=>
   rw [bh] at h;obtain ⟨ti,e,ht,hu,ci⟩:=iV bh;cases hz:ek te with
   |none=>simp only [hz] at h;exact h.2.elim
   |some zA=>
    simp only [hz] at h;by_cases hcnd:n*te.sz≤1000000∧te.sz≠0
    ·rw [if_pos hcnd] at h;cases bO:ib te.sz (List.replicate n zA) (ps.toList.map fun p=>(p.1,ev s p.2)) with
     |none=>rw [bO] at h;exact h.2.elim
     |some el=>
      have parts: ∀(ρ :Operand→Value),(∀v,ρ (.const v)=v)→ ∀(w:World) (G:J) (φ :af) (A:ah),∀p∈ps.toList,R w G φ A (ev s p.2) (ρ p.2):=fun ρ aR w G φ A p hp=>by
       have:=hc p hp;cases hq:p.2 with
       |const v=>rw [aR];exact .fr _ _ (FR.ofValue w A v)
       |tmp x=>rw [hq] at this;simp [ke] at this
       |global x=>rw [hq] at this;simp [ke] at this
       |func x=>rw [hq] at this;simp [ke] at this
      have fill: ∀(ρ :Operand→Value),(∀v,ρ (.const v)=v)→ ∀(w0:World),∃(zv:Value) (b6:Array Value),(zeroValue e).run P w0= .ok zv w0∧Instr.fill (fun i=>some (i*te.sz,te.sz)) ((Array.range (n*te.sz)).map (fun k=>zv.cells[k % zv.cells.size]!)) ((ps.map fun (i,x)=>(i,ρ x)).toList)=some b6∧b6.size=el.length*te.sz∧el.length=n∧
       (∀(i:Nat) (x:AV),el[i]? =some x→x.cells.length=te.sz)∧mE el te.sz b6:=fun ρ aR w0=>by
       obtain ⟨zv,z1,z2,z3,z4,_,z5⟩:=iR (hE _ _ ci) hz w0;have go: ∀(w:World) (G:J) (φ :af) (A:ah),_:=fun w G φ A=>nY (w:=w) (G:=G) (φ := φ) (A:=A) hcnd.2 _ _ (List.replicate n zA) ((Array.range (n*te.sz)).map (fun k=>zv.cells[k % zv.cells.size]!)) _ (lM (_E:=C.E) (parts ρ aR w G φ A)).1 (lM (_E:=C.E) (parts ρ aR w G φ A)).2
        (by simp) (fun i x hx=>by
         simp only [List.getElem?_replicate] at hx;split at hx
         ·simp only [Option.some.injEq] at hx;subst hx;rw [z3,z4]
         ·simp at hx)
        (fun i x j y v hx hy hv=>by
         simp only [List.getElem?_replicate] at hx;split at hx
         ·rename_i hi;simp only [Option.some.injEq] at hx;subst hx;rw [z3] at hy;have hj:j<te.sz:=by rw [←z4];exact (List.getElem?_eq_some_iff.1 hy).1
          have:=z5 w A j y v hy (kx z2 hi hj hv);exact ⟨.fr _ _ this.1,this.2⟩
         ·simp at hx) bO
       obtain ⟨b6,f1,f2,f3,f4,f5⟩:=go w0 ⟨0,[]⟩ (fun _=>none) (fun _=>False);refine ⟨zv,b6,z1,f1,f2,by rw [f3];simp,f4,by rw [f2];exact Nat.le_refl _,fun i x j y v hx hy hv=>⟨fun w G φ A=> ?_,(f5 i x j y v hx hy hv).2⟩⟩
       obtain ⟨Bw,g1,_,_,_,g5⟩:=go w G φ A;rw [f1] at g1;simp only [Option.some.injEq] at g1;subst g1;exact (g5 i x j y v hx hy hv).1
      obtain ⟨_,_,_,_,_,hlen,y7,_⟩:=fill (fun o=>match o with| .const v=>v|_=>undef) (fun _=>rfl) default
      refine ⟨te.sz,el,fun id ad=> .ref id ad 0 n,fun c=> .slice (some ⟨c,0,none⟩) n n,⟨fun X q th o' s' H K ho h=> ?_,y7,fun w G φ A id ad c hg hv aU hb=> ?_⟩,fun a w=> ?_⟩
      ·obtain ⟨dst,op,ty,pos,after,guard⟩:=o';simp only at ho;subst ho;unfold wpOp at h;simp only [aO,if_neg hn,bh,hz,if_pos hcnd,y6 s' s,bO] at h
       exact h.2
      ·exact jG hg hv aU (by simp [hlen]) (Nat.le_refl _) (by simp [hlen]) (by rw [←hlen];exact hb)
      ·obtain ⟨zv,b6,z1,f1,f2,_,_,kY⟩:=fill a.eval (fun _=>rfl) w;have il:=(hE _ _ ht).sl w hu;have aM: ¬(n*te.sz=0):=by
        intro h0;rcases Nat.mul_eq_zero.1 h0 with h0|h0<;>omega
       have n0: ¬(n*te.sz>2^24):=by omega
       refine ⟨b6,e,?_,kY⟩;show ((do pure (.value (←Instr.buildSlice t n (ps.map fun (i,x)=>(i,a.eval x)))):Sem Next).run P w)=_
       simp only [Instr.buildSlice,Sem.run_bind,il,Result.andThen_ok,(hE _ _ ci).sizeOf,n0,aM,if_false,z1,f1,Sem.run_pure,newRow,run_newObj,World.alloc_eq]
    ·rw [if_neg hcnd] at h;exact h.2.elim
 |_=>simp [iO] at he
structure mF (w0 w:World) (φ :af) (A:ah) (el:List AV) (sz n:Nat):Prop where
 old:w0.heap.size≤n
 lt:n<w.heap.size
 av:A n
 ow: ¬Ow φ n
 here: ∃arr T fr,w.heap[n]? =some (.cells arr T fr)∧(∀j,j<arr.size→ ¬(fr.1≤j∧j<fr.2))∧mE el sz arr
theorem mF.mono {w0 w w' :World} {G G' :J} {φ aj:af} {A A' :ah} {el:List AV} {sz n:Nat} (h:mF w0 w φ A el sz n) (o:Out w G φ A w' G' aj A'):mF w0 w' aj A' el sz n:=by
 refine ⟨h.old,Nat.lt_of_lt_of_le h.lt o.post.size,o.keep n h.av h.ow,fun hw=> ?_,?_⟩
 ·rcases o.post.own n hw with k|k
  ·exact h.ow k
  ·have:=h.lt;omega
 ·rw [o.post.kept n h.lt h.ow];exact h.here
def jh (C:aH) (ops:Array Oper) (aA:List Nat) (w0 w:World) (φ :af) (A:ah) (a:Act) (j n:Nat):Prop:=
 j∉aA∧ ∃(o:Oper) (d:Tmp) (sz:Nat) (el:List AV) (x:Nat→Nat→AV) (uv:Nat→Value),ops[j]? =some o∧o.guard=none∧o.dst=some d∧pw C o.op sz el x uv∧mF w0 w φ A el sz n∧
  ∀u,a.tmps[d]? =some u→u=uv n
theorem jh.mono {C:aH} {ops:Array Oper} {aA:List Nat} {w0 w w' :World} {G G' :J} {φ aj:af} {A A' :ah} {a a' :Act} {j n:Nat} (h:jh C ops aA w0 w φ A a j n) (o:Out w G φ A w' G' aj A')
 (ht: ∀(r:Oper) (d:Tmp),ops[j]? =some r→r.dst=some d→a'.tmps[d]? =a.tmps[d]?):jh C ops aA w0 w' aj A' a' j n:=by
 obtain ⟨h0,r,d,sz,el,x,uv,h1,h2,h4,h5,h7,h8⟩:=h;exact ⟨h0,r,d,sz,el,x,uv,h1,h2,h4,h5,h7.mono o,fun u hu=>h8 u (by rw [←ht r d h1 h4];exact hu)⟩
structure Inv (C:aH) (ops:Array Oper) (aA:List Nat) (s:Nat→ak) (H:Nat→J) (v:Nat→AV) (w0:World) (aB:af) (A0:ah) (listed:Array Bool) (a:Act) (w:World) (b c:Nat) (φ :af) (A:ah) (pn:Nat→Nat):Prop where
 size:listed.size=ops.size
 shut:rY ops (fun i=>listed.getD i false=true)
 bc:b≤c
 cn:c≤ops.size
 cl:c=ops.size∨c∈aA
 hG: ∀i,b≤i→i<c→i∉aA
 iD: ∀i,i∈aA→i<ops.size→(listed.getD i false=true↔i<b)
 base:b=0∨(b-1∈aA∧0<b)
 out:Out w0 (H 0) aB A0 w (H c) φ A
 none: ∀i,b≤i→i<c→listed.getD i false=false→ ∀id,(H i).bs.length≤id→id<(H (i+1)).bs.length→ φ id=none
 ez:a.defers=[]
 len:(s 0).length=a.tmps.size
 wr: ∀(k:Nat) (o:Oper) (d:Tmp) (u:Value),ops[k]? =some o→o.dst=some d→listed.getD k false=true→k<c→a.tmps[d]? =some u→R w (H c) φ A (v k) u
 early: ∀(k:Nat),c≤k→listed.getD k false=true→jh C ops aA w0 w φ A a k (pn k)
 mG: ∀(j k:Nat),c≤j→c≤k→listed.getD j false=true→listed.getD k false=true→pn j=pn k→j=k
 un: ∀(x:Tmp) (u:Value),(∀(k:Nat) (o:Oper),ops[k]? =some o→o.dst=some x→listed.getD k false=false)→a.tmps[x]? =some u→R w (H c) φ A ((s 0).getD x .undef) u
theorem mH {listed:Array Bool} {i:Nat} (hi:i<listed.size) (k:Nat):(listed.setIfInBounds i true).getD k false=true↔(k=i∨listed.getD k false=true):=by
 by_cases hk:k=i
 ·subst hk;simp [hi]
 ·rw [getD_set_ne false (fun h=>hk h.symm)];simp [hk]
variable {w0:World} {aB:af} {A0:ah} {listed:Array Bool} {a:Act} {w:World} {b c:Nat} {φ :af} {A:ah} {pn:Nat→Nat}
theorem Inv.look (inv:Inv C ops aA s H v w0 aB A0 listed a w b c φ A pn) (dk:gZ ops aA) (t:iC X C ops aA th K s H v act) {i:Nat} {o:Oper} (fI:i≤c) (ho:ops[i]? =some o) (hu:listed.getD i false=false) (ha: ∀e∈o.after,Region.binds .any e=true→listed.getD e.on false=true)
 {m:Nat} (hm:m≤ops.size) (r7:i≤m) (iE:m=i∨ ∀(k:Nat) (r:Oper) (d:Tmp),ops[k]? =some r→r.dst=some d→i≤k→d∉Oper.looksAt ops o) {x:Tmp} (hx:x∈Oper.looksAt ops o):R w (H c) φ A (ev (s m) (.tmp x)) (a.eval (.tmp x)):=by
 obtain ⟨hl,hg⟩:=mD dk t m hm;simp only [ev,Act.eval];by_cases ax:x<(s 0).length
 ·have y8:x<a.tmps.size:=by rw [←inv.len];exact ax
  have aK:=Array.getElem?_eq_getElem y8
  rw [Array.getD_eq_getD_getElem?,aK,Option.getD_some];by_cases hw: ∃(k:Nat) (r:Oper),ops[k]? =some r∧r.dst=some x
  ·obtain ⟨k,r,hk,hr⟩:=hw;rcases Nat.lt_trichotomy k i with bP|bP|bP
   ·have hb:=dk.ord i k o r x (by omega) ho hk hr hx
    rw [show max i k=i by omega,show min i k=k by omega] at hb
    have bJ:=mB inv.shut dk.back i o ho ha k hb;rw [(hg x ax).1 k r (by omega) hk hr]
    exact inv.wr k r x _ hk hr bJ (by omega) aK
   ·subst bP;rw [ho] at hk;simp only [Option.some.injEq] at hk;subst hk;rcases iE with rfl|iE
    ·rw [(hg x ax).2 (fun k' o' bE eg=>dk.gk k' m o' o x (by omega) eg ho hr)]
     refine inv.un x _ (fun k' o' eg bY=> ?_) aK
     by_cases kZ:k' =m
     ·subst kZ;exact hu
     ·exact absurd bY (dk.gk k' m o' o x kZ eg ho hr)
    ·exact absurd hx (iE k o x ho hr (Nat.le_refl _))
   ·rcases iE with rfl|iE
    ·have hb:=dk.ord m k o r x (by omega) ho hk hr hx
     rw [show max m k=k by omega,show min m k=m by omega] at hb
     have y9:listed.getD k false=false:=by
      cases hq:listed.getD k false with
      |false=>rfl
      |true=>
       have:=mB inv.shut dk.back k r hk (inv.shut k r hk hq) m hb;rw [hu] at this;simp at this
     rw [(hg x ax).2 (fun k' o' bE eg=>dk.gk k' k o' r x (by omega) eg hk hr)]
     refine inv.un x _ (fun k' o' eg bY=> ?_) aK
     by_cases kZ:k' =k
     ·subst kZ;exact y9
     ·exact absurd bY (dk.gk k' k o' r x kZ eg hk hr)
    ·exact absurd hx (iE k r x hk hr (by omega))
  ·rw [(hg x ax).2 (fun k' o' _ eg bY=>hw ⟨k',o',eg,bY⟩)]
   exact inv.un x _ (fun k' o' eg bY=>absurd ⟨k',o',eg,bY⟩ hw) aK
 ·have:(s m).getD x .undef= .undef:=by simp [List.getD,List.getElem?_eq_none (show (s m).length≤x by rw [hl];exact Nat.le_of_not_lt ax)]
  rw [this];exact .fr _ _ (.undef _)
theorem Inv.px (inv:Inv C ops aA s H v w0 aB A0 listed a w b c φ A pn) (dk:gZ ops aA) (t:iC X C ops aA th K s H v act) {i:Nat} {o:Oper} (fI:i≤c) (ho:ops[i]? =some o) (hu:listed.getD i false=false) (ha: ∀e∈o.after,Region.binds .any e=true→listed.getD e.on false=true)
 {m:Nat} (hm:m≤ops.size) (r7:i≤m) (iE:m=i∨ ∀(k:Nat) (r:Oper) (d:Tmp),ops[k]? =some r→r.dst=some d→i≤k→d∉Oper.looksAt ops o): ∀y∈o.op.operands,R w (H c) φ A (ev (s m) y) (a.eval y):=by
 intro y hy;cases y with
 |tmp x=>
  refine inv.look dk t fI ho hu ha hm r7 iE ?_;unfold Oper.looksAt;refine List.mem_append.2 (.inl (List.mem_filterMap.2 ⟨.tmp x,by simpa using hy,rfl⟩))
 |const v=>exact .fr _ _ (FR.ofValue w A v)
 |global g=>exact .fr _ _ (.undef _)
 |func f=>exact .fr _ _ (.fn f [] #[] rfl (by simp))
theorem Inv.jT (inv:Inv C ops aA s H v w0 aB A0 listed a w b c φ A pn) (cO:St w0 (H 0) aB A0) (dk:gZ ops aA) (t:iC X C ops aA th K s H v act) {i:Nat} {o:Oper} (fI:i<c) (ho:ops[i]? =some o) (hl:i∉aA) (ha: ∀e∈o.after,Region.binds .any e=true→listed.getD e.on false=true)
 {u:Value} {w' :World} {φ1:af} {A1:ah} (bG:Out w (H c) φ A w' (H c) φ1 A1) (hr: ∀d,o.dst=some d→d<a.tmps.size→R w' (H c) φ1 A1 (v i) u)
 (bm: ∀id loc,φ1 id=some loc→ φ id=some loc∨(b≤i∧i<c∧(H i).bs.length≤id∧id<(H (i+1)).bs.length)):Inv C ops aA s H v w0 aB A0 (listed.setIfInBounds i true) (a.put o.dst u) w' b c φ1 A1 pn:=by
 have hi:i<ops.size:=(Array.getElem?_eq_some_iff.1 ho).1;have az:i<listed.size:=by rw [inv.size];exact hi
 have bK:=mH az;have ji: ∀k,(listed.setIfInBounds i true).getD k false=false→k≠i∧listed.getD k false=false:=fun k hk=>by
  have:=(not_congr (bK k)).1 (by rw [hk];simp)
  refine ⟨fun h=>this (.inl h),?_⟩;cases hq:listed.getD k false with
  |false=>rfl
  |true=>exact absurd (.inr hq) this
 refine ⟨by simp [inv.size],fun k r hk bJ e he hb=> ?_,inv.bc,inv.cn,inv.cl,inv.hG,fun k hk k9=> ?_,inv.base,inv.out.trans cO bG,fun k h1 h2 h3 id h4 h5=> ?_,?_,?_,fun k r d u' hk bZ bJ dR aK=> ?_,fun k jj bJ=> ?_,fun j k hj hk iF bJ hp=>inv.mG j k hj hk (((bK j).1 iF).resolve_left (by omega)) (((bK k).1 bJ).resolve_left (by omega)) hp,fun x u' eL aK=> ?_⟩
 ·rcases (bK k).1 bJ with rfl|bJ
  ·rw [ho] at hk;simp only [Option.some.injEq] at hk;subst hk;exact (bK _).2 (.inr (ha e he hb))
  ·exact (bK _).2 (.inr (inv.shut k r hk bJ e he hb))
 ·rw [bK,←inv.iD k hk k9];constructor
  ·rintro (rfl|h)
   ·exact absurd hk hl
   ·exact h
  ·exact .inr
 ·obtain ⟨bP,bJ⟩:=ji k h3;have k_:=inv.cn;cases hq: φ1 id with
  |none=>rfl
  |some loc=>
   rcases bm id loc hq with h|⟨h6,h7,h8,h9⟩
   ·rw [inv.none k h1 h2 bJ id h4 h5] at h;simp at h
   ·exfalso;rcases Nat.lt_or_ge k i with ax|y_
    ·have:=(g_ t (i-(k+1)) (k+1) (by omega) (fun j j1 j2=>inv.hG j (by omega) (by omega))).1.2
     rw [show k+1+(i-(k+1))=i by omega] at this
     omega
    ·have:=(g_ t (k-(i+1)) (i+1) (by omega) (fun j j1 j2=>inv.hG j (by omega) (by omega))).1.2
     rw [show i+1+(k-(i+1))=k by omega] at this
     omega
 ·cases hd:o.dst<;>simp [Act.put,inv.ez]
 ·cases hd:o.dst<;>simp [Act.put,inv.len]
 ·by_cases bP:k=i
  ·subst bP;rw [ho] at hk;simp only [Option.some.injEq] at hk;subst hk;rw [bZ] at aK;simp only [Act.put,Array.getElem?_setIfInBounds] at aK;simp only [if_true] at aK;split at aK
   ·rename_i ax;simp only [Option.some.injEq] at aK;subst aK;exact hr d bZ ax
   ·simp at aK
  ·have bJ:=((bK k).1 bJ).resolve_left bP;have aM:o.dst≠some d:=dk.gk i k o r d (fun h=>bP h.symm) ho hk bZ;have:a.tmps[d]? =some u' :=by
    cases hd:o.dst with
    |none=>rw [hd] at aK;exact aK
    |some d' =>
     rw [hd] at aK;simp only [Act.put,Array.getElem?_setIfInBounds] at aK;rw [if_neg (by rintro rfl;exact aM hd)] at aK
     exact aK
   exact (inv.wr k r d u' hk bZ bJ dR this).mono bG.bM
 ·have bP:k≠i:=by omega
  refine (inv.early k jj (((bK k).1 bJ).resolve_left bP)).mono bG fun r d hk bZ=> ?_
  have aM:o.dst≠some d:=dk.gk i k o r d (fun h=>bP h.symm) ho hk bZ;cases hd:o.dst with
  |none=>rfl
  |some d' =>
   simp only [Act.put,Array.getElem?_setIfInBounds];rw [if_neg (by rintro rfl;exact aM hd)]
 ·have aM:o.dst≠some x:=fun hd=>by have:=eL i o ho hd;have h2:=(bK i).2 (.inl rfl);rw [this] at h2;simp at h2
  have:a.tmps[x]? =some u' :=by
   cases hd:o.dst with
   |none=>rw [hd] at aK;exact aK
   |some d' =>
    rw [hd] at aK;simp only [Act.put,Array.getElem?_setIfInBounds] at aK;rw [if_neg (by rintro rfl;exact aM hd)] at aK
    exact aK
  exact (inv.un x u' (fun k r hk bZ=>(ji k (eL k r hk bZ)).2) this).mono bG.bM
theorem za {w:World} {G:J} {φ :af} {A:ah} (ae:St w G φ A) (o:Obj):Out w G φ A (w.alloc o) G φ (fun c=>A c∨c=w.heap.size):=by
 have aP:bF w G φ A (w.alloc o) G φ (fun c=>A c∨c=w.heap.size):=⟨fun c a t fr hc hn=>⟨⟨fr,by rw [heap_alloc_old w _ (dO hc)];exact hc⟩,fun h=>by have:=dO hc;rcases h with h|h;exact hn h;omega⟩,Nat.le_refl _,
  fun i b' aw _=>⟨b',aw,rfl,rfl,rfl,rfl,fun loc hl=>hl⟩,fun c hc=>by unfold aY;rw [heap_alloc_old w _ (Ow.lt ae hc)]⟩
 refine ⟨⟨ae.inj,fun c hc=> .inl (ae.own c hc),fun c hc=> ?_,fun i loc hl=> ?_⟩,
  ⟨rfl,rfl,rfl,by simp,fun c hc _=>heap_alloc_old w _ hc,fun c hc=>by unfold aY;rw [heap_alloc_old w _ hc],fun c hc=> .inl hc⟩,aP,fun c hc _=> .inl hc⟩
 ·simp only [World.size_alloc];rcases hc with h|h
  ·have:=ae.bV c h;omega
  ·omega
 obtain ⟨b',cy,aw⟩:=ae.ap i loc hl;refine ⟨b',cy,aw.ad,aw.sized,aw.aN,fun c b0 h=> ?_⟩;obtain ⟨a,t,fr,h1,h2,h3,h4⟩:=aw.here c b0 h;exact ⟨a,t,fr,by rw [heap_alloc_old w _ (dO h1)];exact h1,h2,h3,fun i x j y v hx hy hv=>⟨(h4 i x j y v hx hy hv).1.mono aP,(h4 i x j y v hx hy hv).2⟩⟩
theorem Inv.zb (inv:Inv C ops aA s H v w0 aB A0 listed a w b c φ A pn) (cO:St w0 (H 0) aB A0) (dk:gZ ops aA) {i:Nat} {o:Oper} (Bx:c≤i) (ho:ops[i]? =some o) (By:listed.getD i false=false) (hl:i∉aA) (hg:o.guard=Option.none) {d:Tmp} (hd:o.dst=some d)
 {sz:Nat} {el:List AV} {x:Nat→Nat→AV} {uv:Nat→Value} (bn:pw C o.op sz el x uv) (ha: ∀e∈o.after,Region.binds .any e=true→listed.getD e.on false=true) {arr:Array Value} {T:TypeId} (kY:mE el sz arr):
 Inv C ops aA s H v w0 aB A0 (listed.setIfInBounds i true) (a.put o.dst (uv w.heap.size)) (w.alloc (.cells arr T)) b c φ (fun k=>A k∨k=w.heap.size) (fun k=>if k=i then w.heap.size else pn k):=by
 have hi:i<ops.size:=(Array.getElem?_eq_some_iff.1 ho).1;have zd:i<listed.size:=by rw [inv.size];exact hi
 have bK:=mH zd;have bG:=za inv.out.st (.cells arr T);have ji: ∀k,(listed.setIfInBounds i true).getD k false=false→k≠i∧listed.getD k false=false:=fun k hk=>by
  have:=(not_congr (bK k)).1 (by rw [hk];simp)
  refine ⟨fun h=>this (.inl h),?_⟩;cases hq:listed.getD k false with
  |false=>rfl
  |true=>exact absurd (.inr hq) this
 have jV: ∀(x:Tmp),o.dst≠some x→(a.put o.dst (uv w.heap.size)).tmps[x]? =a.tmps[x]? :=fun x aM=>by
  rw [hd] at aM⊢;simp only [Act.put,Array.getElem?_setIfInBounds];rw [if_neg (by rintro rfl;exact aM rfl)]
 refine ⟨by simp [inv.size],fun k r hk bJ e he hb=> ?_,inv.bc,inv.cn,inv.cl,inv.hG,fun k hk k9=> ?_,inv.base,inv.out.trans cO bG,fun k h1 h2 h3 id h4 h5=>inv.none k h1 h2 (ji k h3).2 id h4 h5,?_,?_,fun k r d' u' hk bZ bJ dR aK=> ?_,fun k jj bJ=> ?_,fun j k hj hk iF bJ hp=> ?_,fun x u' eL aK=> ?_⟩
 ·rcases (bK k).1 bJ with rfl|bJ
  ·rw [ho] at hk;simp only [Option.some.injEq] at hk;subst hk;exact (bK _).2 (.inr (ha e he hb))
  ·exact (bK _).2 (.inr (inv.shut k r hk bJ e he hb))
 ·rw [bK,←inv.iD k hk k9];constructor
  ·rintro (rfl|h)
   ·exact absurd hk hl
   ·exact h
  ·exact .inr
 ·rw [hd];simp [Act.put,inv.ez]
 ·rw [hd];simp [Act.put,inv.len]
 ·have bP:k≠i:=by omega
  have aM:o.dst≠some d' :=dk.gk i k o r d' (fun h=>bP h.symm) ho hk bZ
  rw [jV d' aM] at aK
  exact (inv.wr k r d' u' hk bZ (((bK k).1 bJ).resolve_left bP) dR aK).mono bG.bM
 ·by_cases bP:k=i
  ·subst bP;simp only [if_true];refine ⟨hl,o,d,sz,el,x,uv,ho,hg,hd,bn,⟨inv.out.post.size,by simp,.inr rfl,fun h=>by have:=Ow.lt inv.out.st h;omega,arr,T,(0,0),heap_alloc_new w _,fun j _ h=>absurd h.2 (Nat.not_lt_zero j),kY⟩,fun u hu=> ?_⟩
   rw [hd] at hu;simp only [Act.put,Array.getElem?_setIfInBounds,if_true] at hu;split at hu
   ·simpa using hu.symm
   ·simp at hu
  ·simp only [if_neg bP];exact (inv.early k jj (((bK k).1 bJ).resolve_left bP)).mono bG fun r d' hk bZ=>jV d' (dk.gk i k o r d' (fun h=>bP h.symm) ho hk bZ)
 ·have one: ∀k,c≤k→(listed.setIfInBounds i true).getD k false=true→k≠i→pn k≠w.heap.size:=fun k jj bJ bP he=>by
   obtain ⟨_,_,_,_,_,_,_,_,_,_,_,hp,_⟩:=inv.early k jj (((bK k).1 bJ).resolve_left bP);have:=hp.lt;omega
  by_cases jW:j=i
  ·by_cases bP:k=i
   ·rw [jW,bP]
   ·simp only [jW,if_true,if_neg bP] at hp;exact absurd hp.symm (one k hk bJ bP)
  ·by_cases bP:k=i
   ·simp only [bP,if_true,if_neg jW] at hp;exact absurd hp (one j hj iF jW)
   ·simp only [if_neg jW,if_neg bP] at hp;exact inv.mG j k hj hk (((bK j).1 iF).resolve_left jW) (((bK k).1 bJ).resolve_left bP) hp
 ·have aM:o.dst≠some x:=fun hd=>by have:=eL i o ho hd;have h2:=(bK i).2 (.inl rfl);rw [this] at h2;simp at h2
  rw [jV x aM] at aK;exact (inv.un x u' (fun k r hk bZ=>(ji k (eL k r hk bZ)).2) aK).mono bG.bM
theorem fill (t:iC X C ops aA th K s H v act) (cO:St w0 (H 0) aB A0) {lst:Nat→Prop} {lo hi:Nat} (hq: ∀j,lo≤j→j≤hi→QG (H j) (H hi)) (hlen: ∀j k,lo≤j→j≤k→k≤hi→(H j).bs.length≤(H k).bs.length)
 (hinj: ∀j k,lo≤j→lo≤k→lst j→lst k→pn j=pn k→j=k) (bG:Out w0 (H 0) aB A0 w (H hi) φ A) (hE: ∀j,lo≤j→lst j→jh C ops aA w0 w φ A a j (pn j)) (gS: ∀id,(H lo).bs.length≤id→ φ id=none):
 ∀m,lo≤m→m≤hi→ ∃a_,Out w0 (H 0) aB A0 w (H hi) a_ A∧bF w (H hi) φ A w (H hi) a_ A∧(∀j,lo≤j→j<m→lst j→ ∀(o:Oper) (d:Tmp) (u:Value),ops[j]? =some o→o.dst=some d→a.tmps[d]? =some u→R w (H hi) a_ A (v j) u)∧
  (∀id loc,a_ id=some loc→ φ id=some loc∨ ∃j,lo≤j∧j<m∧lst j∧(H j).bs.length≤id∧id<(H (j+1)).bs.length)∧(∀j,m≤j→lst j→jh C ops aA w0 w a_ A a j (pn j)):=by
 intro m hm;obtain ⟨k,rfl⟩:=Nat.exists_eq_add_of_le hm;clear hm;induction k with
 |zero=>exact fun _=>⟨φ,bG,.refl _ _ _ _,fun j h1 h2=>by omega,fun id loc h=> .inl h,hE⟩
 |succ k ih=>
  intro r8;obtain ⟨a_,k1,k2,k3,k4,k5⟩:=ih (by omega)
  rw [show lo+(k+1)=lo+k+1 by omega] at r8⊢
  have hm:lo≤lo+k:=Nat.le_add_right _ _;generalize lo+k=m at hm r8 k3 k4 k5⊢;by_cases hL:lst m
  ·obtain ⟨gn,o,d,sz,el,x,uv,e1,e2,e4,e5,hp,hu⟩:=k5 m (Nat.le_refl _) hL;obtain ⟨_,s2,s3,_,_⟩:=t.step m o (by rw [Array.getElem?_toList];exact e1)
   have eM:act m=true:=by
    simp only [dl,e2,Option.some.injEq] at s2;exact s2.symm
   have hw:=s3 eM;obtain ⟨hv,hH⟩:v m=x (H m).bs.length (H m).st∧H (m+1)=(H m).new sz false el:=by
    have:=e5.ev _ _ _ _ _ _ _ rfl hw;exact ⟨this.1.symm,this.2.symm⟩
   have cG:=hq (m+1) (by omega) (by omega)
   have hb:(H hi).get (H m).bs.length=some ⟨(H m).st,sz,false,el⟩:=by
    refine cG.1.1.1 _ _ ?_;rw [hH];simp [J.get,J.new]
   have bI:(H m).st<(H hi).st:=by
    have:=cG.1.1.2;rw [hH] at this;exact this
   have aU:a_ (H m).bs.length=none:=by
    cases hc:a_ (H m).bs.length with
    |none=>rfl
    |some loc=>
     exfalso;rcases k4 _ _ hc with h|⟨j,h1,h2,_,_,h4⟩
     ·rw [gS _ (hlen lo m (Nat.le_refl _) hm (by omega))] at h;simp at h
     ·have:=hlen (j+1) m (by omega) (by omega) (by omega)
      omega
   obtain ⟨arr,T,fr,h1,h2,h3,h5⟩:=hp.here
   let cP:af:=fun i=>if i=(H m).bs.length then some (.at_ (pn m) 0) else a_ i
   have dD: ∀c,Ow cP c→Ow a_ c∨c=pn m:=by
    rintro c ⟨i,b0,h⟩;simp only [cP] at h;split at h
    ·simp only [Option.some.injEq,Loc.at_.injEq] at h;exact .inr h.1.symm
    ·exact .inl ⟨i,b0,h⟩
   have aP:bF w (H hi) a_ A w (H hi) cP A:=by
    refine ⟨fun c a t fr hc hn=>⟨⟨fr,hc⟩,hn⟩,Nat.le_refl _,fun i b' aw _=>⟨b',aw,rfl,rfl,rfl,rfl,fun loc hl=> ?_⟩,fun _ _=>rfl⟩
    simp only [cP];split
    ·rename_i h;subst h;rw [aU] at hl;simp at hl
    ·exact hl
   have la:St w (H hi) cP A:=by
    refine ⟨fun i i' c b0 b1 h1 h2=> ?_,fun c hc=> ?_,k1.st.bV,fun i loc hl=> ?_⟩
    ·simp only [cP] at h1 h2;split at h1
     ·rename_i fc;split at h2
      ·rename_i Bz;omega
      ·simp only [Option.some.injEq,Loc.at_.injEq] at h1;exact absurd ⟨i',b1,by rw [h1.1];exact h2⟩ hp.ow
     ·split at h2
      ·simp only [Option.some.injEq,Loc.at_.injEq] at h2;exact absurd ⟨i,b0,by rw [h2.1];exact h1⟩ hp.ow
      ·exact k1.st.inj i i' c b0 b1 h1 h2
    ·rcases dD c hc with h|h
     ·exact k1.st.own c h
     ·rw [h];exact hp.av
    ·simp only [cP] at hl;split at hl
     ·rename_i fc;subst fc;simp only [Option.some.injEq] at hl;subst hl;refine ⟨_,hb,bI,e5.y4,by simp,fun c b0 h=> ?_⟩
      simp only [Loc.at_.injEq] at h;obtain ⟨rfl,rfl⟩:=h;refine ⟨arr,T,fr,h1,h2,by rw [Nat.zero_add];exact h3,fun i x j y v hx hy hv=> ?_⟩
      rw [Nat.zero_add] at hv;obtain ⟨g1,g2⟩:=h5 i x j y v hx hy hv;exact ⟨g1 _ _ _ _,g2⟩
     ·obtain ⟨b',cy,aw⟩:=k1.st.ap i loc hl;refine ⟨b',cy,aw.ad,aw.sized,aw.aN,fun c b0 h=> ?_⟩;obtain ⟨a,t,fr,h1,h2,h3,h4⟩:=aw.here c b0 h;exact ⟨a,t,fr,h1,h2,h3,fun i x j y v hx hy hv=>⟨(h4 i x j y v hx hy hv).1.mono aP,(h4 i x j y v hx hy hv).2⟩⟩
   have ze:Out w0 (H 0) aB A0 w (H hi) cP A:=by
    refine ⟨la,⟨k1.post.os,k1.post.tape,k1.post.output,k1.post.size,k1.post.kept,k1.post.aY,fun c hc=> ?_⟩,k1.bM.trans aP (fun c hc=>k1.post.aY c (Ow.lt cO hc)),k1.keep⟩;rcases dD c hc with h|h
    ·exact k1.post.own c h
    ·right;rw [h];exact hp.old
   refine ⟨cP,ze,k2.trans aP (fun _ _=>rfl),fun j j1 j2 j3 o' d' u' q1 q2 q3=> ?_,fun id loc h=> ?_,fun j j1 j2=> ?_⟩
   ·by_cases py:j=m
    ·subst py;rw [e1] at q1;simp only [Option.some.injEq] at q1;subst q1;rw [e4] at q2;simp only [Option.some.injEq] at q2;subst q2;rw [hu u' q3,hv]
     exact e5.rel _ _ _ _ _ _ _ hb bI (by simp [cP]) (by unfold aY;rw [h1];exact h3)
    ·exact (k3 j j1 (by omega) j3 o' d' u' q1 q2 q3).mono aP
   ·simp only [cP] at h;split at h
    ·rename_i bN;refine .inr ⟨m,hm,Nat.lt_succ_self _,hL,by omega,?_⟩
     rw [hH];simp [J.new];omega
    ·rcases k4 id loc h with h|⟨j,q1,q2,q3⟩
     ·exact .inl h
     ·exact .inr ⟨j,q1,by omega,q3⟩
   ·obtain ⟨g0,r,d',zf,ga,x',zg,g1,g2,g4,g5,g7,g8⟩:=k5 j (by omega) j2
    refine ⟨g0,r,d',zf,ga,x',zg,g1,g2,g4,g5,⟨g7.old,g7.lt,g7.av,fun h=> ?_,g7.here⟩,g8⟩;rcases dD _ h with h|h
    ·exact g7.ow h
    ·have:=hinj j m (by omega) hm j2 hL h
     omega
  ·refine ⟨a_,k1,k2,fun j j1 j2 j3=> ?_,fun id loc h=> ?_,fun j j1 j2=>k5 j (by omega) j2⟩
   ·by_cases py:j=m
    ·subst py;exact absurd j3 hL
    ·exact k3 j j1 (by omega) j3
   ·rcases k4 id loc h with h|⟨j,q1,q2,q3⟩
    ·exact .inl h
    ·exact .inr ⟨j,q1,by omega,q3⟩
end draw
end Go.VS
namespace Go.VS
section draw
variable {P:Program} {C:aH} {X:bq} {ops:Array Oper} {aA:List Nat} {th:List Nat} {K:ak→J→Prop} {s:Nat→ak} {H:Nat→J} {v:Nat→AV} {act:Nat→Bool}
variable {w0:World} {aB:af} {A0:ah} {listed:Array Bool} {a:Act} {w:World} {b c:Nat} {φ :af} {A:ah} {pn:Nat→Nat}
theorem Inv.zh (inv:Inv C ops aA s H v w0 aB A0 listed a w b c φ A pn) (dk:gZ ops aA) {i:Nat} {o:Oper} (ho:ops[i]? =some o) (ha: ∀e∈o.after,Region.binds .any e=true→listed.getD e.on false=true):i≤c∨(i∉aA∧o.guard=Option.none∧iO o.op=true∧ ∃d,o.dst=some d):=by
 rcases Nat.lt_or_ge c i with h|h
 ·have hi:i<ops.size:=(Array.getElem?_eq_some_iff.1 ho).1;rcases inv.cl with hc|hc
  ·omega
  ·have zi:=Array.getElem?_eq_getElem (xs:=ops) (show c<ops.size by omega)
   rcases dk.after c i _ o zi ho hc h with hb|hb
   ·exfalso;have hL:=mB inv.shut dk.back i o ho ha c hb;have:=(inv.iD c hc (by omega)).1 hL
    have:=inv.bc;omega
   ·exact .inr hb
 ·exact .inl h
theorem Inv.r9 (inv:Inv C ops aA s H v w0 aB A0 listed a w b c φ A pn) (cO:St w0 (H 0) aB A0) (dk:gZ ops aA) (t:iC X C ops aA th K s H v act) {o:Oper} (ho:ops[c]? =some o) (hl:c∈aA) (ha: ∀e∈o.after,Region.binds .any e=true→listed.getD e.on false=true)
 {u:Value} {w' :World} {φ1:af} {A1:ah} (bG:Out w (H c) φ A w' (H (c+1)) φ1 A1) (hr:R w' (H (c+1)) φ1 A1 (v c) u): ∃c' a_,Inv C ops aA s H v w0 aB A0 (listed.setIfInBounds c true) (a.put o.dst u) w' (c+1) c' a_ A1 pn:=by
 have hi:c<ops.size:=(Array.getElem?_eq_some_iff.1 ho).1;have az:c<listed.size:=by rw [inv.size];exact hi
 have bK:=mH az;have zj:=inv.bc;have BA:listed.getD c false=false:=by
  cases hq:listed.getD c false with
  |false=>rfl
  |true=>have:=(inv.iD c hl hi).1 hq;omega
 have ji: ∀k,(listed.setIfInBounds c true).getD k false=false→k≠c∧listed.getD k false=false:=fun k hk=>by
  have:=(not_congr (bK k)).1 (by rw [hk];simp)
  refine ⟨fun h=>this (.inl h),?_⟩;cases hq:listed.getD k false with
  |false=>rfl
  |true=>exact absurd (.inr hq) this
 have jV: ∀(k:Nat) (r:Oper) (d:Tmp),k≠c→ops[k]? =some r→r.dst=some d→(a.put o.dst u).tmps[d]? =a.tmps[d]? :=fun k r d dR hk bZ=>by
  have aM:o.dst≠some d:=dk.gk c k o r d (fun h=>dR h.symm) ho hk bZ;cases hd:o.dst with
  |none=>rfl
  |some d' =>
   simp only [Act.put,Array.getElem?_setIfInBounds];rw [if_neg (by rintro rfl;exact aM hd)]
 obtain ⟨c',k1,k2,k3,k4⟩:=pv aA ops.size (ops.size-(c+1)) (c+1) rfl (by omega)
 have hQ: ∀j k,c+1≤j→j≤k→k≤c' →QG (H j) (H k):=fun j k h1 h2 h3=>by
  have:=g_ t (k-j) j (by omega) (fun i i1 i2=>k4 i (by omega) (by omega))
  rwa [show j+(k-j)=k by omega] at this
 have gp:=hQ (c+1) c' (Nat.le_refl _) k1 (Nat.le_refl _)
 have hlen: ∀j k,c+1≤j→j≤k→k≤c' →(H j).bs.length≤(H k).bs.length:=fun j k h1 h2 h3=>(hQ j k h1 h2 h3).1.2
 have hex:=iY bG.st gp.1.1 gp.2;have aP:=bG.bM.trans hex.bM (fun k hk=>by rw [(bG.post.trans hex.post).aY k (Ow.lt inv.out.st hk)])
 have hE: ∀j,c+1≤j→(listed.setIfInBounds c true).getD j false=true→jh C ops aA w0 w' φ1 A1 (a.put o.dst u) j (pn j):=fun j hj hL=>
  (inv.early j (by omega) (((bK j).1 hL).resolve_left (by omega))).mono bG fun r d hk bZ=>jV j r d (by omega) hk bZ
 obtain ⟨a_,o2,pz,r2,m2,e2⟩:=fill (lst:=fun j=>(listed.setIfInBounds c true).getD j false=true) t cO (fun j h1 h2=>hQ j c' h1 h2 (Nat.le_refl _)) hlen
  (fun j k hj hk iF bJ hp=>inv.mG j k (by omega) (by omega) (((bK j).1 iF).resolve_left (by omega)) (((bK k).1 bJ).resolve_left (by omega)) hp) ((inv.out.trans cO bG).trans cO hex) hE (fun id h=>bG.st.new h) c' k1 (Nat.le_refl _)
 refine ⟨c',a_,by simp [inv.size],fun k r hk bJ e he hb=> ?_,k1,k2,k3,k4,fun k hk k9=> ?_,.inr ⟨by simpa using hl,Nat.succ_pos _⟩,o2,fun k h1 h2 h3 id h4 h5=> ?_,?_,?_,fun k r d u' hk bZ bJ zk aK=> ?_,fun k jj bJ=>e2 k jj bJ,
  fun j k hj hk iF bJ hp=>inv.mG j k (by omega) (by omega) (((bK j).1 iF).resolve_left (by omega)) (((bK k).1 bJ).resolve_left (by omega)) hp,fun x u' eL aK=> ?_⟩
 ·by_cases dR:k=c
  ·subst dR;rw [ho] at hk;simp only [Option.some.injEq] at hk;subst hk;exact (bK _).2 (.inr (ha e he hb))
  ·exact (bK _).2 (.inr (inv.shut k r hk (((bK k).1 bJ).resolve_left dR) e he hb))
 ·rw [bK,inv.iD k hk k9];constructor
  ·rintro (h|h)<;>omega
  ·intro h;by_cases dR:k=c
   ·exact .inl dR
   ·right;rcases Nat.lt_or_ge k b with h' |h'
    ·exact h'
    ·exact absurd hk (inv.hG k h' (by omega))
 ·cases hp:a_ id with
  |none=>rfl
  |some loc=>
   exfalso;rcases m2 id loc hp with h|⟨j,j1,j2,j3,j4,j5⟩
   ·rw [bG.st.new (Nat.le_trans (hlen (c+1) k (Nat.le_refl _) h1 (by omega)) h4)] at h;simp at h
   ·have:j=k:=by
     rcases Nat.lt_trichotomy j k with h|h|h
     ·have:=hlen (j+1) k (by omega) (by omega) (by omega);omega
     ·exact h
     ·have:=hlen (k+1) j (by omega) (by omega) (by omega);omega
    subst this;rw [h3] at j3;simp at j3
 ·cases hd:o.dst<;>simp [Act.put,inv.ez]
 ·cases hd:o.dst<;>simp [Act.put,inv.len]
 ·by_cases bP:k=c
  ·subst bP;rw [ho] at hk;simp only [Option.some.injEq] at hk;subst hk;rw [bZ] at aK;simp only [Act.put,Array.getElem?_setIfInBounds] at aK;simp only [if_true] at aK;split at aK
   ·rename_i ax;simp only [Option.some.injEq] at aK;subst aK;exact (hr.mono hex.bM).mono pz
   ·simp at aK
  ·rcases Nat.lt_or_ge k c with ax|y_
   ·rw [jV k r d bP hk bZ] at aK;exact ((inv.wr k r d u' hk bZ (((bK k).1 bJ).resolve_left bP) ax aK).mono aP).mono pz
   ·exact r2 k (by omega) zk bJ r d u' hk bZ aK
 ·have aM:o.dst≠some x:=fun hd=>by have:=eL c o ho hd;have h2:=(bK c).2 (.inl rfl);rw [this] at h2;simp at h2
  have:a.tmps[x]? =some u' :=by
   cases hd:o.dst with
   |none=>rw [hd] at aK;exact aK
   |some d' =>
    rw [hd] at aK;simp only [Act.put,Array.getElem?_setIfInBounds] at aK;rw [if_neg (by rintro rfl;exact aM hd)] at aK
    exact aK
  exact ((inv.un x u' (fun k r hk bZ=>(ji k (eL k r hk bZ)).2) this).mono aP).mono pz
theorem zl {op:Op} (h:gG op=true) (hc: ∀c,op≠ .call c):dC op=true:=by
 cases op<;>first|rfl|exact absurd rfl (hc _)|(simp [gG] at h)
theorem zm {X:bq} {C:aH} {th:Bool} {o:Oper} {s:ak} {H H' :J} {x:AV} (hl:gG o.op=true) (h:jz C.E o.op s H=some (x,H')):wpOp X C true th o s H (fun v1 H1=>v1=x∧H1=H'):=by
 unfold wpOp;split
 ·rename_i b args tys bn;rw [bn] at hl h;cases b<;>first|(simp [gG] at hl;done)|skip
  simp only [jz] at h;rw [h];exact ⟨fun _=>rfl,rfl,rfl⟩
 ·rename_i y args tys bn;rw [bn] at hl;simp [gG] at hl
 ·rename_i h1 h2;have hc: ∀c,o.op≠ .call c:=by
   rintro ⟨zn,args,tys⟩ bn;rw [bn] at hl;cases zn with
   |builtin b=>exact h1 _ _ _ bn
   |value f=>exact h2 _ _ _ bn
   |_=>simp [gG] at hl
  have he:jz C.E o.op s H=aO C.E o.op s H:=by
   revert hc;generalize o.op=op;intro hc;cases op<;>first|rfl|exact absurd rfl (hc _)
  rw [he] at h;rw [h];exact ⟨fun _=>zl hl hc,rfl,rfl⟩
def left (ops:Array Oper) (listed:Array Bool):Nat:=((List.range ops.size).filter fun k=> !listed.getD k false).length
theorem zo {ops:Array Oper} {listed:Array Bool} {i:Nat} (hs:listed.size=ops.size) (hi:i<ops.size) (hu:listed.getD i false=false):left ops (listed.setIfInBounds i true)<left ops listed:=by
 have bK:=mH (listed:=listed) (i:=i) (by omega)
 have he:((List.range ops.size).filter fun k=> !(listed.setIfInBounds i true).getD k false)=(((List.range ops.size).filter fun k=> !listed.getD k false).filter fun k=> !(listed.setIfInBounds i true).getD k false):=by
  rw [List.filter_filter];refine List.filter_congr fun k _=> ?_;cases hq:(listed.setIfInBounds i true).getD k false with
  |true=>simp
  |false=>
   have:listed.getD k false=false:=by
    cases mI:listed.getD k false with
    |false=>rfl
    |true=>rw [(bK k).2 (.inr mI)] at hq;simp at hq
   simp only [this,Bool.not_false,Bool.and_self]
 unfold left;rw [he];refine List.length_filter_lt_length_iff_exists.2 ⟨i,List.mem_filter.2 ⟨List.mem_range.2 hi,by rw [hu];rfl⟩,?_⟩
 rw [(bK i).2 (.inl rfl)];simp
theorem zp (hE: ∀t ti,C.E t=some ti→aQ P t ti) (hX: ∀f ys H K,X f ys H K→b_ P f ys H K) (dk:gZ ops aA) (t:iC X C ops aA th K s H v act) (cO:St w0 (H 0) aB A0) {Q:Exit→Act→World→Prop}
 (hq: ∀s' H' aj A' a' w',Out w0 (H 0) aB A0 w' H' aj A' →SF w' H' aj A' s' a' →K s' H' →Q .normal a' w'):
 ∀(fuel:Nat) (listed:Array Bool) (a:Act) (w:World) (b c:Nat) (φ :af) (A:ah) (pn:Nat→Nat),Inv C ops aA s H v w0 aB A0 listed a w b c φ A pn→left ops listed≤fuel→wpAny P .any ops Q fuel listed a w:=by
 have done: ∀(listed:Array Bool) (a:Act) (w:World) (b c:Nat) (φ :af) (A:ah) (pn:Nat→Nat),Inv C ops aA s H v w0 aB A0 listed a w b c φ A pn→Region.ready .any ops listed=[]→Q .normal a w:=by
  intro listed a w b c φ A pn inv hr;have all: ∀k,k<ops.size→listed.getD k false=true:=by
   intro k;induction k using Nat.strongRecOn with
   |_ k ih=>
    intro hk;cases hq:listed.getD k false with
    |true=>rfl
    |false=>
     exfalso;have ho:=Array.getElem?_eq_getElem (xs:=ops) hk;have:k∈Region.ready .any ops listed:=mem_ready.2 ⟨getD_in (by rw [inv.size];exact hk) hq,_,ho,fun e he hb=>by
      have ax:=dk.back k _ ho e he hb;exact ih e.on ax (by omega)⟩
     rw [hr] at this;cases this
  have k_:c=ops.size:=by
   rcases inv.cl with h|h
   ·exact h
   ·rcases Nat.lt_or_ge c ops.size with h' |h'
    ·have:=(inv.iD c h h').1 (all c h');have:=inv.bc;omega
    ·have:=inv.cn;omega
  obtain ⟨hl,hg⟩:=mD dk t ops.size (Nat.le_refl _);have r_:=t.fin;rw [Array.length_toList] at r_;have bG:=inv.out;rw [k_] at bG;refine hq (s ops.size) (H ops.size) φ A a w bG ⟨by rw [hl,inv.len],fun x y u hx hu=> ?_,inv.ez⟩ r_
  have cj:x<(s 0).length:=by rw [←hl];exact (List.getElem?_eq_some_iff.1 hx).1
  have hy:(s ops.size).getD x .undef=y:=by simp [List.getD,hx]
  by_cases hw: ∃(k:Nat) (r:Oper),ops[k]? =some r∧r.dst=some x
  ·obtain ⟨k,r,hk,hr⟩:=hw;have sa:k<ops.size:=(Array.getElem?_eq_some_iff.1 hk).1;rw [(hg x cj).1 k r sa hk hr] at hy;subst hy;have:=inv.wr k r x u hk hr (all k sa) (by omega) hu
   rw [k_] at this;exact this
  ·rw [(hg x cj).2 (fun k' o' _ eg bY=>hw ⟨k',o',eg,bY⟩)] at hy
   subst hy;have:=inv.un x u (fun k' o' eg bY=>absurd ⟨k',o',eg,bY⟩ hw) hu
   rw [k_] at this;exact this
 intro fuel;induction fuel with
 |zero=>
  intro listed a w b c φ A pn inv hle;have hr:Region.ready .any ops listed=[]:=by
   cases hq:Region.ready .any ops listed with
   |nil=>rfl
   |cons i rs=>
    exfalso;have hm:i∈Region.ready .any ops listed:=by rw [hq];simp
    obtain ⟨hu,o,ho,_⟩:=mem_ready.1 hm;have hi:i<ops.size:=(Array.getElem?_eq_some_iff.1 ho).1;have:i∈((List.range ops.size).filter fun k=> !listed.getD k false):=List.mem_filter.2 ⟨List.mem_range.2 hi,by rw [getD_both hu];rfl⟩
    have:=List.length_pos_of_mem this;unfold left at hle;omega
  exact ⟨hr,done listed a w b c φ A pn inv hr⟩
 |succ fuel ih=>
  intro listed a w b c φ A pn inv hle;refine ⟨done listed a w b c φ A pn inv,fun i hi=> ?_⟩;obtain ⟨il,o,ho,ha⟩:=mem_ready.1 hi;have hu:=getD_both il;have cu:i<ops.size:=(Array.getElem?_eq_some_iff.1 ho).1;have BB:=zo inv.size cu hu;have jk:=inv.zh dk ho ha;obtain ⟨st1,st2,mJ,sb,BC⟩:=t.step i o (by rw [Array.getElem?_toList];exact ho)
  rw [Nat.zero_add] at mJ;by_cases sd:i≤c
  case neg=>
   obtain ⟨gn,hg,he,d,hd⟩:=jk.resolve_left sd;have eM:act i=true:=by
    simp only [dl,hg,Option.some.injEq] at st2;exact st2.symm
   obtain ⟨sz,el,x,uv,bn,cK⟩:=y5 hE he (mJ eM);obtain ⟨arr,T,cK,kY⟩:=cK a w;unfold Go.wpOp;rw [ho];simp only;have hw:Region.wanted o (yielded ops a.tmps)=true:=by simp [Region.wanted,hg]
   rw [if_pos hw];refine .inl ?_;show o.upon P a _ Q _;rw [cK];exact ih _ _ _ _ _ _ _ _ (inv.zb cO dk (by omega) ho hu gn hg hd bn ha kY) (by omega)
  replace jk:=sd;unfold Go.wpOp;rw [ho];simp only;by_cases fJ:i∈aA
  ·
   have fI:i=c:=by
    rcases Nat.lt_or_ge i c with h|h
    ·exfalso;have hb: ¬i<b:=fun h=>by have:=(inv.iD i fJ cu).2 h;rw [hu] at this;simp at this
     exact inv.hG i (by omega) h fJ
    ·omega
   subst fI;have bn:=inv.px dk t jk ho hu ha (m:=i) (by omega) (Nat.le_refl _) (.inl rfl)
   have hw:=pf (H:=H i) (φ := φ) (A:=A) (w:=w) (s:=s i) (a:=a) (fun j want x hg hx=>inv.look dk t jk ho hu ha (m:=i) (by omega) (Nat.le_refl _) (.inl rfl) (by
    unfold Oper.looksAt;refine List.mem_append.2 (.inr ?_);rw [hg];simp only;rw [hx];simp)) st2
   cases eM:act i with
   |true=>
    rw [eM] at hw;rw [if_pos hw];have h3:=mJ eM;rw [show (!aA.contains i)=false by simpa using fJ] at h3
    refine .inl (mm hE hX inv.out.st bn h3 fun x u w' H' aj A' k1 k2 k3=> ?_)
    obtain ⟨rfl,rfl⟩:=k3;obtain ⟨c',a_,pA⟩:=inv.r9 cO dk t ho fJ ha k1 k2;exact ih _ _ _ _ _ _ _ _ pA (by omega)
   |false=>
    rw [eM] at hw;rw [if_neg (by rw [hw];simp)]
    obtain ⟨h4,h5⟩:=sb eM;obtain ⟨c',a_,pA⟩:=inv.r9 cO dk t ho fJ ha (u:=undef) (w' :=w) (φ1:= φ) (A1:=A) (by rw [h5];exact .refl inv.out.st) (by rw [h4];exact .fr _ _ (.ay [] #[] rfl (by simp)))
    exact ih _ _ _ _ _ _ _ _ pA (by omega)
  ·have fI:i<c:=by
    rcases Nat.lt_or_ge i c with h|h
    ·exact h
    ·have:i=c:=by omega
     subst this;rcases inv.cl with h' |h'
     ·omega
     ·exact absurd h' fJ
   have k_:=inv.cn;rcases Nat.lt_or_ge i b with mK|mK
   ·
    obtain ⟨mL,iu⟩:b-1∈aA∧0<b:=by
     rcases inv.base with h|h
     ·omega
     ·exact h
    have zj:=inv.bc;have mM:=Array.getElem?_eq_getElem (xs:=ops) (show b-1<ops.size by omega)
    have zq:=(inv.iD (b-1) mL (by omega)).2 (by omega)
    have se:i<b-1:=by
     rcases Nat.lt_or_ge i (b-1) with h|h
     ·exact h
     ·have:i=b-1:=by omega
      subst this;exact absurd mL fJ
    have sf:((eT ops.toList).getD (b-1) 0).testBit i=false:=by
     cases hq:((eT ops.toList).getD (b-1) 0).testBit i with
     |false=>rfl
     |true=>
      have:=mB inv.shut dk.back (b-1) _ mM (inv.shut (b-1) _ mM zq) i hq;rw [hu] at this;simp at this
    obtain ⟨_,hg,dw,⟨d,hd⟩,zr⟩:=dk.late (b-1) i _ o mM ho mL se sf
    obtain ⟨_,_,_,_,sg⟩:=t.step (b-1) _ (by rw [Array.getElem?_toList];exact mM)
    rw [Nat.zero_add,show b-1+1=b by omega] at sg
    have mN:=sg i (by
     unfold fm;rw [if_pos (by simpa using mL)]
     exact List.mem_filter.2 ⟨List.mem_range.2 se,by rw [sf];rfl⟩)
    unfold jA at mN;rw [ho] at mN;simp only [hd] at mN;have bn:=inv.px dk t jk ho hu ha (m:=b) (by omega) (by omega) (.inr zr)
    have gp:=g_ t (c-b) b (by omega) (fun k h1 h2=>inv.hG k h1 (by omega))
    rw [show b+(c-b)=c by omega] at gp
    have hw:Region.wanted o (yielded ops a.tmps)=true:=by simp [Region.wanted,hg]
    rw [if_pos hw];refine .inl (VS.jT (th:=false) hE hX inv.out.st bn gp.1.1 ⟨gp.1.1,fun id h1 h2=>absurd h2 (Nat.not_lt.2 h1)⟩ (zm dw mN) fun u w' aj A' k1 k2 k3=> ?_)
    refine ih _ _ _ _ _ _ _ _ (inv.jT cO dk t fI ho fJ ha k1 (fun d' bY ax=> ?_) (fun id loc h=> ?_)) (by omega)
    ·rw [hd] at bY;simp only [Option.some.injEq] at bY;subst bY;rw [←((mD dk t b (by omega)).2 d (by rw [inv.len];exact ax)).1 i o mK ho hd]
     exact k2
    ·rcases k3 id loc h with h|⟨h1,h2⟩
     ·exact .inl h
     ·omega
   ·
    have bn:=inv.px dk t jk ho hu ha (m:=i) (by omega) (Nat.le_refl _) (.inl rfl)
    have hw:=pf (H:=H c) (φ := φ) (A:=A) (w:=w) (s:=s i) (a:=a) (fun j want x hg hx=>inv.look dk t jk ho hu ha (m:=i) (by omega) (Nat.le_refl _) (.inl rfl) (by
     unfold Oper.looksAt;refine List.mem_append.2 (.inr ?_);rw [hg];simp only;rw [hx];simp)) st2
    cases eM:act i with
    |true=>
     rw [eM] at hw;rw [if_pos hw];have h3:=mJ eM;have gn:(!aA.contains i)=true:=by simpa using fJ
     rw [gn] at h3;have gX:=g_ t (c-i) i (by omega) (fun k h1 h2=>inv.hG k (by omega) (by omega))
     rw [show i+(c-i)=c by omega] at gX
     have mI:=g_ t (c-(i+1)) (i+1) (by omega) (fun k h1 h2=>inv.hG k (by omega) (by omega))
     rw [show i+1+(c-(i+1))=c by omega] at mI
     refine .inl (VS.jT hE hX inv.out.st bn gX.1.1 ⟨mI.1.1,fun id h1 h2=>inv.none i mK fI hu id h1 h2⟩ h3 fun u w' aj A' k1 k2 k3=> ?_)
     refine ih _ _ _ _ _ _ _ _ (inv.jT cO dk t fI ho fJ ha k1 (fun d' _ _=>k2) (fun id loc h=> ?_)) (by omega)
     rcases k3 id loc h with h|h
     ·exact .inl h
     ·exact .inr ⟨mK,fI,h⟩
    |false=>
     rw [eM] at hw;rw [if_neg (by rw [hw];simp)]
     obtain ⟨h4,h5⟩:=sb eM;refine ih _ _ _ _ _ _ _ _ (inv.jT cO dk t fI ho fJ ha (.refl inv.out.st) (fun d' _ _=>by rw [h4];exact .fr _ _ (.ay [] #[] rfl (by simp))) (fun id loc h=> .inl h)) (by omega)
theorem si (dc:Exact X) (_hm:P.follows .mixedOrders=true) (hE: ∀t ti,C.E t=some ti→aQ P t ti) (hX: ∀f ys H K,X f ys H K→b_ P f ys H K):mu P C X:=by
 intro ops aA th s0 H0 K Q w φ A a hd h ae hs hq;have dk:=y2 hd;obtain ⟨s,H,v,act,rfl,rfl,t⟩:=rV dc ops.toList 0 s0 H0 h;have aP:bF w (H 0) φ A {w with drawn:=w.drawn+1} (H 0) φ A:=⟨fun c arr T fr hc hn=>⟨⟨fr,hc⟩,hn⟩,Nat.le_refl _,fun id b h _=>⟨b,h,rfl,rfl,rfl,rfl,fun _ h=>h⟩,fun _ _=>rfl⟩;have jl:St {w with drawn:=w.drawn+1} (H 0) φ A:=by
  refine ⟨ae.inj,ae.own,ae.bV,fun id loc hl=> ?_⟩;obtain ⟨b,hb,ag⟩:=ae.ap id loc hl;refine ⟨b,hb,ag.ad,ag.sized,ag.aN,fun c b0 he=> ?_⟩;obtain ⟨arr,T,fr,k1,k2,k3,k4⟩:=ag.here c b0 he;exact ⟨arr,T,fr,k1,k2,k3,fun i x j y v hx hy hv=>⟨(k4 i x j y v hx hy hv).1.mono aP,(k4 i x j y v hx hy hv).2⟩⟩
 have sj:Out w (H 0) φ A {w with drawn:=w.drawn+1} (H 0) φ A:=⟨jl,⟨rfl,rfl,rfl,Nat.le_refl _,fun _ _ _=>rfl,fun _ _=>rfl,fun _ h=> .inl h⟩,aP,fun _ h _=>h⟩;obtain ⟨c,k1,k2,k3,k4⟩:=pv aA ops.size (ops.size-0) 0 rfl (Nat.zero_le _);have gp:=g_ t c 0 (by omega) (fun k h1 h2=>k4 k h1 (by omega))
 rw [Nat.zero_add] at gp;have hex:=iY jl gp.1.1 gp.2;refine zp hE hX dk t ae hq ops.size _ a _ 0 c φ A (fun _=>0) ⟨by simp,fun i o ho hl=>by have c8:(Array.replicate ops.size false).getD i false=true:=hl;rw [getD_replicate_false] at c8;simp at c8,k1,k2,k3,k4,fun i _ _=>by rw [getD_replicate_false];simp,.inl rfl,sj.trans ae hex,fun i _ _ _ id h4 h5=> ?_,hs.ez,hs.len,fun k o d u _ _ hl=>by rw [getD_replicate_false] at hl;simp at hl,fun k _ hl=>by rw [getD_replicate_false] at hl;simp at hl,fun j k _ _ hl=>by rw [getD_replicate_false] at hl;simp at hl,fun x u _ hu=> ?_⟩ ?_
 ·refine ae.new ?_;rename_i h1 h2 h3;have:=(g_ t i 0 (by omega) (fun k h1 h2=>k4 k h1 (by omega))).1.2
  rw [Nat.zero_add] at this;omega
 ·have hx:=(hs.mono (sj.bM.trans hex.bM (fun _ _=>rfl))).ev (.tmp x);simp only [ev,Act.eval] at hx;rw [Array.getD_eq_getD_getElem?,hu] at hx;exact hx
 ·unfold left;exact Nat.le_trans (List.length_filter_le _ _) (by simp)
end draw
end Go.VS
namespace Go.VS
section mono
variable {X X' :bq} {C:aH} (hX: ∀f ys H (K K' :AV→J→Prop),(∀v H,K v H→K' v H)→X f ys H K→X' f ys H K')
include hX
theorem sk {f:FuncId} {args:List AV} {th:Bool} {H:J} {K K' :AV→J→Prop} (hK: ∀v H,K v H→K' v H) (h:dj X C f args th H K):dj X' C f args th H K' :=by
 unfold dj at h⊢;split at h
 ·exact h.elim
 rename_i ys bU hy;obtain ⟨y,h1,h2,h3⟩:=h;refine ⟨y,hX _ _ _ _ _ (fun _ _ h=>h) h1,h2,?_⟩;split at h3
 ·rename_i ht;rw [if_pos ht];exact hK _ _ h3
 ·rename_i ht;rw [if_neg ht];exact hK _ _ h3
theorem hI {q th:Bool} {o:Oper} {s:ak} {H:J} {K K' :AV→J→Prop} (hK: ∀v H,K v H→K' v H) (h:wpOp X C q th o s H K):wpOp X' C q th o s H K' :=by
 unfold wpOp at h⊢;split at h
 ·obtain ⟨hq,h⟩:=h;refine ⟨hq,?_⟩;split at h
  ·exact hK _ _ h
  ·exact h.elim
 ·split at h
  ·cases q with
   |true=>exact sk hX hK h
   |false=>
    rcases h with h|h
    ·exact .inl (hX _ _ _ _ _ hK h)
    ·exact .inr (sk hX hK h)
  ·exact h.elim
 ·obtain ⟨hq,h⟩:=h;refine ⟨hq,?_⟩;split at h
  ·exact hK _ _ h
  ·exact h.elim
omit hX in
theorem lb {ops:Array Oper} {s:ak} {H:J} {K K' :Prop} (hK:K→K'): ∀(l:List Nat),eS C ops s H K l→eS C ops s H K' l
 |[],h=>hK h
 |_j::js,h=>⟨h.1,lb hK js h.2⟩
theorem mO {ops:Array Oper} {q:Nat→Bool} {late:Nat→List Nat} {th:List Nat} {K K' :ak→J→Prop} (hK: ∀s H,K s H→K' s H): ∀(l:List Oper) (i:Nat) (s:ak) (H:J),cU X C ops q late th K l i s H→cU X' C ops q late th K' l i s H
 |[],i,s,H,h=>hK s H h
 |o::rest,i,s,H,h=>by
  simp only [cU] at h⊢;cases hg:o.guard with
  |none=>
   rw [hg] at h;exact hI hX (fun v H' hv=>lb (mO hK rest (i+1) _ _) _ hv) h
  |some p=>
   rw [hg] at h;obtain ⟨v,H',h1,h2⟩:=h;refine ⟨v,H',?_,lb (mO hK rest (i+1) _ _) _ h2⟩;split at h1
   ·split at h1
    ·rename_i hb;simp only [hb,if_true];exact hI hX (fun _ _ h=>h) h1
    ·rename_i hb;simp only [hb];exact h1
   ·exact h1.elim
theorem mP {ops:Array Oper} {th:List Nat} {fz:List (Nat×List (List Nat×List Sh))} {K K' :ak→J→Prop} (hK: ∀s H,K s H→K' s H): ∀(l:List Oper) (i:Nat) (s:ak) (H:J),cJ X C ops th fz K l i s H→cJ X' C ops th fz K' l i s H
 |[],i,s,H,h=>hK s H h
 |o::rest,i,s,H,h=>by
  simp only [cJ] at h⊢;obtain ⟨s1,H1,hf,h⟩:=h;refine ⟨s1,H1,hf,?_⟩;cases hg:o.guard with
  |none=>
   rw [hg] at h;exact hI hX (fun v H' hv=>mP hK rest (i+1) _ _ hv) h
  |some p=>
   rw [hg] at h;obtain ⟨v,H',h1,h2⟩:=h;refine ⟨v,H',?_,mP hK rest (i+1) _ _ h2⟩;split at h1
   ·split at h1
    ·rename_i hb;simp only [hb,if_true];exact hI hX (fun _ _ h=>h) h1
    ·rename_i hb;simp only [hb];exact h1
   ·exact h1.elim
theorem ei: ∀(c:AC) (s:ak) (H:J) (K K' :Ex→ak→J→Prop),(∀e s H,K e s H→K' e s H)→aJ X C c s H K→aJ X' C c s H K' :=by
 intro c;induction c with
 |skip=>intro s H K K' hK h;exact hK _ _ _ h
 |ret=>intro s H K K' hK h;exact hK _ _ _ h
 |exit id=>intro s H K K' hK h;exact hK _ _ _ h
 |seq a b fK fL=>
  intro s H K K' hK h
  simp only [aJ] at h⊢;refine fK s H _ _ (fun e s' H' h=> ?_) h
  cases e with
  |normal=>exact fL s' H' K K' hK h
  |exit id=>exact hK _ _ _ h
  |ret=>exact hK _ _ _ h
 |cond c a b fK fL=>
  intro s H K K' hK h
  simp only [aJ] at h⊢;split at h
  ·split at h
   ·rename_i hb;simp only [hb,if_true];exact fK s H K K' hK h
   ·rename_i hb;simp only [hb];exact fL s H K K' hK h
  ·exact h.elim
 |block id keep a ih=>
  intro s H K K' hK h
  simp only [aJ] at h⊢;refine ih s H _ _ (fun e s' H' h=> ?_) h
  cases e with
  |normal=>exact hK _ _ _ h
  |ret=>exact hK _ _ _ h
  |exit j=>
   simp only at h⊢;split at h
   ·rename_i hj;rw [if_pos hj];exact hK _ _ _ h
   ·rename_i hj;rw [if_neg hj];exact hK _ _ _ h
 |loop sp a ih=>
  intro s H K K' hK h
  simp only [aJ] at h⊢;intro Y hY;refine h Y fun s' H' hB=>hY s' H' (ih s' H' _ _ (fun e s2 H2 h=> ?_) hB)
  cases e with
  |normal=>exact h
  |exit id=>exact hK _ _ _ h
  |ret=>exact hK _ _ _ h
 |region id ops draw aA th fz=>
  intro s H K K' hK h
  cases draw with
  |true=>
   simp only [aJ] at h⊢;exact ⟨h.1,mO hX (fun s H h=>hK _ s H h) _ _ _ _ h.2⟩
  |false=>
   simp only [aJ] at h⊢;exact mP hX (fun s H h=>hK _ s H h) _ _ _ _ h
 |gE l kp=>
  intro s H K K' hK h
  simp only [aJ] at h⊢;split at h
  ·exact hK _ _ _ h
  ·exact h
 |bad=>intro s H K K' hK h;exact h
end mono
def Up (X:bq):Prop:= ∀f ys H (K K' :AV→J→Prop),(∀v H,K v H→K' v H)→X f ys H K→X f ys H K'
theorem iN.round {X:bq} (hU:Up X) {C:aH} {c:AC} {next:ak→J→ak×J} {K:Ex→ak→J→Prop} {s:ak} {H:J}
 (h:aJ X C c s H (fun e s' H' =>match e with
  | .normal=>iN (aJ X C c) next K (next s' H').1 (next s' H').2
  |e=>K e s' H')):iN (aJ X C c) next K s H:=by
 intro Y hY;refine hY s H (ei hU c s H _ _ (fun e s' H' h=> ?_) h)
 cases e with
 |normal=>exact h Y hY
 |exit id=>exact h
 |ret=>exact h
theorem sm {X:bq} {C:aH} (hU:Up X) (dc:Exact X) {ops:Array Oper} {q:Nat→Bool} {late:Nat→List Nat} {th:List Nat} {K:ak→J→Prop}: ∀(l:List Oper) (i:Nat) (s:ak) (H:J),cU X C ops q late th K l i s H→ ∃s' H',cU X C ops q late th (fun s1 H1=>s1=s' ∧H1=H') l i s H∧K s' H'
 |[],i,s,H,h=>⟨s,H,⟨rfl,rfl⟩,h⟩
 |o::rest,i,s,H,h=>by
  have sn: ∀(ls:List Nat) (s1:ak) (H1:J),eS C ops s1 H1 (cU X C ops q late th K rest (i+1) s1 H1) ls→ ∃s' H',eS C ops s1 H1 (cU X C ops q late th (fun s1 H1=>s1=s' ∧H1=H') rest (i+1) s1 H1) ls∧K s' H' :=by
   intro ls s1 H1 h;obtain ⟨h1,h2⟩:=mA _ _ _ _ _ _ h;obtain ⟨s',H',h3,h4⟩:=sm hU dc rest (i+1) s1 H1 h2;refine ⟨s',H',?_,h4⟩;clear h h2 h4;induction ls with
   |nil=>exact h3
   |cons j js ih=>exact ⟨h1 j (by simp),ih fun k hk=>h1 k (by simp [hk])⟩
  simp only [cU] at h⊢;cases hg:o.guard with
  |none=>
   rw [hg] at h;simp only at h⊢;obtain ⟨v,H1,h1,h2⟩:=kV dc h;obtain ⟨s',H',h3,h4⟩:=sn _ _ _ h2;exact ⟨s',H',hI hU (fun v1 H2 e=>by obtain ⟨rfl,rfl⟩:=e;exact h3) h1,h4⟩
  |some p=>
   rw [hg] at h;simp only at h⊢;obtain ⟨v,H1,h1,h2⟩:=h;obtain ⟨s',H',h3,h4⟩:=sn _ _ _ h2;exact ⟨s',H',⟨v,H1,h1,h3⟩,h4⟩
theorem pB {X:bq} {C:aH} (hU:Up X) (dc:Exact X) {ops:Array Oper} {th:List Nat} {fz:List (Nat×List (List Nat×List Sh))} {K:ak→J→Prop}: ∀(l:List Oper) (i:Nat) (s:ak) (H:J),cJ X C ops th fz K l i s H→ ∃s' H',cJ X C ops th fz (fun s1 H1=>s1=s' ∧H1=H') l i s H∧K s' H'
 |[],i,s,H,h=>⟨s,H,⟨rfl,rfl⟩,h⟩
 |o::rest,i,s,H,h=>by
  simp only [cJ] at h⊢;obtain ⟨s0,H0,hf,h⟩:=h;cases hg:o.guard with
  |none=>
   rw [hg] at h;simp only at h⊢;obtain ⟨v,H1,h1,h2⟩:=kV dc h;obtain ⟨s',H',h3,h4⟩:=pB hU dc rest (i+1) _ _ h2;exact ⟨s',H',⟨s0,H0,hf,hI hU (fun v1 H2 e=>by obtain ⟨rfl,rfl⟩:=e;exact h3) h1⟩,h4⟩
  |some p=>
   rw [hg] at h;simp only at h⊢;obtain ⟨v,H1,h1,h2⟩:=h;obtain ⟨s',H',h3,h4⟩:=pB hU dc rest (i+1) _ _ h2;exact ⟨s',H',⟨s0,H0,hf,v,H1,h1,h3⟩,h4⟩
theorem zt {X:bq} {C:aH} (hU:Up X) (dc:Exact X): ∀(c:AC) (s:ak) (H:J) (K:Ex→ak→J→Prop),aJ X C c s H K→ ∃e s' H',aJ X C c s H (fun e1 s1 H1=>e1=e∧s1=s' ∧H1=H')∧K e s' H' :=by
 intro c;induction c with
 |skip=>intro s H K h;exact ⟨_,_,_,⟨rfl,rfl,rfl⟩,h⟩
 |ret=>intro s H K h;exact ⟨_,_,_,⟨rfl,rfl,rfl⟩,h⟩
 |exit id=>intro s H K h;exact ⟨_,_,_,⟨rfl,rfl,rfl⟩,h⟩
 |seq a b fK fL=>
  intro s H K h;simp only [aJ] at h⊢;obtain ⟨e,s1,H1,h1,h2⟩:=fK s H _ h;cases e with
  |normal=>
   obtain ⟨e,s2,H2,h3,h4⟩:=fL s1 H1 K h2;exact ⟨e,s2,H2,ei hU a s H _ _ (fun e1 s' H' q=>by obtain ⟨rfl,rfl,rfl⟩:=q;exact h3) h1,h4⟩
  |exit id=>exact ⟨.exit id,s1,H1,ei hU a s H _ _ (fun e1 s' H' q=>by obtain ⟨rfl,rfl,rfl⟩:=q;exact ⟨rfl,rfl,rfl⟩) h1,h2⟩
  |ret=>exact ⟨.ret,s1,H1,ei hU a s H _ _ (fun e1 s' H' q=>by obtain ⟨rfl,rfl,rfl⟩:=q;exact ⟨rfl,rfl,rfl⟩) h1,h2⟩
 |cond c a b fK fL=>
  intro s H K h;simp only [aJ] at h⊢;split at h
  ·split at h
   ·rename_i hb;simp only [hb,if_true];exact fK s H K h
   ·rename_i hb;simp only [hb];exact fL s H K h
  ·exact h.elim
 |block id keep a ih=>
  intro s H K h;simp only [aJ] at h⊢;obtain ⟨e,s1,H1,h1,h2⟩:=ih s H _ h;cases e with
  |normal=>exact ⟨.normal,ep keep s1,H1,ei hU a s H _ _ (fun e1 s' H' q=>by obtain ⟨rfl,rfl,rfl⟩:=q;exact ⟨rfl,rfl,rfl⟩) h1,h2⟩
  |ret=>exact ⟨.ret,s1,H1,ei hU a s H _ _ (fun e1 s' H' q=>by obtain ⟨rfl,rfl,rfl⟩:=q;exact ⟨rfl,rfl,rfl⟩) h1,h2⟩
  |exit j=>
   simp only at h2;split at h2
   ·rename_i hj;exact ⟨.normal,ep keep s1,H1,ei hU a s H _ _ (fun e1 s' H' q=>by obtain ⟨rfl,rfl,rfl⟩:=q;simp [hj]) h1,h2⟩
   ·rename_i hj;exact ⟨.exit j,s1,H1,ei hU a s H _ _ (fun e1 s' H' q=>by obtain ⟨rfl,rfl,rfl⟩:=q;simp [hj]) h1,h2⟩
 |loop sp a ih=>
  intro s H K h;simp only [aJ] at h⊢;refine h (fun s1 H1=> ∃e s' H',iN (aJ X C a) (gH sp H.bs.length) (fun e1 s2 H2=>e1=e∧s2=s' ∧H2=H') s1 H1∧K e s' H') fun s1 H1 hB=> ?_
  obtain ⟨e,s2,H2,h1,h2⟩:=ih s1 H1 _ hB;cases e with
  |normal=>
   obtain ⟨e,s',H',h3,h4⟩:=h2;exact ⟨e,s',H',.round hU (ei hU a s1 H1 _ _ (fun e1 s' H' q=>by obtain ⟨rfl,rfl,rfl⟩:=q;exact h3) h1),h4⟩
  |exit id=>exact ⟨_,_,_,.round hU (ei hU a s1 H1 _ _ (fun e1 s' H' q=>by obtain ⟨rfl,rfl,rfl⟩:=q;exact ⟨rfl,rfl,rfl⟩) h1),h2⟩
  |ret=>exact ⟨_,_,_,.round hU (ei hU a s1 H1 _ _ (fun e1 s' H' q=>by obtain ⟨rfl,rfl,rfl⟩:=q;exact ⟨rfl,rfl,rfl⟩) h1),h2⟩
 |region id ops draw aA th fz=>
  intro s H K h;cases draw with
  |true=>
   simp only [aJ] at h⊢;obtain ⟨s',H',h1,h2⟩:=sm hU dc _ _ _ _ h.2;exact ⟨.normal,s',H',⟨h.1,mO hU (fun s H q=>⟨rfl,q⟩) _ _ _ _ h1⟩,h2⟩
  |false=>
   simp only [aJ] at h⊢;obtain ⟨s',H',h1,h2⟩:=pB hU dc _ _ _ _ h;exact ⟨.normal,s',H',mP hU (fun s H q=>⟨rfl,q⟩) _ _ _ _ h1,h2⟩
 |gE l kp=>
  intro s H K h;simp only [aJ] at h⊢;split at h
  ·rename_i s' H' he;exact ⟨_,_,_,⟨rfl,rfl,rfl⟩,h⟩
  ·exact h.elim
 |bad=>intro s H K h;exact h.elim
theorem er.mono {E:aL} {res:List ResultVar} {K K' :AV→J→Prop} (hK: ∀v H,K v H→K' v H): ∀e s H,er E res K e s H→er E res K' e s H
 | .normal,_,_,⟨rs,h1,h2⟩=>⟨rs,h1,hK _ _ h2⟩
 | .ret,_,_,⟨rs,h1,h2⟩=>⟨rs,h1,hK _ _ h2⟩
 | .exit _,_,_,h=>h
theorem er.exact {E:aL} {res:List ResultVar} {K:AV→J→Prop}: ∀e s H,er E res K e s H→ ∃v H',er E res (fun v1 H1=>v1=v∧H1=H') e s H∧K v H'
 | .normal,_,_,⟨rs,h1,h2⟩=>⟨_,_,⟨rs,h1,rfl,rfl⟩,h2⟩
 | .ret,_,_,⟨rs,h1,h2⟩=>⟨_,_,⟨rs,h1,rfl,rfl⟩,h2⟩
 | .exit _,_,_,h=>h.elim
theorem so {X:bq} {C:aH} (hU:Up X) (dc:Exact X) {f:FuncId} {ys:List AV} {H:J} {K:AV→J→Prop} (h:Body X C f ys H K): ∃v H',Body X C f ys H (fun v1 H1=>v1=v∧H1=H')∧K v H' :=by
 unfold Body at h⊢;split at h
 ·exact h.elim
 ·rename_i fn kj;split at h
  ·exact h.elim
  ·rename_i c hc;obtain ⟨e,s',H',h1,h2⟩:=zt hU dc _ _ _ _ h;obtain ⟨v,H2,h3,h4⟩:=er.exact _ _ _ h2;refine ⟨v,H2,?_,h4⟩;exact ei hU _ _ _ _ _ (fun e1 s1 H1 q=>by obtain ⟨rfl,rfl,rfl⟩:=q;exact h3) h1
theorem Body.mono {X X' :bq} {C:aH} (hX: ∀f ys H (K K' :AV→J→Prop),(∀v H,K v H→K' v H)→X f ys H K→X' f ys H K') {f:FuncId} {ys:List AV} {H:J} {K K' :AV→J→Prop} (hK: ∀v H,K v H→K' v H) (h:Body X C f ys H K):Body X' C f ys H K' :=by
 unfold Body at h⊢;split at h
 ·exact h.elim
 ·rename_i fn kj;split at h
  ·exact h.elim
  ·rename_i c hc;exact ei hX _ _ _ _ _ (er.mono hK) h
def mQ (C:aH):Prop:=Up C.ext
theorem au.up {C:aH} (hE:mQ C):Up (au C):=by
 intro f ys H K K' hK h
 refine h (fun f ys H K=> ∀K',(∀v H,K v H→K' v H)→au C f ys H K') ⟨fun f ys H K h K' hK X hX=>hX.1 _ _ _ _ (hE _ _ _ _ _ hK h),fun f ys H K h K' hK X hX=> ?_⟩ K' hK
 refine hX.2 _ _ _ _ (Body.mono (fun f ys H K K2 zu h=> ?_) hK h);exact h K2 zu X hX
theorem au.intro {C:aH} (hE:mQ C) {f:FuncId} {ys:List AV} {H:J} {K:AV→J→Prop} (h:Body (au C) C f ys H K):au C f ys H K:=by
 intro X hX;refine hX.2 _ _ _ _ (Body.mono (fun f ys H K K' hK hc=> ?_) (fun _ _ h=>h) h)
 exact au.up hE _ _ _ _ _ hK hc X hX
theorem au.exact {C:aH} (hE:mQ C) (hX:Exact C.ext):Exact (au C):=by
 intro f ys H K h;refine h (fun f ys H K=> ∃v H',au C f ys H (fun v1 H1=>v1=v∧H1=H')∧K v H') ⟨fun f ys H K h=> ?_,fun f ys H K h=> ?_⟩
 ·obtain ⟨v,H',h1,h2⟩:=hX _ _ _ _ h;exact ⟨v,H',fun X hX=>hX.1 _ _ _ _ h1,h2⟩
 ·obtain ⟨v,H',h1,h2⟩:=so (X:=fun f ys H K=> ∃v H',au C f ys H (fun v1 H1=>v1=v∧H1=H')∧K v H') (fun f ys H K K' hK ⟨v,H',h1,h2⟩=>⟨v,H',h1,hK _ _ h2⟩) (fun f ys H K ⟨v,H',h1,h2⟩=>⟨v,H',⟨v,H',h1,rfl,rfl⟩,h2⟩) h
  refine ⟨v,H',au.intro hE (Body.mono (fun f ys H K K' hK ⟨v,H',h1,h2⟩=> ?_) (fun _ _ h=>h) h1),h2⟩
  exact au.up hE _ _ _ _ _ (fun v1 H1 q=>by obtain ⟨rfl,rfl⟩:=q;exact hK _ _ h2) h1
theorem au.ext {C:aH} {f:FuncId} {ys:List AV} {H:J} {K:AV→J→Prop} (h:C.ext f ys H K):au C f ys H K:=fun _ hX=>hX.1 _ _ _ _ h
theorem BD {P:Program} {C:aH} (hm:P.follows .mixedOrders=true) (hE: ∀t ti,C.E t=some ti→aQ P t ti) (hC: ∀f fn,C.code f=some fn→P.funcs[f]? =some fn∧(fn.name== "runtime.NumGoroutine")=false∧ny (C.gF f) fn=true)
 (zw: ∀f ys H K,C.ext f ys H K→ ∃v H',b_ P f ys H (fun v1 H1=>v1=v∧H1=H')∧K v H')
 {f:FuncId} {ys:List AV} {H:J} {K:AV→J→Prop} (h:au C f ys H K):b_ P f ys H K:=by
 have hY: ∃v H',b_ P f ys H (fun v1 H1=>v1=v∧H1=H')∧K v H' :=by
  let Y:bq:=fun f ys H K=> ∃v H',b_ P f ys H (fun v1 H1=>v1=v∧H1=H')∧K v H'
  have sq:Exact Y:=fun f ys H K ⟨v,H',h1,h2⟩=>⟨v,H',⟨v,H',h1,rfl,rfl⟩,h2⟩;have zx:Up Y:=fun f ys H K K' hK ⟨v,H',h1,h2⟩=>⟨v,H',h1,hK _ _ h2⟩
  have ss: ∀f ys H K,Y f ys H K→b_ P f ys H K:=fun f ys H K ⟨v,H',h1,h2⟩=>h1.mono fun v1 H1 q=>by obtain ⟨rfl,rfl⟩:=q;exact h2
  refine h Y ⟨zw,fun f ys H K hb=> ?_⟩;obtain ⟨v,H',h1,h2⟩:=so zx sq hb;exact ⟨v,H',yS hm hE hC ss (si sq hm hE ss) h1,h2⟩
 obtain ⟨v,H',h1,h2⟩:=hY;exact h1.mono fun v1 H1 q=>by obtain ⟨rfl,rfl⟩:=q;exact h2
end Go.VS
namespace Go.VS
structure Good (C:aH):Prop where
 up:mQ C
 exact:Exact C.ext
def lf (C:aH) (b:AC) (K:Ex→ak→J→Prop):Ex→ak→J→Prop
 | .normal,s,H=>aJ (au C) C b s H K
 | .exit i,s,H=>K (.exit i) s H
 | .ret,s,H=>K .ret s H
def jm (id:Nat) (keep:Option (List Nat)) (K:Ex→ak→J→Prop):Ex→ak→J→Prop
 | .normal,s,H=>K .normal (ep keep s) H
 | .exit j,s,H=>if j=id then K .normal (ep keep s) H else K (.exit j) s H
 | .ret,s,H=>K .ret s H
def su (C:aH) (v:AV) (a b:AC) (s:ak) (H:J) (K:Ex→ak→J→Prop):Prop:=
 match v with
 | .bool t=>if t then aJ (au C) C a s H K else aJ (au C) C b s H K
 |_=>False
section
variable {C:aH} {K K1:Ex→ak→J→Prop} {s:ak} {H:J}
theorem BE {a b:AC} (h: ∀K1,K1=lf C b K→aJ (au C) C a s H K1):aJ (au C) C (.seq a b) s H K:=by
 have:=h _ rfl;have e:lf C b K=(fun e s' H' =>match e with| .normal=>aJ (au C) C b s' H' K|e=>K e s' H'):=by
  funext e s H;cases e<;>rfl
 rw [e] at this;exact this
theorem BF {id:Nat} {kp:Option (List Nat)} {a:AC} (h: ∀K1,K1=jm id kp K→aJ (au C) C a s H K1):aJ (au C) C (.block id kp a) s H K:=by
 have:=h _ rfl;have e:jm id kp K=(fun e s' H' =>match e with
  | .exit j=>if j=id then K .normal (ep kp s') H' else K (.exit j) s' H'
  | .normal=>K .normal (ep kp s') H'
  | .ret=>K .ret s' H'):=by funext e s H;cases e<;>rfl
 rw [e] at this;exact this
theorem BG (h:K .normal s H):aJ (au C) C .skip s H K:=h
theorem BH (h:K .ret s H):aJ (au C) C .ret s H K:=h
theorem BI {id:Nat} (h:K (.exit id) s H):aJ (au C) C (.exit id) s H K:=h
theorem BJ {c:Operand} {a b:AC} (h:su C (ev s c) a b s H K):aJ (au C) C (.cond c a b) s H K:=h
theorem BK {kp:List Nat} (h:K .normal (eo kp s) H):aJ (au C) C (.gE [] (some kp)) s H K:=h
theorem BL {b:AC} (hK:K1=lf C b K) (h:aJ (au C) C b s H K):K1 .normal s H:=by rw [hK];exact h
theorem BM {b:AC} (hK:K1=lf C b K) (h:K .ret s H):K1 .ret s H:=by rw [hK];exact h
theorem BN {b:AC} {i:Nat} (hK:K1=lf C b K) (h:K (.exit i) s H):K1 (.exit i) s H:=by rw [hK];exact h
theorem BO {id:Nat} {kp:Option (List Nat)} (hK:K1=jm id kp K) (h:K .normal (ep kp s) H):K1 .normal s H:=by rw [hK];exact h
theorem BP {id:Nat} (hK:K1=jm id none K) (h:K .normal s H):K1 .normal s H:=by rw [hK];exact h
theorem BQ {id:Nat} {kp:Option (List Nat)} (hK:K1=jm id kp K) (h:K .normal (ep kp s) H):K1 (.exit id) s H:=by rw [hK];simp only [jm,if_true];exact h
theorem BR {id:Nat} {kp:Option (List Nat)} (hK:K1=jm id kp K) (h:K .ret s H):K1 .ret s H:=by rw [hK];exact h
theorem BS {E:aL} {a:Tmp} {P:AV→J→Prop} (hK:K1=er E [.tmp a] P) {x:AV} (hx:s.getD a .undef=x) (h:P x H):K1 .ret s H:=by
 rw [hK];exact ⟨[s.getD a .undef],rfl,by rw [hx];exact h⟩
theorem BT {E:aL} {a b:Tmp} {P:AV→J→Prop} (hK:K1=er E [.tmp a,.tmp b] P) {x y:AV} (hx:s.getD a .undef=x) (hy:s.getD b .undef=y) (h:P (.ay [x,y]) H):K1 .ret s H:=by
 rw [hK];exact ⟨[s.getD a .undef,s.getD b .undef],rfl,by rw [hx,hy];exact h⟩
theorem BU {E:aL} {a b c:Tmp} {P:AV→J→Prop} (hK:K1=er E [.tmp a,.tmp b,.tmp c] P) {x y z:AV} (hx:s.getD a .undef=x) (hy:s.getD b .undef=y) (hz:s.getD c .undef=z) (h:P (.ay [x,y,z]) H):K1 .ret s H:=by
 rw [hK];exact ⟨[s.getD a .undef,s.getD b .undef,s.getD c .undef],rfl,by rw [hx,hy,hz];exact h⟩
theorem BV {E:aL} {a b c d:Tmp} {P:AV→J→Prop} (hK:K1=er E [.tmp a,.tmp b,.tmp c,.tmp d] P) {x y z u:AV} (hx:s.getD a .undef=x) (hy:s.getD b .undef=y) (hz:s.getD c .undef=z) (hu:s.getD d .undef=u) (h:P (.ay [x,y,z,u]) H):K1 .ret s H:=by
 rw [hK];exact ⟨[s.getD a .undef,s.getD b .undef,s.getD c .undef,s.getD d .undef],rfl,by rw [hx,hy,hz,hu];exact h⟩
theorem BW {α :Type} {c:Bool} {x y:Option α} {r: α} {a b:AC} (h:(bif c then x else y)=some r) (ht:c=true→x=some r→aJ (au C) C a s H K) (hf:c=false→y=some r→aJ (au C) C b s H K):su C (.bool c) a b s H K:=by
 cases c with
 |true=>exact ht rfl h
 |false=>exact hf rfl h
theorem zy {a:AC} (h:aJ (au C) C a s H K1) (hK: ∀e s H,K1 e s H→K e s H) (gC:Good C):aJ (au C) C a s H K:=ei (au.up gC.up) a s H _ _ hK h
end
structure GO where
 d:Option Tmp
 op:Op
 g:Option (Option Tmp×Bool)
 late:List (Op×Option Tmp)
 th:Bool
 q:Bool
def lk:List Oper→Nat→Option Tmp
 |[],_=>none
 |o::_,0=>o.dst
 |_::os,n+1=>lk os n
def bg (X:bq) (C:aH) (q fS:Bool) (op:Op) (s:ak) (H:J) (K:AV→J→Prop):Prop:=wpOp X C q fS ⟨none,op,0,"",#[],none⟩ s H K
theorem sw (X:bq) (C:aH) (q fS:Bool) (o:Oper) (s:ak) (H:J) (K:AV→J→Prop):wpOp X C q fS o s H K=bg X C q fS o.op s H K:=by
 cases o;rfl
def eN (C:aH) (s:ak) (H:J) (K:Prop):List (Op×Option Tmp)→Prop
 |[]=>K
 |(op,d)::js=>(∃t,d=some t∧jz C.E op s H=some (s.getD t .undef,H))∧eN C s H K js
def gW (g:Option (Option Tmp×Bool)) (s:ak) (a b:Prop):Prop:=
 match g with
 |none=>a
 |some (none,_)=>False
 |some (some t,want)=>match s.getD t .undef with
  | .bool c=>if c=want then a else b
  | .ay _=>b
  |_=>False
def dT (C:aH) (K:ak→J→Prop):List GO→ak→J→Prop
 |[],s,H=>K s H
 |o::rest,s,H=>gW o.g s (bg (au C) C o.q o.th o.op s H fun v H' =>eN C (bj s o.d v) H' (dT C K rest (bj s o.d v) H') o.late)
  (eN C (bj s o.d (.ay [])) H (dT C K rest (bj s o.d (.ay [])) H) o.late)
def jX (ops:List Oper) (j:Nat):Op×Option Tmp:=match ops[j]? with|some o=>(o.op,o.dst)|none=>(.move (.tmp 0),none)
def dL (all:List Oper) (q:Nat→Bool) (late:Nat→List Nat) (th:List Nat):List Oper→Nat→List GO
 |[],_=>[]
 |o::rest,i=>⟨o.dst,o.op,o.guard.map fun p=>(lk all p.1,p.2),(late i).map (jX all),th.contains i,q i⟩::dL all q late th rest (i+1)
theorem pC: ∀(l:List Oper) (j:Nat),lk l j=(l[j]?).bind (·.dst)
 |[],j=>by simp [lk]
 |o::os,0=>by simp [lk]
 |o::os,j+1=>by simp [lk,pC os j]
theorem pD {C:aH} {ops:Array Oper} {s:ak} {H:J} {K:Prop}: ∀(l:List Nat),eN C s H K (l.map (jX ops.toList))→eS C ops s H K l
 |[],h=>h
 |j::js,h=>by
  simp only [List.map_cons,eN] at h;refine ⟨?_,pD js h.2⟩;unfold jA;have h1:=h.1;unfold jX at h1;rw [Array.getElem?_toList] at h1;cases ho:ops[j]? with
  |none=>rw [ho] at h1;simp at h1
  |some o=>
   rw [ho] at h1;obtain ⟨t,ht,he⟩:=h1;simp only at ht he⊢;rw [ht];exact he
theorem mR {C:aH} (gC:Good C) {ops:Array Oper} {q:Nat→Bool} {late:Nat→List Nat} {th:List Nat} {K:ak→J→Prop}: ∀(l:List Oper) (i:Nat) (s:ak) (H:J),dT C K (dL ops.toList q late th l i) s H→cU (au C) C ops q late th K l i s H
 |[],i,s,H,h=>h
 |o::rest,i,s,H,h=>by
  simp only [dL,dT] at h;have yes:(bg (au C) C (q i) (th.contains i) o.op s H fun v H' =>eN C (bj s o.dst v) H' (dT C K (dL ops.toList q late th rest (i+1)) (bj s o.dst v) H') ((late i).map (jX ops.toList)))→
   wpOp (au C) C (q i) (th.contains i) o s H fun v H' =>eS C ops (bj s o.dst v) H' (cU (au C) C ops q late th K rest (i+1) (bj s o.dst v) H') (late i):=by
   intro h;rw [←sw] at h;refine hI (au.up gC.up) (fun v H' h=> ?_) h
   exact lb (mR gC rest (i+1) _ _) _ (pD _ h)
  simp only [cU];cases hg:o.guard with
  |none=>
   rw [hg] at h;simp only [Option.map_none,gW] at h⊢;exact yes h
  |some p=>
   obtain ⟨j,want⟩:=p;rw [hg] at h;simp only [Option.map_some,pC,Array.getElem?_toList] at h⊢;cases hd:(ops[j]?).bind (·.dst) with
   |none=>rw [hd] at h;exact h.elim
   |some t=>
    rw [hd] at h;simp only [gW] at h;have no:(eN C (bj s o.dst (.ay [])) H (dT C K (dL ops.toList q late th rest (i+1)) (bj s o.dst (.ay [])) H) ((late i).map (jX ops.toList)))→dl ops o s=some false→ ∃v H',(match dl ops o s with
     |some b=>if b then wpOp (au C) C (q i) (th.contains i) o s H (fun v1 H1=>v1=v∧H1=H') else v= .ay []∧H' =H
     |none=>False)∧eS C ops (bj s o.dst v) H' (cU (au C) C ops q late th K rest (i+1) (bj s o.dst v) H') (late i):=by
     intro h hb;refine ⟨.ay [],H,?_,lb (mR gC rest (i+1) _ _) _ (pD _ h)⟩;rw [hb];simp
    split at h
    ·rename_i c hc;have lg:dl ops o s=some (c==want):=by
      unfold dl;rw [hg];simp only [hd,hc]
     split at h
     ·rename_i jn;obtain ⟨v,H',h1,h2⟩:=kV (au.exact gC.up gC.exact) (yes h);refine ⟨v,H',?_,h2⟩;rw [lg,jn];simp only [beq_self_eq_true,if_true];exact h1
     ·rename_i jn;exact no h (by rw [lg];simpa using jn)
    ·rename_i hc;exact no h (by unfold dl;rw [hg];simp only [hd,hc])
    ·exact h.elim
section
variable {C:aH} {K K1:Ex→ak→J→Prop} {s:ak} {H:J}
def iG (K:Ex→ak→J→Prop):ak→J→Prop:=fun s H=>K .normal s H
theorem BX (gC:Good C) {id:Nat} {ops:List Oper} {ls th:List Nat} (h:dT C (iG K) (dL ops (fun _=>false) (fun _=>[]) th ops 0) s H):aJ (au C) C (.region id ops.toArray false ls th []) s H K:=by
 have h2:=mR gC (ops:=ops.toArray) (q:=fun _=>false) (late:=fun _=>[]) (th:=th) ops 0 s H h;have key: ∀(l:List Oper) (i:Nat) (s:ak) (H:J),cU (au C) C ops.toArray (fun _=>false) (fun _=>[]) th (iG K) l i s H→cJ (au C) C ops.toArray th [] (iG K) l i s H:=by
  intro l;induction l with
  |nil=>intro i s H h;exact h
  |cons o rest ih=>
   intro i s H h;simp only [cU,eS] at h;simp only [cJ];refine ⟨s,H,rfl,?_⟩;cases hg:o.guard with
   |none=>
    rw [hg] at h;exact hI (au.up gC.up) (fun v H' hv=>ih (i+1) _ _ hv) h
   |some p=>
    rw [hg] at h;obtain ⟨v,H',h1,h2⟩:=h;exact ⟨v,H',h1,ih (i+1) _ _ h2⟩
 exact key _ _ _ _ h2
def fM (C:aH) (fz:List (Nat×List (List Nat×List Sh))) (K:ak→J→Prop):List GO→Nat→ak→J→Prop
 |[],_,s,H=>K s H
 |o::rest,i,s0,H0=> ∃s H,dt ((fz.lookup i).getD []) s0 H0=some (s,H)∧
  gW o.g s (bg (au C) C o.q o.th o.op s H fun v H' =>fM C fz K rest (i+1) (bj s o.d v) H') (fM C fz K rest (i+1) (bj s o.d (.ay [])) H)
theorem pE (gC:Good C) {ops:Array Oper} {th:List Nat} {fz:List (Nat×List (List Nat×List Sh))} {K:ak→J→Prop}: ∀(l:List Oper) (i:Nat) (s:ak) (H:J),fM C fz K (dL ops.toList (fun _=>false) (fun _=>[]) th l i) i s H→cJ (au C) C ops th fz K l i s H
 |[],i,s,H,h=>h
 |o::rest,i,s0,H0,h=>by
  simp only [dL,fM] at h;obtain ⟨s,H,hf,h⟩:=h;simp only [cJ];refine ⟨s,H,hf,?_⟩;have yes:(bg (au C) C false (th.contains i) o.op s H fun v H' =>fM C fz K (dL ops.toList (fun _=>false) (fun _=>[]) th rest (i+1)) (i+1) (bj s o.dst v) H')→
   wpOp (au C) C false (th.contains i) o s H fun v H' =>cJ (au C) C ops th fz K rest (i+1) (bj s o.dst v) H' :=by
   intro h;rw [←sw] at h;exact hI (au.up gC.up) (fun v H' h=>pE gC rest (i+1) _ _ h) h
  cases hg:o.guard with
  |none=>
   rw [hg] at h;simp only [Option.map_none,gW] at h⊢;exact yes h
  |some p=>
   obtain ⟨j,want⟩:=p;rw [hg] at h;simp only [Option.map_some,pC,Array.getElem?_toList] at h⊢;cases hd:(ops[j]?).bind (·.dst) with
   |none=>rw [hd] at h;exact h.elim
   |some t=>
    rw [hd] at h;simp only [gW] at h;have no:fM C fz K (dL ops.toList (fun _=>false) (fun _=>[]) th rest (i+1)) (i+1) (bj s o.dst (.ay [])) H→dl ops o s=some false→ ∃v H',(match dl ops o s with
     |some b=>if b then wpOp (au C) C false (th.contains i) o s H (fun v1 H1=>v1=v∧H1=H') else v= .ay []∧H' =H
     |none=>False)∧cJ (au C) C ops th fz K rest (i+1) (bj s o.dst v) H' :=by
     intro h hb;refine ⟨.ay [],H,?_,pE gC rest (i+1) _ _ h⟩;rw [hb];simp
    split at h
    ·rename_i c hc;have lg:dl ops o s=some (c==want):=by
      unfold dl;rw [hg];simp only [hd,hc]
     split at h
     ·rename_i jn;obtain ⟨v,H',h1,h2⟩:=kV (au.exact gC.up gC.exact) (yes h);refine ⟨v,H',?_,h2⟩;rw [lg,jn];simp only [beq_self_eq_true,if_true];exact h1
     ·rename_i jn;exact no h (by rw [lg];simpa using jn)
    ·rename_i hc;exact no h (by unfold dl;rw [hg];simp only [hd,hc])
    ·exact h.elim
theorem BY (gC:Good C) {id:Nat} {ops:List Oper} {ls th:List Nat} {fz:List (Nat×List (List Nat×List Sh))} (h:fM C fz (iG K) (dL ops (fun _=>false) (fun _=>[]) th ops 0) 0 s H):aJ (au C) C (.region id ops.toArray false ls th fz) s H K:=
 pE gC (ops:=ops.toArray) ops 0 s H h
theorem sx (gC:Good C) {id:Nat} {ops:List Oper} {ls th:List Nat} {fz:List (Nat×List (List Nat×List Sh))} (hd:ij ops.toArray ls=true) (h:dT C (iG K) (dL ops (fun i=> !ls.contains i) (fm ops.toArray ls) th ops 0) s H):aJ (au C) C (.region id ops.toArray true ls th fz) s H K:=by
 have:=mR gC (ops:=ops.toArray) (q:=fun i=> !ls.contains i) (late:=fm ops.toArray ls) (th:=th) ops 0 s H h;exact ⟨hd,this⟩
theorem zB (ops:Array Oper):fm ops []=fun _=>[]:=by funext i;rfl
theorem BZ (gC:Good C) {id:Nat} {ops:List Oper} {th:List Nat} {fz:List (Nat×List (List Nat×List Sh))} (hd:ij ops.toArray []=true) (h:dT C (iG K) (dL ops (fun _=>true) (fun _=>[]) th ops 0) s H):aJ (au C) C (.region id ops.toArray true [] th fz) s H K:=
 sx gC hd (by rw [zB];exact h)
end
theorem B0 {C:aH} (gC:Good C) {f:FuncId} {fn:Func} {c:Code} {res:List ResultVar} {n:Nat} (hc:C.code f=some fn) (hb:fn.body=some c) (hr:fn.results=res.toArray) (hn:fn.ntmps=n) {ys:List AV} {H:J} {P:AV→J→Prop}
 (h: ∀K0,K0=er C.E res P→aJ (au C) C (cT (C.gF f) 0 c) (ys ++ List.replicate (n-ys.length) .undef) H K0):au C f ys H P:=by
 refine au.intro gC.up ?_;unfold Body;rw [hc];simp only [hb,hr,hn];exact h _ rfl
end Go.VS
namespace Go.VS
def cQ (v:Option AV) (H:J) (K:AV→J→Prop):Prop:=match v with|some v=>K v H|none=>False
def dU (r:Option (AV×J)) (K:AV→J→Prop):Prop:=match r with|some (v,H)=>K v H|none=>False
section
variable {C:aH} {q th:Bool} {s:ak} {H:J} {K:AV→J→Prop}
theorem cW (op:Op) (h:dC op=true):bg (au C) C q th op s H K=dU (aO C.E op s H) K:=by
 have: ∀c,op≠ .call c:=by rintro c rfl;simp [dC] at h
 unfold bg wpOp;split
 ·rename_i bn;exact absurd bn (this _)
 ·rename_i bn;exact absurd bn (this _)
 ·simp only [h,implies_true,true_and];rfl
theorem sy (op:Op) (h: ∀c,op≠ .call c):bg (au C) C false th op s H K=dU (aO C.E op s H) K:=by
 unfold bg wpOp;split
 ·rename_i bn;exact absurd bn (h _)
 ·rename_i bn;exact absurd bn (h _)
 ·simp only [Bool.false_eq_true,false_implies,true_and];rfl
theorem sA (K:ak→J→Prop):dT C K [] s H=K s H:=rfl
def gq (v:AV) (w:Bool) (a b:Prop):Prop:=match v with| .bool c=>if c=w then a else b| .ay _=>b|_=>False
theorem sB (a b:Prop):gq (.bool true) true a b=a:=by simp [gq]
theorem sC (a b:Prop):gq (.bool false) false a b=a:=by simp [gq]
theorem sD (a b:Prop):gq (.bool true) false a b=b:=by simp [gq]
theorem sE (a b:Prop):gq (.bool false) true a b=b:=by simp [gq]
theorem sF (K:Prop):eN C s H K []=K:=rfl
theorem sG (K:Prop) (op:Op) (t:Tmp) (js:List (Op×Option Tmp)):eN C s H K ((op,some t)::js)=(jz C.E op s H=some (s.getD t .undef,H)∧eN C s H K js):=by
 simp [eN]
theorem sH (t:Tmp) (v:AV):bj s (some t) v=s.set t v:=rfl
theorem sI (v:AV):bj s none v=s:=rfl
theorem sJ (t:Tmp):ev s (.tmp t)=s.getD t .undef:=rfl
theorem sK (v:Value):ev s (.const v)=ofValue v:=rfl
theorem sL (f:FuncId):ev s (.func f)= .fn f []:=rfl
theorem sM (k:IntKind) (n:Int):ofValue (.int k n)= .int k n:=rfl
theorem sN (b:Bool):ofValue (.bool b)= .bool b:=rfl
theorem sO:ofValue (.slice none 0 0)= .nil:=rfl
theorem sP:ofValue .nilIface= .cf false:=rfl
theorem sQ:ofValue (.pointer none)= .dq:=rfl
theorem sR (b:ByteArray):ofValue (.string b)= .str b.data.toList:=rfl
theorem sT (v:AV):cQ (some v) H K=K v H:=rfl
theorem sU (x:Operand):bg (au C) C q th (.move x) s H K=K (ev s x) H:=by rw [cW _ rfl];rfl
theorem sV (x:Operand):bg (au C) C q th (.assign x) s H K=K (ev s x) H:=by rw [cW _ rfl];rfl
theorem sW (b:BinOp) (t:TypeId) (x:Operand) (c:Value) (w:TypeId):bg (au C) C q th (.binOp b t x (.const c) w) s H K=cQ (aF C.E b t (ev s x) (ofValue c)) H K:=by
 rw [cW _ rfl];simp only [aO,show ev s (.const c)=ofValue c from rfl];generalize aF C.E b t (ev s x) (ofValue c)=r;cases r<;>rfl
def jY (E:aL) (b:BinOp) (t:TypeId) (x y:AV) (H:J) (K:AV→J→Prop):Prop:=match y with| .cf _=>False|y=>cQ (aF E b t x y) H K
theorem sY (b:BinOp) (t:TypeId) (x:Operand) (n:Tmp) (w:TypeId):bg (au C) C q th (.binOp b t x (.tmp n) w) s H K=jY C.E b t (ev s x) (ev s (.tmp n)) H K:=by
 rw [cW _ rfl];simp only [aO];generalize ev s (.tmp n)=y;unfold jY;cases y
 all_goals (first|rfl|(simp only;generalize aF C.E b t (ev s x) _=r;cases r<;>rfl))
theorem sZ (E:aL) (b:BinOp) (t:TypeId) (x:AV) (k:IntKind) (n:Int):jY E b t x (.int k n) H K=cQ (aF E b t x (.int k n)) H K:=rfl
theorem s4 (E:aL) (b:BinOp) (t:TypeId) (x:AV) (n:Bool):jY E b t x (.bool n) H K=cQ (aF E b t x (.bool n)) H K:=rfl
theorem s7 (E:aL) (b:BinOp) (t:TypeId) (x:AV) (n:List UInt8):jY E b t x (.str n) H K=cQ (aF E b t x (.str n)) H K:=rfl
theorem s8 (E:aL) (b:BinOp) (t:TypeId) (x:AV) (n:List AV):jY E b t x (.agg n) H K=cQ (aF E b t x (.agg n)) H K:=rfl
variable (E:aL) (t:TypeId) (k:IntKind) (a b:Int) (c d:Bool) (u v:List UInt8)
theorem s9:aF E .add t (.int k a) (.int k b)=some (.int k (k.wrap (a+b))):=by simp [aF,c6]
theorem tc:aF E .sub t (.int k a) (.int k b)=some (.int k (k.wrap (a-b))):=by simp [aF,c6]
theorem tg:aF E .mul t (.int k a) (.int k b)=some (.int k (k.wrap (a*b))):=by simp [aF,c6]
theorem zC:aF E .and t (.int k a) (.int k b)=some (.int k (k.wrap (BitVec.ofInt k.bits a&&&BitVec.ofInt k.bits b).toNat)):=by simp [aF,c6]
theorem zD:aF E .or t (.int k a) (.int k b)=some (.int k (k.wrap (BitVec.ofInt k.bits a|||BitVec.ofInt k.bits b).toNat)):=by simp [aF,c6]
theorem zE:aF E .xor t (.int k a) (.int k b)=some (.int k (k.wrap (BitVec.ofInt k.bits a^^^BitVec.ofInt k.bits b).toNat)):=by simp [aF,c6]
theorem tj:aF E .eql t (.int k a) (.int k b)=some (.bool (a==b)):=by simp [aF,c6]
theorem tn:aF E .neq t (.int k a) (.int k b)=some (.bool (a !=b)):=by simp [aF,c6]
theorem tp:aF E .lss t (.int k a) (.int k b)=some (.bool (decide (a<b))):=by simp [aF,c6]
theorem tq:aF E .leq t (.int k a) (.int k b)=some (.bool (decide (a≤b))):=by simp [aF,c6]
theorem tv:aF E .gtr t (.int k a) (.int k b)=some (.bool (decide (b<a))):=by simp [aF,c6]
theorem tw:aF E .geq t (.int k a) (.int k b)=some (.bool (decide (b≤a))):=by simp [aF,c6]
def dv (k:IntKind) (a b:Int):Option Int:=if b=0 then none else some (k.wrap (a.tdiv b))
def md (a b:Int):Option Int:=if b=0 then none else some (a.tmod b)
theorem tz:aF E .quo t (.int k a) (.int k b)=(dv k a b).map (.int k):=by simp [aF,c6,dv];split<;>rfl
theorem tA:aF E .rem t (.int k a) (.int k b)=(md a b).map (.int k):=by simp [aF,c6,md];split<;>rfl
theorem B1 (h:(b==0)=false):dv k a b=some (k.wrap (a.tdiv b)):=by simp at h;simp [dv,h]
theorem B2 (h:(b==0)=false):md a b=some (a.tmod b):=by simp at h;simp [md,h]
def sl (k:IntKind) (a b:Int):Option Int:=if b<0 then none else some (k.wrap (a*2^(min b.toNat k.bits)))
def sr (k:IntKind) (a b:Int):Option Int:=if b<0 then none else some (a.fdiv (2^(min b.toNat k.bits)))
theorem tB (j:IntKind):aF E .shl t (.int k a) (.int j b)=(sl k a b).map (.int k):=by simp [aF,sl];split<;>rfl
theorem tC (j:IntKind):aF E .shr t (.int k a) (.int j b)=(sr k a b).map (.int k):=by simp [aF,sr];split<;>rfl
theorem tD:aF E .eql t (.str u) (.str v)=some (.bool (u==v)):=by simp [aF,iL]
theorem tE:aF E .neq t (.str u) (.str v)=some (.bool (!(u==v))):=by simp [aF,iL]
def cat (u v:List UInt8):Option (List UInt8):=if u.length+v.length≤2^45 then some (u ++ v) else none
theorem tF:aF E .add t (.str u) (.str v)=(cat u v).map .str:=by simp only [aF,iL,cat];split<;>rfl
theorem B3 {ti:TI} (h:E t=some ti) (hu:ti.aq= .bl):aF E .eql t (.bool c) (.bool d)=some (.bool (c==d)):=by simp [aF,h,hu]
theorem B4 {ti:TI} (h:E t=some ti) (hu:ti.aq= .bl):aF E .neq t (.bool c) (.bool d)=some (.bool (!(c==d))):=by simp [aF,h,hu]
def lh (ti:Option TI) (r:Option Bool) (neg:Bool):Option AV:=match ti with|some ti=>if ti.agg then (match r with|some b=>some (.bool (if neg then !b else b))|none=>none) else none|none=>none
theorem tG (xs ys:List AV):aF E .eql t (.agg xs) (.agg ys)=lh (E t) (dy E 8 t xs ys) false:=by
 simp only [aF,lh];cases E t<;>rfl
theorem tH (xs ys:List AV):aF E .neq t (.agg xs) (.agg ys)=lh (E t) (dy E 8 t xs ys) true:=by
 simp only [aF,lh];cases E t<;>rfl
def hJ (ti:Option TI) (x y:AV) (neg:Bool):Option AV:=match ti with|some ti=>(match isNil ti.aq x y with|some b=>some (.bool (if neg then !b else b))|none=>none)|none=>none
theorem tI:aF E .eql t .nil .nil=hJ (E t) .nil .nil false:=by simp only [aF,hJ];cases E t<;>rfl
theorem tJ:aF E .neq t .nil .nil=hJ (E t) .nil .nil true:=by simp only [aF,hJ];cases E t<;>rfl
theorem tK (x:Bool):aF E .eql t (.cf x) (.cf false)=hJ (E t) (.cf x) (.cf false) false:=by simp only [aF,hJ];cases E t<;>rfl
theorem tL (x:Bool):aF E .neq t (.cf x) (.cf false)=hJ (E t) (.cf x) (.cf false) true:=by simp only [aF,hJ];cases E t<;>rfl
theorem w_num {α :Type} {o:Option Int} {f:Int→Option α} {r: α} (h:o.bind f=some r) (hk: ∀n,o=some n→f n=some r→K (.int k n) H):cQ (o.map (.int k)) H K:=by
 cases o with
 |none=>simp at h
 |some n=>exact hk n rfl h
theorem tM (op:UnOp) (x:Operand):bg (au C) C q th (.unOp op t x) s H K=cQ (iM op (ev s x)) H K:=by
 rw [cW _ rfl];simp only [aO];generalize iM op (ev s x)=r;cases r<;>rfl
theorem tN:iM .not (.bool c)=some (.bool !c):=rfl
theorem tO:iM .neg (.int k a)=some (.int k (k.wrap (0-a))):=rfl
def mS (c:AV) (x y:AV) (H:J) (K:AV→J→Prop):Prop:=match c with| .bool t=>K (if t then x else y) H|_=>False
theorem tP (x y z:Operand):bg (au C) C q th (.pick x y z) s H K=mS (ev s x) (ev s y) (ev s z) H K:=by
 rw [cW _ rfl];simp only [aO];generalize ev s x=r;cases r<;>rfl
theorem tQ (x y:AV):mS (.bool true) x y H K=K x H:=rfl
theorem tR (x y:AV):mS (.bool false) x y H K=K y H:=rfl
theorem tS (p:Bool):mS (.bool p) (.bool c) (.bool d) H K=K (.bool (if p then c else d)) H:=by cases p<;>rfl
def pF (x:AV) (i:Nat) (H:J) (K:AV→J→Prop):Prop:=match x with| .ay vs=>cQ vs[i]? H K|_=>False
theorem tT (x:Operand) (i:Nat):bg (au C) C q th (.extract x i) s H K=pF (ev s x) i H K:=by
 rw [cW _ rfl];simp only [aO,pF];generalize ev s x=r;cases r<;>first|rfl|(simp only;rename_i vs;cases vs[i]? <;>rfl)
theorem tU (vs:List AV) (i:Nat):pF (.ay vs) i H K=cQ vs[i]? H K:=rfl
def mT (ti:TI) (x:Option AV) (off:Nat) (H:J) (K:AV→J→Prop):Prop:=match x with|some y=>cQ (bS ti y off) H K|none=>False
def mU (ti:TI) (b:Option bw) (idx off:Nat) (H:J) (K:AV→J→Prop):Prop:=match b with|some b=>mT ti b.el[idx]? off H K|none=>False
def mV (ti:Option TI) (x:AV) (H:J) (K:AV→J→Prop):Prop:=
 match ti with
 |some ti=>match x with
  | .fe y off=>cQ (bS ti y off) H K
  | .ptr id ad idx off=>mU ti (H.ap id ad) idx off H K
  |_=>False
 |none=>False
theorem o_load (x:Operand):bg (au C) C q th (.load t x) s H K=mV (C.E t) (ev s x) H K:=by
 rw [cW _ rfl];simp only [aO,mV];cases C.E t with
 |none=>rfl
 |some ti=>
  simp only;generalize ev s x=r;cases r<;>first|rfl|skip
  ·rename_i id ad idx off;simp only [mU];cases H.ap id ad with
   |none=>rfl
   |some b=>
    simp only [mT];cases b.el[idx]? with
    |none=>rfl
    |some y=>simp only;generalize bS ti y off=z;cases z<;>rfl
  ·rename_i y off;simp only;generalize bS ti y off=z;cases z<;>rfl
theorem tV (ti:TI) (y:AV) (off:Nat):mV (some ti) (.fe y off) H K=cQ (bS ti y off) H K:=rfl
theorem tW (ti:TI) (id ad idx off:Nat):mV (some ti) (.ptr id ad idx off) H K=mU ti (H.ap id ad) idx off H K:=rfl
theorem tX (ti:TI) (b:bw) (idx off:Nat):mU ti (some b) idx off H K=mT ti b.el[idx]? off H K:=rfl
theorem tY (ti:TI) (y:AV) (off:Nat):mT ti (some y) off H K=cQ (bS ti y off) H K:=rfl
def li (E:aL) (t:TypeId) (f:Nat):Option (Nat×TI):=match E t with
 |some ti=>match ti.aq with
  | .st fs=>match fs[f]? with
   |some (o,ft)=>match E ft with
    |some tf=>some (o,tf)
    |none=>none
   |none=>none
  |_=>none
 |none=>none
def iH (p:Option (Nat×TI)) (x:AV) (H:J) (K:AV→J→Prop):Prop:=match p with
 |some (o,tf)=>if tf.sz=0 then False else match x with
  | .ptr id ad idx off=>match H.ap id ad with
   |some _=>K (.ptr id ad idx (off+o)) H
   |none=>False
  | .fe y off=>K (.fe y (off+o)) H
  |_=>False
 |none=>False
theorem tZ (x:Operand) (f:Nat):bg (au C) C q th (.fieldAddr t x f) s H K=iH (li C.E t f) (ev s x) H K:=by
 rw [cW _ rfl];simp only [aO,iH,li];cases C.E t with
 |none=>rfl
 |some ti=>
  simp only;cases ti.aq<;>try rfl
  rename_i fs;simp only;cases fs[f]? with
  |none=>rfl
  |some p=>
   obtain ⟨o,ft⟩:=p;simp only;cases C.E ft with
   |none=>rfl
   |some tf=>
    simp only;split
    ·rfl
    ·generalize ev s x=r;cases r<;>try rfl
     rename_i id ad idx off;simp only;cases H.ap id ad<;>rfl
theorem zF (o:Nat) (tf:TI) (h:(tf.sz==0)=false) (y:AV) (off:Nat):iH (some (o,tf)) (.fe y off) H K=K (.fe y (off+o)) H:=by
 simp at h;simp [iH,h]
theorem zG (o:Nat) (tf:TI) (h:(tf.sz==0)=false) (id ad idx off:Nat):iH (some (o,tf)) (.ptr id ad idx off) H K=(match H.ap id ad with|some _=>K (.ptr id ad idx (off+o)) H|none=>False):=by
 simp at h;simp [iH,h]
def pG (p:Option (Nat×TI)) (x:AV) (H:J) (K:AV→J→Prop):Prop:=match x with
 | .agg cs=>(match p with|some (o,tf)=>cQ (bS tf (.agg cs) o) H K|none=>False)
 |_=>False
theorem t_ (x:Operand) (f:Nat):bg (au C) C q th (.field t x f) s H K=pG (li C.E t f) (ev s x) H K:=by
 rw [cW _ rfl];simp only [aO,pG,li];cases C.E t with
 |none=>simp only;generalize ev s x=r;cases r<;>rfl
 |some ti=>
  simp only;generalize ev s x=r;cases r
  case agg cs=>
   simp only;cases ti.aq<;>try rfl
   rename_i fs;simp only;cases fs[f]? with
   |none=>rfl
   |some p=>
    obtain ⟨o,ft⟩:=p;simp only;cases C.E ft with
    |none=>rfl
    |some tf=>simp only;generalize bS tf (.agg cs) o=z;cases z<;>rfl
  all_goals rfl
theorem ua (o:Nat) (tf:TI) (cs:List AV):pG (some (o,tf)) (.agg cs) H K=cQ (bS tf (.agg cs) o) H K:=rfl
theorem ub (x:Operand):bg (au C) C q th (.call {callee:= .builtin .len,args:= #[x],argTypes:= #[t]}) s H K=dU (df C.E .len #[t] [ev s x] H) K:=by
 unfold bg wpOp;simp only [eR,implies_true,true_and];rfl
def dV (ti:Option TI) (x:AV) (n:Option Nat) (H:J) (K:AV→J→Prop):Prop:=match ti,n with
 |some ti,some n=>match ti.aq,x with
  | .str,.str _=>K (.int .i64 n) H
  | .sl _,.str _=>False
  | .sl _,_=>K (.int .i64 n) H
  |_,_=>False
 |_,_=>False
theorem uc (E:aL) (t:TypeId) (x:AV):dU (df E .len #[t] [x] H) K=dV (E t) x (lenOf H x) H K:=by
 simp only [df,dV];have:(#[t]:Array TypeId)[0]?.bind E=E t:=rfl;rw [this];cases E t with
 |none=>rfl
 |some ti=>
  obtain ⟨sz,agg,z,mW,aq,eq⟩:=ti;cases lenOf H x with
  |none=>rfl
  |some n=>cases aq<;>cases x<;>rfl
theorem ud (xs:Array Operand) (tys:Array TypeId):bg (au C) C q th (.call {callee:= .builtin .min,args:=xs,argTypes:=tys}) s H K=cQ (jw (xs.toList.map (ev s))) H K:=by
 unfold bg wpOp;simp only [eR,implies_true,true_and,df];generalize jw _=r;cases r<;>rfl
theorem uf (xs:Array Operand) (tys:Array TypeId):bg (au C) C q th (.call {callee:= .builtin .max,args:=xs,argTypes:=tys}) s H K=cQ (jx (xs.toList.map (ev s))) H K:=by
 unfold bg wpOp;simp only [eR,implies_true,true_and,df];generalize jx _=r;cases r<;>rfl
theorem min2:jw [.int k a,.int k b]=some (.int k (if b<a then b else a)):=rfl
theorem max2:jx [.int k a,.int k b]=some (.int k (if b>a then b else a)):=rfl
end
end Go.VS
namespace Go.VS
structure It where
 v:AV
 sz:Nat
 el:List AV
def b4:AV→Option Nat
 | .ref id _ _ _=>some id
 | .ptr id _ _ _=>some id
 |_=>none
def gu (H:J) (it:It):Prop:=bQ it.sz it.el=true∧match it.v with
 | .nil=>it.el=[]
 | .e0=>it.el=[]
 | .ref id ad off len=>len=it.el.length∧ ∃b,H.ap id ad=some b∧b.sz=it.sz∧b.fix=false∧off+len≤b.el.length∧aD b.el off len=it.el
 | .ptr id ad idx off=>idx=0∧off=0∧it.el.length=1∧H.ap id ad=some ⟨ad,it.sz,false,it.el⟩
 |_=>False
structure aE (H:J) (L:List It):Prop where
 ok: ∀(i:Nat) (it:It),L[i]? =some it→gu H it
 b8: ∀(i j:Nat) (a b:It) (id:Nat),L[i]? =some a→L[j]? =some b→b4 a.v=some id→b4 b.v=some id→i=j
theorem gu.lt {H:J} {it:It} (h:gu H it) {id:Nat} (hi:b4 it.v=some id):id<H.bs.length:=by
 obtain ⟨_,h⟩:=h;cases hv:it.v with
 |ref i ad off len=>
  rw [hv] at h hi;simp only [b4,Option.some.injEq] at hi;subst hi;obtain ⟨_,b,hb,_⟩:=h;exact J.fW (J.bp hb).1
 |ptr i ad ix off=>
  rw [hv] at h hi;simp only [b4,Option.some.injEq] at hi;subst hi;obtain ⟨_,_,_,hb⟩:=h;exact J.fW (J.bp hb).1
 |_=>rw [hv] at hi;simp [b4] at hi
theorem gu.frame {H H' :J} {it:It} (h:gu H it) (hk: ∀id ad,b4 it.v=some id→H'.ap id ad=H.ap id ad):gu H' it:=by
 obtain ⟨h0,h⟩:=h;refine ⟨h0,?_⟩;cases hv:it.v with
 |ref i ad off len=>
  rw [hv] at h hk;obtain ⟨h1,b,hb,h2⟩:=h;exact ⟨h1,b,by rw [hk i ad rfl];exact hb,h2⟩
 |ptr i ad ix off=>
  rw [hv] at h hk;obtain ⟨h1,h2,h3,hb⟩:=h;exact ⟨h1,h2,h3,by rw [hk i ad rfl];exact hb⟩
 |_=>rw [hv] at h;exact h
theorem aE.tl {H:J} {a:It} {L:List It} (h:aE H (a::L)):aE H L:=
 ⟨fun i it hi=>h.ok (i+1) it hi,fun i j x y id h1 h2 h3 h4=>by have:=h.b8 (i+1) (j+1) x y id h1 h2 h3 h4;omega⟩
theorem aE.nil (H:J):aE H []:=⟨by simp,by simp⟩
theorem aE.aZ {H H' :J} {L:List It} (h:aE H L) {j:Nat} {it it' :It} (hj:L[j]? =some it) {i:Nat} (hi:b4 it.v=some i) (hk: ∀id ad,id≠i→id<H.bs.length→H'.ap id ad=H.ap id ad) (hn:gu H' it') (bN: ∀k,b4 it'.v=some k→k=i):aE H' (L.set j it'):=by
 have ax:j<L.length:=(List.getElem?_eq_some_iff.1 hj).1;refine ⟨fun k a bE=> ?_,fun k l a b id h1 h2 h3 h4=> ?_⟩
 ·rw [List.getElem?_set] at bE;split at bE
  ·simp only [Option.some.injEq] at bE;subst bE;exact hn
  ·rename_i aM;have ho:=h.ok k a bE;refine ho.frame fun id ad ug=>hk id ad (fun e=> ?_) (ho.lt ug)
   subst e;exact aM (h.b8 j k it a id hj bE hi ug)
 ·rw [List.getElem?_set] at h1 h2;split at h1
  ·rename_i e1;subst e1;simp only [Option.some.injEq] at h1;subst h1;split at h2
   ·rename_i e2;exact e2
   ·have:=bN id h3;subst this;exact h.b8 j l it b id hj h2 hi h4
  ·split at h2
   ·rename_i e2;subst e2;simp only [Option.some.injEq] at h2;subst h2;have:=bN id h4;subst this;exact h.b8 k j a it id h1 hj h3 hi
   ·exact h.b8 k l a b id h1 h2 h3 h4
theorem aE.new {H H' :J} {L:List It} (h:aE H L) (hk: ∀id ad,id<H.bs.length→H'.ap id ad=H.ap id ad) {it:It} (hn:gu H' it) (bN: ∀k,b4 it.v=some k→H.bs.length≤k):aE H' (it::L):=by
 refine ⟨fun k a bE=> ?_,fun k l a b id h1 h2 h3 h4=> ?_⟩
 ·cases k with
  |zero=>simp at bE;subst bE;exact hn
  |succ k=>have ho:=h.ok k a (by simpa using bE);exact ho.frame fun id ad hi=>hk id ad (ho.lt hi)
 ·cases k with
  |zero=>
   simp at h1;subst h1;cases l with
   |zero=>rfl
   |succ l=>
    have:=(h.ok l b (by simpa using h2)).lt h4
    have:=bN id h3;omega
  |succ k=>
   cases l with
   |zero=>
    simp at h2;subst h2;have:=(h.ok k a (by simpa using h1)).lt h3
    have:=bN id h4;omega
   |succ l=>have:=h.b8 k l a b id (by simpa using h1) (by simpa using h2) h3 h4;omega
theorem aE.uh {H H' :J} {L:List It} (h:aE H L) (hk: ∀id ad,id<H.bs.length→H'.ap id ad=H.ap id ad) {j:Nat} {it' :It} (hn:gu H' it') (bN: ∀k,b4 it'.v=some k→H.bs.length≤k):aE H' (L.set j it'):=by
 refine ⟨fun k a bE=> ?_,fun k l a b id h1 h2 h3 h4=> ?_⟩
 ·rw [List.getElem?_set] at bE;split at bE
  ·split at bE
   ·simp only [Option.some.injEq] at bE;subst bE;exact hn
   ·simp at bE
  ·have ho:=h.ok k a bE;exact ho.frame fun id ad hi=>hk id ad (ho.lt hi)
 ·rw [List.getElem?_set] at h1 h2;split at h1
  ·rename_i e1;subst e1;split at h1
   ·simp only [Option.some.injEq] at h1;subst h1;split at h2
    ·rename_i e2;exact e2
    ·have:=(h.ok l b h2).lt h4;have:=bN id h3;omega
   ·simp at h1
  ·split at h2
   ·rename_i e2;subst e2;split at h2
    ·simp only [Option.some.injEq] at h2;subst h2;have:=(h.ok k a h1).lt h3;have:=bN id h4;omega
    ·simp at h2
   ·exact h.b8 k l a b id h1 h2 h3 h4
theorem mX {H:J} {sz:Nat} {fx:Bool} {el:List AV} {id ad:Nat} (h:id<H.bs.length):(H.new sz fx el).ap id ad=H.ap id ad:=by
 simp only [J.ap,J.new,List.getElem?_append_left h]
theorem mY {H:J} {sz:Nat} {fx:Bool} {el:List AV}:(H.new sz fx el).ap H.bs.length H.st=some ⟨H.st,sz,fx,el⟩:=by
 simp [J.ap,J.new]
theorem lj {H:J} {i id ad:Nat} {b:bw} (h:id≠i):(H.aZ i b).ap id ad=H.ap id ad:=by
 have h' : ¬i=id:=fun e=>h e.symm
 simp only [J.ap,J.aZ,List.getElem?_set,if_neg h']
theorem ll {H:J} {id:Nat} {b:bw} (h:id<H.bs.length):(H.aZ id b).ap id b.ad=some b:=by
 simp [J.ap,J.aZ,h]
section
variable {C:aH} {th:Bool} {s:ak} {H:J} {K:AV→J→Prop} {L:List It}
theorem aE.pH (hS:aE H L) {sz n:Nat} {el all:List AV} (he:all.take n=el) (hn:n=el.length) (az:bQ sz el=true):aE (H.new sz false all) (⟨.ref H.bs.length H.st 0 n,sz,el⟩::L):=by
 refine hS.new (fun id ad h=>mX h) ⟨az,hn,_,mY,rfl,rfl,?_,by simpa [aD] using he⟩ (fun k hk=>by simp [b4] at hk;omega)
 have:=congrArg List.length he;simp at this;simp only;omega
theorem aE.newVar (hS:aE H L) {sz:Nat} {a:AV} (az:a.cells.length=sz):aE (H.new sz false [a]) (⟨.ptr H.bs.length H.st 0 0,sz,[a]⟩::L):=
 hS.new (fun id ad h=>mX h) ⟨by simp [bQ,az],rfl,rfl,rfl,mY⟩ (fun k hk=>by simp [b4] at hk;omega)
theorem aE.var (hS:aE H L) (j:Nat) {id ad sz:Nat} {a:AV} (hj:L[j]? =some ⟨.ptr id ad 0 0,sz,[a]⟩):H.ap id ad=some ⟨ad,sz,false,[a]⟩:=(hS.ok j _ hj).2.2.2.2
theorem B5 {t:TypeId} {x:Operand} {ti:TI} {a:AV} (hS:aE H L) (ht:C.E t=some ti) (hx:ev s x=a) (h1:a.cells.length=ti.sz) (h2:dM a=true)
 (h: ∀id ad H',aE H' (⟨.ptr id ad 0 0,ti.sz,[a]⟩::L)→K (.ptr id ad 0 0) H') {q:Bool}:bg (au C) C q th (.box t x) s H K:=by
 rw [cW _ rfl];simp only [aO,ht,hx,h1,h2,and_self,if_true,dU];exact h _ _ _ (hS.newVar h1)
theorem pI {ti:TI} {z:AV} (h:ek ti=some z):z.cells.length=ti.sz:=by
 unfold ek at h;split at h
 ·rename_i hc;rcases kn h with ⟨_,rfl⟩|⟨_,hz⟩
  ·exact hc.2
  ·have:cI z=true:=by have:=hc.1;rw [hz] at this;simpa using this
   have hl:=hc.2;rw [hz] at hl;cases z<;>first|exact hl|simp [cI] at this
 ·simp at h
theorem zH {ti:TI} {z:AV} (h:gD ti=some z):z.cells.length=ti.sz:=by
 unfold gD at h;split at h
 ·rename_i z0 iU;simp only [Option.some.injEq] at h;subst h;split
  ·rw [ky,List.length_map];exact pI iU
  ·exact pI iU
 ·simp at h
theorem B6 {t:TypeId} {ti:TI} {z:AV} (hS:aE H L) (ht:C.E t=some ti) (hz:ek ti=some z)
 (h: ∀id ad H',aE H' (⟨.ptr id ad 0 0,ti.sz,[z]⟩::L)→K (.ptr id ad 0 0) H') {q:Bool}:bg (au C) C q th (.alloc t) s H K:=by
 rw [cW _ rfl];simp only [aO,ht,hz,dU];exact h _ _ _ (hS.newVar (pI hz))
theorem B7 {t:TypeId} {x v:Operand} {ti:TI} {id ad sz o:Nat} {y y' a:AV} (j:Nat) (hS:aE H L) (hj:L[j]? =some ⟨.ptr id ad 0 0,sz,[y]⟩) (ht:C.E t=some ti) (hx:ev s x= .ptr id ad 0 o) (hv:ev s v=a)
 (h1:a.cells.length=ti.sz) (h2:dM a=true) (hw:fQ y o a=some y') (h3:y'.cells.length=sz) (h: ∀H',aE H' (L.set j ⟨.ptr id ad 0 0,sz,[y']⟩)→K (.ay []) H'):bg (au C) C false th (.store t x v) s H K:=by
 rw [sy _ (by simp)]
 have hb:=hS.var j hj;simp only [aO,ht,hx,hv,hb,List.getElem?_cons_zero,h1,h2,and_self,if_true,hw,List.set_cons_zero,dU];refine h _ (hS.aZ hj rfl (fun fp gd aM _=>lj aM) ⟨by simp [bQ,h3],rfl,rfl,rfl,?_⟩ (fun k hk=>by simpa [b4] using hk.symm))
 exact ll ((hS.ok j _ hj).lt rfl)
end
def idx {α :Type} (l:List α) (i:Int):Option α :=if 0≤i then l[i.toNat]? else none
theorem ln {α :Type} {l:List α} {i:Int} {x: α} (h:idx l i=some x):0≤i∧i<l.length∧l[i.toNat]? =some x:=by
 unfold idx at h;split at h
 ·rename_i h0;have:=(List.getElem?_eq_some_iff.1 h).1;exact ⟨h0,by omega,h⟩
 ·simp at h
def B8 (E:aL) (t:TypeId):Option TI:=match E t with
 |some ti=>match ti.aq with| .sl e=>E e|_=>none
 |none=>none
section
variable {C:aH} {q th:Bool} {s:ak} {H:J} {K:AV→J→Prop} {L:List It}
def lp (l:List UInt8) (n:Int) (H:J) (K:AV→J→Prop):Prop:=match idx l n with|some b=>K (.int .u8 b.toNat) H|none=>False
def mZ (E:aL) (ti:Option TI) (x i:AV) (H:J) (K:AV→J→Prop):Prop:=match ti,i with
 |some ti,.int _ n=>match ti.aq,x with
  | .str,.str l=>lp l n H K
  | .ar m e,.agg cs=>match E e with
   |some te=>if 0≤n∧n<m then cQ (bS te (.agg cs) (n.toNat*te.sz)) H K else False
   |none=>False
  |_,_=>False
 |_,_=>False
theorem ui (t:TypeId) (x i:Operand):bg (au C) C q th (.index t x i) s H K=mZ C.E (C.E t) (ev s x) (ev s i) H K:=by
 rw [cW _ rfl];simp only [aO,mZ];generalize ev s i=n;generalize ev s x=a;cases C.E t with
 |none=>rfl
 |some ti=>
  cases n
  case int k n=>
   simp only;cases ti.aq<;>cases a<;>try rfl
   ·rename_i m e cs;simp only;cases C.E e with
    |none=>rfl
    |some te=>
     simp only;split
     ·generalize bS te (.agg cs) (n.toNat*te.sz)=z;cases z<;>rfl
     ·rfl
   ·rename_i l;simp only [lp,idx];split
    ·cases l[n.toNat]? <;>rfl
    ·rfl
  all_goals rfl
def lq:UD→Bool
 | .str=>true
 |_=>false
theorem uj:lq .str=true:=rfl
def jo:UD→Bool
 | .sl _=>true
 |_=>false
theorem uk (e:TypeId):jo (.sl e)=true:=rfl
theorem ul (E:aL) (ti:TI) (hu:lq ti.aq=true) (l:List UInt8) (k:IntKind) (n:Int):mZ E (some ti) (.str l) (.int k n) H K=lp l n H K:=by
 cases h:ti.aq<;>rw [h] at hu<;>simp [lq] at hu
 simp only [mZ,h]
theorem B9 {α :Type} {l:List UInt8} {n:Int} {f:UInt8→Option α} {r: α} (h:(idx l n).bind f=some r) (hk: ∀b,idx l n=some b→f b=some r→K (.int .u8 b.toNat) H):lp l n H K:=by
 unfold lp;cases hi:idx l n with
 |none=>rw [hi] at h;simp at h
 |some b=>rw [hi] at h;exact hk b hi h
def lr (E:aL) (t:TypeId) (x i:AV) (H:J) (K:AV→J→Prop):Prop:=dU (match E t,i with
 |some ti,.int _ n=>match ti.aq with
  | .sl e=>match E e with
   |some te=>match x with
    | .fz xs=>if 0≤n then match xs[n.toNat]? with
     |some y=>if y.cells.length=te.sz then some (.fe y 0,H) else none
     |none=>none
     else none
    | .ref id ad off len=>match H.ap id ad with
     |some b=>if b.sz=te.sz∧0≤n∧n<len∧off+len≤b.el.length then some (.ptr id ad (off+n.toNat) 0,H) else none
     |none=>none
    |_=>none
   |none=>none
  | .ar m e=>match E e with
   |some te=>if 0≤n∧n<m then match x with
    | .ptr id ad idx off=>match H.ap id ad with
     |some _=>some (.ptr id ad idx (off+n.toNat*te.sz),H)
     |none=>none
    | .fe y off=>some (.fe y (off+n.toNat*te.sz),H)
    |_=>none
    else none
   |none=>none
  |_=>none
 |_,_=>none) K
theorem um (t:TypeId) (x i:Operand):bg (au C) C q th (.indexAddr t x i) s H K=lr C.E t (ev s x) (ev s i) H K:=by
 rw [cW _ rfl];rfl
theorem B_ {α β :Type} {E:aL} {t:TypeId} {ti te:TI} {e:TypeId} (ht:E t=some ti) (hu:ti.aq= .sl e) (he:E e=some te) {l:List α} {c: α →AV} (hc: ∀x,(c x).cells.length=te.sz) {k:IntKind} {n:Int} {f: α →Option β} {r: β} (h:(idx l n).bind f=some r)
 (hk: ∀x,idx l n=some x→f x=some r→K (.fe (c x) 0) H):lr E t (.fz (l.map c)) (.int k n) H K:=by
 cases hi:idx l n with
 |none=>rw [hi] at h;simp at h
 |some x=>
  rw [hi] at h;obtain ⟨h0,_,h1⟩:=ln hi;simp only [lr,ht,hu,he,h0,if_true,List.getElem?_map,h1,Option.map_some,hc,dU];exact hk x hi h
theorem Ca {α β :Type} {E:aL} {t:TypeId} {ti te:TI} {e:TypeId} (j:Nat) (hS:aE H L) {v:AV} {l:List α} {c: α →AV} {sz:Nat} (hj:L[j]? =some ⟨v,sz,l.map c⟩) (ht:E t=some ti) (hu:ti.aq= .sl e) (he:E e=some te) (az:sz=te.sz) {k:IntKind} {n:Int} {f: α →Option β} {r: β}
 (h:(idx l n).bind f=some r) (hk: ∀x id ad off,idx l n=some x→f x=some r→v= .ref id ad off l.length→K (.ptr id ad (off+n.toNat) 0) H) (hp: ∀id ad,v≠ .ptr id ad 0 0):lr E t v (.int k n) H K:=by
 cases hi:idx l n with
 |none=>rw [hi] at h;simp at h
 |some x=>
  rw [hi] at h;obtain ⟨h0,h2,h1⟩:=ln hi;have ag:=(hS.ok j _ hj).2;simp only at ag;have aM:l.map c≠[]:=by intro e;rw [List.map_eq_nil_iff] at e;subst e;simp at h1
  split at ag
  ·exact absurd ag aM
  ·exact absurd ag aM
  ·rename_i id ad off len;obtain ⟨h3,b,hb,h4,_,h5,h6⟩:=ag;simp only [List.length_map] at h3;subst h3;simp only [lr,ht,hu,he,hb];rw [if_pos ⟨by rw [h4,az],h0,h2,h5⟩]
   exact hk x id ad off hi h rfl
  ·rename_i id ad ix off;obtain ⟨rfl,rfl,_⟩:=ag;exact absurd rfl (hp id ad)
  ·exact ag.elim
theorem aE.elem {α :Type} (hS:aE H L) (j:Nat) {id ad off n sz:Nat} {v:AV} {l:List α} {c: α →AV} (hj:L[j]? =some ⟨v,sz,l.map c⟩) (hv:v= .ref id ad off n) {i:Int} {x: α} (hx:idx l i=some x): ∃b,H.ap id ad=some b∧b.el[off+i.toNat]? =some (c x):=by
 obtain ⟨h0,h2,h1⟩:=ln hx;subst hv;obtain ⟨_,h3,b,hb,h4,_,h5,h6⟩:=hS.ok j _ hj;refine ⟨b,hb,?_⟩;simp only at h3 h6;have:=congrArg (·[i.toNat]?) h6;simp only [List.getElem?_map,h1,Option.map_some,aD] at this;rw [←this,List.getElem?_take,List.getElem?_drop,if_pos (by simp at h3;omega)]
theorem Cb {α :Type} {t:TypeId} {x w:Operand} {ti:TI} {id ad off n sz o:Nat} {v a:AV} {l:List α} {c: α →AV} {i:Int} {y y' : α} (j:Nat) (hS:aE H L) (hj:L[j]? =some ⟨v,sz,l.map c⟩) (hv:v= .ref id ad off n) (hi:idx l i=some y) (ht:C.E t=some ti) (hx:ev s x= .ptr id ad (off+i.toNat) o) (hw:ev s w=a)
 (h1:a.cells.length=ti.sz) (h2:dM a=true) (hr:fQ (c y) o a=some (c y')) (h3:(c y').cells.length=sz) (h: ∀H',aE H' (L.set j ⟨v,sz,(l.set i.toNat y').map c⟩)→K (.ay []) H'):bg (au C) C false th (.store t x w) s H K:=by
 rw [sy _ (by simp)]
 obtain ⟨b,hb,he⟩:=hS.elem j hj hv hi;simp only [aO,ht,hx,hw,hb,he,h1,h2,and_self,if_true,hr,dU];subst hv;obtain ⟨k0,k1,b',aw,k2,k3,k4,k5⟩:=hS.ok j _ hj;rw [hb] at aw;simp only [Option.some.injEq] at aw;subst aw;simp only at k1 k5;obtain ⟨i0,i1,i2⟩:=ln hi;have bI:=(J.bp hb).2;refine h _ (hS.aZ hj rfl (fun fp gd aM _=>lj aM) ⟨?_,by simpa using k1,{b with el:=b.el.set (off+i.toNat) (c y')},?_,k2,k3,by simpa using k4,?_⟩ (fun k hk=>by simpa [b4] using hk.symm))
 ·simp only [bQ,List.all_eq_true,List.mem_map] at k0⊢;rintro z ⟨z',hz,rfl⟩;rcases List.mem_or_eq_of_mem_set hz with h' |rfl
  ·exact k0 _ ⟨z',h',rfl⟩
  ·simpa using h3
 ·have:=ll (b:={b with el:=b.el.set (off+i.toNat) (c y')}) ((hS.ok j _ hj).lt rfl);simpa only [bI] using this
 ·simp only [aD,List.map_set] at k5⊢;rw [←k5,List.drop_set,if_neg (by omega),List.take_set]
  congr 1;omega
end
end Go.VS
namespace Go.VS
structure bL (v:AV):Prop where
 ok:v= .nil∨v= .e0∨ ∃id ad off len,v= .ref id ad off len
theorem iI (id ad off len:Nat):bL (.ref id ad off len):=⟨.inr (.inr ⟨id,ad,off,len,rfl⟩)⟩
theorem zI:bL .nil:=⟨.inl rfl⟩
theorem zJ:bL .e0:=⟨.inr (.inl rfl)⟩
theorem bL.ne {v:AV} (h:bL v) (id ad:Nat):v≠ .ptr id ad 0 0:=by
 rcases h.ok with rfl|rfl|⟨_,_,_,_,rfl⟩<;>simp
theorem bL.cells {v:AV} (h:bL v):v.cells=[v]:=by
 rcases h.ok with rfl|rfl|⟨_,_,_,_,rfl⟩<;>rfl
theorem bL.qb {v:AV} (h:bL v):cI v=true:=by
 rcases h.ok with rfl|rfl|⟨_,_,_,_,rfl⟩<;>rfl
theorem bL.rd {v:AV} (h:bL v) (z:List AV) (b:Nat) (w:UD) (e:Bool):bS ⟨1,false,z,b,w,e⟩ v 0=some v:=by
 rcases h.ok with rfl|rfl|⟨_,_,_,_,rfl⟩<;>rfl
theorem bL.same {v:AV} (h:bL v):eU v v=true:=by
 rcases h.ok with rfl|rfl|⟨_,_,_,_,rfl⟩<;>simp [eU]
theorem bL.wr {v:AV} (h:bL v) (cs:List AV) (o:Nat) (ho:o<cs.length):fQ (.agg cs) o v=some (.agg (cs.set o v)):=by
 simp only [fQ,h.cells,List.length_cons,List.length_nil];rw [if_pos (by omega)]
 simp only [splice,List.length_cons,List.length_nil,List.append_assoc,List.cons_append,List.nil_append,Option.some.injEq,AV.agg.injEq];rw [List.set_eq_take_append_cons_drop,if_pos ho]
section
variable {C:aH} {q th:Bool} {s:ak} {H:J} {K:AV→J→Prop} {L:List It}
theorem aE.len (hS:aE H L) (j:Nat) {v:AV} {sz:Nat} {el:List AV} (hj:L[j]? =some ⟨v,sz,el⟩) (hp:bL v):lenOf H v=some el.length:=by
 have ag:=(hS.ok j _ hj).2;simp only at ag;split at ag
 ·subst ag;rfl
 ·subst ag;rfl
 ·rename_i id ad off len;obtain ⟨h3,b,hb,_⟩:=ag;simp only [lenOf,h3]
 ·rename_i id ad ix off;obtain ⟨rfl,rfl,_⟩:=ag;exact absurd rfl (hp.ne id ad)
 ·exact ag.elim
theorem aE.hM (hS:aE H L) (j:Nat) {v:AV} {sz:Nat} {el:List AV} (hj:L[j]? =some ⟨v,sz,el⟩) (hp:bL v):cA H v=some el:=by
 have ag:=(hS.ok j _ hj).2;simp only at ag;split at ag
 ·subst ag;rfl
 ·subst ag;rfl
 ·rename_i id ad off len;obtain ⟨h3,b,hb,_,_,h5,h6⟩:=ag;simp only [cA,hb,h5,if_true,h6]
 ·rename_i id ad ix off;obtain ⟨rfl,rfl,_⟩:=ag;exact absurd rfl (hp.ne id ad)
 ·exact ag.elim
theorem aE.zK (hS:aE H L) (j:Nat) {v:AV} {sz:Nat} {el:List AV} (hj:L[j]? =some ⟨v,sz,el⟩) (l:List UInt8):v≠ .str l:=by
 rintro rfl;exact (hS.ok j _ hj).2
theorem Cc (j:Nat) (hS:aE H L) {v:AV} {sz:Nat} {el:List AV} (hj:L[j]? =some ⟨v,sz,el⟩) (hp:bL v) {ti:TI} {e:TypeId} (hu:ti.aq= .sl e) (h:K (.int .i64 el.length) H):dV (some ti) v (lenOf H v) H K:=by
 rw [hS.len j hj hp];have hn:=hS.zK j hj;simp only [dV,hu];cases v with
 |str l=>exact absurd rfl (hn l)
 |_=>exact h
theorem uo (xs:List AV):lenOf H (.fz xs)=some xs.length:=rfl
theorem uq (l:List UInt8):lenOf H (.str l)=some l.length:=rfl
theorem ur:lenOf H .nil=some 0:=rfl
theorem uu:lenOf H .e0=some 0:=rfl
theorem zL (ti:TI) {e:TypeId} (hu:ti.aq= .sl e) (xs:List AV) (n:Nat):dV (some ti) (.fz xs) (some n) H K=K (.int .i64 n) H:=by simp [dV,hu]
theorem zM (ti:TI) {e:TypeId} (hu:ti.aq= .sl e) (n:Nat):dV (some ti) .nil (some n) H K=K (.int .i64 n) H:=by simp [dV,hu]
theorem zN (ti:TI) {e:TypeId} (hu:ti.aq= .sl e) (n:Nat):dV (some ti) .e0 (some n) H K=K (.int .i64 n) H:=by simp [dV,hu]
theorem zO (ti:TI) (hu:ti.aq= .str) (l:List UInt8) (n:Nat):dV (some ti) (.str l) (some n) H K=K (.int .i64 n) H:=by simp [dV,hu]
theorem zP {α β :Type} {t:TypeId} {x y:Operand} {te:TI} {z:AV} {n:Int} {c: α →AV} {d: α} {f:List α →Option β} {r: β} (hS:aE H L) (ht:cD C.E t=some te) (hx:ev s x= .int .i64 n) (hy:ev s y= .int .i64 n) (hz:gD te=some z) (hd:c d=z) (h0:te.sz≠0)
 (hh:(if 0≤n∧roomy n.toNat te.bytes then some (List.replicate n.toNat d) else none:Option (List α)).bind f=some r)
 (h: ∀v H',bL v→0≤n→roomy n.toNat te.bytes=true→f (List.replicate n.toNat d)=some r→aE H' (⟨v,te.sz,(List.replicate n.toNat d).map c⟩::L)→K v H'):bg (au C) C q th (.makeSlice t x y) s H K:=by
 rw [cW _ rfl];split at hh
 ·rename_i hc;simp only [aO,ht,hx,hy,hz];rw [if_pos ⟨hc.1,Int.le_refl _,hc.2,h0⟩];refine h _ _ (iI ..) hc.1 hc.2 hh (hS.pH (by simp [hd]) (by simp) ?_)
  simp only [bQ,List.map_replicate,List.all_replicate,hd,zH hz];simp
 ·simp at hh
theorem Cd {t:TypeId} {ps:Array (Nat×Operand)} {te:TI} (ht:cD C.E t=some te) (hp:ps.size=0) (h:K .e0 H):bg (au C) C q th (.buildSlice t 0 ps) s H K:=by
 rw [cW _ rfl];simp only [aO,ht,hp,if_true];exact h
theorem Ce {t:TypeId} {n:Nat} {ps:Array (Nat×Operand)} {te:TI} {z:AV} {el:List AV} (hS:aE H L) (ht:cD C.E t=some te) (hz:ek te=some z) (hn:(n==0)=false) (hb:(decide (n*te.sz≤1000000)&&te.sz !=0)=true)
 (he:ib te.sz (List.replicate n z) (ps.toList.map fun p=>(p.1,ev s p.2))=some el) (hl:el.length=n) (az:bQ te.sz el=true) (h: ∀v H',bL v→aE H' (⟨v,te.sz,el⟩::L)→K v H'):bg (au C) C q th (.buildSlice t n ps) s H K:=by
 rw [cW _ rfl];simp at hn hb;simp only [aO,ht,if_neg hn,hz];rw [if_pos hb];simp only [he];exact h _ _ (iI ..) (hS.pH (by rw [←hl];simp) hl.symm az)
theorem uw {sz:Nat} {a b:List AV} (ha:bQ sz a=true) (hb:bQ sz b=true):bQ sz (a ++ b)=true:=by
 unfold bQ at*;rw [List.all_append,ha,hb];rfl
theorem zQ (hS:aE H L) (j:Nat) {te:TI} {v x:AV} {el xs:List AV} (hj:L[j]? =some ⟨v,te.sz,el⟩) (hp:bL v) (hx:cA H x=some xs) (az:bQ te.sz xs=true) (h0:te.sz≠0) (hr:roomy (el.length+xs.length) te.bytes=true):
 ∃v' H',dW te v x H=some (v',H')∧bL v' ∧aE H' (L.set j ⟨v',te.sz,el ++ xs⟩):=by
 have ag:=hS.ok j _ hj;obtain ⟨k0,ag⟩:=ag;have kC: ∀it:It,L[j]? =some it→L.set j it=L:=fun it h=>List.ext_getElem? fun k=>by
  rw [List.getElem?_set];split
  ·rename_i e;subst e;have:=(List.getElem?_eq_some_iff.1 h).1;simp only [this,if_true];exact h.symm
  ·rfl
 simp only [dW,hx,az,Bool.not_true,if_neg h0];simp only at ag k0;split at ag
 ·subst ag;by_cases hn:xs.length=0
  ·have:xs=[]:=List.eq_nil_of_length_eq_zero hn;subst this;refine ⟨.nil,H,by simp,zI,?_⟩
   rw [List.append_nil,kC _ hj];exact hS
  ·have bZ:roomy xs.length te.bytes=true:=by simpa using hr
   refine ⟨.ref H.bs.length H.st 0 xs.length,H.new te.sz false xs,by simp [hn,bZ],iI ..,?_⟩
   exact hS.uh (fun id ad h=>mX h) ⟨by simpa using az,by simp,_,mY,rfl,rfl,by simp,by simp [aD]⟩ (fun k hk=>by simp [b4] at hk;omega)
 ·subst ag;by_cases hn:xs.length=0
  ·have:xs=[]:=List.eq_nil_of_length_eq_zero hn;subst this;refine ⟨.e0,H,by simp,zJ,?_⟩
   rw [List.append_nil,kC _ hj];exact hS
  ·have bZ:roomy xs.length te.bytes=true:=by simpa using hr
   refine ⟨.ref H.bs.length H.st 0 xs.length,H.new te.sz false xs,by simp [hn,bZ],iI ..,?_⟩
   exact hS.uh (fun id ad h=>mX h) ⟨by simpa using az,by simp,_,mY,rfl,rfl,by simp,by simp [aD]⟩ (fun k hk=>by simp [b4] at hk;omega)
 ·rename_i id ad off len;obtain ⟨k1,b,hb,k2,k3,k4,k5⟩:=ag;have ax:=(hS.ok j _ hj).lt rfl;have bI:=(J.bp hb).2;subst k1;by_cases cu:off+el.length+xs.length≤b.el.length
  ·refine ⟨.ref id ad off (el.length+xs.length),H.aZ id {b with el:=splice b.el (off+el.length) xs},by simp [hb,k2,cu],iI ..,?_⟩
   refine hS.aZ hj rfl (fun fp gd aM _=>lj aM) ⟨uw k0 az,by simp,{b with el:=splice b.el (off+el.length) xs},?_,k2,k3,?_,?_⟩ (fun k hk=>by simpa [b4] using hk.symm)
   ·have:=ll (b:={b with el:=splice b.el (off+el.length) xs}) ax;simpa only [bI] using this
   ·simp only [kt _ _ _ cu];omega
   ·simp only [aD] at k5⊢;have e1:(splice b.el (off+el.length) xs).drop off=el ++ (xs ++ b.el.drop (off+el.length+xs.length)):=by
     unfold splice;rw [List.append_assoc,List.drop_append_of_le_length (by simp;omega)]
     congr 1;rw [List.drop_take];have:off+el.length-off=el.length:=by omega
     rw [this,k5]
    rw [e1,←List.append_assoc,List.take_append_of_le_length (by simp),List.take_of_length_le (by simp)]
  ·refine ⟨.ref id H.st 0 (el.length+xs.length),⟨H.st+1,H.bs.set id (some ⟨H.st,b.sz,false,aD b.el off el.length ++ xs⟩)⟩,by simp [hb,k2,cu,k3,k4,hr],iI ..,?_⟩
   refine hS.aZ hj rfl (fun fp gd aM _=> ?_) ⟨uw k0 az,by simp,⟨H.st,te.sz,false,el ++ xs⟩,?_,rfl,rfl,by simp,by simp only [aD,List.drop_zero];exact List.take_of_length_le (by simp)⟩ (fun k hk=>by simpa [b4] using hk.symm)
   ·have h' : ¬id=fp:=fun e=>aM e.symm
    simp only [J.ap,List.getElem?_set,if_neg h']
   ·simp only [J.ap,List.getElem?_set,ax,if_true,k2,aD] at k5⊢;rw [k5]
 ·rename_i id ad ix off;obtain ⟨rfl,rfl,_⟩:=ag;exact absurd rfl (hp.ne id ad)
 ·exact ag.elim
def app {α :Type} (mW:Nat) (l m:List α):Option (List α):=if roomy (l.length+m.length) mW then some (l ++ m) else none
theorem ux (a b:Operand) (t u:TypeId):bg (au C) C false th (.call {callee:= .builtin .append,args:= #[a,b],argTypes:= #[t,u]}) s H K=dU (df C.E .append #[t,u] [ev s a,ev s b] H) K:=by
 unfold bg wpOp;simp only [Bool.false_eq_true,false_implies,true_and];rfl
theorem zR {α β :Type} {E:aL} {t u:TypeId} {te tu:TI} {e:TypeId} {v x:AV} {l m:List α} {c: α →AV} {f:List α →Option β} {r: β} (j:Nat) (hS:aE H L) (hj:L[j]? =some ⟨v,te.sz,l.map c⟩) (hp:bL v) (ht:cD E t=some te) (hu:E u=some tu) (hi:tu.aq= .sl e)
 (hx:cA H x=some (m.map c)) (az:bQ te.sz (m.map c)=true) (h0:(te.sz==0)=false) (hh:(app te.bytes l m).bind f=some r) (h: ∀v' H',bL v' →app te.bytes l m=some (l ++ m)→f (l ++ m)=some r→aE H' (L.set j ⟨v',te.sz,(l ++ m).map c⟩)→K v' H'):
 dU (df E .append #[t,u] [v,x] H) K:=by
 cases hr:app te.bytes l m with
 |none=>rw [hr] at hh;simp at hh
 |some lm=>
  have bZ:=hr
  unfold app at hr;split at hr
  ·rename_i lP;simp only [Option.some.injEq] at hr;subst hr;rw [bZ] at hh;obtain ⟨v',H',h1,h2,h3⟩:=zQ hS j hj hp hx az (by simpa using h0) (by simpa using lP)
   have e1:(#[t,u]:Array TypeId)[0]? =some t:=rfl;have e2:((#[t,u]:Array TypeId)[1]?).bind E=E u:=rfl;simp only [df,e1,e2,ht,hu,hi,h1,dU];exact h v' H' h2 bZ hh (by rw [List.map_append];exact h3)
  ·simp at hr
def m_ (C:aH) (q th:Bool) (f:AV) (args:List AV) (H:J) (K:AV→J→Prop):Prop:=
 match f with
 | .fn g b5=>if q then dj (au C) C g (args ++ b5) th H K else au C g (args ++ b5) H K∨dj (au C) C g (args ++ b5) th H K
 |_=>False
theorem uy (f:Operand) (args:Array Operand) (tys:Array TypeId):bg (au C) C q th (.call {callee:= .value f,args,argTypes:=tys}) s H K=m_ C q th (ev s f) (args.toList.map (ev s)) H K:=rfl
theorem Cf {α β :Type} {g:FuncId} {b5 args:List AV} {o:Option α} {f: α →Option β} {r: β} (h:o.bind f=some r) (hk: ∀x,o=some x→f x=some r→au C g (args ++ b5) H K):m_ C false th (.fn g b5) args H K:=by
 cases ho:o with
 |none=>rw [ho] at h;simp at h
 |some x=>rw [ho] at h;exact .inl (hk x ho h)
end
inductive LR (σ ρ :Type) where
 |next (x: σ)
 |done (r: ρ)
def iter {σ ρ :Type} (f: σ →Option (LR σ ρ)):Nat→ σ →Option ρ
 |0,_=>none
 |n+1,x=>(f x).bind fun y=>match y with| .next x' =>iter f n x' | .done r=>some r
open Classical in
noncomputable def eO {σ ρ :Type} (f: σ →Option (LR σ ρ)) (x: σ):Option ρ :=if h: ∃n,(iter f n x).isSome then iter f h.choose x else none
theorem pJ {σ ρ :Type} {f: σ →Option (LR σ ρ)}: ∀{n m:Nat} {x: σ} {r: ρ},iter f n x=some r→n≤m→iter f m x=some r
 |0,_,_,_,h,_=>by simp [iter] at h
 |n+1,0,_,_,_,h=>by omega
 |n+1,m+1,x,r,h,hle=>by
  simp only [iter] at h⊢;cases hf:f x with
  |none=>rw [hf] at h;simp at h
  |some y=>
   rw [hf] at h;cases y with
   |next x' =>exact pJ (m:=m) h (by omega)
   |done r' =>exact h
theorem na {σ ρ :Type} {f: σ →Option (LR σ ρ)} {x: σ} {r: ρ}:eO f x=some r↔ ∃n,iter f n x=some r:=by
 unfold eO;constructor
 ·intro h;split at h
  ·exact ⟨_,h⟩
  ·simp at h
 ·rintro ⟨n,h⟩;have hex: ∃n,(iter f n x).isSome:=⟨n,by simp [h]⟩
  rw [dif_pos hex];cases hc:iter f hex.choose x with
  |none=>have:=hex.choose_spec;rw [hc] at this;simp at this
  |some r' =>
   have h1:=pJ hc (Nat.le_max_left hex.choose n);have h2:=pJ h (Nat.le_max_right hex.choose n);rw [h1] at h2;exact h2
theorem pK {σ ρ :Type} (f: σ →Option (LR σ ρ)) (x: σ):eO f x=(f x).bind fun y=>match y with| .next x' =>eO f x' | .done r=>some r:=by
 refine Option.ext fun r=> ?_;rw [na];constructor
 ·rintro ⟨n,h⟩;cases n with
  |zero=>simp [iter] at h
  |succ n=>
   simp only [iter] at h;cases hf:f x with
   |none=>rw [hf] at h;simp at h
   |some y=>
    rw [hf] at h;cases y with
    |next x' =>exact na.2 ⟨n,h⟩
    |done r' =>exact h
 ·intro h;cases hf:f x with
  |none=>rw [hf] at h;simp at h
  |some y=>
   rw [hf] at h;cases y with
   |next x' =>obtain ⟨n,hn⟩:=na.1 h;exact ⟨n+1,by simp only [iter,hf];exact hn⟩
   |done r' =>exact ⟨1,by simp only [iter,hf];exact h⟩
def nb {σ ρ :Type} (keep:List Nat) (Inv: σ →ak→J→Prop) (y:LR σ ρ) (K:Ex→ak→J→Prop):Ex→ak→J→Prop
 | .normal,s,H=> ∃x',y= .next x' ∧Inv x' (eo keep s) H
 | .exit i,s,H=>K (.exit i) s H
 | .ret,s,H=>K .ret s H
section
variable {C:aH} {K K1:Ex→ak→J→Prop} {s:ak} {H:J}
theorem Cg {σ ρ :Type} (gC:Good C) {f: σ →Option (LR σ ρ)} {x: σ} {r: ρ} {keep:List Nat} {a:AC} (hw:eO f x=some r) (Inv: σ →ak→J→Prop) (h0:Inv x (eo keep s) H)
 (hb: ∀x y s H,f x=some y→(∀r',y= .done r' →r' =r)→Inv x s H→ ∀K1,K1=nb keep Inv y K→aJ (au C) C a s H K1):aJ (au C) C (.loop ⟨keep,false⟩ a) s H K:=by
 obtain ⟨n,hn⟩:=na.1 hw;have key: ∀(n:Nat) (x: σ) (s:ak) (H:J),iter f n x=some r→Inv x s H→ ∀m,iN (aJ (au C) C a) (gH ⟨keep,false⟩ m) K s H:=by
  intro n;induction n with
  |zero=>intro x s H h;simp [iter] at h
  |succ n ih=>
   intro x s H h hi m;simp only [iter] at h;cases hf:f x with
   |none=>rw [hf] at h;simp at h
   |some y=>
    rw [hf] at h;simp only [Option.bind_some] at h;refine iN.round (au.up gC.up) (ei (au.up gC.up) _ _ _ _ _ (fun e s' H' he=> ?_) (hb x y s H hf (fun r' e=>by subst e;simpa using h) hi _ rfl))
    cases e with
    |normal=>
     obtain ⟨x',rfl,gL⟩:=he;exact ih x' _ _ h gL m
    |exit i=>exact he
    |ret=>exact he
 exact key n x _ _ hn h0 _
theorem Ch {σ ρ :Type} {keep:List Nat} {Inv: σ →ak→J→Prop} {y:LR σ ρ} {x' : σ} (hK:K1=nb keep Inv y K) (hy:some (LR.next x')=some y) (hi:Inv x' (eo keep s) H):K1 .normal s H:=by
 rw [hK];exact ⟨x',(Option.some.inj hy).symm,hi⟩
theorem Ci {σ ρ :Type} {keep:List Nat} {Inv: σ →ak→J→Prop} {y:LR σ ρ} {i:Nat} (hK:K1=nb keep Inv y K) (h:K (.exit i) s H):K1 (.exit i) s H:=by rw [hK];exact h
theorem Cj {σ ρ :Type} {keep:List Nat} {Inv: σ →ak→J→Prop} {y:LR σ ρ} (hK:K1=nb keep Inv y K) (h:K .ret s H):K1 .ret s H:=by rw [hK];exact h
def pL (Q:ak→J→Prop) (K:Ex→ak→J→Prop):Ex→ak→J→Prop
 | .normal,s,H=>Q s H
 | .exit i,s,H=>K (.exit i) s H
 | .ret,s,H=>K .ret s H
theorem Ck (gC:Good C) {a:AC} (Q:ak→J→Prop) (h: ∀K1,K1=pL Q K→aJ (au C) C a s H K1) (hq: ∀s H,Q s H→K .normal s H):aJ (au C) C a s H K:=by
 refine zy (h _ rfl) (fun e s H he=> ?_) gC;cases e with
 |normal=>exact hq s H he
 |exit i=>exact he
 |ret=>exact he
theorem Cl {Q:ak→J→Prop} (hK:K1=pL Q K) (h:Q s H):K1 .normal s H:=by rw [hK];exact h
theorem Cm {Q:ak→J→Prop} (hK:K1=pL Q K) (h:K .ret s H):K1 .ret s H:=by rw [hK];exact h
end
end Go.VS
namespace Go.VS
section
variable {C:aH} {q th:Bool} {s:ak} {H:J} {K:AV→J→Prop} {L:List It}
theorem uz:ep none s=s:=rfl
def zS (k:IntKind) (a b:Int):Int:=k.wrap (BitVec.ofInt k.bits a&&&BitVec.ofInt k.bits b).toNat
def zT (k:IntKind) (a b:Int):Int:=k.wrap (BitVec.ofInt k.bits a|||BitVec.ofInt k.bits b).toNat
def zU (k:IntKind) (a b:Int):Int:=k.wrap (BitVec.ofInt k.bits a^^^BitVec.ofInt k.bits b).toNat
def Cn (k:IntKind) (a b:Int):Int:=k.wrap (a*2^(min b.toNat k.bits))
def uA (k:IntKind) (a b:Int):Int:=a.fdiv (2^(min b.toNat k.bits))
theorem uB (E:aL) (t:TypeId) (k:IntKind) (a b:Int):aF E .and t (.int k a) (.int k b)=some (.int k (zS k a b)):=zC ..
theorem uC (E:aL) (t:TypeId) (k:IntKind) (a b:Int):aF E .or t (.int k a) (.int k b)=some (.int k (zT k a b)):=zD ..
theorem uD (E:aL) (t:TypeId) (k:IntKind) (a b:Int):aF E .xor t (.int k a) (.int k b)=some (.int k (zU k a b)):=zE ..
theorem Co (k:IntKind) (a b:Int) (h:decide (b<0)=false):sr k a b=some (uA k a b):=by simp at h;simp [sr,uA,Int.not_lt.2 h]
def jp (E:aL) (src dst:TypeId) (x:AV) (H:J) (K:AV→J→Prop):Prop:=dU (match E src,E dst,x with
 |some _,some td,.int _ n=>match td.aq with
  | .it k=>some (.int k (k.wrap n),H)
  |_=>none
 |some _,some td,.str l=>match td.aq with
  | .str=>some (.str l,H)
  | .sl e=>match E e with
   |some te=>match te.aq with
    | .it .u8=>if te.sz=1∧te.bytes=1∧l.length≤2^45 then some (.ref H.bs.length H.st 0 l.length,H.new 1 false (l.map fun b=> .int .u8 b.toNat)) else none
    |_=>none
   |none=>none
  |_=>none
 |some ts,some td,x=>match ts.aq,td.aq with
  | .sl e,.str=>match E e with
   |some te=>match te.aq with
    | .it .u8=>match cA H x with
     |some xs=>if te.sz=1 then (match (bytesOf xs).map AV.str with|some v=>some (v,H)|none=>none) else none
     |none=>none
    |_=>none
   |none=>none
  |_,_=>none
 |_,_,_=>none) K
theorem uE (a b:TypeId) (x:Operand):bg (au C) C q th (.convert a b x) s H K=jp C.E a b (ev s x) H K:=by
 rw [cW _ rfl];rfl
def pM (ta tb:Option TI) (n:Int) (H:J) (K:AV→J→Prop):Prop:=match ta,tb with
 |some _,some td=>match td.aq with| .it k=>K (.int k (k.wrap n)) H|_=>False
 |_,_=>False
theorem uF (E:aL) (a b:TypeId) (j:IntKind) (n:Int):jp E a b (.int j n) H K=pM (E a) (E b) n H K:=by
 simp only [jp,pM];cases E a with
 |none=>rfl
 |some ta=>
  cases E b with
  |none=>rfl
  |some tb=>simp only;cases tb.aq<;>rfl
def nc (l:List UInt8):List Int:=l.map fun b=>(b.toNat:Int)
def pN (l:List Int):List UInt8:=l.map fun n=>UInt8.ofNat n.toNat
theorem zV (l:List Int):bytesOf (l.map (AV.int .u8))=some (pN l):=by
 induction l with
 |nil=>rfl
 |cons n l ih=>simp only [List.map_cons,bytesOf,ih,pN,Option.map_some]
def pO (l:List UInt8):Option (List Int):=if l.length≤2^45 then some (nc l) else none
theorem Cp {α :Type} {E:aL} {a b e:TypeId} {ta tb te:TI} {l:List UInt8} {f:List Int→Option α} {r: α} (hS:aE H L) (ha:E a=some ta) (hb:E b=some tb) (hu:tb.aq= .sl e) (he:E e=some te) (hk:te.aq= .it .u8) (h1:te.sz=1) (h2:te.bytes=1)
 (hh:(pO l).bind f=some r) (h: ∀v H' m,bL v→pO l=some m→f m=some r→aE H' (⟨v,1,m.map (AV.int .u8)⟩::L)→K v H'):jp E a b (.str l) H K:=by
 unfold pO at hh h;split at hh
 ·rename_i hl;simp only [jp,ha,hb,hu,he,hk,h1,h2,hl,and_self,if_true,dU];refine h _ _ _ (iI ..) (by rw [if_pos hl]) hh (hS.pH (by simp only [nc,List.map_map];exact List.take_of_length_le (by simp)) (by simp [nc]) ?_)
  simp [bQ,AV.cells,nc]
 ·simp at hh
theorem Cq {E:aL} {a b e:TypeId} {ta tb te:TI} {v:AV} {l:List Int} (ha:E a=some ta) (hb:E b=some tb) (hu:ta.aq= .sl e) (aK:tb.aq= .str) (he:E e=some te) (hk:te.aq= .it .u8) (h1:te.sz=1)
 (hv:cA H v=some (l.map (AV.int .u8))) (hn: ∀j,v≠ .str j) (h:K (.str (pN l)) H):jp E a b v H K:=by
 have hi: ∀k n,v≠ .int k n:=by rintro k n rfl;simp [cA] at hv
 simp only [jp,ha,hb];cases v with
 |int k n=>exact absurd rfl (hi k n)
 |str j=>exact absurd rfl (hn j)
 |_=>simp only [hu,aK,he,hk,h1,if_true,hv,zV,Option.map_some];exact h
def Cr {α :Type} (l:List α) (lo hi:Int):Option (List α):=if 0≤lo∧lo≤hi∧hi≤l.length then some ((l.drop lo.toNat).take (hi.toNat-lo.toNat)) else none
def uG (E:aL) (t:TypeId) (x:AV) (lo hi mx:Option (Option Int)) (H:J) (K:AV→J→Prop):Prop:=match lo,hi,mx with
 |some lo,some hi,some mx=>cQ (ka E t x lo hi mx H) H K
 |_,_,_=>False
theorem uH (t:TypeId) (x:Operand) (lo hi mx:Option Operand):bg (au C) C q th (.slice t x lo hi mx) s H K=uG C.E t (ev s x) (dN (lo.map (ev s))) (dN (hi.map (ev s))) (dN (mx.map (ev s))) H K:=by
 rw [cW _ rfl];simp only [aO,uG];generalize dN (lo.map (ev s))=a;generalize dN (hi.map (ev s))=b;generalize dN (mx.map (ev s))=c;cases a<;>cases b<;>cases c<;>first|rfl|(simp only;rename_i lo hi mx;generalize ka C.E t (ev s x) lo hi mx H=z;cases z<;>rfl)
theorem uI:dN none=some none:=rfl
theorem uJ (k:IntKind) (n:Int):dN (some (.int k n))=some (some n):=rfl
theorem zW {α :Type} {c: α →AV} {sz:Nat} (hc: ∀x,(c x).cells.length=sz) (l:List α):bQ sz (l.map c)=true:=by
 simp [bQ,hc]
def jq {α :Type} (mW:Nat) (n:Int) (d: α):Option (List α):=if 0≤n∧roomy n.toNat mW then some (List.replicate n.toNat d) else none
theorem Cs {α β :Type} {t:TypeId} {x y:Operand} {te:TI} {z:AV} {n:Int} {c: α →AV} {d: α} {f:List α →Option β} {r: β} (hS:aE H L) (ht:cD C.E t=some te) (hx:ev s x= .int .i64 n) (hy:ev s y= .int .i64 n) (hz:gD te=some z) (hd:c d=z) (h0:(te.sz==0)=false)
 (hh:(jq te.bytes n d).bind f=some r) (h: ∀v H' l,bL v→jq te.bytes n d=some l→f l=some r→aE H' (⟨v,te.sz,l.map c⟩::L)→K v H'):bg (au C) C q th (.makeSlice t x y) s H K:=by
 refine zP hS ht hx hy hz hd (by simpa using h0) hh fun v H' hv h1 h2 h3 h4=>h v H' _ hv (by unfold jq;rw [if_pos ⟨h1,h2⟩]) h3 h4
theorem Ct {α β :Type} {E:aL} {t u:TypeId} {te tu:TI} {e:TypeId} {v x:AV} {l m:List α} {c: α →AV} {f:List α →Option β} {r: β} (j:Nat) (hS:aE H L) (hj:L[j]? =some ⟨v,te.sz,l.map c⟩) (hp:bL v) (ht:cD E t=some te) (hu:E u=some tu) (hi:tu.aq= .sl e)
 (hx:cA H x=some (m.map c)) (az: ∀x,(c x).cells.length=te.sz) (h0:(te.sz==0)=false) (hh:(app te.bytes l m).bind f=some r) (h: ∀v' H' lm,bL v' →app te.bytes l m=some lm→f lm=some r→aE H' (L.set j ⟨v',te.sz,lm.map c⟩)→K v' H'):
 dU (df E .append #[t,u] [v,x] H) K:=
 zR j hS hj hp ht hu hi hx (zW az m) h0 hh fun v' H' h1 h2 h3 h4=>h v' H' _ h1 h2 h3 h4
theorem aE.perm {L' :List It} (h:aE H L) (hp:L.Perm L'):aE H L' :=by
 have nd: ∀{L:List It},aE H L↔(∀it∈L,gu H it)∧(L.filterMap (fun it=>b4 it.v)).Nodup:=by
  intro L;constructor
  ·intro h;refine ⟨fun it hi=> ?_,?_⟩
   ·obtain ⟨i,gL⟩:=List.mem_iff_getElem?.1 hi;exact h.ok i it gL
   ·induction L with
    |nil=>simp
    |cons a L ih=>
     have ih:=ih h.tl;rw [List.filterMap_cons];cases ha:b4 a.v with
     |none=>exact ih
     |some id=>
      refine List.nodup_cons.2 ⟨fun hm=> ?_,ih⟩;obtain ⟨b,hb,bN⟩:=List.mem_filterMap.1 hm;obtain ⟨j,hj⟩:=List.mem_iff_getElem?.1 hb;have:=h.b8 0 (j+1) a b id rfl hj ha bN;omega
  ·rintro ⟨h1,h2⟩;refine ⟨fun i it hi=>h1 it (List.mem_of_getElem? hi),?_⟩;clear h1;induction L with
   |nil=>intro i j a b id h;simp at h
   |cons a L ih=>
    have kN:(L.filterMap (fun it=>b4 it.v)).Nodup:=by
     rw [List.filterMap_cons] at h2;split at h2
     ·exact h2
     ·exact (List.nodup_cons.1 h2).2
    have no: ∀(j:Nat) (b:It) (id:Nat),L[j]? =some b→b4 a.v=some id→b4 b.v≠some id:=by
     intro j b id hj ha hb;rw [List.filterMap_cons,ha] at h2;exact (List.nodup_cons.1 h2).1 (List.mem_filterMap.2 ⟨b,List.mem_of_getElem? hj,hb⟩)
    intro i j x y id hi hj hx hy;cases i with
    |zero=>
     simp at hi;subst hi;cases j with
     |zero=>rfl
     |succ j=>exact absurd hy (no j y id (by simpa using hj) hx)
    |succ i=>
     cases j with
     |zero=>simp at hj;subst hj;exact absurd hx (no i x id (by simpa using hi) hy)
     |succ j=>have:=ih kN i j x y id (by simpa using hi) (by simpa using hj) hx hy;omega
 rw [nd] at h⊢;exact ⟨fun it hi=>h.1 it (hp.mem_iff.2 hi),(hp.filterMap _).nodup_iff.1 h.2⟩
theorem aE.front (h:aE H L) (j:Nat) {it:It} (hj:L[j]? =some it):aE H (it::L.eraseIdx j):=by
 refine h.perm ?_;have ax:=(List.getElem?_eq_some_iff.1 hj).1;have he:=(List.getElem?_eq_some_iff.1 hj).2;have:L=L.take j ++ it::L.drop (j+1):=by
  rw [←he,List.getElem_cons_drop,List.take_append_drop]
 rw [List.eraseIdx_eq_take_drop_succ]
 conv=>lhs;rw [this]
 exact List.perm_middle
theorem aE.Cu (h:aE H L) (sz:Nat):aE H (⟨.nil,sz,[]⟩::L):=
 h.new (fun _ _ _=>rfl) ⟨rfl,rfl⟩ (fun k hk=>by simp [b4] at hk)
theorem aE.Cv (h:aE H L) (sz:Nat):aE H (⟨.e0,sz,[]⟩::L):=
 h.new (fun _ _ _=>rfl) ⟨rfl,rfl⟩ (fun k hk=>by simp [b4] at hk)
theorem aE.drop (h:aE H L) (j:Nat):aE H (L.eraseIdx j):=by
 cases hj:L[j]? with
 |none=>
  rw [List.eraseIdx_of_length_le (List.getElem?_eq_none_iff.1 hj)];exact h
 |some it=>exact (h.front j hj).tl
theorem aE.Cw (hS:aE H L) {id ad sz:Nat} {a:AV} (hm:⟨.ptr id ad 0 0,sz,[a]⟩∈L):H.ap id ad=some ⟨ad,sz,false,[a]⟩:=by
 obtain ⟨j,hj⟩:=List.mem_iff_getElem?.1 hm;exact hS.var j hj
theorem zX {α β :Type} {g:FuncId} {b5 args ys:List AV} {bU:Bool} {o:Option α} {f: α →Option β} {r: β} {cR:List (List Sh)} (h:o.bind f=some r) (hr:(C.gF g).cR=cR) (hp:cb [] (args ++ b5) H=some (ys,bU))
 (hk: ∀x,o=some x→f x=some r→ ∃y,au C g ys ⟨0,[]⟩ (fun v L=> ∃rs zs L2,v=cB rs∧di cR rs L=some (zs,L2)∧y=cB zs)∧(bU=false∨dh y=true)∧if th||bU then K (aI y H).1 (aI y H).2 else K (bA y) H):m_ C q th (.fn g b5) args H K:=by
 cases ho:o with
 |none=>rw [ho] at h;simp at h
 |some x=>
  rw [ho] at h;have hq:dj (au C) C g (args ++ b5) th H K:=by
   unfold dj;rw [hp,hr];exact hk x ho h
  cases q with
  |true=>exact hq
  |false=>exact .inr hq
end
end Go.VS
