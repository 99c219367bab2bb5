import Derived.Test.YtclgbpneokeaeaaVaC
import Derived.StillTail
namespace Go.VS
structure gM (ops:Array Oper) (ay:List Nat):Prop where
 back: ∀(i:Nat) (o:Oper),ops[i]? =some o→ ∀e∈o.after,Region.binds .any e=true→e.on<i
 gb: ∀(i j:Nat) (o p:Oper) (d:Tmp),i≠j→ops[i]? =some o→ops[j]? =some p→p.dst=some d→o.dst≠some d
 ord: ∀(i j:Nat) (o p:Oper) (d:Tmp),i≠j→ops[i]? =some o→ops[j]? =some p→p.dst=some d→d∈Oper.looksAt ops o→((eR ops.toList).getD (max i j) 0).testBit (min i j)=true
 after: ∀(i j:Nat) (o p:Oper),ops[i]? =some o→ops[j]? =some p→i∈ay→i<j→((eR ops.toList).getD j 0).testBit i=true∨(j∉ay∧p.guard=none∧iq p.op=true∧ ∃d,p.dst=some d)
 late: ∀(i j:Nat) (o p:Oper),ops[i]? =some o→ops[j]? =some p→i∈ay→j<i→((eR ops.toList).getD i 0).testBit j=false→j∉ay∧p.guard=none∧jP p.op=true∧(∃d,p.dst=some d)∧
  ∀(k:Nat) (r:Oper) (d:Tmp),ops[k]? =some r→r.dst=some d→j≤k→d∉Oper.looksAt ops p
theorem xM {ops:Array Oper} {ay:List Nat} (h:gY ops ay=true):gM ops ay:=by
 have lt: ∀{i:Nat} {o:Oper},ops[i]? =some o→i<ops.toList.length:=fun h=>by have:=(Array.getElem?_eq_some_iff.1 h).1;simpa using this
 have tl: ∀{i:Nat} {o:Oper},ops[i]? =some o→ops.toList[i]? =some o:=fun h=>by simpa using h
 have one: ∀(i:Nat) (o:Oper),ops[i]? =some o→(∀e∈o.after,Region.binds .any e=true→e.on<i)∧ ∀(j:Nat) (p:Oper),ops[j]? =some p→i≠j→
  (∀d,p.dst=some d→o.dst≠some d∧(d∈Oper.looksAt ops o→((eR ops.toList).getD (max i j) 0).testBit (min i j)=true))∧
  (i∈ay→i<j→((eR ops.toList).getD j 0).testBit i=true∨(j∉ay∧p.guard=none∧iq p.op=true∧ ∃d,p.dst=some d))∧
  (i∈ay→j<i→((eR ops.toList).getD i 0).testBit j=false→j∉ay∧p.guard=none∧jP p.op=true∧(∃d,p.dst=some d)∧ ∀(k:Nat) (r:Oper) (d:Tmp),ops[k]? =some r→r.dst=some d→j≤k→d∉Oper.looksAt ops p):=by
  intro i o ho;simp only [gY,List.all_eq_true,List.mem_range] at h;have hi:=h i (lt ho);rw [tl ho] at hi;simp only [Bool.and_eq_true,Array.all_eq_true_iff_forall_mem,List.all_eq_true,List.mem_range,Bool.or_eq_true,Bool.not_eq_true',decide_eq_true_eq] at hi;obtain ⟨ha,hb⟩:=hi;refine ⟨fun e he ou=>(ha e he).resolve_left (by simp [ou]),fun j p hp kB=> ?_⟩
  have hj:=hb j (lt hp);rw [tl hp] at hj;simp only [Bool.or_eq_true,beq_iff_eq,Bool.and_eq_true,Bool.not_eq_true'] at hj;rcases hj with hj|⟨⟨lW,jo⟩,jB⟩
  ·exact absurd hj kB
  refine ⟨fun d hd=> ?_,fun hl aw=> ?_,fun hl aw ou=> ?_⟩
  ·rw [hd] at lW;simp only [Bool.and_eq_true,bne_iff_ne,ne_eq,Bool.or_eq_true,Bool.not_eq_true'] at lW;exact ⟨lW.1,fun hm=>lW.2.resolve_left (by simp [hm])⟩
  ·rcases jo with (jo|jo)|⟨⟨⟨q1,q2⟩,q3⟩,q4⟩
   ·simp [hl,aw] at jo
   ·exact .inl jo
   ·exact .inr ⟨by simpa using q1,by simpa using q2,q3,Option.isSome_iff_exists.1 q4⟩
  ·rcases jB with (jB|jB)|⟨⟨⟨⟨q1,q2⟩,q3⟩,q4⟩,q5⟩
   ·simp [hl,aw] at jB
   ·rw [ou] at jB;simp at jB
   ·refine ⟨by simpa using q1,by simpa using q2,q3,Option.isSome_iff_exists.1 q4,fun k r d hk hr xN hm=> ?_⟩
    simp only [List.all_eq_true,List.mem_range] at q5;have:=q5 k (lt hk);rw [tl hk] at this;simp only [hr] at this;simp [xN,hm] at this
 exact ⟨fun i o ho=>(one i o ho).1,fun i j o p d kB ho hp hd=>(((one i o ho).2 j p hp kB).1 d hd).1,fun i j o p d kB ho hp hd=>(((one i o ho).2 j p hp kB).1 d hd).2,
  fun i j o p ho hp hl aw=>((one i o ho).2 j p hp (by omega)).2.1 hl aw,fun i j o p ho hp hl aw=>((one i o ho).2 j p hp (by omega)).2.2 hl aw⟩
theorem ov (ay:List Nat) (n:Nat): ∀(m b:Nat),m=n-b→b≤n→ ∃c,b≤c∧c≤n∧(c=n∨c∈ay)∧ ∀i,b≤i→i<c→i∉ay
 |0,b,hm,hb=>⟨b,Nat.le_refl _,hb,.inl (by omega),fun i h1 h2=>by omega⟩
 |m+1,b,hm,hb=>by
  by_cases h:b∈ay
  ·exact ⟨b,Nat.le_refl _,hb,.inr h,fun i h1 h2=>by omega⟩
  ·obtain ⟨c,h1,h2,h3,h4⟩:=ov ay n m (b+1) (by omega) (by omega)
   refine ⟨c,by omega,h2,h3,fun i k1 k2=> ?_⟩
   by_cases hi:i=b
   ·subst hi;exact h
   ·exact h4 i (by omega) k2
section draw
variable {P:Program} {C:aI} {X:bw} {ops:Array Oper} {ay:List Nat} {th:List Nat} {K:aj→J→Prop} {s:Nat→aj} {H:Nat→J} {v:Nat→AV} {act:Nat→Bool}
abbrev hZ (X:bw) (C:aI) (ops:Array Oper) (ay:List Nat) (th:List Nat) (K:aj→J→Prop) (s:Nat→aj) (H:Nat→J) (v:Nat→AV) (act:Nat→Bool):Prop:=
 Tr X C ops (fun i=> !ay.contains i) (fk ops ay) th K ops.toList 0 s H v act
theorem gN (t:hZ X C ops ay th K s H v act): ∀(m i:Nat),i+m≤ops.size→(∀k,i≤k→k<i+m→k∉ay)→QG (H i) (H (i+m))
 |0,i,_,_=> .refl _
 |m+1,i,hn,hl=>by
  have h1:=gN t m i (by omega) (fun k h1 h2=>hl k h1 (by omega))
  have ho:=Array.getElem?_eq_getElem (xs:=ops) (show i+m<ops.size by omega)
  obtain ⟨_,_,h3,h4,_⟩:=t.step (i+m) _ (by rw [Array.getElem?_toList];exact ho)
  refine h1.trans ?_;cases ha:act (i+m) with
  |true=>
   have:=h3 ha;have jC:(!ay.contains (0+(i+m)))=true:=by simp only [Nat.zero_add];simpa using hl (i+m) (by omega) (by omega)
   rw [jC] at this;exact xK this
  |false=>have:=(h4 ha).2;rw [show i+(m+1)=i+m+1 by omega,this];exact .refl _
theorem lX (dk:gM ops ay) (t:hZ X C ops ay th K s H v act): ∀(i:Nat),i≤ops.size→(s i).length=(s 0).length∧ ∀x,x<(s 0).length→
 (∀k o,k<i→ops[k]? =some o→o.dst=some x→(s i).getD x .undef=v k)∧((∀k o,k<i→ops[k]? =some o→o.dst≠some x)→(s i).getD x .undef=(s 0).getD x .undef)
 |0,_=>⟨rfl,fun x hx=>⟨fun k o h=>by omega,fun _=>rfl⟩⟩
 |i+1,hi=>by
  obtain ⟨h1,h2⟩:=lX dk t i (by omega)
  have ho:=Array.getElem?_eq_getElem (xs:=ops) (show i<ops.size by omega)
  obtain ⟨hs,_⟩:=t.step i _ (by rw [Array.getElem?_toList];exact ho)
  have hlen:(s (i+1)).length=(s 0).length:=by
   rw [hs];unfold bf;split
   ·simpa using h1
   ·exact h1
  refine ⟨hlen,fun x hx=>⟨fun k o hk af hd=> ?_,fun eJ=> ?_⟩⟩
  ·rw [hs];by_cases bH:k=i
   ·subst bH;rw [ho] at af;simp only [Option.some.injEq] at af;subst af;rw [hd];simp only [bf];rw [←h1] at hx;simp [List.getD,hx]
   ·have aN:=dk.gb i k _ o x (fun h=>bH h.symm) ho af hd;have:=(h2 x hx).1 k o (by omega) af hd
    rw [←this];unfold bf;split
    ·rename_i d bR;have:d≠x:=fun h=>aN (by rw [bR,h])
     simp [List.getD,List.getElem?_set_ne this]
    ·rfl
  ·rw [hs];have aN:=eJ i _ (Nat.lt_succ_self _) ho;rw [←(h2 x hx).2 (fun k o hk af=>eJ k o (by omega) af)]
   unfold bf;split
   ·rename_i d bR;have:d≠x:=fun h=>aN (by rw [bR,h])
    simp [List.getD,List.getElem?_set_ne this]
   ·rfl
structure oz (C:aI) (o:Op) (sz:Nat) (el:List AV) (x:Nat→Nat→AV) (u:Nat→Value):Prop where
 ev: ∀(X:bw) (q th:Bool) (o' :Oper) (s:aj) (H:J) (K:AV→J→Prop),o'.op=o→wpOp X C q th o' s H K→K (x H.bs.length H.st) (H.new sz false el)
 xO: ∀(i:Nat) (y:AV),el[i]? =some y→y.cells.length=sz
 rel: ∀(w:World) (G:J) (φ :ag) (A:ah) (id ad c:Nat),G.get id=some ⟨ad,sz,false,el⟩→ad<G.st→ φ id=some (.at_ c 0)→el.length*sz≤a5 w c→R w G φ A (x id ad) (u c)
def lY (el:List AV) (sz:Nat) (arr:Array Value):Prop:=el.length*sz≤arr.size∧
 ∀(i:Nat) (x:AV) (j:Nat) (y:AV) (v:Value),el[i]? =some x→x.cells[j]? =some y→arr[i*sz+j]? =some v→(∀(w:World) (G:J) (φ :ag) (A:ah),R w G φ A y v)∧v.oneCell' =true
theorem xP {P:Program} {C:aI} (hE: ∀t ti,C.E t=some ti→aT P t ti) {X:bw} {q th:Bool} {o:Oper} {s:aj} {H:J} {K:AV→J→Prop} (he:iq o.op=true) (h:wpOp X C q th o s H K):
 ∃sz el x u,oz C o.op sz el x u∧ ∀(a:Act) (w:World),∃arr T,(execOp a.eval o).run P w= .ok (.value (u w.heap.size)) (w.alloc (.cells arr T))∧lY el sz arr:=by
 obtain ⟨dst,op,ty,pos,after,guard⟩:=o;simp only at he⊢;cases op with
 |alloc tt=>
  unfold wpOp at h;simp only [aM] at h;cases kC:C.E tt with
  |none=>rw [kC] at h;exact h.2.elim
  |some ti=>
   rw [kC] at h;cases hz:et ti with
   |none=>simp only [hz] at h;exact h.2.elim
   |some z=>
    have cU:z.cells.length=ti.sz:=by
     obtain ⟨zv,e1,e2,e3,e4,_,e5⟩:=iy (hE _ _ kC) hz default;rw [e3,e4]
    refine ⟨ti.sz,[z],fun id ad=> .ptr id ad 0 0,fun c=> .pointer (some ⟨c,0,none⟩),⟨fun X q th o' s H K ho h=> ?_,fun i y hy=> ?_,fun w G φ A id ad c _ hv aX _=>mR hv aX⟩,fun a w=> ?_⟩
    ·obtain ⟨dst,op,ty,pos,after,guard⟩:=o';simp only at ho;subst ho;unfold wpOp at h;simp only [aM,kC,hz] at h;exact h.2
    ·cases i with
     |zero=>simp at hy;subst hy;exact cU
     |succ i=>simp at hy
    ·obtain ⟨zv,e1,e2,e3,e4,_,e5⟩:=iy (hE _ _ kC) hz w;refine ⟨zv.cells,tt,?_,by simp [e2],fun i x j y v hx hy hv=> ?_⟩
     ·show ((do pure (.value (←Instr.alloc tt true (.tuple #[]))):Sem Next).run P w)=_
      simp [Instr.alloc,e1,newVar,newRow]
     ·cases i with
      |zero=>
       simp only [List.getElem?_cons_zero,Option.some.injEq,Nat.zero_mul,Nat.zero_add] at hx hv;subst hx;rw [e3] at hy;have hh:=fun (w:World) (A:ah)=>e5 w A j y v hy hv;exact ⟨fun w G φ A=> .fr _ _ (hh w A).1,(hh w (fun _=>False)).2⟩
      |succ i=>simp at hx
 |buildSlice t n ps=>
  simp only [iq,Bool.and_eq_true,bne_iff_ne,ne_eq,List.all_eq_true] at he;obtain ⟨hn,hc⟩:=he;have xQ: ∀(s s' :aj),(ps.toList.map fun p=>(p.1,ev s p.2))=ps.toList.map fun p=>(p.1,ev s' p.2):=fun s s' =>List.map_congr_left fun p hp=>by
   have:=hc p hp;cases hq:p.2 with
   |const v=>rfl
   |tmp x=>rw [hq] at this;simp [jQ] at this
   |global x=>rfl
   |func x=>rfl
  unfold wpOp at h;simp only [aM,if_neg hn] at h;cases a8:cE C.E t with
  |none=>rw [a8] at h;exact h.2.elim
  |some te=>
   rw [a8] at h;obtain ⟨ti,e,ht,hu,b_⟩:=iB a8;cases hz:et te with
   |none=>simp only [hz] at h;exact h.2.elim
   |some zA=>
    simp only [hz] at h;by_cases hcnd:n*te.sz≤1000000∧te.sz≠0
    ·rw [if_pos hcnd] at h;cases cu:gV te.sz (List.replicate n zA) (ps.toList.map fun p=>(p.1,ev s p.2)) with
     |none=>rw [cu] at h;exact h.2.elim
     |some el=>
      have parts: ∀(ρ :Operand→Value),(∀v,ρ (.const v)=v)→ ∀(w:World) (G:J) (φ :ag) (A:ah),∀p∈ps.toList,R w G φ A (ev s p.2) (ρ p.2):=fun ρ aP w G φ A p hp=>by
       have:=hc p hp;cases hq:p.2 with
       |const v=>rw [aP];exact .fr _ _ (FR.ofValue w A v)
       |tmp x=>rw [hq] at this;simp [jQ] at this
       |global x=>rw [hq] at this;simp [jQ] at this
       |func x=>rw [hq] at this;simp [jQ] at this
      have fill: ∀(ρ :Operand→Value),(∀v,ρ (.const v)=v)→ ∀(w0:World),∃(zv:Value) (bU:Array Value),(zeroValue e).run P w0= .ok zv w0∧Instr.fill (fun i=>some (i*te.sz,te.sz)) ((Array.range (n*te.sz)).map (fun k=>zv.cells[k % zv.cells.size]!)) ((ps.map fun (i,x)=>(i,ρ x)).toList)=some bU∧bU.size=el.length*te.sz∧el.length=n∧
       (∀(i:Nat) (x:AV),el[i]? =some x→x.cells.length=te.sz)∧lY el te.sz bU:=fun ρ aP w0=>by
       obtain ⟨zv,z1,z2,z3,z4,_,z5⟩:=iy (hE _ _ b_) hz w0;have go: ∀(w:World) (G:J) (φ :ag) (A:ah),_:=fun w G φ A=>m_ (w:=w) (G:=G) (φ := φ) (A:=A) hcnd.2 _ _ (List.replicate n zA) ((Array.range (n*te.sz)).map (fun k=>zv.cells[k % zv.cells.size]!)) _ (ld (_E:=C.E) (parts ρ aP w G φ A)).1 (ld (_E:=C.E) (parts ρ aP w G φ A)).2
        (by simp) (fun i x hx=>by
         simp only [List.getElem?_replicate] at hx;split at hx
         ·simp only [Option.some.injEq] at hx;subst hx;rw [z3,z4]
         ·simp at hx)
        (fun i x j y v hx hy hv=>by
         simp only [List.getElem?_replicate] at hx;split at hx
         ·rename_i hi;simp only [Option.some.injEq] at hx;subst hx;rw [z3] at hy;have hj:j<te.sz:=by rw [←z4];exact (List.getElem?_eq_some_iff.1 hy).1
          have:=z5 w A j y v hy (j6 z2 hi hj hv);exact ⟨.fr _ _ this.1,this.2⟩
         ·simp at hx) cu
       obtain ⟨bU,f1,f2,f3,f4,f5⟩:=go w0 ⟨0,[]⟩ (fun _=>none) (fun _=>False);refine ⟨zv,bU,z1,f1,f2,by rw [f3];simp,f4,by rw [f2];exact Nat.le_refl _,fun i x j y v hx hy hv=>⟨fun w G φ A=> ?_,(f5 i x j y v hx hy hv).2⟩⟩
       obtain ⟨zk,g1,_,_,_,g5⟩:=go w G φ A;rw [f1] at g1;simp only [Option.some.injEq] at g1;subst g1;exact (g5 i x j y v hx hy hv).1
      obtain ⟨_,_,_,_,_,hlen,xR,_⟩:=fill (fun o=>match o with| .const v=>v|_=>undef) (fun _=>rfl) default
      refine ⟨te.sz,el,fun id ad=> .ref id ad 0 n,fun c=> .slice (some ⟨c,0,none⟩) n n,⟨fun X q th o' s' H K ho h=> ?_,xR,fun w G φ A id ad c hg hv aX hb=> ?_⟩,fun a w=> ?_⟩
      ·obtain ⟨dst,op,ty,pos,after,guard⟩:=o';simp only at ho;subst ho;unfold wpOp at h;simp only [aM,if_neg hn,a8,hz,if_pos hcnd,xQ s' s,cu] at h
       exact h.2
      ·exact jn hg hv aX (by simp [hlen]) (Nat.le_refl _) (by simp [hlen]) (by rw [←hlen];exact hb)
      ·obtain ⟨zv,bU,z1,f1,f2,_,_,kD⟩:=fill a.eval (fun _=>rfl) w;have g6:=(hE _ _ ht).sl w hu;have aN: ¬(n*te.sz=0):=by
        intro h0;rcases Nat.mul_eq_zero.1 h0 with h0|h0<;>omega
       have nb: ¬(n*te.sz>2^24):=by omega
       refine ⟨bU,e,?_,kD⟩;show ((do pure (.value (←Instr.buildSlice t n (ps.map fun (i,x)=>(i,a.eval x)))):Sem Next).run P w)=_
       simp only [Instr.buildSlice,Sem.run_bind,g6,Result.andThen_ok,(hE _ _ b_).sizeOf,nb,aN,if_false,z1,f1,Sem.run_pure,newRow,run_newObj,World.alloc_eq]
    ·rw [if_neg hcnd] at h;exact h.2.elim
 |_=>simp [iq] at he
structure lZ (w0 w:World) (φ :ag) (A:ah) (el:List AV) (sz n:Nat):Prop where
 old:w0.heap.size≤n
 lt:n<w.heap.size
 av:A n
 ow: ¬Ow φ n
 here: ∃arr T fr,w.heap[n]? =some (.cells arr T fr)∧(∀j,j<arr.size→ ¬(fr.1≤j∧j<fr.2))∧lY el sz arr
theorem lZ.mono {w0 w w' :World} {G G' :J} {φ ak:ag} {A A' :ah} {el:List AV} {sz n:Nat} (h:lZ w0 w φ A el sz n) (o:Out w G φ A w' G' ak A'):lZ w0 w' ak A' el sz n:=by
 refine ⟨h.old,Nat.lt_of_lt_of_le h.lt o.post.size,o.bE n h.av h.ow,fun hw=> ?_,?_⟩
 ·rcases o.post.own n hw with k|k
  ·exact h.ow k
  ·have:=h.lt;omega
 ·rw [o.post.kept n h.lt h.ow];exact h.here
def iQ (C:aI) (ops:Array Oper) (ay:List Nat) (w0 w:World) (φ :ag) (A:ah) (a:Act) (j n:Nat):Prop:=
 j∉ay∧ ∃(o:Oper) (d:Tmp) (sz:Nat) (el:List AV) (x:Nat→Nat→AV) (uv:Nat→Value),ops[j]? =some o∧o.guard=none∧o.dst=some d∧oz C o.op sz el x uv∧lZ w0 w φ A el sz n∧
  ∀u,a.tmps[d]? =some u→u=uv n
theorem iQ.mono {C:aI} {ops:Array Oper} {ay:List Nat} {w0 w w' :World} {G G' :J} {φ ak:ag} {A A' :ah} {a a' :Act} {j n:Nat} (h:iQ C ops ay w0 w φ A a j n) (o:Out w G φ A w' G' ak A')
 (ht: ∀(r:Oper) (d:Tmp),ops[j]? =some r→r.dst=some d→a'.tmps[d]? =a.tmps[d]?):iQ C ops ay w0 w' ak A' a' j n:=by
 obtain ⟨h0,r,d,sz,el,x,uv,h1,h2,h4,h5,h7,h8⟩:=h;exact ⟨h0,r,d,sz,el,x,uv,h1,h2,h4,h5,h7.mono o,fun u hu=>h8 u (by rw [←ht r d h1 h4];exact hu)⟩
structure Inv (C:aI) (ops:Array Oper) (ay:List Nat) (s:Nat→aj) (H:Nat→J) (v:Nat→AV) (w0:World) (az:ag) (A0:ah) (listed:Array Bool) (a:Act) (w:World) (b c:Nat) (φ :ag) (A:ah) (pn:Nat→Nat):Prop where
 size:listed.size=ops.size
 shut:qO ops (fun i=>listed.getD i false=true)
 bc:b≤c
 cn:c≤ops.size
 cl:c=ops.size∨c∈ay
 gO: ∀i,b≤i→i<c→i∉ay
 h_: ∀i,i∈ay→i<ops.size→(listed.getD i false=true↔i<b)
 base:b=0∨(b-1∈ay∧0<b)
 out:Out w0 (H 0) az A0 w (H c) φ A
 none: ∀i,b≤i→i<c→listed.getD i false=false→ ∀id,(H i).bs.length≤id→id<(H (i+1)).bs.length→ φ id=none
 eD:a.defers=[]
 len:(s 0).length=a.tmps.size
 wr: ∀(k:Nat) (o:Oper) (d:Tmp) (u:Value),ops[k]? =some o→o.dst=some d→listed.getD k false=true→k<c→a.tmps[d]? =some u→R w (H c) φ A (v k) u
 early: ∀(k:Nat),c≤k→listed.getD k false=true→iQ C ops ay w0 w φ A a k (pn k)
 l4: ∀(j k:Nat),c≤j→c≤k→listed.getD j false=true→listed.getD k false=true→pn j=pn k→j=k
 un: ∀(x:Tmp) (u:Value),(∀(k:Nat) (o:Oper),ops[k]? =some o→o.dst=some x→listed.getD k false=false)→a.tmps[x]? =some u→R w (H c) φ A ((s 0).getD x .undef) u
theorem l5 {listed:Array Bool} {i:Nat} (hi:i<listed.size) (k:Nat):(listed.setIfInBounds i true).getD k false=true↔(k=i∨listed.getD k false=true):=by
 by_cases hk:k=i
 ·subst hk;simp [hi]
 ·rw [getD_set_ne false (fun h=>hk h.symm)];simp [hk]
variable {w0:World} {az:ag} {A0:ah} {listed:Array Bool} {a:Act} {w:World} {b c:Nat} {φ :ag} {A:ah} {pn:Nat→Nat}
theorem Inv.look (inv:Inv C ops ay s H v w0 az A0 listed a w b c φ A pn) (dk:gM ops ay) (t:hZ X C ops ay th K s H v act) {i:Nat} {o:Oper} (fE:i≤c) (ho:ops[i]? =some o) (hu:listed.getD i false=false) (ha: ∀e∈o.after,Region.binds .any e=true→listed.getD e.on false=true)
 {m:Nat} (hm:m≤ops.size) (qR:i≤m) (ia:m=i∨ ∀(k:Nat) (r:Oper) (d:Tmp),ops[k]? =some r→r.dst=some d→i≤k→d∉Oper.looksAt ops o) {x:Tmp} (hx:x∈Oper.looksAt ops o):R w (H c) φ A (ev (s m) (.tmp x)) (a.eval (.tmp x)):=by
 obtain ⟨hl,hg⟩:=lX dk t m hm;simp only [ev,Act.eval];by_cases aw:x<(s 0).length
 ·have xS:x<a.tmps.size:=by rw [←inv.len];exact aw
  have aJ:=Array.getElem?_eq_getElem xS
  rw [Array.getD_eq_getD_getElem?,aJ,Option.getD_some];by_cases hw: ∃(k:Nat) (r:Oper),ops[k]? =some r∧r.dst=some x
  ·obtain ⟨k,r,hk,hr⟩:=hw;rcases Nat.lt_trichotomy k i with bH|bH|bH
   ·have hb:=dk.ord i k o r x (by omega) ho hk hr hx
    rw [show max i k=i by omega,show min i k=k by omega] at hb
    have bC:=lV inv.shut dk.back i o ho ha k hb;rw [(hg x aw).1 k r (by omega) hk hr]
    exact inv.wr k r x _ hk hr bC (by omega) aJ
   ·subst bH;rw [ho] at hk;simp only [Option.some.injEq] at hk;subst hk;rcases ia with rfl|ia
    ·rw [(hg x aw).2 (fun k' o' bu dZ=>dk.gb k' m o' o x (by omega) dZ ho hr)]
     refine inv.un x _ (fun k' o' dZ bR=> ?_) aJ
     by_cases kE:k' =m
     ·subst kE;exact hu
     ·exact absurd bR (dk.gb k' m o' o x kE dZ ho hr)
    ·exact absurd hx (ia k o x ho hr (Nat.le_refl _))
   ·rcases ia with rfl|ia
    ·have hb:=dk.ord m k o r x (by omega) ho hk hr hx
     rw [show max m k=k by omega,show min m k=m by omega] at hb
     have xT:listed.getD k false=false:=by
      cases hq:listed.getD k false with
      |false=>rfl
      |true=>
       have:=lV inv.shut dk.back k r hk (inv.shut k r hk hq) m hb;rw [hu] at this;simp at this
     rw [(hg x aw).2 (fun k' o' bu dZ=>dk.gb k' k o' r x (by omega) dZ hk hr)]
     refine inv.un x _ (fun k' o' dZ bR=> ?_) aJ
     by_cases kE:k' =k
     ·subst kE;exact xT
     ·exact absurd bR (dk.gb k' k o' r x kE dZ hk hr)
    ·exact absurd hx (ia k r x hk hr (by omega))
  ·rw [(hg x aw).2 (fun k' o' _ dZ bR=>hw ⟨k',o',dZ,bR⟩)]
   exact inv.un x _ (fun k' o' dZ bR=>absurd ⟨k',o',dZ,bR⟩ hw) aJ
 ·have:(s m).getD x .undef= .undef:=by simp [List.getD,List.getElem?_eq_none (show (s m).length≤x by rw [hl];exact Nat.le_of_not_lt aw)]
  rw [this];exact .fr _ _ (.undef _)
theorem Inv.oA (inv:Inv C ops ay s H v w0 az A0 listed a w b c φ A pn) (dk:gM ops ay) (t:hZ X C ops ay th K s H v act) {i:Nat} {o:Oper} (fE:i≤c) (ho:ops[i]? =some o) (hu:listed.getD i false=false) (ha: ∀e∈o.after,Region.binds .any e=true→listed.getD e.on false=true)
 {m:Nat} (hm:m≤ops.size) (qR:i≤m) (ia:m=i∨ ∀(k:Nat) (r:Oper) (d:Tmp),ops[k]? =some r→r.dst=some d→i≤k→d∉Oper.looksAt ops o): ∀y∈o.op.operands,R w (H c) φ A (ev (s m) y) (a.eval y):=by
 intro y hy;cases y with
 |tmp x=>
  refine inv.look dk t fE ho hu ha hm qR ia ?_;unfold Oper.looksAt;refine List.mem_append.2 (.inl (List.mem_filterMap.2 ⟨.tmp x,by simpa using hy,rfl⟩))
 |const v=>exact .fr _ _ (FR.ofValue w A v)
 |global g=>exact .fr _ _ (.undef _)
 |func f=>exact .fr _ _ (.fn f [] #[] rfl (by simp))
theorem Inv.kz (inv:Inv C ops ay s H v w0 az A0 listed a w b c φ A pn) (cC:St w0 (H 0) az A0) (dk:gM ops ay) (t:hZ X C ops ay th K s H v act) {i:Nat} {o:Oper} (fE:i<c) (ho:ops[i]? =some o) (hl:i∉ay) (ha: ∀e∈o.after,Region.binds .any e=true→listed.getD e.on false=true)
 {u:Value} {w' :World} {φ1:ag} {A1:ah} (bz:Out w (H c) φ A w' (H c) φ1 A1) (hr: ∀d,o.dst=some d→d<a.tmps.size→R w' (H c) φ1 A1 (v i) u)
 (bp: ∀id loc,φ1 id=some loc→ φ id=some loc∨(b≤i∧i<c∧(H i).bs.length≤id∧id<(H (i+1)).bs.length)):Inv C ops ay s H v w0 az A0 (listed.setIfInBounds i true) (a.put o.dst u) w' b c φ1 A1 pn:=by
 have hi:i<ops.size:=(Array.getElem?_eq_some_iff.1 ho).1;have aG:i<listed.size:=by rw [inv.size];exact hi
 have bF:=l5 aG;have iR: ∀k,(listed.setIfInBounds i true).getD k false=false→k≠i∧listed.getD k false=false:=fun k hk=>by
  have:=(not_congr (bF k)).1 (by rw [hk];simp)
  refine ⟨fun h=>this (.inl h),?_⟩;cases hq:listed.getD k false with
  |false=>rfl
  |true=>exact absurd (.inr hq) this
 refine ⟨by simp [inv.size],fun k r hk bC e he hb=> ?_,inv.bc,inv.cn,inv.cl,inv.gO,fun k hk kF=> ?_,inv.base,inv.out.trans cC bz,fun k h1 h2 h3 id h4 h5=> ?_,?_,?_,fun k r d u' hk bS bC dJ aJ=> ?_,fun k iT bC=> ?_,fun j k hj hk ib bC hp=>inv.l4 j k hj hk (((bF j).1 ib).resolve_left (by omega)) (((bF k).1 bC).resolve_left (by omega)) hp,fun x u' eJ aJ=> ?_⟩
 ·rcases (bF k).1 bC with rfl|bC
  ·rw [ho] at hk;simp only [Option.some.injEq] at hk;subst hk;exact (bF _).2 (.inr (ha e he hb))
  ·exact (bF _).2 (.inr (inv.shut k r hk bC e he hb))
 ·rw [bF,←inv.h_ k hk kF];constructor
  ·rintro (rfl|h)
   ·exact absurd hk hl
   ·exact h
  ·exact .inr
 ·obtain ⟨bH,bC⟩:=iR k h3;have kG:=inv.cn;cases hq: φ1 id with
  |none=>rfl
  |some loc=>
   rcases bp id loc hq with h|⟨h6,h7,h8,h9⟩
   ·rw [inv.none k h1 h2 bC id h4 h5] at h;simp at h
   ·exfalso;rcases Nat.lt_or_ge k i with aw|xU
    ·have:=(gN t (i-(k+1)) (k+1) (by omega) (fun j j1 j2=>inv.gO j (by omega) (by omega))).1.2
     rw [show k+1+(i-(k+1))=i by omega] at this
     omega
    ·have:=(gN t (k-(i+1)) (i+1) (by omega) (fun j j1 j2=>inv.gO j (by omega) (by omega))).1.2
     rw [show i+1+(k-(i+1))=k by omega] at this
     omega
 ·cases hd:o.dst<;>simp [Act.put,inv.eD]
 ·cases hd:o.dst<;>simp [Act.put,inv.len]
 ·by_cases bH:k=i
  ·subst bH;rw [ho] at hk;simp only [Option.some.injEq] at hk;subst hk;rw [bS] at aJ;simp only [Act.put,Array.getElem?_setIfInBounds] at aJ;simp only [if_true] at aJ;split at aJ
   ·rename_i aw;simp only [Option.some.injEq] at aJ;subst aJ;exact hr d bS aw
   ·simp at aJ
  ·have bC:=((bF k).1 bC).resolve_left bH;have aN:o.dst≠some d:=dk.gb i k o r d (fun h=>bH h.symm) ho hk bS;have:a.tmps[d]? =some u' :=by
    cases hd:o.dst with
    |none=>rw [hd] at aJ;exact aJ
    |some d' =>
     rw [hd] at aJ;simp only [Act.put,Array.getElem?_setIfInBounds] at aJ;rw [if_neg (by rintro rfl;exact aN hd)] at aJ
     exact aJ
   exact (inv.wr k r d u' hk bS bC dJ this).mono bz.bX
 ·have bH:k≠i:=by omega
  refine (inv.early k iT (((bF k).1 bC).resolve_left bH)).mono bz fun r d hk bS=> ?_
  have aN:o.dst≠some d:=dk.gb i k o r d (fun h=>bH h.symm) ho hk bS;cases hd:o.dst with
  |none=>rfl
  |some d' =>
   simp only [Act.put,Array.getElem?_setIfInBounds];rw [if_neg (by rintro rfl;exact aN hd)]
 ·have aN:o.dst≠some x:=fun hd=>by have:=eJ i o ho hd;have h2:=(bF i).2 (.inl rfl);rw [this] at h2;simp at h2
  have:a.tmps[x]? =some u' :=by
   cases hd:o.dst with
   |none=>rw [hd] at aJ;exact aJ
   |some d' =>
    rw [hd] at aJ;simp only [Act.put,Array.getElem?_setIfInBounds] at aJ;rw [if_neg (by rintro rfl;exact aN hd)] at aJ
    exact aJ
  exact (inv.un x u' (fun k r hk bS=>(iR k (eJ k r hk bS)).2) this).mono bz.bX
theorem xV {w:World} {G:J} {φ :ag} {A:ah} (ae:St w G φ A) (o:Obj):Out w G φ A (w.alloc o) G φ (fun c=>A c∨c=w.heap.size):=by
 have aW:bG w G φ A (w.alloc o) G φ (fun c=>A c∨c=w.heap.size):=⟨fun c a t fr hc hn=>⟨⟨fr,by rw [heap_alloc_old w _ (fT hc)];exact hc⟩,fun h=>by have:=fT hc;rcases h with h|h;exact hn h;omega⟩,Nat.le_refl _,
  fun i b' ax _=>⟨b',ax,rfl,rfl,rfl,rfl,fun loc hl=>hl⟩,fun c hc=>by unfold a5;rw [heap_alloc_old w _ (Ow.lt ae hc)]⟩
 refine ⟨⟨ae.inj,fun c hc=> .inl (ae.own c hc),fun c hc=> ?_,fun i loc hl=> ?_⟩,
  ⟨rfl,rfl,rfl,by simp,fun c hc _=>heap_alloc_old w _ hc,fun c hc=>by unfold a5;rw [heap_alloc_old w _ hc],fun c hc=> .inl hc⟩,aW,fun c hc _=> .inl hc⟩
 ·simp only [World.size_alloc];rcases hc with h|h
  ·have:=ae.b6 c h;omega
  ·omega
 obtain ⟨b',cH,ax⟩:=ae.ap i loc hl;refine ⟨b',cH,ax.ad,ax.sized,ax.aO,fun c b0 h=> ?_⟩;obtain ⟨a,t,fr,h1,h2,h3,h4⟩:=ax.here c b0 h;exact ⟨a,t,fr,by rw [heap_alloc_old w _ (fT h1)];exact h1,h2,h3,fun i x j y v hx hy hv=>⟨(h4 i x j y v hx hy hv).1.mono aW,(h4 i x j y v hx hy hv).2⟩⟩
theorem Inv.xW (inv:Inv C ops ay s H v w0 az A0 listed a w b c φ A pn) (cC:St w0 (H 0) az A0) (dk:gM ops ay) {i:Nat} {o:Oper} (zl:c≤i) (ho:ops[i]? =some o) (zm:listed.getD i false=false) (hl:i∉ay) (hg:o.guard=Option.none) {d:Tmp} (hd:o.dst=some d)
 {sz:Nat} {el:List AV} {x:Nat→Nat→AV} {uv:Nat→Value} (bg:oz C o.op sz el x uv) (ha: ∀e∈o.after,Region.binds .any e=true→listed.getD e.on false=true) {arr:Array Value} {T:TypeId} (kD:lY el sz arr):
 Inv C ops ay s H v w0 az A0 (listed.setIfInBounds i true) (a.put o.dst (uv w.heap.size)) (w.alloc (.cells arr T)) b c φ (fun k=>A k∨k=w.heap.size) (fun k=>if k=i then w.heap.size else pn k):=by
 have hi:i<ops.size:=(Array.getElem?_eq_some_iff.1 ho).1;have xX:i<listed.size:=by rw [inv.size];exact hi
 have bF:=l5 xX;have bz:=xV inv.out.st (.cells arr T);have iR: ∀k,(listed.setIfInBounds i true).getD k false=false→k≠i∧listed.getD k false=false:=fun k hk=>by
  have:=(not_congr (bF k)).1 (by rw [hk];simp)
  refine ⟨fun h=>this (.inl h),?_⟩;cases hq:listed.getD k false with
  |false=>rfl
  |true=>exact absurd (.inr hq) this
 have jD: ∀(x:Tmp),o.dst≠some x→(a.put o.dst (uv w.heap.size)).tmps[x]? =a.tmps[x]? :=fun x aN=>by
  rw [hd] at aN⊢;simp only [Act.put,Array.getElem?_setIfInBounds];rw [if_neg (by rintro rfl;exact aN rfl)]
 refine ⟨by simp [inv.size],fun k r hk bC e he hb=> ?_,inv.bc,inv.cn,inv.cl,inv.gO,fun k hk kF=> ?_,inv.base,inv.out.trans cC bz,fun k h1 h2 h3 id h4 h5=>inv.none k h1 h2 (iR k h3).2 id h4 h5,?_,?_,fun k r d' u' hk bS bC dJ aJ=> ?_,fun k iT bC=> ?_,fun j k hj hk ib bC hp=> ?_,fun x u' eJ aJ=> ?_⟩
 ·rcases (bF k).1 bC with rfl|bC
  ·rw [ho] at hk;simp only [Option.some.injEq] at hk;subst hk;exact (bF _).2 (.inr (ha e he hb))
  ·exact (bF _).2 (.inr (inv.shut k r hk bC e he hb))
 ·rw [bF,←inv.h_ k hk kF];constructor
  ·rintro (rfl|h)
   ·exact absurd hk hl
   ·exact h
  ·exact .inr
 ·rw [hd];simp [Act.put,inv.eD]
 ·rw [hd];simp [Act.put,inv.len]
 ·have bH:k≠i:=by omega
  have aN:o.dst≠some d' :=dk.gb i k o r d' (fun h=>bH h.symm) ho hk bS
  rw [jD d' aN] at aJ
  exact (inv.wr k r d' u' hk bS (((bF k).1 bC).resolve_left bH) dJ aJ).mono bz.bX
 ·by_cases bH:k=i
  ·subst bH;simp only [if_true];refine ⟨hl,o,d,sz,el,x,uv,ho,hg,hd,bg,⟨inv.out.post.size,by simp,.inr rfl,fun h=>by have:=Ow.lt inv.out.st h;omega,arr,T,(0,0),heap_alloc_new w _,fun j _ h=>absurd h.2 (Nat.not_lt_zero j),kD⟩,fun u hu=> ?_⟩
   rw [hd] at hu;simp only [Act.put,Array.getElem?_setIfInBounds,if_true] at hu;split at hu
   ·simpa using hu.symm
   ·simp at hu
  ·simp only [if_neg bH];exact (inv.early k iT (((bF k).1 bC).resolve_left bH)).mono bz fun r d' hk bS=>jD d' (dk.gb i k o r d' (fun h=>bH h.symm) ho hk bS)
 ·have one: ∀k,c≤k→(listed.setIfInBounds i true).getD k false=true→k≠i→pn k≠w.heap.size:=fun k iT bC bH he=>by
   obtain ⟨_,_,_,_,_,_,_,_,_,_,_,hp,_⟩:=inv.early k iT (((bF k).1 bC).resolve_left bH);have:=hp.lt;omega
  by_cases jE:j=i
  ·by_cases bH:k=i
   ·rw [jE,bH]
   ·simp only [jE,if_true,if_neg bH] at hp;exact absurd hp.symm (one k hk bC bH)
  ·by_cases bH:k=i
   ·simp only [bH,if_true,if_neg jE] at hp;exact absurd hp (one j hj ib jE)
   ·simp only [if_neg jE,if_neg bH] at hp;exact inv.l4 j k hj hk (((bF j).1 ib).resolve_left jE) (((bF k).1 bC).resolve_left bH) hp
 ·have aN:o.dst≠some x:=fun hd=>by have:=eJ i o ho hd;have h2:=(bF i).2 (.inl rfl);rw [this] at h2;simp at h2
  rw [jD x aN] at aJ;exact (inv.un x u' (fun k r hk bS=>(iR k (eJ k r hk bS)).2) aJ).mono bz.bX
theorem fill (t:hZ X C ops ay th K s H v act) (cC:St w0 (H 0) az A0) {lst:Nat→Prop} {lo hi:Nat} (hq: ∀j,lo≤j→j≤hi→QG (H j) (H hi)) (hlen: ∀j k,lo≤j→j≤k→k≤hi→(H j).bs.length≤(H k).bs.length)
 (hinj: ∀j k,lo≤j→lo≤k→lst j→lst k→pn j=pn k→j=k) (bz:Out w0 (H 0) az A0 w (H hi) φ A) (hE: ∀j,lo≤j→lst j→iQ C ops ay w0 w φ A a j (pn j)) (gF: ∀id,(H lo).bs.length≤id→ φ id=none):
 ∀m,lo≤m→m≤hi→ ∃a3,Out w0 (H 0) az A0 w (H hi) a3 A∧bG w (H hi) φ A w (H hi) a3 A∧(∀j,lo≤j→j<m→lst j→ ∀(o:Oper) (d:Tmp) (u:Value),ops[j]? =some o→o.dst=some d→a.tmps[d]? =some u→R w (H hi) a3 A (v j) u)∧
  (∀id loc,a3 id=some loc→ φ id=some loc∨ ∃j,lo≤j∧j<m∧lst j∧(H j).bs.length≤id∧id<(H (j+1)).bs.length)∧(∀j,m≤j→lst j→iQ C ops ay w0 w a3 A a j (pn j)):=by
 intro m hm;obtain ⟨k,rfl⟩:=Nat.exists_eq_add_of_le hm;clear hm;induction k with
 |zero=>exact fun _=>⟨φ,bz,.refl _ _ _ _,fun j h1 h2=>by omega,fun id loc h=> .inl h,hE⟩
 |succ k ih=>
  intro qS;obtain ⟨a3,k1,k2,k3,k4,k5⟩:=ih (by omega)
  rw [show lo+(k+1)=lo+k+1 by omega] at qS⊢
  have hm:lo≤lo+k:=Nat.le_add_right _ _;generalize lo+k=m at hm qS k3 k4 k5⊢;by_cases hL:lst m
  ·obtain ⟨jC,o,d,sz,el,x,uv,e1,e2,e4,e5,hp,hu⟩:=k5 m (Nat.le_refl _) hL;obtain ⟨_,s2,s3,_,_⟩:=t.step m o (by rw [Array.getElem?_toList];exact e1)
   have eK:act m=true:=by
    simp only [c6,e2,Option.some.injEq] at s2;exact s2.symm
   have hw:=s3 eK;obtain ⟨hv,hH⟩:v m=x (H m).bs.length (H m).st∧H (m+1)=(H m).new sz false el:=by
    have:=e5.ev _ _ _ _ _ _ _ rfl hw;exact ⟨this.1.symm,this.2.symm⟩
   have cr:=hq (m+1) (by omega) (by omega)
   have hb:(H hi).get (H m).bs.length=some ⟨(H m).st,sz,false,el⟩:=by
    refine cr.1.1.1 _ _ ?_;rw [hH];simp [J.get,J.new]
   have bM:(H m).st<(H hi).st:=by
    have:=cr.1.1.2;rw [hH] at this;exact this
   have aX:a3 (H m).bs.length=none:=by
    cases hc:a3 (H m).bs.length with
    |none=>rfl
    |some loc=>
     exfalso;rcases k4 _ _ hc with h|⟨j,h1,h2,_,_,h4⟩
     ·rw [gF _ (hlen lo m (Nat.le_refl _) hm (by omega))] at h;simp at h
     ·have:=hlen (j+1) m (by omega) (by omega) (by omega)
      omega
   obtain ⟨arr,T,fr,h1,h2,h3,h5⟩:=hp.here
   let cM:ag:=fun i=>if i=(H m).bs.length then some (.at_ (pn m) 0) else a3 i
   have dp: ∀c,Ow cM c→Ow a3 c∨c=pn m:=by
    rintro c ⟨i,b0,h⟩;simp only [cM] at h;split at h
    ·simp only [Option.some.injEq,Loc.at_.injEq] at h;exact .inr h.1.symm
    ·exact .inl ⟨i,b0,h⟩
   have aW:bG w (H hi) a3 A w (H hi) cM A:=by
    refine ⟨fun c a t fr hc hn=>⟨⟨fr,hc⟩,hn⟩,Nat.le_refl _,fun i b' ax _=>⟨b',ax,rfl,rfl,rfl,rfl,fun loc hl=> ?_⟩,fun _ _=>rfl⟩
    simp only [cM];split
    ·rename_i h;subst h;rw [aX] at hl;simp at hl
    ·exact hl
   have xY:St w (H hi) cM A:=by
    refine ⟨fun i i' c b0 b1 h1 h2=> ?_,fun c hc=> ?_,k1.st.b6,fun i loc hl=> ?_⟩
    ·simp only [cM] at h1 h2;split at h1
     ·rename_i e8;split at h2
      ·rename_i zn;omega
      ·simp only [Option.some.injEq,Loc.at_.injEq] at h1;exact absurd ⟨i',b1,by rw [h1.1];exact h2⟩ hp.ow
     ·split at h2
      ·simp only [Option.some.injEq,Loc.at_.injEq] at h2;exact absurd ⟨i,b0,by rw [h2.1];exact h1⟩ hp.ow
      ·exact k1.st.inj i i' c b0 b1 h1 h2
    ·rcases dp c hc with h|h
     ·exact k1.st.own c h
     ·rw [h];exact hp.av
    ·simp only [cM] at hl;split at hl
     ·rename_i e8;subst e8;simp only [Option.some.injEq] at hl;subst hl;refine ⟨_,hb,bM,e5.xO,by simp,fun c b0 h=> ?_⟩
      simp only [Loc.at_.injEq] at h;obtain ⟨rfl,rfl⟩:=h;refine ⟨arr,T,fr,h1,h2,by rw [Nat.zero_add];exact h3,fun i x j y v hx hy hv=> ?_⟩
      rw [Nat.zero_add] at hv;obtain ⟨g1,g2⟩:=h5 i x j y v hx hy hv;exact ⟨g1 _ _ _ _,g2⟩
     ·obtain ⟨b',cH,ax⟩:=k1.st.ap i loc hl;refine ⟨b',cH,ax.ad,ax.sized,ax.aO,fun c b0 h=> ?_⟩;obtain ⟨a,t,fr,h1,h2,h3,h4⟩:=ax.here c b0 h;exact ⟨a,t,fr,h1,h2,h3,fun i x j y v hx hy hv=>⟨(h4 i x j y v hx hy hv).1.mono aW,(h4 i x j y v hx hy hv).2⟩⟩
   have xZ:Out w0 (H 0) az A0 w (H hi) cM A:=by
    refine ⟨xY,⟨k1.post.os,k1.post.tape,k1.post.output,k1.post.size,k1.post.kept,k1.post.a5,fun c hc=> ?_⟩,k1.bX.trans aW (fun c hc=>k1.post.a5 c (Ow.lt cC hc)),k1.bE⟩;rcases dp c hc with h|h
    ·exact k1.post.own c h
    ·right;rw [h];exact hp.old
   refine ⟨cM,xZ,k2.trans aW (fun _ _=>rfl),fun j j1 j2 j3 o' d' u' q1 q2 q3=> ?_,fun id loc h=> ?_,fun j j1 j2=> ?_⟩
   ·by_cases oB:j=m
    ·subst oB;rw [e1] at q1;simp only [Option.some.injEq] at q1;subst q1;rw [e4] at q2;simp only [Option.some.injEq] at q2;subst q2;rw [hu u' q3,hv]
     exact e5.rel _ _ _ _ _ _ _ hb bM (by simp [cM]) (by unfold a5;rw [h1];exact h3)
    ·exact (k3 j j1 (by omega) j3 o' d' u' q1 q2 q3).mono aW
   ·simp only [cM] at h;split at h
    ·rename_i bT;refine .inr ⟨m,hm,Nat.lt_succ_self _,hL,by omega,?_⟩
     rw [hH];simp [J.new];omega
    ·rcases k4 id loc h with h|⟨j,q1,q2,q3⟩
     ·exact .inl h
     ·exact .inr ⟨j,q1,by omega,q3⟩
   ·obtain ⟨g0,r,d',x1,fW,x',x2,g1,g2,g4,g5,g7,g8⟩:=k5 j (by omega) j2
    refine ⟨g0,r,d',x1,fW,x',x2,g1,g2,g4,g5,⟨g7.old,g7.lt,g7.av,fun h=> ?_,g7.here⟩,g8⟩;rcases dp _ h with h|h
    ·exact g7.ow h
    ·have:=hinj j m (by omega) hm j2 hL h
     omega
  ·refine ⟨a3,k1,k2,fun j j1 j2 j3=> ?_,fun id loc h=> ?_,fun j j1 j2=>k5 j (by omega) j2⟩
   ·by_cases oB:j=m
    ·subst oB;exact absurd j3 hL
    ·exact k3 j j1 (by omega) j3
   ·rcases k4 id loc h with h|⟨j,q1,q2,q3⟩
    ·exact .inl h
    ·exact .inr ⟨j,q1,by omega,q3⟩
end draw
end Go.VS
namespace Go.VS
section draw
variable {P:Program} {C:aI} {X:bw} {ops:Array Oper} {ay:List Nat} {th:List Nat} {K:aj→J→Prop} {s:Nat→aj} {H:Nat→J} {v:Nat→AV} {act:Nat→Bool}
variable {w0:World} {az:ag} {A0:ah} {listed:Array Bool} {a:Act} {w:World} {b c:Nat} {φ :ag} {A:ah} {pn:Nat→Nat}
theorem Inv.x3 (inv:Inv C ops ay s H v w0 az A0 listed a w b c φ A pn) (dk:gM ops ay) {i:Nat} {o:Oper} (ho:ops[i]? =some o) (ha: ∀e∈o.after,Region.binds .any e=true→listed.getD e.on false=true):i≤c∨(i∉ay∧o.guard=Option.none∧iq o.op=true∧ ∃d,o.dst=some d):=by
 rcases Nat.lt_or_ge c i with h|h
 ·have hi:i<ops.size:=(Array.getElem?_eq_some_iff.1 ho).1;rcases inv.cl with hc|hc
  ·omega
  ·have x4:=Array.getElem?_eq_getElem (xs:=ops) (show c<ops.size by omega)
   rcases dk.after c i _ o x4 ho hc h with hb|hb
   ·exfalso;have hL:=lV inv.shut dk.back i o ho ha c hb;have:=(inv.h_ c hc (by omega)).1 hL
    have:=inv.bc;omega
   ·exact .inr hb
 ·exact .inl h
theorem Inv.qT (inv:Inv C ops ay s H v w0 az A0 listed a w b c φ A pn) (cC:St w0 (H 0) az A0) (dk:gM ops ay) (t:hZ X C ops ay th K s H v act) {o:Oper} (ho:ops[c]? =some o) (hl:c∈ay) (ha: ∀e∈o.after,Region.binds .any e=true→listed.getD e.on false=true)
 {u:Value} {w' :World} {φ1:ag} {A1:ah} (bz:Out w (H c) φ A w' (H (c+1)) φ1 A1) (hr:R w' (H (c+1)) φ1 A1 (v c) u): ∃c' a3,Inv C ops ay s H v w0 az A0 (listed.setIfInBounds c true) (a.put o.dst u) w' (c+1) c' a3 A1 pn:=by
 have hi:c<ops.size:=(Array.getElem?_eq_some_iff.1 ho).1;have aG:c<listed.size:=by rw [inv.size];exact hi
 have bF:=l5 aG;have x5:=inv.bc;have zo:listed.getD c false=false:=by
  cases hq:listed.getD c false with
  |false=>rfl
  |true=>have:=(inv.h_ c hl hi).1 hq;omega
 have iR: ∀k,(listed.setIfInBounds c true).getD k false=false→k≠c∧listed.getD k false=false:=fun k hk=>by
  have:=(not_congr (bF k)).1 (by rw [hk];simp)
  refine ⟨fun h=>this (.inl h),?_⟩;cases hq:listed.getD k false with
  |false=>rfl
  |true=>exact absurd (.inr hq) this
 have jD: ∀(k:Nat) (r:Oper) (d:Tmp),k≠c→ops[k]? =some r→r.dst=some d→(a.put o.dst u).tmps[d]? =a.tmps[d]? :=fun k r d dJ hk bS=>by
  have aN:o.dst≠some d:=dk.gb c k o r d (fun h=>dJ h.symm) ho hk bS;cases hd:o.dst with
  |none=>rfl
  |some d' =>
   simp only [Act.put,Array.getElem?_setIfInBounds];rw [if_neg (by rintro rfl;exact aN hd)]
 obtain ⟨c',k1,k2,k3,k4⟩:=ov ay ops.size (ops.size-(c+1)) (c+1) rfl (by omega)
 have hQ: ∀j k,c+1≤j→j≤k→k≤c' →QG (H j) (H k):=fun j k h1 h2 h3=>by
  have:=gN t (k-j) j (by omega) (fun i i1 i2=>k4 i (by omega) (by omega))
  rwa [show j+(k-j)=k by omega] at this
 have gd:=hQ (c+1) c' (Nat.le_refl _) k1 (Nat.le_refl _)
 have hlen: ∀j k,c+1≤j→j≤k→k≤c' →(H j).bs.length≤(H k).bs.length:=fun j k h1 h2 h3=>(hQ j k h1 h2 h3).1.2
 have hex:=iE bz.st gd.1.1 gd.2;have aW:=bz.bX.trans hex.bX (fun k hk=>by rw [(bz.post.trans hex.post).a5 k (Ow.lt inv.out.st hk)])
 have hE: ∀j,c+1≤j→(listed.setIfInBounds c true).getD j false=true→iQ C ops ay w0 w' φ1 A1 (a.put o.dst u) j (pn j):=fun j hj hL=>
  (inv.early j (by omega) (((bF j).1 hL).resolve_left (by omega))).mono bz fun r d hk bS=>jD j r d (by omega) hk bS
 obtain ⟨a3,o2,oC,r2,m2,e2⟩:=fill (lst:=fun j=>(listed.setIfInBounds c true).getD j false=true) t cC (fun j h1 h2=>hQ j c' h1 h2 (Nat.le_refl _)) hlen
  (fun j k hj hk ib bC hp=>inv.l4 j k (by omega) (by omega) (((bF j).1 ib).resolve_left (by omega)) (((bF k).1 bC).resolve_left (by omega)) hp) ((inv.out.trans cC bz).trans cC hex) hE (fun id h=>bz.st.new h) c' k1 (Nat.le_refl _)
 refine ⟨c',a3,by simp [inv.size],fun k r hk bC e he hb=> ?_,k1,k2,k3,k4,fun k hk kF=> ?_,.inr ⟨by simpa using hl,Nat.succ_pos _⟩,o2,fun k h1 h2 h3 id h4 h5=> ?_,?_,?_,fun k r d u' hk bS bC x6 aJ=> ?_,fun k iT bC=>e2 k iT bC,
  fun j k hj hk ib bC hp=>inv.l4 j k (by omega) (by omega) (((bF j).1 ib).resolve_left (by omega)) (((bF k).1 bC).resolve_left (by omega)) hp,fun x u' eJ aJ=> ?_⟩
 ·by_cases dJ:k=c
  ·subst dJ;rw [ho] at hk;simp only [Option.some.injEq] at hk;subst hk;exact (bF _).2 (.inr (ha e he hb))
  ·exact (bF _).2 (.inr (inv.shut k r hk (((bF k).1 bC).resolve_left dJ) e he hb))
 ·rw [bF,inv.h_ k hk kF];constructor
  ·rintro (h|h)<;>omega
  ·intro h;by_cases dJ:k=c
   ·exact .inl dJ
   ·right;rcases Nat.lt_or_ge k b with h' |h'
    ·exact h'
    ·exact absurd hk (inv.gO k h' (by omega))
 ·cases hp:a3 id with
  |none=>rfl
  |some loc=>
   exfalso;rcases m2 id loc hp with h|⟨j,j1,j2,j3,j4,j5⟩
   ·rw [bz.st.new (Nat.le_trans (hlen (c+1) k (Nat.le_refl _) h1 (by omega)) h4)] at h;simp at h
   ·have:j=k:=by
     rcases Nat.lt_trichotomy j k with h|h|h
     ·have:=hlen (j+1) k (by omega) (by omega) (by omega);omega
     ·exact h
     ·have:=hlen (k+1) j (by omega) (by omega) (by omega);omega
    subst this;rw [h3] at j3;simp at j3
 ·cases hd:o.dst<;>simp [Act.put,inv.eD]
 ·cases hd:o.dst<;>simp [Act.put,inv.len]
 ·by_cases bH:k=c
  ·subst bH;rw [ho] at hk;simp only [Option.some.injEq] at hk;subst hk;rw [bS] at aJ;simp only [Act.put,Array.getElem?_setIfInBounds] at aJ;simp only [if_true] at aJ;split at aJ
   ·rename_i aw;simp only [Option.some.injEq] at aJ;subst aJ;exact (hr.mono hex.bX).mono oC
   ·simp at aJ
  ·rcases Nat.lt_or_ge k c with aw|xU
   ·rw [jD k r d bH hk bS] at aJ;exact ((inv.wr k r d u' hk bS (((bF k).1 bC).resolve_left bH) aw aJ).mono aW).mono oC
   ·exact r2 k (by omega) x6 bC r d u' hk bS aJ
 ·have aN:o.dst≠some x:=fun hd=>by have:=eJ c o ho hd;have h2:=(bF c).2 (.inl rfl);rw [this] at h2;simp at h2
  have:a.tmps[x]? =some u' :=by
   cases hd:o.dst with
   |none=>rw [hd] at aJ;exact aJ
   |some d' =>
    rw [hd] at aJ;simp only [Act.put,Array.getElem?_setIfInBounds] at aJ;rw [if_neg (by rintro rfl;exact aN hd)] at aJ
    exact aJ
  exact ((inv.un x u' (fun k r hk bS=>(iR k (eJ k r hk bS)).2) this).mono aW).mono oC
theorem x7 {op:Op} (h:jP op=true):eO op=true:=by
 cases op<;>first|rfl|(simp [jP] at h)
def left (ops:Array Oper) (listed:Array Bool):Nat:=((List.range ops.size).filter fun k=> !listed.getD k false).length
theorem x8 {ops:Array Oper} {listed:Array Bool} {i:Nat} (hs:listed.size=ops.size) (hi:i<ops.size) (hu:listed.getD i false=false):left ops (listed.setIfInBounds i true)<left ops listed:=by
 have bF:=l5 (listed:=listed) (i:=i) (by omega)
 have he:((List.range ops.size).filter fun k=> !(listed.setIfInBounds i true).getD k false)=(((List.range ops.size).filter fun k=> !listed.getD k false).filter fun k=> !(listed.setIfInBounds i true).getD k false):=by
  rw [List.filter_filter];refine List.filter_congr fun k _=> ?_;cases hq:(listed.setIfInBounds i true).getD k false with
  |true=>simp
  |false=>
   have:listed.getD k false=false:=by
    cases l6:listed.getD k false with
    |false=>rfl
    |true=>rw [(bF k).2 (.inr l6)] at hq;simp at hq
   simp only [this,Bool.not_false,Bool.and_self]
 unfold left;rw [he];refine List.length_filter_lt_length_iff_exists.2 ⟨i,List.mem_filter.2 ⟨List.mem_range.2 hi,by rw [hu];rfl⟩,?_⟩
 rw [(bF i).2 (.inl rfl)];simp
theorem x9 (hE: ∀t ti,C.E t=some ti→aT P t ti) (hX: ∀f ys H K,X f ys H K→db P f ys H K) (dk:gM ops ay) (t:hZ X C ops ay th K s H v act) (cC:St w0 (H 0) az A0) {Q:Exit→Act→World→Prop}
 (hq: ∀s' H' ak A' a' w',Out w0 (H 0) az A0 w' H' ak A' →SF w' H' ak A' s' a' →K s' H' →Q .normal a' w'):
 ∀(fuel:Nat) (listed:Array Bool) (a:Act) (w:World) (b c:Nat) (φ :ag) (A:ah) (pn:Nat→Nat),Inv C ops ay s H v w0 az A0 listed a w b c φ A pn→left ops listed≤fuel→wpAny P .any ops Q fuel listed a w:=by
 have done: ∀(listed:Array Bool) (a:Act) (w:World) (b c:Nat) (φ :ag) (A:ah) (pn:Nat→Nat),Inv C ops ay s H v w0 az A0 listed a w b c φ A pn→Region.ready .any ops listed=[]→Q .normal a w:=by
  intro listed a w b c φ A pn inv hr;have all: ∀k,k<ops.size→listed.getD k false=true:=by
   intro k;induction k using Nat.strongRecOn with
   |_ k ih=>
    intro hk;cases hq:listed.getD k false with
    |true=>rfl
    |false=>
     exfalso;have ho:=Array.getElem?_eq_getElem (xs:=ops) hk;have:k∈Region.ready .any ops listed:=mem_ready.2 ⟨getD_in (by rw [inv.size];exact hk) hq,_,ho,fun e he hb=>by
      have aw:=dk.back k _ ho e he hb;exact ih e.on aw (by omega)⟩
     rw [hr] at this;cases this
  have kG:c=ops.size:=by
   rcases inv.cl with h|h
   ·exact h
   ·rcases Nat.lt_or_ge c ops.size with h' |h'
    ·have:=(inv.h_ c h h').1 (all c h');have:=inv.bc;omega
    ·have:=inv.cn;omega
  obtain ⟨hl,hg⟩:=lX dk t ops.size (Nat.le_refl _);have qU:=t.fin;rw [Array.length_toList] at qU;have bz:=inv.out;rw [kG] at bz;refine hq (s ops.size) (H ops.size) φ A a w bz ⟨by rw [hl,inv.len],fun x y u hx hu=> ?_,inv.eD⟩ qU
  have ca:x<(s 0).length:=by rw [←hl];exact (List.getElem?_eq_some_iff.1 hx).1
  have hy:(s ops.size).getD x .undef=y:=by simp [List.getD,hx]
  by_cases hw: ∃(k:Nat) (r:Oper),ops[k]? =some r∧r.dst=some x
  ·obtain ⟨k,r,hk,hr⟩:=hw;have qV:k<ops.size:=(Array.getElem?_eq_some_iff.1 hk).1;rw [(hg x ca).1 k r qV hk hr] at hy;subst hy;have:=inv.wr k r x u hk hr (all k qV) (by omega) hu
   rw [kG] at this;exact this
  ·rw [(hg x ca).2 (fun k' o' _ dZ bR=>hw ⟨k',o',dZ,bR⟩)] at hy
   subst hy;have:=inv.un x u (fun k' o' dZ bR=>absurd ⟨k',o',dZ,bR⟩ hw) hu
   rw [kG] at this;exact this
 intro fuel;induction fuel with
 |zero=>
  intro listed a w b c φ A pn inv hle;have hr:Region.ready .any ops listed=[]:=by
   cases hq:Region.ready .any ops listed with
   |nil=>rfl
   |cons i rs=>
    exfalso;have hm:i∈Region.ready .any ops listed:=by rw [hq];simp
    obtain ⟨hu,o,ho,_⟩:=mem_ready.1 hm;have hi:i<ops.size:=(Array.getElem?_eq_some_iff.1 ho).1;have:i∈((List.range ops.size).filter fun k=> !listed.getD k false):=List.mem_filter.2 ⟨List.mem_range.2 hi,by rw [getD_both hu];rfl⟩
    have:=List.length_pos_of_mem this;unfold left at hle;omega
  exact ⟨hr,done listed a w b c φ A pn inv hr⟩
 |succ fuel ih=>
  intro listed a w b c φ A pn inv hle;refine ⟨done listed a w b c φ A pn inv,fun i hi=> ?_⟩;obtain ⟨g6,o,ho,ha⟩:=mem_ready.1 hi;have hu:=getD_both g6;have ci:i<ops.size:=(Array.getElem?_eq_some_iff.1 ho).1;have zp:=x8 inv.size ci hu;have iU:=inv.x3 dk ho ha;obtain ⟨zq,l7,l8,qW,zr⟩:=t.step i o (by rw [Array.getElem?_toList];exact ho)
  rw [Nat.zero_add] at l8;by_cases qX:i≤c
  case neg=>
   obtain ⟨jC,hg,he,d,hd⟩:=iU.resolve_left qX;have eK:act i=true:=by
    simp only [c6,hg,Option.some.injEq] at l7;exact l7.symm
   obtain ⟨sz,el,x,uv,bg,cy⟩:=xP hE he (l8 eK);obtain ⟨arr,T,cy,kD⟩:=cy a w;unfold Go.wpOp;rw [ho];simp only;have hw:Region.wanted o (yielded ops a.tmps)=true:=by simp [Region.wanted,hg]
   rw [if_pos hw];refine .inl ?_;show o.upon P a _ Q _;rw [cy];exact ih _ _ _ _ _ _ _ _ (inv.xW cC dk (by omega) ho hu jC hg hd bg ha kD) (by omega)
  replace iU:=qX;unfold Go.wpOp;rw [ho];simp only;by_cases fF:i∈ay
  ·
   have fE:i=c:=by
    rcases Nat.lt_or_ge i c with h|h
    ·exfalso;have hb: ¬i<b:=fun h=>by have:=(inv.h_ i fF ci).2 h;rw [hu] at this;simp at this
     exact inv.gO i (by omega) h fF
    ·omega
   subst fE;have bg:=inv.oA dk t iU ho hu ha (m:=i) (by omega) (Nat.le_refl _) (.inl rfl)
   have hw:=oe (H:=H i) (φ := φ) (A:=A) (w:=w) (s:=s i) (a:=a) (fun j dQ x hg hx=>inv.look dk t iU ho hu ha (m:=i) (by omega) (Nat.le_refl _) (.inl rfl) (by
    unfold Oper.looksAt;refine List.mem_append.2 (.inr ?_);rw [hg];simp only;rw [hx];simp)) l7
   cases eK:act i with
   |true=>
    rw [eK] at hw;rw [if_pos hw];have h3:=l8 eK;rw [show (!ay.contains i)=false by simpa using fF] at h3
    refine .inl (ob hE hX inv.out.st bg h3 fun x u w' H' ak A' k1 k2 k3=> ?_)
    obtain ⟨rfl,rfl⟩:=k3;obtain ⟨c',a3,oD⟩:=inv.qT cC dk t ho fF ha k1 k2;exact ih _ _ _ _ _ _ _ _ oD (by omega)
   |false=>
    rw [eK] at hw;rw [if_neg (by rw [hw];simp)]
    obtain ⟨h4,h5⟩:=qW eK;obtain ⟨c',a3,oD⟩:=inv.qT cC dk t ho fF ha (u:=undef) (w' :=w) (φ1:= φ) (A1:=A) (by rw [h5];exact .refl inv.out.st) (by rw [h4];exact .fr _ _ (.aC [] #[] rfl (by simp)))
    exact ih _ _ _ _ _ _ _ _ oD (by omega)
  ·have fE:i<c:=by
    rcases Nat.lt_or_ge i c with h|h
    ·exact h
    ·have:i=c:=by omega
     subst this;rcases inv.cl with h' |h'
     ·omega
     ·exact absurd h' fF
   have kG:=inv.cn;rcases Nat.lt_or_ge i b with l9|l9
   ·
    obtain ⟨l_,g_⟩:b-1∈ay∧0<b:=by
     rcases inv.base with h|h
     ·omega
     ·exact h
    have x5:=inv.bc;have ma:=Array.getElem?_eq_getElem (xs:=ops) (show b-1<ops.size by omega)
    have x_:=(inv.h_ (b-1) l_ (by omega)).2 (by omega)
    have qY:i<b-1:=by
     rcases Nat.lt_or_ge i (b-1) with h|h
     ·exact h
     ·have:i=b-1:=by omega
      subst this;exact absurd l_ fF
    have qZ:((eR ops.toList).getD (b-1) 0).testBit i=false:=by
     cases hq:((eR ops.toList).getD (b-1) 0).testBit i with
     |false=>rfl
     |true=>
      have:=lV inv.shut dk.back (b-1) _ ma (inv.shut (b-1) _ ma x_) i hq;rw [hu] at this;simp at this
    obtain ⟨_,hg,df,⟨d,hd⟩,ya⟩:=dk.late (b-1) i _ o ma ho l_ qY qZ
    obtain ⟨_,_,_,_,q0⟩:=t.step (b-1) _ (by rw [Array.getElem?_toList];exact ma)
    rw [Nat.zero_add,show b-1+1=b by omega] at q0
    have mb:=q0 i (by
     unfold fk;rw [if_pos (by simpa using l_)]
     exact List.mem_filter.2 ⟨List.mem_range.2 qY,by rw [qZ];rfl⟩)
    unfold jg at mb;rw [ho] at mb;simp only [hd] at mb;have bg:=inv.oA dk t iU ho hu ha (m:=b) (by omega) (by omega) (.inr ya)
    have gd:=gN t (c-b) b (by omega) (fun k h1 h2=>inv.gO k h1 (by omega))
    rw [show b+(c-b)=c by omega] at gd
    have hw:Region.wanted o (yielded ops a.tmps)=true:=by simp [Region.wanted,hg]
    rw [if_pos hw];refine .inl ((nq hE inv.out.st gd.1.1 gd.1.1 (fun h=>absurd h (Nat.lt_irrefl _)) (x7 df) bg mb).upon fun u w' ak A' k1 k2 k3=> ?_)
    refine ih _ _ _ _ _ _ _ _ (inv.kz cC dk t fE ho fF ha k1 (fun d' bR aw=> ?_) (fun id loc h=> ?_)) (by omega)
    ·rw [hd] at bR;simp only [Option.some.injEq] at bR;subst bR;rw [←((lX dk t b (by omega)).2 d (by rw [inv.len];exact aw)).1 i o l9 ho hd]
     exact k2
    ·rcases k3 id loc h with h|⟨h1,h2⟩
     ·exact .inl h
     ·omega
   ·
    have bg:=inv.oA dk t iU ho hu ha (m:=i) (by omega) (Nat.le_refl _) (.inl rfl)
    have hw:=oe (H:=H c) (φ := φ) (A:=A) (w:=w) (s:=s i) (a:=a) (fun j dQ x hg hx=>inv.look dk t iU ho hu ha (m:=i) (by omega) (Nat.le_refl _) (.inl rfl) (by
     unfold Oper.looksAt;refine List.mem_append.2 (.inr ?_);rw [hg];simp only;rw [hx];simp)) l7
    cases eK:act i with
    |true=>
     rw [eK] at hw;rw [if_pos hw];have h3:=l8 eK;have jC:(!ay.contains i)=true:=by simpa using fF
     rw [jC] at h3;have gK:=gN t (c-i) i (by omega) (fun k h1 h2=>inv.gO k (by omega) (by omega))
     rw [show i+(c-i)=c by omega] at gK
     have l6:=gN t (c-(i+1)) (i+1) (by omega) (fun k h1 h2=>inv.gO k (by omega) (by omega))
     rw [show i+1+(c-(i+1))=c by omega] at l6
     refine .inl (VS.kz hE hX inv.out.st bg gK.1.1 ⟨l6.1.1,fun id h1 h2=>inv.none i l9 fE hu id h1 h2⟩ h3 fun u w' ak A' k1 k2 k3=> ?_)
     refine ih _ _ _ _ _ _ _ _ (inv.kz cC dk t fE ho fF ha k1 (fun d' _ _=>k2) (fun id loc h=> ?_)) (by omega)
     rcases k3 id loc h with h|h
     ·exact .inl h
     ·exact .inr ⟨l9,fE,h⟩
    |false=>
     rw [eK] at hw;rw [if_neg (by rw [hw];simp)]
     obtain ⟨h4,h5⟩:=qW eK;refine ih _ _ _ _ _ _ _ _ (inv.kz cC dk t fE ho fF ha (.refl inv.out.st) (fun d' _ _=>by rw [h4];exact .fr _ _ (.aC [] #[] rfl (by simp))) (fun id loc h=> .inl h)) (by omega)
theorem yb (dh:Exact X) (_hm:P.follows .mixedOrders=true) (hE: ∀t ti,C.E t=some ti→aT P t ti) (hX: ∀f ys H K,X f ys H K→db P f ys H K):og P C X:=by
 intro ops ay th s0 H0 K Q w φ A a hd h ae hs hq;have dk:=xM hd;obtain ⟨s,H,v,act,rfl,rfl,t⟩:=qL dh ops.toList 0 s0 H0 h;have aW:bG w (H 0) φ A {w with drawn:=w.drawn+1} (H 0) φ A:=⟨fun c arr T fr hc hn=>⟨⟨fr,hc⟩,hn⟩,Nat.le_refl _,fun id b h _=>⟨b,h,rfl,rfl,rfl,rfl,fun _ h=>h⟩,fun _ _=>rfl⟩;have q8:St {w with drawn:=w.drawn+1} (H 0) φ A:=by
  refine ⟨ae.inj,ae.own,ae.b6,fun id loc hl=> ?_⟩;obtain ⟨b,hb,af⟩:=ae.ap id loc hl;refine ⟨b,hb,af.ad,af.sized,af.aO,fun c b0 he=> ?_⟩;obtain ⟨arr,T,fr,k1,k2,k3,k4⟩:=af.here c b0 he;exact ⟨arr,T,fr,k1,k2,k3,fun i x j y v hx hy hv=>⟨(k4 i x j y v hx hy hv).1.mono aW,(k4 i x j y v hx hy hv).2⟩⟩
 have q9:Out w (H 0) φ A {w with drawn:=w.drawn+1} (H 0) φ A:=⟨q8,⟨rfl,rfl,rfl,Nat.le_refl _,fun _ _ _=>rfl,fun _ _=>rfl,fun _ h=> .inl h⟩,aW,fun _ h _=>h⟩;obtain ⟨c,k1,k2,k3,k4⟩:=ov ay ops.size (ops.size-0) 0 rfl (Nat.zero_le _);have gd:=gN t c 0 (by omega) (fun k h1 h2=>k4 k h1 (by omega))
 rw [Nat.zero_add] at gd;have hex:=iE q8 gd.1.1 gd.2;refine x9 hE hX dk t ae hq ops.size _ a _ 0 c φ A (fun _=>0) ⟨by simp,fun i o ho hl=>by have cS:(Array.replicate ops.size false).getD i false=true:=hl;rw [getD_replicate_false] at cS;simp at cS,k1,k2,k3,k4,fun i _ _=>by rw [getD_replicate_false];simp,.inl rfl,q9.trans ae hex,fun i _ _ _ id h4 h5=> ?_,hs.eD,hs.len,fun k o d u _ _ hl=>by rw [getD_replicate_false] at hl;simp at hl,fun k _ hl=>by rw [getD_replicate_false] at hl;simp at hl,fun j k _ _ hl=>by rw [getD_replicate_false] at hl;simp at hl,fun x u _ hu=> ?_⟩ ?_
 ·refine ae.new ?_;rename_i h1 h2 h3;have:=(gN t i 0 (by omega) (fun k h1 h2=>k4 k h1 (by omega))).1.2
  rw [Nat.zero_add] at this;omega
 ·have hx:=(hs.mono (q9.bX.trans hex.bX (fun _ _=>rfl))).ev (.tmp x);simp only [ev,Act.eval] at hx;rw [Array.getD_eq_getD_getElem?,hu] at hx;exact hx
 ·unfold left;exact Nat.le_trans (List.length_filter_le _ _) (by simp)
end draw
end Go.VS
namespace Go.VS
section mono
variable {X X' :bw} {C:aI} (hX: ∀f ys H (K K' :AV→J→Prop),(∀v H,K v H→K' v H)→X f ys H K→X' f ys H K')
include hX
theorem q_ {f:FuncId} {args:List AV} {th:Bool} {H:J} {K K' :AV→J→Prop} (hK: ∀v H,K v H→K' v H) (h:c5 X C f args th H K):c5 X' C f args th H K' :=by
 unfold c5 at h⊢;split at h
 ·exact h.elim
 rename_i ys bL hy;obtain ⟨y,h1,h2,h3⟩:=h;refine ⟨y,hX _ _ _ _ _ (fun _ _ h=>h) h1,h2,?_⟩;split at h3
 ·rename_i ht;rw [if_pos ht];exact hK _ _ h3
 ·rename_i ht;rw [if_neg ht];exact hK _ _ h3
theorem gP {q th:Bool} {o:Oper} {s:aj} {H:J} {K K' :AV→J→Prop} (hK: ∀v H,K v H→K' v H) (h:wpOp X C q th o s H K):wpOp X' C q th o s H K' :=by
 unfold wpOp at h⊢;split at h
 ·obtain ⟨hq,h⟩:=h;refine ⟨hq,?_⟩;split at h
  ·exact hK _ _ h
  ·exact h.elim
 ·split at h
  ·cases q with
   |true=>exact q_ hX hK h
   |false=>
    rcases h with h|h
    ·exact .inl (hX _ _ _ _ _ hK h)
    ·exact .inr (q_ hX hK h)
  ·exact h.elim
 ·obtain ⟨hq,h⟩:=h;refine ⟨hq,?_⟩;split at h
  ·exact hK _ _ h
  ·exact h.elim
omit hX in
theorem kH {ops:Array Oper} {s:aj} {H:J} {K K' :Prop} (hK:K→K'): ∀(l:List Nat),eQ C ops s H K l→eQ C ops s H K' l
 |[],h=>hK h
 |_j::js,h=>⟨h.1,kH hK js h.2⟩
theorem mc {ops:Array Oper} {q:Nat→Bool} {late:Nat→List Nat} {th:List Nat} {K K' :aj→J→Prop} (hK: ∀s H,K s H→K' s H): ∀(l:List Oper) (i:Nat) (s:aj) (H:J),cF X C ops q late th K l i s H→cF X' C ops q late th K' l i s H
 |[],i,s,H,h=>hK s H h
 |o::rest,i,s,H,h=>by
  simp only [cF] at h⊢;cases hg:o.guard with
  |none=>
   rw [hg] at h;exact gP hX (fun v H' hv=>kH (mc hK rest (i+1) _ _) _ hv) h
  |some p=>
   rw [hg] at h;obtain ⟨v,H',h1,h2⟩:=h;refine ⟨v,H',?_,kH (mc hK rest (i+1) _ _) _ h2⟩;split at h1
   ·split at h1
    ·rename_i hb;simp only [hb,if_true];exact gP hX (fun _ _ h=>h) h1
    ·rename_i hb;simp only [hb];exact h1
   ·exact h1.elim
theorem me {ops:Array Oper} {th:List Nat} {fz:List (Nat×List (List Nat×List Sh))} {K K' :aj→J→Prop} (hK: ∀s H,K s H→K' s H): ∀(l:List Oper) (i:Nat) (s:aj) (H:J),c7 X C ops th fz K l i s H→c7 X' C ops th fz K' l i s H
 |[],i,s,H,h=>hK s H h
 |o::rest,i,s,H,h=>by
  simp only [c7] at h⊢;obtain ⟨s1,H1,hf,h⟩:=h;refine ⟨s1,H1,hf,?_⟩;cases hg:o.guard with
  |none=>
   rw [hg] at h;exact gP hX (fun v H' hv=>me hK rest (i+1) _ _ hv) h
  |some p=>
   rw [hg] at h;obtain ⟨v,H',h1,h2⟩:=h;refine ⟨v,H',?_,me hK rest (i+1) _ _ h2⟩;split at h1
   ·split at h1
    ·rename_i hb;simp only [hb,if_true];exact gP hX (fun _ _ h=>h) h1
    ·rename_i hb;simp only [hb];exact h1
   ·exact h1.elim
theorem d_: ∀(c:AC) (s:aj) (H:J) (K K' :Ex→aj→J→Prop),(∀e s H,K e s H→K' e s H)→aL X C c s H K→aL X' C c s H K' :=by
 intro c;induction c with
 |skip=>intro s H K K' hK h;exact hK _ _ _ h
 |ret=>intro s H K K' hK h;exact hK _ _ _ h
 |exit id=>intro s H K K' hK h;exact hK _ _ _ h
 |seq a b iV iW=>
  intro s H K K' hK h
  simp only [aL] at h⊢;refine iV s H _ _ (fun e s' H' h=> ?_) h
  cases e with
  |normal=>exact iW s' H' K K' hK h
  |exit id=>exact hK _ _ _ h
  |ret=>exact hK _ _ _ h
 |cond c a b iV iW=>
  intro s H K K' hK h
  simp only [aL] at h⊢;split at h
  ·split at h
   ·rename_i hb;simp only [hb,if_true];exact iV s H K K' hK h
   ·rename_i hb;simp only [hb];exact iW s H K K' hK h
  ·exact h.elim
 |block id bE a ih=>
  intro s H K K' hK h
  simp only [aL] at h⊢;refine ih s H _ _ (fun e s' H' h=> ?_) h
  cases e with
  |normal=>exact hK _ _ _ h
  |ret=>exact hK _ _ _ h
  |exit j=>
   simp only at h⊢;split at h
   ·rename_i hj;rw [if_pos hj];exact hK _ _ _ h
   ·rename_i hj;rw [if_neg hj];exact hK _ _ _ h
 |loop sp a ih=>
  intro s H K K' hK h
  simp only [aL] at h⊢;intro Y hY;refine h Y fun s' H' hB=>hY s' H' (ih s' H' _ _ (fun e s2 H2 h=> ?_) hB)
  cases e with
  |normal=>exact h
  |exit id=>exact hK _ _ _ h
  |ret=>exact hK _ _ _ h
 |region id ops draw ay th fz=>
  intro s H K K' hK h
  cases draw with
  |true=>
   simp only [aL] at h⊢;exact ⟨h.1,mc hX (fun s H h=>hK _ s H h) _ _ _ _ h.2⟩
  |false=>
   simp only [aL] at h⊢;exact me hX (fun s H h=>hK _ s H h) _ _ _ _ h
 |gj l kp=>
  intro s H K K' hK h
  simp only [aL] at h⊢;split at h
  ·exact hK _ _ _ h
  ·exact h
 |bad=>intro s H K K' hK h;exact h
end mono
def Up (X:bw):Prop:= ∀f ys H (K K' :AV→J→Prop),(∀v H,K v H→K' v H)→X f ys H K→X f ys H K'
theorem il.round {X:bw} (hU:Up X) {C:aI} {c:AC} {next:aj→J→aj×J} {K:Ex→aj→J→Prop} {s:aj} {H:J}
 (h:aL X C c s H (fun e s' H' =>match e with
  | .normal=>il (aL X C c) next K (next s' H').1 (next s' H').2
  |e=>K e s' H')):il (aL X C c) next K s H:=by
 intro Y hY;refine hY s H (d_ hU c s H _ _ (fun e s' H' h=> ?_) h)
 cases e with
 |normal=>exact h Y hY
 |exit id=>exact h
 |ret=>exact h
theorem ra {X:bw} {C:aI} (hU:Up X) (dh:Exact X) {ops:Array Oper} {q:Nat→Bool} {late:Nat→List Nat} {th:List Nat} {K:aj→J→Prop}: ∀(l:List Oper) (i:Nat) (s:aj) (H:J),cF X C ops q late th K l i s H→ ∃s' H',cF X C ops q late th (fun s1 H1=>s1=s' ∧H1=H') l i s H∧K s' H'
 |[],i,s,H,h=>⟨s,H,⟨rfl,rfl⟩,h⟩
 |o::rest,i,s,H,h=>by
  have rb: ∀(ls:List Nat) (s1:aj) (H1:J),eQ C ops s1 H1 (cF X C ops q late th K rest (i+1) s1 H1) ls→ ∃s' H',eQ C ops s1 H1 (cF X C ops q late th (fun s1 H1=>s1=s' ∧H1=H') rest (i+1) s1 H1) ls∧K s' H' :=by
   intro ls s1 H1 h;obtain ⟨h1,h2⟩:=lU _ _ _ _ _ _ h;obtain ⟨s',H',h3,h4⟩:=ra hU dh rest (i+1) s1 H1 h2;refine ⟨s',H',?_,h4⟩;clear h h2 h4;induction ls with
   |nil=>exact h3
   |cons j js ih=>exact ⟨h1 j (by simp),ih fun k hk=>h1 k (by simp [hk])⟩
  simp only [cF] at h⊢;cases hg:o.guard with
  |none=>
   rw [hg] at h;simp only at h⊢;obtain ⟨v,H1,h1,h2⟩:=kA dh h;obtain ⟨s',H',h3,h4⟩:=rb _ _ _ h2;exact ⟨s',H',gP hU (fun v1 H2 e=>by obtain ⟨rfl,rfl⟩:=e;exact h3) h1,h4⟩
  |some p=>
   rw [hg] at h;simp only at h⊢;obtain ⟨v,H1,h1,h2⟩:=h;obtain ⟨s',H',h3,h4⟩:=rb _ _ _ h2;exact ⟨s',H',⟨v,H1,h1,h3⟩,h4⟩
theorem oE {X:bw} {C:aI} (hU:Up X) (dh:Exact X) {ops:Array Oper} {th:List Nat} {fz:List (Nat×List (List Nat×List Sh))} {K:aj→J→Prop}: ∀(l:List Oper) (i:Nat) (s:aj) (H:J),c7 X C ops th fz K l i s H→ ∃s' H',c7 X C ops th fz (fun s1 H1=>s1=s' ∧H1=H') l i s H∧K s' H'
 |[],i,s,H,h=>⟨s,H,⟨rfl,rfl⟩,h⟩
 |o::rest,i,s,H,h=>by
  simp only [c7] at h⊢;obtain ⟨s0,H0,hf,h⟩:=h;cases hg:o.guard with
  |none=>
   rw [hg] at h;simp only at h⊢;obtain ⟨v,H1,h1,h2⟩:=kA dh h;obtain ⟨s',H',h3,h4⟩:=oE hU dh rest (i+1) _ _ h2;exact ⟨s',H',⟨s0,H0,hf,gP hU (fun v1 H2 e=>by obtain ⟨rfl,rfl⟩:=e;exact h3) h1⟩,h4⟩
  |some p=>
   rw [hg] at h;simp only at h⊢;obtain ⟨v,H1,h1,h2⟩:=h;obtain ⟨s',H',h3,h4⟩:=oE hU dh rest (i+1) _ _ h2;exact ⟨s',H',⟨s0,H0,hf,v,H1,h1,h3⟩,h4⟩
theorem yc {X:bw} {C:aI} (hU:Up X) (dh:Exact X): ∀(c:AC) (s:aj) (H:J) (K:Ex→aj→J→Prop),aL X C c s H K→ ∃e s' H',aL X C c s H (fun e1 s1 H1=>e1=e∧s1=s' ∧H1=H')∧K e s' H' :=by
 intro c;induction c with
 |skip=>intro s H K h;exact ⟨_,_,_,⟨rfl,rfl,rfl⟩,h⟩
 |ret=>intro s H K h;exact ⟨_,_,_,⟨rfl,rfl,rfl⟩,h⟩
 |exit id=>intro s H K h;exact ⟨_,_,_,⟨rfl,rfl,rfl⟩,h⟩
 |seq a b iV iW=>
  intro s H K h;simp only [aL] at h⊢;obtain ⟨e,s1,H1,h1,h2⟩:=iV s H _ h;cases e with
  |normal=>
   obtain ⟨e,s2,H2,h3,h4⟩:=iW s1 H1 K h2;exact ⟨e,s2,H2,d_ hU a s H _ _ (fun e1 s' H' q=>by obtain ⟨rfl,rfl,rfl⟩:=q;exact h3) h1,h4⟩
  |exit id=>exact ⟨.exit id,s1,H1,d_ hU a s H _ _ (fun e1 s' H' q=>by obtain ⟨rfl,rfl,rfl⟩:=q;exact ⟨rfl,rfl,rfl⟩) h1,h2⟩
  |ret=>exact ⟨.ret,s1,H1,d_ hU a s H _ _ (fun e1 s' H' q=>by obtain ⟨rfl,rfl,rfl⟩:=q;exact ⟨rfl,rfl,rfl⟩) h1,h2⟩
 |cond c a b iV iW=>
  intro s H K h;simp only [aL] at h⊢;split at h
  ·split at h
   ·rename_i hb;simp only [hb,if_true];exact iV s H K h
   ·rename_i hb;simp only [hb];exact iW s H K h
  ·exact h.elim
 |block id bE a ih=>
  intro s H K h;simp only [aL] at h⊢;obtain ⟨e,s1,H1,h1,h2⟩:=ih s H _ h;cases e with
  |normal=>exact ⟨.normal,ef bE s1,H1,d_ hU a s H _ _ (fun e1 s' H' q=>by obtain ⟨rfl,rfl,rfl⟩:=q;exact ⟨rfl,rfl,rfl⟩) h1,h2⟩
  |ret=>exact ⟨.ret,s1,H1,d_ hU a s H _ _ (fun e1 s' H' q=>by obtain ⟨rfl,rfl,rfl⟩:=q;exact ⟨rfl,rfl,rfl⟩) h1,h2⟩
  |exit j=>
   simp only at h2;split at h2
   ·rename_i hj;exact ⟨.normal,ef bE s1,H1,d_ hU a s H _ _ (fun e1 s' H' q=>by obtain ⟨rfl,rfl,rfl⟩:=q;simp [hj]) h1,h2⟩
   ·rename_i hj;exact ⟨.exit j,s1,H1,d_ hU a s H _ _ (fun e1 s' H' q=>by obtain ⟨rfl,rfl,rfl⟩:=q;simp [hj]) h1,h2⟩
 |loop sp a ih=>
  intro s H K h;simp only [aL] at h⊢;refine h (fun s1 H1=> ∃e s' H',il (aL X C a) (gk sp H.bs.length) (fun e1 s2 H2=>e1=e∧s2=s' ∧H2=H') s1 H1∧K e s' H') fun s1 H1 hB=> ?_
  obtain ⟨e,s2,H2,h1,h2⟩:=ih s1 H1 _ hB;cases e with
  |normal=>
   obtain ⟨e,s',H',h3,h4⟩:=h2;exact ⟨e,s',H',.round hU (d_ hU a s1 H1 _ _ (fun e1 s' H' q=>by obtain ⟨rfl,rfl,rfl⟩:=q;exact h3) h1),h4⟩
  |exit id=>exact ⟨_,_,_,.round hU (d_ hU a s1 H1 _ _ (fun e1 s' H' q=>by obtain ⟨rfl,rfl,rfl⟩:=q;exact ⟨rfl,rfl,rfl⟩) h1),h2⟩
  |ret=>exact ⟨_,_,_,.round hU (d_ hU a s1 H1 _ _ (fun e1 s' H' q=>by obtain ⟨rfl,rfl,rfl⟩:=q;exact ⟨rfl,rfl,rfl⟩) h1),h2⟩
 |region id ops draw ay th fz=>
  intro s H K h;cases draw with
  |true=>
   simp only [aL] at h⊢;obtain ⟨s',H',h1,h2⟩:=ra hU dh _ _ _ _ h.2;exact ⟨.normal,s',H',⟨h.1,mc hU (fun s H q=>⟨rfl,q⟩) _ _ _ _ h1⟩,h2⟩
  |false=>
   simp only [aL] at h⊢;obtain ⟨s',H',h1,h2⟩:=oE hU dh _ _ _ _ h;exact ⟨.normal,s',H',me hU (fun s H q=>⟨rfl,q⟩) _ _ _ _ h1,h2⟩
 |gj l kp=>
  intro s H K h;simp only [aL] at h⊢;split at h
  ·rename_i s' H' he;exact ⟨_,_,_,⟨rfl,rfl,rfl⟩,h⟩
  ·exact h.elim
 |bad=>intro s H K h;exact h.elim
theorem ei.mono {E:aK} {res:List ResultVar} {K K' :AV→J→Prop} (hK: ∀v H,K v H→K' v H): ∀e s H,ei E res K e s H→ei E res K' e s H
 | .normal,_,_,⟨rs,h1,h2⟩=>⟨rs,h1,hK _ _ h2⟩
 | .ret,_,_,⟨rs,h1,h2⟩=>⟨rs,h1,hK _ _ h2⟩
 | .exit _,_,_,h=>h
theorem ei.exact {E:aK} {res:List ResultVar} {K:AV→J→Prop}: ∀e s H,ei E res K e s H→ ∃v H',ei E res (fun v1 H1=>v1=v∧H1=H') e s H∧K v H'
 | .normal,_,_,⟨rs,h1,h2⟩=>⟨_,_,⟨rs,h1,rfl,rfl⟩,h2⟩
 | .ret,_,_,⟨rs,h1,h2⟩=>⟨_,_,⟨rs,h1,rfl,rfl⟩,h2⟩
 | .exit _,_,_,h=>h.elim
theorem rf {X:bw} {C:aI} (hU:Up X) (dh:Exact X) {f:FuncId} {ys:List AV} {H:J} {K:AV→J→Prop} (h:Body X C f ys H K): ∃v H',Body X C f ys H (fun v1 H1=>v1=v∧H1=H')∧K v H' :=by
 unfold Body at h⊢;split at h
 ·exact h.elim
 ·rename_i fn jU;split at h
  ·exact h.elim
  ·rename_i c hc;obtain ⟨e,s',H',h1,h2⟩:=yc hU dh _ _ _ _ h;obtain ⟨v,H2,h3,h4⟩:=ei.exact _ _ _ h2;refine ⟨v,H2,?_,h4⟩;exact d_ hU _ _ _ _ _ (fun e1 s1 H1 q=>by obtain ⟨rfl,rfl,rfl⟩:=q;exact h3) h1
theorem Body.mono {X X' :bw} {C:aI} (hX: ∀f ys H (K K' :AV→J→Prop),(∀v H,K v H→K' v H)→X f ys H K→X' f ys H K') {f:FuncId} {ys:List AV} {H:J} {K K' :AV→J→Prop} (hK: ∀v H,K v H→K' v H) (h:Body X C f ys H K):Body X' C f ys H K' :=by
 unfold Body at h⊢;split at h
 ·exact h.elim
 ·rename_i fn jU;split at h
  ·exact h.elim
  ·rename_i c hc;exact d_ hX _ _ _ _ _ (ei.mono hK) h
def mf (C:aI):Prop:=Up C.ext
theorem au.up {C:aI} (hE:mf C):Up (au C):=by
 intro f ys H K K' hK h
 refine h (fun f ys H K=> ∀K',(∀v H,K v H→K' v H)→au C f ys H K') ⟨fun f ys H K h K' hK X hX=>hX.1 _ _ _ _ (hE _ _ _ _ _ hK h),fun f ys H K h K' hK X hX=> ?_⟩ K' hK
 refine hX.2 _ _ _ _ (Body.mono (fun f ys H K K2 yd h=> ?_) hK h);exact h K2 yd X hX
theorem au.intro {C:aI} (hE:mf C) {f:FuncId} {ys:List AV} {H:J} {K:AV→J→Prop} (h:Body (au C) C f ys H K):au C f ys H K:=by
 intro X hX;refine hX.2 _ _ _ _ (Body.mono (fun f ys H K K' hK hc=> ?_) (fun _ _ h=>h) h)
 exact au.up hE _ _ _ _ _ hK hc X hX
theorem au.exact {C:aI} (hE:mf C) (hX:Exact C.ext):Exact (au C):=by
 intro f ys H K h;refine h (fun f ys H K=> ∃v H',au C f ys H (fun v1 H1=>v1=v∧H1=H')∧K v H') ⟨fun f ys H K h=> ?_,fun f ys H K h=> ?_⟩
 ·obtain ⟨v,H',h1,h2⟩:=hX _ _ _ _ h;exact ⟨v,H',fun X hX=>hX.1 _ _ _ _ h1,h2⟩
 ·obtain ⟨v,H',h1,h2⟩:=rf (X:=fun f ys H K=> ∃v H',au C f ys H (fun v1 H1=>v1=v∧H1=H')∧K v H') (fun f ys H K K' hK ⟨v,H',h1,h2⟩=>⟨v,H',h1,hK _ _ h2⟩) (fun f ys H K ⟨v,H',h1,h2⟩=>⟨v,H',⟨v,H',h1,rfl,rfl⟩,h2⟩) h
  refine ⟨v,H',au.intro hE (Body.mono (fun f ys H K K' hK ⟨v,H',h1,h2⟩=> ?_) (fun _ _ h=>h) h1),h2⟩
  exact au.up hE _ _ _ _ _ (fun v1 H1 q=>by obtain ⟨rfl,rfl⟩:=q;exact hK _ _ h2) h1
theorem au.ext {C:aI} {f:FuncId} {ys:List AV} {H:J} {K:AV→J→Prop} (h:C.ext f ys H K):au C f ys H K:=fun _ hX=>hX.1 _ _ _ _ h
theorem zt {P:Program} {C:aI} (hm:P.follows .mixedOrders=true) (hE: ∀t ti,C.E t=some ti→aT P t ti) (hC: ∀f fn,C.code f=some fn→P.funcs[f]? =some fn∧(fn.name== "runtime.NumGoroutine")=false∧mG (C.fM f) fn=true)
 (ye: ∀f ys H K,C.ext f ys H K→ ∃v H',db P f ys H (fun v1 H1=>v1=v∧H1=H')∧K v H')
 {f:FuncId} {ys:List AV} {H:J} {K:AV→J→Prop} (h:au C f ys H K):db P f ys H K:=by
 have hY: ∃v H',db P f ys H (fun v1 H1=>v1=v∧H1=H')∧K v H' :=by
  let Y:bw:=fun f ys H K=> ∃v H',db P f ys H (fun v1 H1=>v1=v∧H1=H')∧K v H'
  have rh:Exact Y:=fun f ys H K ⟨v,H',h1,h2⟩=>⟨v,H',⟨v,H',h1,rfl,rfl⟩,h2⟩;have yf:Up Y:=fun f ys H K K' hK ⟨v,H',h1,h2⟩=>⟨v,H',h1,hK _ _ h2⟩
  have ri: ∀f ys H K,Y f ys H K→db P f ys H K:=fun f ys H K ⟨v,H',h1,h2⟩=>h1.mono fun v1 H1 q=>by obtain ⟨rfl,rfl⟩:=q;exact h2
  refine h Y ⟨ye,fun f ys H K hb=> ?_⟩;obtain ⟨v,H',h1,h2⟩:=rf yf rh hb;exact ⟨v,H',xB hm hE hC ri (yb rh hm hE ri) h1,h2⟩
 obtain ⟨v,H',h1,h2⟩:=hY;exact h1.mono fun v1 H1 q=>by obtain ⟨rfl,rfl⟩:=q;exact h2
end Go.VS
namespace Go.VS
structure Good (C:aI):Prop where
 up:mf C
 exact:Exact C.ext
def kI (C:aI) (b:AC) (K:Ex→aj→J→Prop):Ex→aj→J→Prop
 | .normal,s,H=>aL (au C) C b s H K
 | .exit i,s,H=>K (.exit i) s H
 | .ret,s,H=>K .ret s H
def iX (id:Nat) (bE:Option (List Nat)) (K:Ex→aj→J→Prop):Ex→aj→J→Prop
 | .normal,s,H=>K .normal (ef bE s) H
 | .exit j,s,H=>if j=id then K .normal (ef bE s) H else K (.exit j) s H
 | .ret,s,H=>K .ret s H
def rj (C:aI) (v:AV) (a b:AC) (s:aj) (H:J) (K:Ex→aj→J→Prop):Prop:=
 match v with
 | .bool t=>if t then aL (au C) C a s H K else aL (au C) C b s H K
 |_=>False
section
variable {C:aI} {K K1:Ex→aj→J→Prop} {s:aj} {H:J}
theorem zu {a b:AC} (h: ∀K1,K1=kI C b K→aL (au C) C a s H K1):aL (au C) C (.seq a b) s H K:=by
 have:=h _ rfl;have e:kI C b K=(fun e s' H' =>match e with| .normal=>aL (au C) C b s' H' K|e=>K e s' H'):=by
  funext e s H;cases e<;>rfl
 rw [e] at this;exact this
theorem zw {id:Nat} {kp:Option (List Nat)} {a:AC} (h: ∀K1,K1=iX id kp K→aL (au C) C a s H K1):aL (au C) C (.block id kp a) s H K:=by
 have:=h _ rfl;have e:iX id kp K=(fun e s' H' =>match e with
  | .exit j=>if j=id then K .normal (ef kp s') H' else K (.exit j) s' H'
  | .normal=>K .normal (ef kp s') H'
  | .ret=>K .ret s' H'):=by funext e s H;cases e<;>rfl
 rw [e] at this;exact this
theorem zx (h:K .normal s H):aL (au C) C .skip s H K:=h
theorem zy (h:K .ret s H):aL (au C) C .ret s H K:=h
theorem zB {id:Nat} (h:K (.exit id) s H):aL (au C) C (.exit id) s H K:=h
theorem zC {c:Operand} {a b:AC} (h:rj C (ev s c) a b s H K):aL (au C) C (.cond c a b) s H K:=h
theorem zD {kp:List Nat} (h:K .normal (ec kp s) H):aL (au C) C (.gj [] (some kp)) s H K:=h
theorem zE {b:AC} (hK:K1=kI C b K) (h:aL (au C) C b s H K):K1 .normal s H:=by rw [hK];exact h
theorem zF {b:AC} (hK:K1=kI C b K) (h:K .ret s H):K1 .ret s H:=by rw [hK];exact h
theorem zG {b:AC} {i:Nat} (hK:K1=kI C b K) (h:K (.exit i) s H):K1 (.exit i) s H:=by rw [hK];exact h
theorem zH {id:Nat} {kp:Option (List Nat)} (hK:K1=iX id kp K) (h:K .normal (ef kp s) H):K1 .normal s H:=by rw [hK];exact h
theorem zI {id:Nat} (hK:K1=iX id none K) (h:K .normal s H):K1 .normal s H:=by rw [hK];exact h
theorem zJ {id:Nat} {kp:Option (List Nat)} (hK:K1=iX id kp K) (h:K .normal (ef kp s) H):K1 (.exit id) s H:=by rw [hK];simp only [iX,if_true];exact h
theorem zK {id:Nat} {kp:Option (List Nat)} (hK:K1=iX id kp K) (h:K .ret s H):K1 .ret s H:=by rw [hK];exact h
theorem zL {E:aK} {a:Tmp} {P:AV→J→Prop} (hK:K1=ei E [.tmp a] P) {x:AV} (hx:s.getD a .undef=x) (h:P x H):K1 .ret s H:=by
 rw [hK];exact ⟨[s.getD a .undef],rfl,by rw [hx];exact h⟩
theorem zM {E:aK} {a b:Tmp} {P:AV→J→Prop} (hK:K1=ei E [.tmp a,.tmp b] P) {x y:AV} (hx:s.getD a .undef=x) (hy:s.getD b .undef=y) (h:P (.aC [x,y]) H):K1 .ret s H:=by
 rw [hK];exact ⟨[s.getD a .undef,s.getD b .undef],rfl,by rw [hx,hy];exact h⟩
theorem zN {E:aK} {a b c:Tmp} {P:AV→J→Prop} (hK:K1=ei E [.tmp a,.tmp b,.tmp c] P) {x y z:AV} (hx:s.getD a .undef=x) (hy:s.getD b .undef=y) (hz:s.getD c .undef=z) (h:P (.aC [x,y,z]) H):K1 .ret s H:=by
 rw [hK];exact ⟨[s.getD a .undef,s.getD b .undef,s.getD c .undef],rfl,by rw [hx,hy,hz];exact h⟩
theorem zO {E:aK} {P:AV→J→Prop} (hK:K1=ei E [] P) (h:P (.aC []) H):K1 .normal s H:=by
 rw [hK];exact ⟨[],rfl,h⟩
theorem zP {α :Type} {c:Bool} {x y:Option α} {r: α} {a b:AC} (h:(bif c then x else y)=some r) (ht:c=true→x=some r→aL (au C) C a s H K) (hf:c=false→y=some r→aL (au C) C b s H K):rj C (.bool c) a b s H K:=by
 cases c with
 |true=>exact ht rfl h
 |false=>exact hf rfl h
theorem yg {a:AC} (h:aL (au C) C a s H K1) (hK: ∀e s H,K1 e s H→K e s H) (gC:Good C):aL (au C) C a s H K:=d_ (au.up gC.up) a s H _ _ hK h
end
structure GO where
 d:Option Tmp
 op:Op
 g:Option (Option Tmp×Bool)
 late:List (Op×Option Tmp)
 th:Bool
 q:Bool
def lk:List Oper→Nat→Option Tmp
 |[],_=>none
 |o::_,0=>o.dst
 |_::os,n+1=>lk os n
def a7 (X:bw) (C:aI) (q fL:Bool) (op:Op) (s:aj) (H:J) (K:AV→J→Prop):Prop:=wpOp X C q fL ⟨none,op,0,"",#[],none⟩ s H K
theorem rk (X:bw) (C:aI) (q fL:Bool) (o:Oper) (s:aj) (H:J) (K:AV→J→Prop):wpOp X C q fL o s H K=a7 X C q fL o.op s H K:=by
 cases o;rfl
def dz (C:aI) (s:aj) (H:J) (K:Prop):List (Op×Option Tmp)→Prop
 |[]=>K
 |(op,d)::js=>(∃t,d=some t∧aM C.E op s H=some (s.getD t .undef,H))∧dz C s H K js
def gJ (g:Option (Option Tmp×Bool)) (s:aj) (a b:Prop):Prop:=
 match g with
 |none=>a
 |some (none,_)=>False
 |some (some t,dQ)=>match s.getD t .undef with
  | .bool c=>if c=dQ then a else b
  | .aC _=>b
  |_=>False
def dL (C:aI) (K:aj→J→Prop):List GO→aj→J→Prop
 |[],s,H=>K s H
 |o::rest,s,H=>gJ o.g s (a7 (au C) C o.q o.th o.op s H fun v H' =>dz C (bf s o.d v) H' (dL C K rest (bf s o.d v) H') o.late)
  (dz C (bf s o.d (.aC [])) H (dL C K rest (bf s o.d (.aC [])) H) o.late)
def jF (ops:List Oper) (j:Nat):Op×Option Tmp:=match ops[j]? with|some o=>(o.op,o.dst)|none=>(.move (.tmp 0),none)
def dA (all:List Oper) (q:Nat→Bool) (late:Nat→List Nat) (th:List Nat):List Oper→Nat→List GO
 |[],_=>[]
 |o::rest,i=>⟨o.dst,o.op,o.guard.map fun p=>(lk all p.1,p.2),(late i).map (jF all),th.contains i,q i⟩::dA all q late th rest (i+1)
theorem oF: ∀(l:List Oper) (j:Nat),lk l j=(l[j]?).bind (·.dst)
 |[],j=>by simp [lk]
 |o::os,0=>by simp [lk]
 |o::os,j+1=>by simp [lk,oF os j]
theorem oG {C:aI} {ops:Array Oper} {s:aj} {H:J} {K:Prop}: ∀(l:List Nat),dz C s H K (l.map (jF ops.toList))→eQ C ops s H K l
 |[],h=>h
 |j::js,h=>by
  simp only [List.map_cons,dz] at h;refine ⟨?_,oG js h.2⟩;unfold jg;have h1:=h.1;unfold jF at h1;rw [Array.getElem?_toList] at h1;cases ho:ops[j]? with
  |none=>rw [ho] at h1;simp at h1
  |some o=>
   rw [ho] at h1;obtain ⟨t,ht,he⟩:=h1;simp only at ht he⊢;rw [ht];exact he
theorem mg {C:aI} (gC:Good C) {ops:Array Oper} {q:Nat→Bool} {late:Nat→List Nat} {th:List Nat} {K:aj→J→Prop}: ∀(l:List Oper) (i:Nat) (s:aj) (H:J),dL C K (dA ops.toList q late th l i) s H→cF (au C) C ops q late th K l i s H
 |[],i,s,H,h=>h
 |o::rest,i,s,H,h=>by
  simp only [dA,dL] at h;have yes:(a7 (au C) C (q i) (th.contains i) o.op s H fun v H' =>dz C (bf s o.dst v) H' (dL C K (dA ops.toList q late th rest (i+1)) (bf s o.dst v) H') ((late i).map (jF ops.toList)))→
   wpOp (au C) C (q i) (th.contains i) o s H fun v H' =>eQ C ops (bf s o.dst v) H' (cF (au C) C ops q late th K rest (i+1) (bf s o.dst v) H') (late i):=by
   intro h;rw [←rk] at h;refine gP (au.up gC.up) (fun v H' h=> ?_) h
   exact kH (mg gC rest (i+1) _ _) _ (oG _ h)
  simp only [cF];cases hg:o.guard with
  |none=>
   rw [hg] at h;simp only [Option.map_none,gJ] at h⊢;exact yes h
  |some p=>
   obtain ⟨j,dQ⟩:=p;rw [hg] at h;simp only [Option.map_some,oF,Array.getElem?_toList] at h⊢;cases hd:(ops[j]?).bind (·.dst) with
   |none=>rw [hd] at h;exact h.elim
   |some t=>
    rw [hd] at h;simp only [gJ] at h;have no:(dz C (bf s o.dst (.aC [])) H (dL C K (dA ops.toList q late th rest (i+1)) (bf s o.dst (.aC [])) H) ((late i).map (jF ops.toList)))→c6 ops o s=some false→ ∃v H',(match c6 ops o s with
     |some b=>if b then wpOp (au C) C (q i) (th.contains i) o s H (fun v1 H1=>v1=v∧H1=H') else v= .aC []∧H' =H
     |none=>False)∧eQ C ops (bf s o.dst v) H' (cF (au C) C ops q late th K rest (i+1) (bf s o.dst v) H') (late i):=by
     intro h hb;refine ⟨.aC [],H,?_,kH (mg gC rest (i+1) _ _) _ (oG _ h)⟩;rw [hb];simp
    split at h
    ·rename_i c hc;have kJ:c6 ops o s=some (c==dQ):=by
      unfold c6;rw [hg];simp only [hd,hc]
     split at h
     ·rename_i iY;obtain ⟨v,H',h1,h2⟩:=kA (au.exact gC.up gC.exact) (yes h);refine ⟨v,H',?_,h2⟩;rw [kJ,iY];simp only [beq_self_eq_true,if_true];exact h1
     ·rename_i iY;exact no h (by rw [kJ];simpa using iY)
    ·rename_i hc;exact no h (by unfold c6;rw [hg];simp only [hd,hc])
    ·exact h.elim
section
variable {C:aI} {K K1:Ex→aj→J→Prop} {s:aj} {H:J}
def ic (K:Ex→aj→J→Prop):aj→J→Prop:=fun s H=>K .normal s H
theorem zQ (gC:Good C) {id:Nat} {ops:List Oper} {ls th:List Nat} (h:dL C (ic K) (dA ops (fun _=>false) (fun _=>[]) th ops 0) s H):aL (au C) C (.region id ops.toArray false ls th []) s H K:=by
 have h2:=mg gC (ops:=ops.toArray) (q:=fun _=>false) (late:=fun _=>[]) (th:=th) ops 0 s H h;have key: ∀(l:List Oper) (i:Nat) (s:aj) (H:J),cF (au C) C ops.toArray (fun _=>false) (fun _=>[]) th (ic K) l i s H→c7 (au C) C ops.toArray th [] (ic K) l i s H:=by
  intro l;induction l with
  |nil=>intro i s H h;exact h
  |cons o rest ih=>
   intro i s H h;simp only [cF,eQ] at h;simp only [c7];refine ⟨s,H,rfl,?_⟩;cases hg:o.guard with
   |none=>
    rw [hg] at h;exact gP (au.up gC.up) (fun v H' hv=>ih (i+1) _ _ hv) h
   |some p=>
    rw [hg] at h;obtain ⟨v,H',h1,h2⟩:=h;exact ⟨v,H',h1,ih (i+1) _ _ h2⟩
 exact key _ _ _ _ h2
def fG (C:aI) (fz:List (Nat×List (List Nat×List Sh))) (K:aj→J→Prop):List GO→Nat→aj→J→Prop
 |[],_,s,H=>K s H
 |o::rest,i,s0,H0=> ∃s H,eg ((fz.lookup i).getD []) s0 H0=some (s,H)∧
  gJ o.g s (a7 (au C) C o.q o.th o.op s H fun v H' =>fG C fz K rest (i+1) (bf s o.d v) H') (fG C fz K rest (i+1) (bf s o.d (.aC [])) H)
theorem oH (gC:Good C) {ops:Array Oper} {th:List Nat} {fz:List (Nat×List (List Nat×List Sh))} {K:aj→J→Prop}: ∀(l:List Oper) (i:Nat) (s:aj) (H:J),fG C fz K (dA ops.toList (fun _=>false) (fun _=>[]) th l i) i s H→c7 (au C) C ops th fz K l i s H
 |[],i,s,H,h=>h
 |o::rest,i,s0,H0,h=>by
  simp only [dA,fG] at h;obtain ⟨s,H,hf,h⟩:=h;simp only [c7];refine ⟨s,H,hf,?_⟩;have yes:(a7 (au C) C false (th.contains i) o.op s H fun v H' =>fG C fz K (dA ops.toList (fun _=>false) (fun _=>[]) th rest (i+1)) (i+1) (bf s o.dst v) H')→
   wpOp (au C) C false (th.contains i) o s H fun v H' =>c7 (au C) C ops th fz K rest (i+1) (bf s o.dst v) H' :=by
   intro h;rw [←rk] at h;exact gP (au.up gC.up) (fun v H' h=>oH gC rest (i+1) _ _ h) h
  cases hg:o.guard with
  |none=>
   rw [hg] at h;simp only [Option.map_none,gJ] at h⊢;exact yes h
  |some p=>
   obtain ⟨j,dQ⟩:=p;rw [hg] at h;simp only [Option.map_some,oF,Array.getElem?_toList] at h⊢;cases hd:(ops[j]?).bind (·.dst) with
   |none=>rw [hd] at h;exact h.elim
   |some t=>
    rw [hd] at h;simp only [gJ] at h;have no:fG C fz K (dA ops.toList (fun _=>false) (fun _=>[]) th rest (i+1)) (i+1) (bf s o.dst (.aC [])) H→c6 ops o s=some false→ ∃v H',(match c6 ops o s with
     |some b=>if b then wpOp (au C) C false (th.contains i) o s H (fun v1 H1=>v1=v∧H1=H') else v= .aC []∧H' =H
     |none=>False)∧c7 (au C) C ops th fz K rest (i+1) (bf s o.dst v) H' :=by
     intro h hb;refine ⟨.aC [],H,?_,oH gC rest (i+1) _ _ h⟩;rw [hb];simp
    split at h
    ·rename_i c hc;have kJ:c6 ops o s=some (c==dQ):=by
      unfold c6;rw [hg];simp only [hd,hc]
     split at h
     ·rename_i iY;obtain ⟨v,H',h1,h2⟩:=kA (au.exact gC.up gC.exact) (yes h);refine ⟨v,H',?_,h2⟩;rw [kJ,iY];simp only [beq_self_eq_true,if_true];exact h1
     ·rename_i iY;exact no h (by rw [kJ];simpa using iY)
    ·rename_i hc;exact no h (by unfold c6;rw [hg];simp only [hd,hc])
    ·exact h.elim
theorem zR (gC:Good C) {id:Nat} {ops:List Oper} {ls th:List Nat} {fz:List (Nat×List (List Nat×List Sh))} (h:fG C fz (ic K) (dA ops (fun _=>false) (fun _=>[]) th ops 0) 0 s H):aL (au C) C (.region id ops.toArray false ls th fz) s H K:=
 oH gC (ops:=ops.toArray) ops 0 s H h
theorem rl (gC:Good C) {id:Nat} {ops:List Oper} {ls th:List Nat} {fz:List (Nat×List (List Nat×List Sh))} (hd:gY ops.toArray ls=true) (h:dL C (ic K) (dA ops (fun i=> !ls.contains i) (fk ops.toArray ls) th ops 0) s H):aL (au C) C (.region id ops.toArray true ls th fz) s H K:=by
 have:=mg gC (ops:=ops.toArray) (q:=fun i=> !ls.contains i) (late:=fk ops.toArray ls) (th:=th) ops 0 s H h;exact ⟨hd,this⟩
theorem yh (ops:Array Oper):fk ops []=fun _=>[]:=by funext i;rfl
theorem zS (gC:Good C) {id:Nat} {ops:List Oper} {th:List Nat} {fz:List (Nat×List (List Nat×List Sh))} (hd:gY ops.toArray []=true) (h:dL C (ic K) (dA ops (fun _=>true) (fun _=>[]) th ops 0) s H):aL (au C) C (.region id ops.toArray true [] th fz) s H K:=
 rl gC hd (by rw [yh];exact h)
end
theorem zT {C:aI} (gC:Good C) {f:FuncId} {fn:Func} {c:Code} {res:List ResultVar} {n:Nat} (hc:C.code f=some fn) (hb:fn.body=some c) (hr:fn.results=res.toArray) (hn:fn.ntmps=n) {ys:List AV} {H:J} {P:AV→J→Prop}
 (h: ∀K0,K0=ei C.E res P→aL (au C) C (dm (C.fM f) 0 c) (ys ++ List.replicate (n-ys.length) .undef) H K0):au C f ys H P:=by
 refine au.intro gC.up ?_;unfold Body;rw [hc];simp only [hb,hr,hn];exact h _ rfl
end Go.VS
namespace Go.VS
def cv (v:Option AV) (H:J) (K:AV→J→Prop):Prop:=match v with|some v=>K v H|none=>False
def ep (r:Option (AV×J)) (K:AV→J→Prop):Prop:=match r with|some (v,H)=>K v H|none=>False
section
variable {C:aI} {q th:Bool} {s:aj} {H:J} {K:AV→J→Prop}
theorem cN (op:Op) (h:eO op=true):a7 (au C) C q th op s H K=ep (aM C.E op s H) K:=by
 have: ∀c,op≠ .call c:=by rintro c rfl;simp [eO] at h
 unfold a7 wpOp;split
 ·rename_i bg;exact absurd bg (this _)
 ·rename_i bg;exact absurd bg (this _)
 ·simp only [h,implies_true,true_and];rfl
theorem rm (op:Op) (h: ∀c,op≠ .call c):a7 (au C) C false th op s H K=ep (aM C.E op s H) K:=by
 unfold a7 wpOp;split
 ·rename_i bg;exact absurd bg (h _)
 ·rename_i bg;exact absurd bg (h _)
 ·simp only [Bool.false_eq_true,false_implies,true_and];rfl
theorem rn (K:aj→J→Prop):dL C K [] s H=K s H:=rfl
def gf (v:AV) (w:Bool) (a b:Prop):Prop:=match v with| .bool c=>if c=w then a else b| .aC _=>b|_=>False
theorem rq (a b:Prop):gf (.bool true) true a b=a:=by simp [gf]
theorem rr (a b:Prop):gf (.bool false) false a b=a:=by simp [gf]
theorem ru (a b:Prop):gf (.bool true) false a b=b:=by simp [gf]
theorem rv (a b:Prop):gf (.bool false) true a b=b:=by simp [gf]
theorem ry (K:Prop):dz C s H K []=K:=rfl
theorem rz (K:Prop) (op:Op) (t:Tmp) (js:List (Op×Option Tmp)):dz C s H K ((op,some t)::js)=(aM C.E op s H=some (s.getD t .undef,H)∧dz C s H K js):=by
 simp [dz]
theorem rA (t:Tmp) (v:AV):bf s (some t) v=s.set t v:=rfl
theorem rB (v:AV):bf s none v=s:=rfl
theorem rC (t:Tmp):ev s (.tmp t)=s.getD t .undef:=rfl
theorem rD (v:Value):ev s (.const v)=ofValue v:=rfl
theorem rE (f:FuncId):ev s (.func f)= .fn f []:=rfl
theorem rF (k:IntKind) (n:Int):ofValue (.int k n)= .int k n:=rfl
theorem rG (b:Bool):ofValue (.bool b)= .bool b:=rfl
theorem rH:ofValue (.slice none 0 0)= .nil:=rfl
theorem rI:ofValue .nilIface= .b9 false:=rfl
theorem rJ:ofValue (.pointer none)= .dc:=rfl
theorem rK (b:ByteArray):ofValue (.string b)= .str b.data.toList:=rfl
theorem rL (v:AV):cv (some v) H K=K v H:=rfl
theorem rM (x:Operand):a7 (au C) C q th (.move x) s H K=K (ev s x) H:=by rw [cN _ rfl];rfl
theorem rN (x:Operand):a7 (au C) C q th (.assign x) s H K=K (ev s x) H:=by rw [cN _ rfl];rfl
theorem rO (b:BinOp) (t:TypeId) (x:Operand) (c:Value) (w:TypeId):a7 (au C) C q th (.binOp b t x (.const c) w) s H K=cv (aH C.E b t (ev s x) (ofValue c)) H K:=by
 rw [cN _ rfl];simp only [aM,show ev s (.const c)=ofValue c from rfl];generalize aH C.E b t (ev s x) (ofValue c)=r;cases r<;>rfl
def jG (E:aK) (b:BinOp) (t:TypeId) (x y:AV) (H:J) (K:AV→J→Prop):Prop:=match y with| .b9 _=>False|y=>cv (aH E b t x y) H K
theorem rP (b:BinOp) (t:TypeId) (x:Operand) (n:Tmp) (w:TypeId):a7 (au C) C q th (.binOp b t x (.tmp n) w) s H K=jG C.E b t (ev s x) (ev s (.tmp n)) H K:=by
 rw [cN _ rfl];simp only [aM];generalize ev s (.tmp n)=y;unfold jG;cases y
 all_goals (first|rfl|(simp only;generalize aH C.E b t (ev s x) _=r;cases r<;>rfl))
theorem rQ (E:aK) (b:BinOp) (t:TypeId) (x:AV) (k:IntKind) (n:Int):jG E b t x (.int k n) H K=cv (aH E b t x (.int k n)) H K:=rfl
theorem rR (E:aK) (b:BinOp) (t:TypeId) (x:AV) (n:Bool):jG E b t x (.bool n) H K=cv (aH E b t x (.bool n)) H K:=rfl
theorem rS (E:aK) (b:BinOp) (t:TypeId) (x:AV) (n:List UInt8):jG E b t x (.str n) H K=cv (aH E b t x (.str n)) H K:=rfl
theorem rT (E:aK) (b:BinOp) (t:TypeId) (x:AV) (n:List AV):jG E b t x (.agg n) H K=cv (aH E b t x (.agg n)) H K:=rfl
variable (E:aK) (t:TypeId) (k:IntKind) (a b:Int) (c d:Bool) (u v:List UInt8)
theorem rU:aH E .add t (.int k a) (.int k b)=some (.int k (k.wrap (a+b))):=by simp [aH,cP]
theorem rV:aH E .sub t (.int k a) (.int k b)=some (.int k (k.wrap (a-b))):=by simp [aH,cP]
theorem rW:aH E .mul t (.int k a) (.int k b)=some (.int k (k.wrap (a*b))):=by simp [aH,cP]
theorem yi:aH E .and t (.int k a) (.int k b)=some (.int k (k.wrap (BitVec.ofInt k.bits a&&&BitVec.ofInt k.bits b).toNat)):=by simp [aH,cP]
theorem yj:aH E .or t (.int k a) (.int k b)=some (.int k (k.wrap (BitVec.ofInt k.bits a|||BitVec.ofInt k.bits b).toNat)):=by simp [aH,cP]
theorem yl:aH E .xor t (.int k a) (.int k b)=some (.int k (k.wrap (BitVec.ofInt k.bits a^^^BitVec.ofInt k.bits b).toNat)):=by simp [aH,cP]
theorem rX:aH E .eql t (.int k a) (.int k b)=some (.bool (a==b)):=by simp [aH,cP]
theorem rY:aH E .neq t (.int k a) (.int k b)=some (.bool (a !=b)):=by simp [aH,cP]
theorem rZ:aH E .lss t (.int k a) (.int k b)=some (.bool (decide (a<b))):=by simp [aH,cP]
theorem r6:aH E .leq t (.int k a) (.int k b)=some (.bool (decide (a≤b))):=by simp [aH,cP]
theorem r7:aH E .gtr t (.int k a) (.int k b)=some (.bool (decide (b<a))):=by simp [aH,cP]
theorem r8:aH E .geq t (.int k a) (.int k b)=some (.bool (decide (b≤a))):=by simp [aH,cP]
def dv (k:IntKind) (a b:Int):Option Int:=if b=0 then none else some (k.wrap (a.tdiv b))
def md (a b:Int):Option Int:=if b=0 then none else some (a.tmod b)
theorem r9:aH E .quo t (.int k a) (.int k b)=(dv k a b).map (.int k):=by simp [aH,cP,dv];split<;>rfl
theorem r_:aH E .rem t (.int k a) (.int k b)=(md a b).map (.int k):=by simp [aH,cP,md];split<;>rfl
def sl (k:IntKind) (a b:Int):Option Int:=if b<0 then none else some (k.wrap (a*2^(min b.toNat k.bits)))
def sr (k:IntKind) (a b:Int):Option Int:=if b<0 then none else some (a.fdiv (2^(min b.toNat k.bits)))
theorem sa (j:IntKind):aH E .shl t (.int k a) (.int j b)=(sl k a b).map (.int k):=by simp [aH,sl];split<;>rfl
theorem sb (j:IntKind):aH E .shr t (.int k a) (.int j b)=(sr k a b).map (.int k):=by simp [aH,sr];split<;>rfl
theorem sd:aH E .eql t (.str u) (.str v)=some (.bool (u==v)):=by simp [aH,ii]
theorem se:aH E .neq t (.str u) (.str v)=some (.bool (!(u==v))):=by simp [aH,ii]
def cat (u v:List UInt8):Option (List UInt8):=if u.length+v.length≤2^45 then some (u ++ v) else none
theorem sf:aH E .add t (.str u) (.str v)=(cat u v).map .str:=by simp only [aH,ii,cat];split<;>rfl
theorem zU {ti:TI} (h:E t=some ti) (hu:ti.aq= .bl):aH E .neq t (.bool c) (.bool d)=some (.bool (!(c==d))):=by simp [aH,h,hu]
def kK (ti:Option TI) (r:Option Bool) (neg:Bool):Option AV:=match ti with|some ti=>if ti.agg then (match r with|some b=>some (.bool (if neg then !b else b))|none=>none) else none|none=>none
theorem sg (xs ys:List AV):aH E .eql t (.agg xs) (.agg ys)=kK (E t) (di E 8 t xs ys) false:=by
 simp only [aH,kK];cases E t<;>rfl
theorem si (xs ys:List AV):aH E .neq t (.agg xs) (.agg ys)=kK (E t) (di E 8 t xs ys) true:=by
 simp only [aH,kK];cases E t<;>rfl
def gQ (ti:Option TI) (x y:AV) (neg:Bool):Option AV:=match ti with|some ti=>(match isNil ti.aq x y with|some b=>some (.bool (if neg then !b else b))|none=>none)|none=>none
theorem sj:aH E .eql t .nil .nil=gQ (E t) .nil .nil false:=by simp only [aH,gQ];cases E t<;>rfl
theorem sk:aH E .neq t .nil .nil=gQ (E t) .nil .nil true:=by simp only [aH,gQ];cases E t<;>rfl
theorem sm (x:Bool):aH E .eql t (.b9 x) (.b9 false)=gQ (E t) (.b9 x) (.b9 false) false:=by simp only [aH,gQ];cases E t<;>rfl
theorem sn (x:Bool):aH E .neq t (.b9 x) (.b9 false)=gQ (E t) (.b9 x) (.b9 false) true:=by simp only [aH,gQ];cases E t<;>rfl
theorem w_num {α :Type} {o:Option Int} {f:Int→Option α} {r: α} (h:o.bind f=some r) (hk: ∀n,o=some n→f n=some r→K (.int k n) H):cv (o.map (.int k)) H K:=by
 cases o with
 |none=>simp at h
 |some n=>exact hk n rfl h
theorem so (op:UnOp) (x:Operand):a7 (au C) C q th (.unOp op t x) s H K=cv (ij op (ev s x)) H K:=by
 rw [cN _ rfl];simp only [aM];generalize ij op (ev s x)=r;cases r<;>rfl
theorem sq:ij .not (.bool c)=some (.bool !c):=rfl
theorem ss:ij .neg (.int k a)=some (.int k (k.wrap (0-a))):=rfl
def mh (c:AV) (x y:AV) (H:J) (K:AV→J→Prop):Prop:=match c with| .bool t=>K (if t then x else y) H|_=>False
theorem su (x y z:Operand):a7 (au C) C q th (.pick x y z) s H K=mh (ev s x) (ev s y) (ev s z) H K:=by
 rw [cN _ rfl];simp only [aM];generalize ev s x=r;cases r<;>rfl
theorem sw (x y:AV):mh (.bool true) x y H K=K x H:=rfl
theorem sx (x y:AV):mh (.bool false) x y H K=K y H:=rfl
theorem sy (p:Bool):mh (.bool p) (.bool c) (.bool d) H K=K (.bool (if p then c else d)) H:=by cases p<;>rfl
def oI (x:AV) (i:Nat) (H:J) (K:AV→J→Prop):Prop:=match x with| .aC vs=>cv vs[i]? H K|_=>False
theorem sA (x:Operand) (i:Nat):a7 (au C) C q th (.extract x i) s H K=oI (ev s x) i H K:=by
 rw [cN _ rfl];simp only [aM,oI];generalize ev s x=r;cases r<;>first|rfl|(simp only;rename_i vs;cases vs[i]? <;>rfl)
theorem sB (vs:List AV) (i:Nat):oI (.aC vs) i H K=cv vs[i]? H K:=rfl
def mj (ti:TI) (x:Option AV) (off:Nat) (H:J) (K:AV→J→Prop):Prop:=match x with|some y=>cv (bI ti y off) H K|none=>False
def ml (ti:TI) (b:Option bD) (idx off:Nat) (H:J) (K:AV→J→Prop):Prop:=match b with|some b=>mj ti b.el[idx]? off H K|none=>False
def mm (ti:Option TI) (x:AV) (H:J) (K:AV→J→Prop):Prop:=
 match ti with
 |some ti=>match x with
  | .fe y off=>cv (bI ti y off) H K
  | .ptr id ad idx off=>ml ti (H.ap id ad) idx off H K
  |_=>False
 |none=>False
theorem o_load (x:Operand):a7 (au C) C q th (.load t x) s H K=mm (C.E t) (ev s x) H K:=by
 rw [cN _ rfl];simp only [aM,mm];cases C.E t with
 |none=>rfl
 |some ti=>
  simp only;generalize ev s x=r;cases r<;>first|rfl|skip
  ·rename_i id ad idx off;simp only [ml];cases H.ap id ad with
   |none=>rfl
   |some b=>
    simp only [mj];cases b.el[idx]? with
    |none=>rfl
    |some y=>simp only;generalize bI ti y off=z;cases z<;>rfl
  ·rename_i y off;simp only;generalize bI ti y off=z;cases z<;>rfl
theorem sC (ti:TI) (y:AV) (off:Nat):mm (some ti) (.fe y off) H K=cv (bI ti y off) H K:=rfl
theorem sD (ti:TI) (id ad idx off:Nat):mm (some ti) (.ptr id ad idx off) H K=ml ti (H.ap id ad) idx off H K:=rfl
theorem sE (ti:TI) (b:bD) (idx off:Nat):ml ti (some b) idx off H K=mj ti b.el[idx]? off H K:=rfl
theorem sF (ti:TI) (y:AV) (off:Nat):mj ti (some y) off H K=cv (bI ti y off) H K:=rfl
def kL (E:aK) (t:TypeId) (f:Nat):Option (Nat×TI):=match E t with
 |some ti=>match ti.aq with
  | .st fs=>match fs[f]? with
   |some (o,ft)=>match E ft with
    |some tf=>some (o,tf)
    |none=>none
   |none=>none
  |_=>none
 |none=>none
def ie (p:Option (Nat×TI)) (x:AV) (H:J) (K:AV→J→Prop):Prop:=match p with
 |some (o,tf)=>if tf.sz=0 then False else match x with
  | .ptr id ad idx off=>match H.ap id ad with
   |some _=>K (.ptr id ad idx (off+o)) H
   |none=>False
  | .fe y off=>K (.fe y (off+o)) H
  |_=>False
 |none=>False
theorem sG (x:Operand) (f:Nat):a7 (au C) C q th (.fieldAddr t x f) s H K=ie (kL C.E t f) (ev s x) H K:=by
 rw [cN _ rfl];simp only [aM,ie,kL];cases C.E t with
 |none=>rfl
 |some ti=>
  simp only;cases ti.aq<;>try rfl
  rename_i fs;simp only;cases fs[f]? with
  |none=>rfl
  |some p=>
   obtain ⟨o,ft⟩:=p;simp only;cases C.E ft with
   |none=>rfl
   |some tf=>
    simp only;split
    ·rfl
    ·generalize ev s x=r;cases r<;>try rfl
     rename_i id ad idx off;simp only;cases H.ap id ad<;>rfl
theorem ym (o:Nat) (tf:TI) (h:(tf.sz==0)=false) (y:AV) (off:Nat):ie (some (o,tf)) (.fe y off) H K=K (.fe y (off+o)) H:=by
 simp at h;simp [ie,h]
theorem yn (o:Nat) (tf:TI) (h:(tf.sz==0)=false) (id ad idx off:Nat):ie (some (o,tf)) (.ptr id ad idx off) H K=(match H.ap id ad with|some _=>K (.ptr id ad idx (off+o)) H|none=>False):=by
 simp at h;simp [ie,h]
def oJ (p:Option (Nat×TI)) (x:AV) (H:J) (K:AV→J→Prop):Prop:=match x with
 | .agg cs=>(match p with|some (o,tf)=>cv (bI tf (.agg cs) o) H K|none=>False)
 |_=>False
theorem sH (x:Operand) (f:Nat):a7 (au C) C q th (.field t x f) s H K=oJ (kL C.E t f) (ev s x) H K:=by
 rw [cN _ rfl];simp only [aM,oJ,kL];cases C.E t with
 |none=>simp only;generalize ev s x=r;cases r<;>rfl
 |some ti=>
  simp only;generalize ev s x=r;cases r
  case agg cs=>
   simp only;cases ti.aq<;>try rfl
   rename_i fs;simp only;cases fs[f]? with
   |none=>rfl
   |some p=>
    obtain ⟨o,ft⟩:=p;simp only;cases C.E ft with
    |none=>rfl
    |some tf=>simp only;generalize bI tf (.agg cs) o=z;cases z<;>rfl
  all_goals rfl
theorem sI (o:Nat) (tf:TI) (cs:List AV):oJ (some (o,tf)) (.agg cs) H K=cv (bI tf (.agg cs) o) H K:=rfl
theorem sJ (x:Operand):a7 (au C) C q th (.call {callee:= .builtin .len,args:= #[x],argTypes:= #[t]}) s H K=ep (dE C.E .len #[t] [ev s x] H) K:=by
 unfold a7 wpOp;simp only [eP,implies_true,true_and];rfl
def dM (ti:Option TI) (x:AV) (n:Option Nat) (H:J) (K:AV→J→Prop):Prop:=match ti,n with
 |some ti,some n=>match ti.aq,x with
  | .str,.str _=>K (.int .i64 n) H
  | .sl _,.str _=>False
  | .sl _,_=>K (.int .i64 n) H
  |_,_=>False
 |_,_=>False
theorem sK (E:aK) (t:TypeId) (x:AV):ep (dE E .len #[t] [x] H) K=dM (E t) x (lenOf H x) H K:=by
 simp only [dE,dM];have:(#[t]:Array TypeId)[0]?.bind E=E t:=rfl;rw [this];cases E t with
 |none=>rfl
 |some ti=>
  obtain ⟨sz,agg,z,mn,aq,eq⟩:=ti;cases lenOf H x with
  |none=>rfl
  |some n=>cases aq<;>cases x<;>rfl
theorem sL (xs:Array Operand) (tys:Array TypeId):a7 (au C) C q th (.call {callee:= .builtin .min,args:=xs,argTypes:=tys}) s H K=cv (je (xs.toList.map (ev s))) H K:=by
 unfold a7 wpOp;simp only [eP,implies_true,true_and,dE];generalize je _=r;cases r<;>rfl
theorem sM (xs:Array Operand) (tys:Array TypeId):a7 (au C) C q th (.call {callee:= .builtin .max,args:=xs,argTypes:=tys}) s H K=cv (jf (xs.toList.map (ev s))) H K:=by
 unfold a7 wpOp;simp only [eP,implies_true,true_and,dE];generalize jf _=r;cases r<;>rfl
theorem min2:je [.int k a,.int k b]=some (.int k (if b<a then b else a)):=rfl
theorem max2:jf [.int k a,.int k b]=some (.int k (if b>a then b else a)):=rfl
end
end Go.VS
namespace Go.VS
structure It where
 v:AV
 sz:Nat
 el:List AV
def bW:AV→Option Nat
 | .ref id _ _ _=>some id
 | .ptr id _ _ _=>some id
 |_=>none
def gg (H:J) (it:It):Prop:=bN it.sz it.el=true∧match it.v with
 | .nil=>it.el=[]
 | .e0=>it.el=[]
 | .ref id ad off len=>len=it.el.length∧ ∃b,H.ap id ad=some b∧b.sz=it.sz∧b.fix=false∧off+len≤b.el.length∧aF b.el off len=it.el
 | .ptr id ad idx off=>idx=0∧off=0∧it.el.length=1∧H.ap id ad=some ⟨ad,it.sz,false,it.el⟩
 |_=>False
structure aA (H:J) (L:List It):Prop where
 ok: ∀(i:Nat) (it:It),L[i]? =some it→gg H it
 bY: ∀(i j:Nat) (a b:It) (id:Nat),L[i]? =some a→L[j]? =some b→bW a.v=some id→bW b.v=some id→i=j
theorem gg.lt {H:J} {it:It} (h:gg H it) {id:Nat} (hi:bW it.v=some id):id<H.bs.length:=by
 obtain ⟨_,h⟩:=h;cases hv:it.v with
 |ref i ad off len=>
  rw [hv] at h hi;simp only [bW,Option.some.injEq] at hi;subst hi;obtain ⟨_,b,hb,_⟩:=h;exact J.gZ (J.bn hb).1
 |ptr i ad ix off=>
  rw [hv] at h hi;simp only [bW,Option.some.injEq] at hi;subst hi;obtain ⟨_,_,_,hb⟩:=h;exact J.gZ (J.bn hb).1
 |_=>rw [hv] at hi;simp [bW] at hi
theorem gg.frame {H H' :J} {it:It} (h:gg H it) (hk: ∀id ad,bW it.v=some id→H'.ap id ad=H.ap id ad):gg H' it:=by
 obtain ⟨h0,h⟩:=h;refine ⟨h0,?_⟩;cases hv:it.v with
 |ref i ad off len=>
  rw [hv] at h hk;obtain ⟨h1,b,hb,h2⟩:=h;exact ⟨h1,b,by rw [hk i ad rfl];exact hb,h2⟩
 |ptr i ad ix off=>
  rw [hv] at h hk;obtain ⟨h1,h2,h3,hb⟩:=h;exact ⟨h1,h2,h3,by rw [hk i ad rfl];exact hb⟩
 |_=>rw [hv] at h;exact h
theorem aA.tl {H:J} {a:It} {L:List It} (h:aA H (a::L)):aA H L:=
 ⟨fun i it hi=>h.ok (i+1) it hi,fun i j x y id h1 h2 h3 h4=>by have:=h.bY (i+1) (j+1) x y id h1 h2 h3 h4;omega⟩
theorem aA.nil (H:J):aA H []:=⟨by simp,by simp⟩
theorem aA.bm {H H' :J} {L:List It} (h:aA H L) {j:Nat} {it iZ:It} (hj:L[j]? =some it) {i:Nat} (hi:bW it.v=some i) (hk: ∀id ad,id≠i→id<H.bs.length→H'.ap id ad=H.ap id ad) (hn:gg H' iZ) (bT: ∀k,bW iZ.v=some k→k=i):aA H' (L.set j iZ):=by
 have aw:j<L.length:=(List.getElem?_eq_some_iff.1 hj).1;refine ⟨fun k a bu=> ?_,fun k l a b id h1 h2 h3 h4=> ?_⟩
 ·rw [List.getElem?_set] at bu;split at bu
  ·simp only [Option.some.injEq] at bu;subst bu;exact hn
  ·rename_i aN;have ho:=h.ok k a bu;refine ho.frame fun id ad sN=>hk id ad (fun e=> ?_) (ho.lt sN)
   subst e;exact aN (h.bY j k it a id hj bu hi sN)
 ·rw [List.getElem?_set] at h1 h2;split at h1
  ·rename_i e1;subst e1;simp only [Option.some.injEq] at h1;subst h1;split at h2
   ·rename_i e2;exact e2
   ·have:=bT id h3;subst this;exact h.bY j l it b id hj h2 hi h4
  ·split at h2
   ·rename_i e2;subst e2;simp only [Option.some.injEq] at h2;subst h2;have:=bT id h4;subst this;exact h.bY k j a it id h1 hj h3 hi
   ·exact h.bY k l a b id h1 h2 h3 h4
theorem aA.new {H H' :J} {L:List It} (h:aA H L) (hk: ∀id ad,id<H.bs.length→H'.ap id ad=H.ap id ad) {it:It} (hn:gg H' it) (bT: ∀k,bW it.v=some k→H.bs.length≤k):aA H' (it::L):=by
 refine ⟨fun k a bu=> ?_,fun k l a b id h1 h2 h3 h4=> ?_⟩
 ·cases k with
  |zero=>simp at bu;subst bu;exact hn
  |succ k=>have ho:=h.ok k a (by simpa using bu);exact ho.frame fun id ad hi=>hk id ad (ho.lt hi)
 ·cases k with
  |zero=>
   simp at h1;subst h1;cases l with
   |zero=>rfl
   |succ l=>
    have:=(h.ok l b (by simpa using h2)).lt h4
    have:=bT id h3;omega
  |succ k=>
   cases l with
   |zero=>
    simp at h2;subst h2;have:=(h.ok k a (by simpa using h1)).lt h3
    have:=bT id h4;omega
   |succ l=>have:=h.bY k l a b id (by simpa using h1) (by simpa using h2) h3 h4;omega
theorem aA.sO {H H' :J} {L:List It} (h:aA H L) (hk: ∀id ad,id<H.bs.length→H'.ap id ad=H.ap id ad) {j:Nat} {iZ:It} (hn:gg H' iZ) (bT: ∀k,bW iZ.v=some k→H.bs.length≤k):aA H' (L.set j iZ):=by
 refine ⟨fun k a bu=> ?_,fun k l a b id h1 h2 h3 h4=> ?_⟩
 ·rw [List.getElem?_set] at bu;split at bu
  ·split at bu
   ·simp only [Option.some.injEq] at bu;subst bu;exact hn
   ·simp at bu
  ·have ho:=h.ok k a bu;exact ho.frame fun id ad hi=>hk id ad (ho.lt hi)
 ·rw [List.getElem?_set] at h1 h2;split at h1
  ·rename_i e1;subst e1;split at h1
   ·simp only [Option.some.injEq] at h1;subst h1;split at h2
    ·rename_i e2;exact e2
    ·have:=(h.ok l b h2).lt h4;have:=bT id h3;omega
   ·simp at h1
  ·split at h2
   ·rename_i e2;subst e2;split at h2
    ·simp only [Option.some.injEq] at h2;subst h2;have:=(h.ok k a h1).lt h3;have:=bT id h4;omega
    ·simp at h2
   ·exact h.bY k l a b id h1 h2 h3 h4
theorem mo {H:J} {sz:Nat} {fx:Bool} {el:List AV} {id ad:Nat} (h:id<H.bs.length):(H.new sz fx el).ap id ad=H.ap id ad:=by
 simp only [J.ap,J.new,List.getElem?_append_left h]
theorem mq {H:J} {sz:Nat} {fx:Bool} {el:List AV}:(H.new sz fx el).ap H.bs.length H.st=some ⟨H.st,sz,fx,el⟩:=by
 simp [J.ap,J.new]
theorem oK {H:J} {i id ad:Nat} {b:bD} (h:id≠i):(H.bm i b).ap id ad=H.ap id ad:=by
 have h' : ¬i=id:=fun e=>h e.symm
 simp only [J.ap,J.bm,List.getElem?_set,if_neg h']
theorem oL {H:J} {id:Nat} {b:bD} (h:id<H.bs.length):(H.bm id b).ap id b.ad=some b:=by
 simp [J.ap,J.bm,h]
section
variable {C:aI} {th:Bool} {s:aj} {H:J} {K:AV→J→Prop} {L:List It}
theorem aA.oM (hS:aA H L) {sz n:Nat} {el all:List AV} (he:all.take n=el) (hn:n=el.length) (aG:bN sz el=true):aA (H.new sz false all) (⟨.ref H.bs.length H.st 0 n,sz,el⟩::L):=by
 refine hS.new (fun id ad h=>mo h) ⟨aG,hn,_,mq,rfl,rfl,?_,by simpa [aF] using he⟩ (fun k hk=>by simp [bW] at hk;omega)
 have:=congrArg List.length he;simp at this;simp only;omega
theorem aA.newVar (hS:aA H L) {sz:Nat} {a:AV} (aG:a.cells.length=sz):aA (H.new sz false [a]) (⟨.ptr H.bs.length H.st 0 0,sz,[a]⟩::L):=
 hS.new (fun id ad h=>mo h) ⟨by simp [bN,aG],rfl,rfl,rfl,mq⟩ (fun k hk=>by simp [bW] at hk;omega)
theorem aA.var (hS:aA H L) (j:Nat) {id ad sz:Nat} {a:AV} (hj:L[j]? =some ⟨.ptr id ad 0 0,sz,[a]⟩):H.ap id ad=some ⟨ad,sz,false,[a]⟩:=(hS.ok j _ hj).2.2.2.2
theorem zV {t:TypeId} {x:Operand} {ti:TI} {a:AV} (hS:aA H L) (ht:C.E t=some ti) (hx:ev s x=a) (h1:a.cells.length=ti.sz) (h2:dC a=true)
 (h: ∀id ad H',aA H' (⟨.ptr id ad 0 0,ti.sz,[a]⟩::L)→K (.ptr id ad 0 0) H') {q:Bool}:a7 (au C) C q th (.box t x) s H K:=by
 rw [cN _ rfl];simp only [aM,ht,hx,h1,h2,and_self,if_true,ep];exact h _ _ _ (hS.newVar h1)
theorem sP {ti:TI} {z:AV} (h:et ti=some z):z.cells.length=ti.sz:=by
 unfold et at h;split at h
 ·rename_i hc;rcases jW h with ⟨_,rfl⟩|⟨_,hz⟩
  ·exact hc.2
  ·have:cw z=true:=by have:=hc.1;rw [hz] at this;simpa using this
   have hl:=hc.2;rw [hz] at hl;cases z<;>first|exact hl|simp [cw] at this
 ·simp at h
theorem yo {ti:TI} {z:AV} (h:gi ti=some z):z.cells.length=ti.sz:=by
 unfold gi at h;split at h
 ·rename_i z0 iA;simp only [Option.some.injEq] at h;subst h;split
  ·rw [j7,List.length_map];exact sP iA
  ·exact sP iA
 ·simp at h
theorem zW {t:TypeId} {x v:Operand} {ti:TI} {id ad sz o:Nat} {y y' a:AV} (j:Nat) (hS:aA H L) (hj:L[j]? =some ⟨.ptr id ad 0 0,sz,[y]⟩) (ht:C.E t=some ti) (hx:ev s x= .ptr id ad 0 o) (hv:ev s v=a)
 (h1:a.cells.length=ti.sz) (h2:dC a=true) (hw:fJ y o a=some y') (h3:y'.cells.length=sz) (h: ∀H',aA H' (L.set j ⟨.ptr id ad 0 0,sz,[y']⟩)→K (.aC []) H'):a7 (au C) C false th (.store t x v) s H K:=by
 rw [rm _ (by simp)]
 have hb:=hS.var j hj;simp only [aM,ht,hx,hv,hb,List.getElem?_cons_zero,h1,h2,and_self,if_true,hw,List.set_cons_zero,ep];refine h _ (hS.bm hj rfl (fun gn hN aN _=>oK aN) ⟨by simp [bN,h3],rfl,rfl,rfl,?_⟩ (fun k hk=>by simpa [bW] using hk.symm))
 exact oL ((hS.ok j _ hj).lt rfl)
end
def idx {α :Type} (l:List α) (i:Int):Option α :=if 0≤i then l[i.toNat]? else none
theorem jH {α :Type} {l:List α} {i:Int} {x: α} (h:idx l i=some x):0≤i∧i<l.length∧l[i.toNat]? =some x:=by
 unfold idx at h;split at h
 ·rename_i h0;have:=(List.getElem?_eq_some_iff.1 h).1;exact ⟨h0,by omega,h⟩
 ·simp at h
def zX (E:aK) (t:TypeId):Option TI:=match E t with
 |some ti=>match ti.aq with| .sl e=>E e|_=>none
 |none=>none
section
variable {C:aI} {q th:Bool} {s:aj} {H:J} {K:AV→J→Prop} {L:List It}
def oN (l:List UInt8) (n:Int) (H:J) (K:AV→J→Prop):Prop:=match idx l n with|some b=>K (.int .u8 b.toNat) H|none=>False
def mr (E:aK) (ti:Option TI) (x i:AV) (H:J) (K:AV→J→Prop):Prop:=match ti,i with
 |some ti,.int _ n=>match ti.aq,x with
  | .str,.str l=>oN l n H K
  | .ar m e,.agg cs=>match E e with
   |some te=>if 0≤n∧n<m then cv (bI te (.agg cs) (n.toNat*te.sz)) H K else False
   |none=>False
  |_,_=>False
 |_,_=>False
theorem sQ (t:TypeId) (x i:Operand):a7 (au C) C q th (.index t x i) s H K=mr C.E (C.E t) (ev s x) (ev s i) H K:=by
 rw [cN _ rfl];simp only [aM,mr];generalize ev s i=n;generalize ev s x=a;cases C.E t with
 |none=>rfl
 |some ti=>
  cases n
  case int k n=>
   simp only;cases ti.aq<;>cases a<;>try rfl
   ·rename_i m e cs;simp only;cases C.E e with
    |none=>rfl
    |some te=>
     simp only;split
     ·generalize bI te (.agg cs) (n.toNat*te.sz)=z;cases z<;>rfl
     ·rfl
   ·rename_i l;simp only [oN,idx];split
    ·cases l[n.toNat]? <;>rfl
    ·rfl
  all_goals rfl
def kM:UD→Bool
 | .str=>true
 |_=>false
theorem sR:kM .str=true:=rfl
def i_:UD→Bool
 | .sl _=>true
 |_=>false
theorem sT (e:TypeId):i_ (.sl e)=true:=rfl
theorem sU (E:aK) (ti:TI) (hu:kM ti.aq=true) (l:List UInt8) (k:IntKind) (n:Int):mr E (some ti) (.str l) (.int k n) H K=oN l n H K:=by
 cases h:ti.aq<;>rw [h] at hu<;>simp [kM] at hu
 simp only [mr,h]
def kN (E:aK) (t:TypeId) (x i:AV) (H:J) (K:AV→J→Prop):Prop:=ep (match E t,i with
 |some ti,.int _ n=>match ti.aq with
  | .sl e=>match E e with
   |some te=>match x with
    | .fz xs=>if 0≤n then match xs[n.toNat]? with
     |some y=>if y.cells.length=te.sz then some (.fe y 0,H) else none
     |none=>none
     else none
    | .ref id ad off len=>match H.ap id ad with
     |some b=>if b.sz=te.sz∧0≤n∧n<len∧off+len≤b.el.length then some (.ptr id ad (off+n.toNat) 0,H) else none
     |none=>none
    |_=>none
   |none=>none
  | .ar m e=>match E e with
   |some te=>if 0≤n∧n<m then match x with
    | .ptr id ad idx off=>match H.ap id ad with
     |some _=>some (.ptr id ad idx (off+n.toNat*te.sz),H)
     |none=>none
    | .fe y off=>some (.fe y (off+n.toNat*te.sz),H)
    |_=>none
    else none
   |none=>none
  |_=>none
 |_,_=>none) K
theorem sV (t:TypeId) (x i:Operand):a7 (au C) C q th (.indexAddr t x i) s H K=kN C.E t (ev s x) (ev s i) H K:=by
 rw [cN _ rfl];rfl
theorem zY {α β :Type} {E:aK} {t:TypeId} {ti te:TI} {e:TypeId} (ht:E t=some ti) (hu:ti.aq= .sl e) (he:E e=some te) {l:List α} {c: α →AV} (hc: ∀x,(c x).cells.length=te.sz) {k:IntKind} {n:Int} {f: α →Option β} {r: β} (h:(idx l n).bind f=some r)
 (hk: ∀x,idx l n=some x→f x=some r→K (.fe (c x) 0) H):kN E t (.fz (l.map c)) (.int k n) H K:=by
 cases hi:idx l n with
 |none=>rw [hi] at h;simp at h
 |some x=>
  rw [hi] at h;obtain ⟨h0,_,h1⟩:=jH hi;simp only [kN,ht,hu,he,h0,if_true,List.getElem?_map,h1,Option.map_some,hc,ep];exact hk x hi h
theorem zZ {α β :Type} {E:aK} {t:TypeId} {ti te:TI} {e:TypeId} (j:Nat) (hS:aA H L) {v:AV} {l:List α} {c: α →AV} {sz:Nat} (hj:L[j]? =some ⟨v,sz,l.map c⟩) (ht:E t=some ti) (hu:ti.aq= .sl e) (he:E e=some te) (aG:sz=te.sz) {k:IntKind} {n:Int} {f: α →Option β} {r: β}
 (h:(idx l n).bind f=some r) (hk: ∀x id ad off,idx l n=some x→f x=some r→v= .ref id ad off l.length→K (.ptr id ad (off+n.toNat) 0) H) (hp: ∀id ad,v≠ .ptr id ad 0 0):kN E t v (.int k n) H K:=by
 cases hi:idx l n with
 |none=>rw [hi] at h;simp at h
 |some x=>
  rw [hi] at h;obtain ⟨h0,h2,h1⟩:=jH hi;have af:=(hS.ok j _ hj).2;simp only at af;have aN:l.map c≠[]:=by intro e;rw [List.map_eq_nil_iff] at e;subst e;simp at h1
  split at af
  ·exact absurd af aN
  ·exact absurd af aN
  ·rename_i id ad off len;obtain ⟨h3,b,hb,h4,_,h5,h6⟩:=af;simp only [List.length_map] at h3;subst h3;simp only [kN,ht,hu,he,hb];rw [if_pos ⟨by rw [h4,aG],h0,h2,h5⟩]
   exact hk x id ad off hi h rfl
  ·rename_i id ad ix off;obtain ⟨rfl,rfl,_⟩:=af;exact absurd rfl (hp id ad)
  ·exact af.elim
theorem aA.elem {α :Type} (hS:aA H L) (j:Nat) {id ad off n sz:Nat} {v:AV} {l:List α} {c: α →AV} (hj:L[j]? =some ⟨v,sz,l.map c⟩) (hv:v= .ref id ad off n) {i:Int} {x: α} (hx:idx l i=some x): ∃b,H.ap id ad=some b∧b.el[off+i.toNat]? =some (c x):=by
 obtain ⟨h0,h2,h1⟩:=jH hx;subst hv;obtain ⟨_,h3,b,hb,h4,_,h5,h6⟩:=hS.ok j _ hj;refine ⟨b,hb,?_⟩;simp only at h3 h6;have:=congrArg (·[i.toNat]?) h6;simp only [List.getElem?_map,h1,Option.map_some,aF] at this;rw [←this,List.getElem?_take,List.getElem?_drop,if_pos (by simp at h3;omega)]
theorem z6 {α :Type} {t:TypeId} {x w:Operand} {ti:TI} {id ad off n sz o:Nat} {v a:AV} {l:List α} {c: α →AV} {i:Int} {y y' : α} (j:Nat) (hS:aA H L) (hj:L[j]? =some ⟨v,sz,l.map c⟩) (hv:v= .ref id ad off n) (hi:idx l i=some y) (ht:C.E t=some ti) (hx:ev s x= .ptr id ad (off+i.toNat) o) (hw:ev s w=a)
 (h1:a.cells.length=ti.sz) (h2:dC a=true) (hr:fJ (c y) o a=some (c y')) (h3:(c y').cells.length=sz) (h: ∀H',aA H' (L.set j ⟨v,sz,(l.set i.toNat y').map c⟩)→K (.aC []) H'):a7 (au C) C false th (.store t x w) s H K:=by
 rw [rm _ (by simp)]
 obtain ⟨b,hb,he⟩:=hS.elem j hj hv hi;simp only [aM,ht,hx,hw,hb,he,h1,h2,and_self,if_true,hr,ep];subst hv;obtain ⟨k0,k1,b',ax,k2,k3,k4,k5⟩:=hS.ok j _ hj;rw [hb] at ax;simp only [Option.some.injEq] at ax;subst ax;simp only at k1 k5;obtain ⟨i0,i1,i2⟩:=jH hi;have bM:=(J.bn hb).2;refine h _ (hS.bm hj rfl (fun gn hN aN _=>oK aN) ⟨?_,by simpa using k1,{b with el:=b.el.set (off+i.toNat) (c y')},?_,k2,k3,by simpa using k4,?_⟩ (fun k hk=>by simpa [bW] using hk.symm))
 ·simp only [bN,List.all_eq_true,List.mem_map] at k0⊢;rintro z ⟨z',hz,rfl⟩;rcases List.mem_or_eq_of_mem_set hz with h' |rfl
  ·exact k0 _ ⟨z',h',rfl⟩
  ·simpa using h3
 ·have:=oL (b:={b with el:=b.el.set (off+i.toNat) (c y')}) ((hS.ok j _ hj).lt rfl);simpa only [bM] using this
 ·simp only [aF,List.map_set] at k5⊢;rw [←k5,List.drop_set,if_neg (by omega),List.take_set]
  congr 1;omega
end
end Go.VS
namespace Go.VS
structure bB (v:AV):Prop where
 ok:v= .nil∨v= .e0∨ ∃id ad off len,v= .ref id ad off len
theorem gR (id ad off len:Nat):bB (.ref id ad off len):=⟨.inr (.inr ⟨id,ad,off,len,rfl⟩)⟩
theorem oO:bB .nil:=⟨.inl rfl⟩
theorem oP:bB .e0:=⟨.inr (.inl rfl)⟩
theorem bB.ne {v:AV} (h:bB v) (id ad:Nat):v≠ .ptr id ad 0 0:=by
 rcases h.ok with rfl|rfl|⟨_,_,_,_,rfl⟩<;>simp
theorem bB.cells {v:AV} (h:bB v):v.cells=[v]:=by
 rcases h.ok with rfl|rfl|⟨_,_,_,_,rfl⟩<;>rfl
theorem bB.o6 {v:AV} (h:bB v):cw v=true:=by
 rcases h.ok with rfl|rfl|⟨_,_,_,_,rfl⟩<;>rfl
theorem bB.rd {v:AV} (h:bB v) (z:List AV) (b:Nat) (w:UD) (e:Bool):bI ⟨1,false,z,b,w,e⟩ v 0=some v:=by
 rcases h.ok with rfl|rfl|⟨_,_,_,_,rfl⟩<;>rfl
theorem bB.same {v:AV} (h:bB v):eS v v=true:=by
 rcases h.ok with rfl|rfl|⟨_,_,_,_,rfl⟩<;>simp [eS]
theorem bB.wr {v:AV} (h:bB v) (cs:List AV) (o:Nat) (ho:o<cs.length):fJ (.agg cs) o v=some (.agg (cs.set o v)):=by
 simp only [fJ,h.cells,List.length_cons,List.length_nil];rw [if_pos (by omega)]
 simp only [splice,List.length_cons,List.length_nil,List.append_assoc,List.cons_append,List.nil_append,Option.some.injEq,AV.agg.injEq];rw [List.set_eq_take_append_cons_drop,if_pos ho]
section
variable {C:aI} {q th:Bool} {s:aj} {H:J} {K:AV→J→Prop} {L:List It}
theorem aA.len (hS:aA H L) (j:Nat) {v:AV} {sz:Nat} {el:List AV} (hj:L[j]? =some ⟨v,sz,el⟩) (hp:bB v):lenOf H v=some el.length:=by
 have af:=(hS.ok j _ hj).2;simp only at af;split at af
 ·subst af;rfl
 ·subst af;rfl
 ·rename_i id ad off len;obtain ⟨h3,b,hb,_⟩:=af;simp only [lenOf,h3]
 ·rename_i id ad ix off;obtain ⟨rfl,rfl,_⟩:=af;exact absurd rfl (hp.ne id ad)
 ·exact af.elim
theorem aA.gS (hS:aA H L) (j:Nat) {v:AV} {sz:Nat} {el:List AV} (hj:L[j]? =some ⟨v,sz,el⟩) (hp:bB v):cx H v=some el:=by
 have af:=(hS.ok j _ hj).2;simp only at af;split at af
 ·subst af;rfl
 ·subst af;rfl
 ·rename_i id ad off len;obtain ⟨h3,b,hb,_,_,h5,h6⟩:=af;simp only [cx,hb,h5,if_true,h6]
 ·rename_i id ad ix off;obtain ⟨rfl,rfl,_⟩:=af;exact absurd rfl (hp.ne id ad)
 ·exact af.elim
theorem aA.yp (hS:aA H L) (j:Nat) {v:AV} {sz:Nat} {el:List AV} (hj:L[j]? =some ⟨v,sz,el⟩) (l:List UInt8):v≠ .str l:=by
 rintro rfl;exact (hS.ok j _ hj).2
theorem z7 (j:Nat) (hS:aA H L) {v:AV} {sz:Nat} {el:List AV} (hj:L[j]? =some ⟨v,sz,el⟩) (hp:bB v) {ti:TI} {e:TypeId} (hu:ti.aq= .sl e) (h:K (.int .i64 el.length) H):dM (some ti) v (lenOf H v) H K:=by
 rw [hS.len j hj hp];have hn:=hS.yp j hj;simp only [dM,hu];cases v with
 |str l=>exact absurd rfl (hn l)
 |_=>exact h
theorem sW (xs:List AV):lenOf H (.fz xs)=some xs.length:=rfl
theorem sY (l:List UInt8):lenOf H (.str l)=some l.length:=rfl
theorem sZ:lenOf H .nil=some 0:=rfl
theorem s4:lenOf H .e0=some 0:=rfl
theorem yq (ti:TI) {e:TypeId} (hu:ti.aq= .sl e) (xs:List AV) (n:Nat):dM (some ti) (.fz xs) (some n) H K=K (.int .i64 n) H:=by simp [dM,hu]
theorem yr (ti:TI) {e:TypeId} (hu:ti.aq= .sl e) (n:Nat):dM (some ti) .nil (some n) H K=K (.int .i64 n) H:=by simp [dM,hu]
theorem yt (ti:TI) {e:TypeId} (hu:ti.aq= .sl e) (n:Nat):dM (some ti) .e0 (some n) H K=K (.int .i64 n) H:=by simp [dM,hu]
theorem yu (ti:TI) (hu:ti.aq= .str) (l:List UInt8) (n:Nat):dM (some ti) (.str l) (some n) H K=K (.int .i64 n) H:=by simp [dM,hu]
theorem yv {α β :Type} {t:TypeId} {x y:Operand} {te:TI} {z:AV} {n:Int} {c: α →AV} {d: α} {f:List α →Option β} {r: β} (hS:aA H L) (ht:cE C.E t=some te) (hx:ev s x= .int .i64 n) (hy:ev s y= .int .i64 n) (hz:gi te=some z) (hd:c d=z) (h0:te.sz≠0)
 (hh:(if 0≤n∧roomy n.toNat te.bytes then some (List.replicate n.toNat d) else none:Option (List α)).bind f=some r)
 (h: ∀v H',bB v→0≤n→roomy n.toNat te.bytes=true→f (List.replicate n.toNat d)=some r→aA H' (⟨v,te.sz,(List.replicate n.toNat d).map c⟩::L)→K v H'):a7 (au C) C q th (.makeSlice t x y) s H K:=by
 rw [cN _ rfl];split at hh
 ·rename_i hc;simp only [aM,ht,hx,hy,hz];rw [if_pos ⟨hc.1,Int.le_refl _,hc.2,h0⟩];refine h _ _ (gR ..) hc.1 hc.2 hh (hS.oM (by simp [hd]) (by simp) ?_)
  simp only [bN,List.map_replicate,List.all_replicate,hd,yo hz];simp
 ·simp at hh
theorem z8 {t:TypeId} {ps:Array (Nat×Operand)} {te:TI} (ht:cE C.E t=some te) (hp:ps.size=0) (h:K .e0 H):a7 (au C) C q th (.buildSlice t 0 ps) s H K:=by
 rw [cN _ rfl];simp only [aM,ht,hp,if_true];exact h
theorem z9 {t:TypeId} {n:Nat} {ps:Array (Nat×Operand)} {te:TI} {z:AV} {el:List AV} (hS:aA H L) (ht:cE C.E t=some te) (hz:et te=some z) (hn:(n==0)=false) (hb:(decide (n*te.sz≤1000000)&&te.sz !=0)=true)
 (he:gV te.sz (List.replicate n z) (ps.toList.map fun p=>(p.1,ev s p.2))=some el) (hl:el.length=n) (aG:bN te.sz el=true) (h: ∀v H',bB v→aA H' (⟨v,te.sz,el⟩::L)→K v H'):a7 (au C) C q th (.buildSlice t n ps) s H K:=by
 rw [cN _ rfl];simp at hn hb;simp only [aM,ht,if_neg hn,hz];rw [if_pos hb];simp only [he];exact h _ _ (gR ..) (hS.oM (by rw [←hl];simp) hl.symm aG)
theorem s5 {sz:Nat} {a b:List AV} (ha:bN sz a=true) (hb:bN sz b=true):bN sz (a ++ b)=true:=by
 unfold bN at*;rw [List.all_append,ha,hb];rfl
theorem yw (hS:aA H L) (j:Nat) {te:TI} {v x:AV} {el xs:List AV} (hj:L[j]? =some ⟨v,te.sz,el⟩) (hp:bB v) (hx:cx H x=some xs) (aG:bN te.sz xs=true) (h0:te.sz≠0) (hr:roomy (el.length+xs.length) te.bytes=true):
 ∃v' H',eu te v x H=some (v',H')∧bB v' ∧aA H' (L.set j ⟨v',te.sz,el ++ xs⟩):=by
 have af:=hS.ok j _ hj;obtain ⟨k0,af⟩:=af;have hI: ∀it:It,L[j]? =some it→L.set j it=L:=fun it h=>List.ext_getElem? fun k=>by
  rw [List.getElem?_set];split
  ·rename_i e;subst e;have:=(List.getElem?_eq_some_iff.1 h).1;simp only [this,if_true];exact h.symm
  ·rfl
 simp only [eu,hx,aG,Bool.not_true,if_neg h0];simp only at af k0;split at af
 ·subst af;by_cases hn:xs.length=0
  ·have:xs=[]:=List.eq_nil_of_length_eq_zero hn;subst this;refine ⟨.nil,H,by simp,oO,?_⟩
   rw [List.append_nil,hI _ hj];exact hS
  ·have bS:roomy xs.length te.bytes=true:=by simpa using hr
   refine ⟨.ref H.bs.length H.st 0 xs.length,H.new te.sz false xs,by simp [hn,bS],gR ..,?_⟩
   exact hS.sO (fun id ad h=>mo h) ⟨by simpa using aG,by simp,_,mq,rfl,rfl,by simp,by simp [aF]⟩ (fun k hk=>by simp [bW] at hk;omega)
 ·subst af;by_cases hn:xs.length=0
  ·have:xs=[]:=List.eq_nil_of_length_eq_zero hn;subst this;refine ⟨.e0,H,by simp,oP,?_⟩
   rw [List.append_nil,hI _ hj];exact hS
  ·have bS:roomy xs.length te.bytes=true:=by simpa using hr
   refine ⟨.ref H.bs.length H.st 0 xs.length,H.new te.sz false xs,by simp [hn,bS],gR ..,?_⟩
   exact hS.sO (fun id ad h=>mo h) ⟨by simpa using aG,by simp,_,mq,rfl,rfl,by simp,by simp [aF]⟩ (fun k hk=>by simp [bW] at hk;omega)
 ·rename_i id ad off len;obtain ⟨k1,b,hb,k2,k3,k4,k5⟩:=af;have aw:=(hS.ok j _ hj).lt rfl;have bM:=(J.bn hb).2;subst k1;by_cases ci:off+el.length+xs.length≤b.el.length
  ·refine ⟨.ref id ad off (el.length+xs.length),H.bm id {b with el:=splice b.el (off+el.length) xs},by simp [hb,k2,ci],gR ..,?_⟩
   refine hS.bm hj rfl (fun gn hN aN _=>oK aN) ⟨s5 k0 aG,by simp,{b with el:=splice b.el (off+el.length) xs},?_,k2,k3,?_,?_⟩ (fun k hk=>by simpa [bW] using hk.symm)
   ·have:=oL (b:={b with el:=splice b.el (off+el.length) xs}) aw;simpa only [bM] using this
   ·simp only [jZ _ _ _ ci];omega
   ·simp only [aF] at k5⊢;have e1:(splice b.el (off+el.length) xs).drop off=el ++ (xs ++ b.el.drop (off+el.length+xs.length)):=by
     unfold splice;rw [List.append_assoc,List.drop_append_of_le_length (by simp;omega)]
     congr 1;rw [List.drop_take];have:off+el.length-off=el.length:=by omega
     rw [this,k5]
    rw [e1,←List.append_assoc,List.take_append_of_le_length (by simp),List.take_of_length_le (by simp)]
  ·refine ⟨.ref id H.st 0 (el.length+xs.length),⟨H.st+1,H.bs.set id (some ⟨H.st,b.sz,false,aF b.el off el.length ++ xs⟩)⟩,by simp [hb,k2,ci,k3,k4,hr],gR ..,?_⟩
   refine hS.bm hj rfl (fun gn hN aN _=> ?_) ⟨s5 k0 aG,by simp,⟨H.st,te.sz,false,el ++ xs⟩,?_,rfl,rfl,by simp,by simp only [aF,List.drop_zero];exact List.take_of_length_le (by simp)⟩ (fun k hk=>by simpa [bW] using hk.symm)
   ·have h' : ¬id=gn:=fun e=>aN e.symm
    simp only [J.ap,List.getElem?_set,if_neg h']
   ·simp only [J.ap,List.getElem?_set,aw,if_true,k2,aF] at k5⊢;rw [k5]
 ·rename_i id ad ix off;obtain ⟨rfl,rfl,_⟩:=af;exact absurd rfl (hp.ne id ad)
 ·exact af.elim
def app {α :Type} (mn:Nat) (l m:List α):Option (List α):=if roomy (l.length+m.length) mn then some (l ++ m) else none
theorem s6 (a b:Operand) (t u:TypeId):a7 (au C) C false th (.call {callee:= .builtin .append,args:= #[a,b],argTypes:= #[t,u]}) s H K=ep (dE C.E .append #[t,u] [ev s a,ev s b] H) K:=by
 unfold a7 wpOp;simp only [Bool.false_eq_true,false_implies,true_and];rfl
theorem yx {α β :Type} {E:aK} {t u:TypeId} {te tu:TI} {e:TypeId} {v x:AV} {l m:List α} {c: α →AV} {f:List α →Option β} {r: β} (j:Nat) (hS:aA H L) (hj:L[j]? =some ⟨v,te.sz,l.map c⟩) (hp:bB v) (ht:cE E t=some te) (hu:E u=some tu) (hi:tu.aq= .sl e)
 (hx:cx H x=some (m.map c)) (aG:bN te.sz (m.map c)=true) (h0:(te.sz==0)=false) (hh:(app te.bytes l m).bind f=some r) (h: ∀v' H',bB v' →app te.bytes l m=some (l ++ m)→f (l ++ m)=some r→aA H' (L.set j ⟨v',te.sz,(l ++ m).map c⟩)→K v' H'):
 ep (dE E .append #[t,u] [v,x] H) K:=by
 cases hr:app te.bytes l m with
 |none=>rw [hr] at hh;simp at hh
 |some lm=>
  have bS:=hr
  unfold app at hr;split at hr
  ·rename_i lg;simp only [Option.some.injEq] at hr;subst hr;rw [bS] at hh;obtain ⟨v',H',h1,h2,h3⟩:=yw hS j hj hp hx aG (by simpa using h0) (by simpa using lg)
   have e1:(#[t,u]:Array TypeId)[0]? =some t:=rfl;have e2:((#[t,u]:Array TypeId)[1]?).bind E=E u:=rfl;simp only [dE,e1,e2,ht,hu,hi,h1,ep];exact h v' H' h2 bS hh (by rw [List.map_append];exact h3)
  ·simp at hr
def kO (C:aI) (q th:Bool) (f:AV) (args:List AV) (H:J) (K:AV→J→Prop):Prop:=
 match f with
 | .fn g bJ=>if q then c5 (au C) C g (args ++ bJ) th H K else au C g (args ++ bJ) H K∨c5 (au C) C g (args ++ bJ) th H K
 |_=>False
theorem s7 (f:Operand) (args:Array Operand) (tys:Array TypeId):a7 (au C) C q th (.call {callee:= .value f,args,argTypes:=tys}) s H K=kO C q th (ev s f) (args.toList.map (ev s)) H K:=rfl
theorem z_ {α β :Type} {g:FuncId} {bJ args:List AV} {o:Option α} {f: α →Option β} {r: β} (h:o.bind f=some r) (hk: ∀x,o=some x→f x=some r→au C g (args ++ bJ) H K):kO C false th (.fn g bJ) args H K:=by
 cases ho:o with
 |none=>rw [ho] at h;simp at h
 |some x=>rw [ho] at h;exact .inl (hk x ho h)
end
inductive LR (σ ρ :Type) where
 |next (x: σ)
 |done (r: ρ)
def iter {σ ρ :Type} (f: σ →Option (LR σ ρ)):Nat→ σ →Option ρ
 |0,_=>none
 |n+1,x=>(f x).bind fun y=>match y with| .next x' =>iter f n x' | .done r=>some r
open Classical in
noncomputable def er {σ ρ :Type} (f: σ →Option (LR σ ρ)) (x: σ):Option ρ :=if h: ∃n,(iter f n x).isSome then iter f h.choose x else none
theorem oQ {σ ρ :Type} {f: σ →Option (LR σ ρ)}: ∀{n m:Nat} {x: σ} {r: ρ},iter f n x=some r→n≤m→iter f m x=some r
 |0,_,_,_,h,_=>by simp [iter] at h
 |n+1,0,_,_,_,h=>by omega
 |n+1,m+1,x,r,h,hle=>by
  simp only [iter] at h⊢;cases hf:f x with
  |none=>rw [hf] at h;simp at h
  |some y=>
   rw [hf] at h;cases y with
   |next x' =>exact oQ (m:=m) h (by omega)
   |done r' =>exact h
theorem mu {σ ρ :Type} {f: σ →Option (LR σ ρ)} {x: σ} {r: ρ}:er f x=some r↔ ∃n,iter f n x=some r:=by
 unfold er;constructor
 ·intro h;split at h
  ·exact ⟨_,h⟩
  ·simp at h
 ·rintro ⟨n,h⟩;have hex: ∃n,(iter f n x).isSome:=⟨n,by simp [h]⟩
  rw [dif_pos hex];cases hc:iter f hex.choose x with
  |none=>have:=hex.choose_spec;rw [hc] at this;simp at this
  |some r' =>
   have h1:=oQ hc (Nat.le_max_left hex.choose n);have h2:=oQ h (Nat.le_max_right hex.choose n);rw [h1] at h2;exact h2
theorem oR {σ ρ :Type} (f: σ →Option (LR σ ρ)) (x: σ):er f x=(f x).bind fun y=>match y with| .next x' =>er f x' | .done r=>some r:=by
 refine Option.ext fun r=> ?_;rw [mu];constructor
 ·rintro ⟨n,h⟩;cases n with
  |zero=>simp [iter] at h
  |succ n=>
   simp only [iter] at h;cases hf:f x with
   |none=>rw [hf] at h;simp at h
   |some y=>
    rw [hf] at h;cases y with
    |next x' =>exact mu.2 ⟨n,h⟩
    |done r' =>exact h
 ·intro h;cases hf:f x with
  |none=>rw [hf] at h;simp at h
  |some y=>
   rw [hf] at h;cases y with
   |next x' =>obtain ⟨n,hn⟩:=mu.1 h;exact ⟨n+1,by simp only [iter,hf];exact hn⟩
   |done r' =>exact ⟨1,by simp only [iter,hf];exact h⟩
def mv {σ ρ :Type} (bE:List Nat) (Inv: σ →aj→J→Prop) (y:LR σ ρ) (K:Ex→aj→J→Prop):Ex→aj→J→Prop
 | .normal,s,H=> ∃x',y= .next x' ∧Inv x' (ec bE s) H
 | .exit i,s,H=>K (.exit i) s H
 | .ret,s,H=>K .ret s H
section
variable {C:aI} {K K1:Ex→aj→J→Prop} {s:aj} {H:J}
theorem Aa {σ ρ :Type} (gC:Good C) {f: σ →Option (LR σ ρ)} {x: σ} {r: ρ} {bE:List Nat} {a:AC} (hw:er f x=some r) (Inv: σ →aj→J→Prop) (h0:Inv x (ec bE s) H)
 (hb: ∀x y s H,f x=some y→(∀r',y= .done r' →r' =r)→Inv x s H→ ∀K1,K1=mv bE Inv y K→aL (au C) C a s H K1):aL (au C) C (.loop ⟨bE,false⟩ a) s H K:=by
 obtain ⟨n,hn⟩:=mu.1 hw;have key: ∀(n:Nat) (x: σ) (s:aj) (H:J),iter f n x=some r→Inv x s H→ ∀m,il (aL (au C) C a) (gk ⟨bE,false⟩ m) K s H:=by
  intro n;induction n with
  |zero=>intro x s H h;simp [iter] at h
  |succ n ih=>
   intro x s H h hi m;simp only [iter] at h;cases hf:f x with
   |none=>rw [hf] at h;simp at h
   |some y=>
    rw [hf] at h;simp only [Option.bind_some] at h;refine il.round (au.up gC.up) (d_ (au.up gC.up) _ _ _ _ _ (fun e s' H' he=> ?_) (hb x y s H hf (fun r' e=>by subst e;simpa using h) hi _ rfl))
    cases e with
    |normal=>
     obtain ⟨x',rfl,gw⟩:=he;exact ih x' _ _ h gw m
    |exit i=>exact he
    |ret=>exact he
 exact key n x _ _ hn h0 _
theorem Ab {σ ρ :Type} {bE:List Nat} {Inv: σ →aj→J→Prop} {y:LR σ ρ} {x' : σ} (hK:K1=mv bE Inv y K) (hy:some (LR.next x')=some y) (hi:Inv x' (ec bE s) H):K1 .normal s H:=by
 rw [hK];exact ⟨x',(Option.some.inj hy).symm,hi⟩
theorem Ac {σ ρ :Type} {bE:List Nat} {Inv: σ →aj→J→Prop} {y:LR σ ρ} {i:Nat} (hK:K1=mv bE Inv y K) (h:K (.exit i) s H):K1 (.exit i) s H:=by rw [hK];exact h
theorem Ad {σ ρ :Type} {bE:List Nat} {Inv: σ →aj→J→Prop} {y:LR σ ρ} (hK:K1=mv bE Inv y K) (h:K .ret s H):K1 .ret s H:=by rw [hK];exact h
def oS (Q:aj→J→Prop) (K:Ex→aj→J→Prop):Ex→aj→J→Prop
 | .normal,s,H=>Q s H
 | .exit i,s,H=>K (.exit i) s H
 | .ret,s,H=>K .ret s H
theorem Ae (gC:Good C) {a:AC} (Q:aj→J→Prop) (h: ∀K1,K1=oS Q K→aL (au C) C a s H K1) (hq: ∀s H,Q s H→K .normal s H):aL (au C) C a s H K:=by
 refine yg (h _ rfl) (fun e s H he=> ?_) gC;cases e with
 |normal=>exact hq s H he
 |exit i=>exact he
 |ret=>exact he
theorem Af {Q:aj→J→Prop} (hK:K1=oS Q K) (h:Q s H):K1 .normal s H:=by rw [hK];exact h
theorem Ag {Q:aj→J→Prop} (hK:K1=oS Q K) (h:K .ret s H):K1 .ret s H:=by rw [hK];exact h
end
end Go.VS
namespace Go.VS
section
variable {C:aI} {q th:Bool} {s:aj} {H:J} {K:AV→J→Prop} {L:List It}
theorem s8:ef none s=s:=rfl
def yy (k:IntKind) (a b:Int):Int:=k.wrap (BitVec.ofInt k.bits a&&&BitVec.ofInt k.bits b).toNat
def yz (k:IntKind) (a b:Int):Int:=k.wrap (BitVec.ofInt k.bits a|||BitVec.ofInt k.bits b).toNat
def yA (k:IntKind) (a b:Int):Int:=k.wrap (BitVec.ofInt k.bits a^^^BitVec.ofInt k.bits b).toNat
def Ah (k:IntKind) (a b:Int):Int:=k.wrap (a*2^(min b.toNat k.bits))
def s9 (k:IntKind) (a b:Int):Int:=a.fdiv (2^(min b.toNat k.bits))
theorem tc (E:aK) (t:TypeId) (k:IntKind) (a b:Int):aH E .and t (.int k a) (.int k b)=some (.int k (yy k a b)):=yi ..
theorem tg (E:aK) (t:TypeId) (k:IntKind) (a b:Int):aH E .or t (.int k a) (.int k b)=some (.int k (yz k a b)):=yj ..
theorem tj (E:aK) (t:TypeId) (k:IntKind) (a b:Int):aH E .xor t (.int k a) (.int k b)=some (.int k (yA k a b)):=yl ..
theorem Ai (k:IntKind) (a b:Int) (h:decide (b<0)=false):sr k a b=some (s9 k a b):=by simp at h;simp [sr,s9,Int.not_lt.2 h]
def oT (E:aK) (src dst:TypeId) (x:AV) (H:J) (K:AV→J→Prop):Prop:=ep (match E src,E dst,x with
 |some _,some td,.int _ n=>match td.aq with
  | .it k=>some (.int k (k.wrap n),H)
  |_=>none
 |some _,some td,.str l=>match td.aq with
  | .str=>some (.str l,H)
  | .sl e=>match E e with
   |some te=>match te.aq with
    | .it .u8=>if te.sz=1∧te.bytes=1∧l.length≤2^45 then some (.ref H.bs.length H.st 0 l.length,H.new 1 false (l.map fun b=> .int .u8 b.toNat)) else none
    |_=>none
   |none=>none
  |_=>none
 |some ts,some td,x=>match ts.aq,td.aq with
  | .sl e,.str=>match E e with
   |some te=>match te.aq with
    | .it .u8=>match cx H x with
     |some xs=>if te.sz=1 then (match (bytesOf xs).map AV.str with|some v=>some (v,H)|none=>none) else none
     |none=>none
    |_=>none
   |none=>none
  |_,_=>none
 |_,_,_=>none) K
theorem tn (a b:TypeId) (x:Operand):a7 (au C) C q th (.convert a b x) s H K=oT C.E a b (ev s x) H K:=by
 rw [cN _ rfl];rfl
def oU (ta tb:Option TI) (n:Int) (H:J) (K:AV→J→Prop):Prop:=match ta,tb with
 |some _,some td=>match td.aq with| .it k=>K (.int k (k.wrap n)) H|_=>False
 |_,_=>False
theorem tp (E:aK) (a b:TypeId) (j:IntKind) (n:Int):oT E a b (.int j n) H K=oU (E a) (E b) n H K:=by
 simp only [oT,oU];cases E a with
 |none=>rfl
 |some ta=>
  cases E b with
  |none=>rfl
  |some tb=>simp only;cases tb.aq<;>rfl
def yB (l:List UInt8):List Int:=l.map fun b=>(b.toNat:Int)
def Aj (l:List Int):List UInt8:=l.map fun n=>UInt8.ofNat n.toNat
def Ak (l:List UInt8):Option (List Int):=if l.length≤2^45 then some (yB l) else none
def dN {α :Type} (l:List α) (lo hi:Int):Option (List α):=if 0≤lo∧lo≤hi∧hi≤l.length then some ((l.drop lo.toNat).take (hi.toNat-lo.toNat)) else none
def ff (E:aK) (t:TypeId) (x:AV) (lo hi mx:Option (Option Int)) (H:J) (K:AV→J→Prop):Prop:=match lo,hi,mx with
 |some lo,some hi,some mx=>cv (eL E t x lo hi mx H) H K
 |_,_,_=>False
theorem tq (t:TypeId) (x:Operand) (lo hi mx:Option Operand):a7 (au C) C q th (.slice t x lo hi mx) s H K=ff C.E t (ev s x) (dD (lo.map (ev s))) (dD (hi.map (ev s))) (dD (mx.map (ev s))) H K:=by
 rw [cN _ rfl];simp only [aM,ff];generalize dD (lo.map (ev s))=a;generalize dD (hi.map (ev s))=b;generalize dD (mx.map (ev s))=c;cases a<;>cases b<;>cases c<;>first|rfl|(simp only;rename_i lo hi mx;generalize eL C.E t (ev s x) lo hi mx H=z;cases z<;>rfl)
theorem tv:dD none=some none:=rfl
theorem tw (k:IntKind) (n:Int):dD (some (.int k n))=some (some n):=rfl
theorem tz {α :Type} {c: α →AV} {sz:Nat} (hc: ∀x,(c x).cells.length=sz) (l:List α):bN sz (l.map c)=true:=by
 simp [bN,hc]
theorem Al {α β :Type} {E:aK} {t e:TypeId} {ti te:TI} {l:List α} {c: α →AV} {lo hi:Option Int} {f:List α →Option β} {r: β} (ht:E t=some ti) (hu:ti.aq= .sl e) (he:E e=some te) (hc: ∀x,(c x).cells.length=te.sz) (hh:(dN l (lo.getD 0) (hi.getD l.length)).bind f=some r)
 (h: ∀m,dN l (lo.getD 0) (hi.getD l.length)=some m→f m=some r→K (.fz (m.map c)) H):ff E t (.fz (l.map c)) (some lo) (some hi) (some none) H K:=by
 cases hm:dN l (lo.getD 0) (hi.getD l.length) with
 |none=>rw [hm] at hh;simp at hh
 |some m=>
  rw [hm] at hh;have hk:=h m hm hh;unfold dN at hm;split at hm
  ·rename_i yC;simp only [Option.some.injEq] at hm;simp only [ff,eL,ht,hu,he,tz hc,Bool.not_true,Bool.false_eq_true,if_false,List.length_map,if_pos yC,cv];rw [←hm,List.map_take,List.map_drop] at hk;exact hk
  ·simp at hm
theorem Am {α β :Type} {E:aK} {t e:TypeId} {ti te:TI} {v:AV} {l:List α} {c: α →AV} {lo hi:Option Int} {f:List α →Option β} {r: β} (j:Nat) (hS:aA H L) (hj:L[j]? =some ⟨v,te.sz,l.map c⟩) (hp:bB v) (ht:E t=some ti) (hu:ti.aq= .sl e) (he:E e=some te) (hh:(dN l (lo.getD 0) (hi.getD l.length)).bind f=some r)
 (h: ∀v' m,bB v' →dN l (lo.getD 0) (hi.getD l.length)=some m→f m=some r→aA H (L.set j ⟨v',te.sz,m.map c⟩)→K v' H):ff E t v (some lo) (some hi) (some none) H K:=by
 cases hm:dN l (lo.getD 0) (hi.getD l.length) with
 |none=>rw [hm] at hh;simp at hh
 |some m=>
  rw [hm] at hh;have hk:=fun v' a9=>h v' m a9 hm hh
  unfold dN at hm;split at hm
  ·rename_i hc;obtain ⟨cX,dw,kP⟩:=hc;simp only [Option.some.injEq] at hm;have af:=hS.ok j _ hj;obtain ⟨k0,af⟩:=af;have hI:L.set j ⟨v,te.sz,l.map c⟩=L:=List.ext_getElem? fun k=>by
    rw [List.getElem?_set];split
    ·rename_i e;subst e;have:=(List.getElem?_eq_some_iff.1 hj).1;simp only [this,if_true];exact hj.symm
    ·rfl
   have yD:bN te.sz (m.map c)=true:=by
    simp only [bN,List.all_eq_true,List.mem_map] at k0⊢;rintro z ⟨y,hy,rfl⟩;rw [←hm] at hy;exact k0 _ ⟨y,List.mem_of_mem_drop (List.mem_of_mem_take hy),rfl⟩
   have empty:l.map c=[]→m=[]∧l=[]∧lo.getD 0=0∧hi.getD l.length=0:=by
    intro e;rw [List.map_eq_nil_iff] at e;subst e;have e0:(([]:List α).length:Int)=0:=rfl;rw [e0] at kP dw⊢;exact ⟨by rw [←hm];simp,rfl,by omega,by omega⟩
   simp only at af k0;split at af
   ·obtain ⟨rfl,rfl,e1,e2⟩:=empty af;have gI:hi.getD 0=0:=by cases hi with|none=>rfl|some x=>simpa using e2
    simp only [ff,eL,ht,hu,he];rw [if_pos ⟨e1,gI,rfl,by simp⟩]
    exact hk .nil oO (by rw [hI];exact hS)
   ·obtain ⟨rfl,rfl,e1,e2⟩:=empty af;have gI:hi.getD 0=0:=by cases hi with|none=>rfl|some x=>simpa using e2
    simp only [ff,eL,ht,hu,he];rw [if_pos ⟨e1,gI,rfl,by simp⟩]
    exact hk .e0 oP (by rw [hI];exact hS)
   ·rename_i id ad off len;obtain ⟨k1,b,hb,k2,k3,k4,k5⟩:=af;simp only [List.length_map] at k1;subst k1;simp only [ff,eL,ht,hu,hb,he,k2,ne_eq,not_true_eq_false,if_false];rw [if_pos ⟨cX,dw,by omega⟩]
    have kQ:(hi.getD (l.length:Int)).toNat-(lo.getD 0).toNat=m.length:=by
     rw [←hm,List.length_take,List.length_drop];omega
    refine hk _ (gR ..) (hS.bm hj rfl (fun _ _ _ _=>rfl) ⟨yD,?_,b,hb,k2,k3,?_,?_⟩ (fun k hk=>by simpa [bW] using hk.symm))
    ·simp only [List.length_map];exact kQ
    ·omega
    ·simp only [aF] at k5⊢;rw [←hm,List.map_take,List.map_drop,←k5,List.drop_take,List.drop_drop,List.take_take];congr 1;omega
   ·rename_i id ad ix off;obtain ⟨rfl,rfl,_⟩:=af;exact absurd rfl (hp.ne id ad)
   ·exact af.elim
  ·simp at hm
def kR {α :Type} (mn:Nat) (n:Int) (d: α):Option (List α):=if 0≤n∧roomy n.toNat mn then some (List.replicate n.toNat d) else none
theorem An {α β :Type} {t:TypeId} {x y:Operand} {te:TI} {z:AV} {n:Int} {c: α →AV} {d: α} {f:List α →Option β} {r: β} (hS:aA H L) (ht:cE C.E t=some te) (hx:ev s x= .int .i64 n) (hy:ev s y= .int .i64 n) (hz:gi te=some z) (hd:c d=z) (h0:(te.sz==0)=false)
 (hh:(kR te.bytes n d).bind f=some r) (h: ∀v H' l,bB v→kR te.bytes n d=some l→f l=some r→aA H' (⟨v,te.sz,l.map c⟩::L)→K v H'):a7 (au C) C q th (.makeSlice t x y) s H K:=by
 refine yv hS ht hx hy hz hd (by simpa using h0) hh fun v H' hv h1 h2 h3 h4=>h v H' _ hv (by unfold kR;rw [if_pos ⟨h1,h2⟩]) h3 h4
theorem Ao {α β :Type} {E:aK} {t u:TypeId} {te tu:TI} {e:TypeId} {v x:AV} {l m:List α} {c: α →AV} {f:List α →Option β} {r: β} (j:Nat) (hS:aA H L) (hj:L[j]? =some ⟨v,te.sz,l.map c⟩) (hp:bB v) (ht:cE E t=some te) (hu:E u=some tu) (hi:tu.aq= .sl e)
 (hx:cx H x=some (m.map c)) (aG: ∀x,(c x).cells.length=te.sz) (h0:(te.sz==0)=false) (hh:(app te.bytes l m).bind f=some r) (h: ∀v' H' lm,bB v' →app te.bytes l m=some lm→f lm=some r→aA H' (L.set j ⟨v',te.sz,lm.map c⟩)→K v' H'):
 ep (dE E .append #[t,u] [v,x] H) K:=
 yx j hS hj hp ht hu hi hx (tz aG m) h0 hh fun v' H' h1 h2 h3 h4=>h v' H' _ h1 h2 h3 h4
theorem aA.perm {L' :List It} (h:aA H L) (hp:L.Perm L'):aA H L' :=by
 have nd: ∀{L:List It},aA H L↔(∀it∈L,gg H it)∧(L.filterMap (fun it=>bW it.v)).Nodup:=by
  intro L;constructor
  ·intro h;refine ⟨fun it hi=> ?_,?_⟩
   ·obtain ⟨i,gw⟩:=List.mem_iff_getElem?.1 hi;exact h.ok i it gw
   ·induction L with
    |nil=>simp
    |cons a L ih=>
     have ih:=ih h.tl;rw [List.filterMap_cons];cases ha:bW a.v with
     |none=>exact ih
     |some id=>
      refine List.nodup_cons.2 ⟨fun hm=> ?_,ih⟩;obtain ⟨b,hb,bT⟩:=List.mem_filterMap.1 hm;obtain ⟨j,hj⟩:=List.mem_iff_getElem?.1 hb;have:=h.bY 0 (j+1) a b id rfl hj ha bT;omega
  ·rintro ⟨h1,h2⟩;refine ⟨fun i it hi=>h1 it (List.mem_of_getElem? hi),?_⟩;clear h1;induction L with
   |nil=>intro i j a b id h;simp at h
   |cons a L ih=>
    have kn:(L.filterMap (fun it=>bW it.v)).Nodup:=by
     rw [List.filterMap_cons] at h2;split at h2
     ·exact h2
     ·exact (List.nodup_cons.1 h2).2
    have no: ∀(j:Nat) (b:It) (id:Nat),L[j]? =some b→bW a.v=some id→bW b.v≠some id:=by
     intro j b id hj ha hb;rw [List.filterMap_cons,ha] at h2;exact (List.nodup_cons.1 h2).1 (List.mem_filterMap.2 ⟨b,List.mem_of_getElem? hj,hb⟩)
    intro i j x y id hi hj hx hy;cases i with
    |zero=>
     simp at hi;subst hi;cases j with
     |zero=>rfl
     |succ j=>exact absurd hy (no j y id (by simpa using hj) hx)
    |succ i=>
     cases j with
     |zero=>simp at hj;subst hj;exact absurd hx (no i x id (by simpa using hi) hy)
     |succ j=>have:=ih kn i j x y id (by simpa using hi) (by simpa using hj) hx hy;omega
 rw [nd] at h⊢;exact ⟨fun it hi=>h.1 it (hp.mem_iff.2 hi),(hp.filterMap _).nodup_iff.1 h.2⟩
theorem aA.front (h:aA H L) (j:Nat) {it:It} (hj:L[j]? =some it):aA H (it::L.eraseIdx j):=by
 refine h.perm ?_;have aw:=(List.getElem?_eq_some_iff.1 hj).1;have he:=(List.getElem?_eq_some_iff.1 hj).2;have:L=L.take j ++ it::L.drop (j+1):=by
  rw [←he,List.getElem_cons_drop,List.take_append_drop]
 rw [List.eraseIdx_eq_take_drop_succ]
 conv=>lhs;rw [this]
 exact List.perm_middle
theorem aA.Ap (h:aA H L) (sz:Nat):aA H (⟨.nil,sz,[]⟩::L):=
 h.new (fun _ _ _=>rfl) ⟨rfl,rfl⟩ (fun k hk=>by simp [bW] at hk)
theorem aA.Aq (h:aA H L) (sz:Nat):aA H (⟨.e0,sz,[]⟩::L):=
 h.new (fun _ _ _=>rfl) ⟨rfl,rfl⟩ (fun k hk=>by simp [bW] at hk)
theorem aA.drop (h:aA H L) (j:Nat):aA H (L.eraseIdx j):=by
 cases hj:L[j]? with
 |none=>
  rw [List.eraseIdx_of_length_le (List.getElem?_eq_none_iff.1 hj)];exact h
 |some it=>exact (h.front j hj).tl
theorem aA.Ar (hS:aA H L) {id ad sz:Nat} {a:AV} (hm:⟨.ptr id ad 0 0,sz,[a]⟩∈L):H.ap id ad=some ⟨ad,sz,false,[a]⟩:=by
 obtain ⟨j,hj⟩:=List.mem_iff_getElem?.1 hm;exact hS.var j hj
theorem tA {α β :Type} {g:FuncId} {bJ args ys:List AV} {bL:Bool} {o:Option α} {f: α →Option β} {r: β} {b7:List (List Sh)} (h:o.bind f=some r) (hr:(C.fM g).b7=b7) (hp:b4 [] (args ++ bJ) H=some (ys,bL))
 (hk: ∀x,o=some x→f x=some r→ ∃y,au C g ys ⟨0,[]⟩ (fun v L=> ∃rs zs L2,v=cd rs∧cQ b7 rs L=some (zs,L2)∧y=cd zs)∧(bL=false∨cc y=true)∧if th||bL then K (aD y H).1 (aD y H).2 else K (bh y) H):kO C q th (.fn g bJ) args H K:=by
 cases ho:o with
 |none=>rw [ho] at h;simp at h
 |some x=>
  rw [ho] at h;have hq:c5 (au C) C g (args ++ bJ) th H K:=by
   unfold c5;rw [hp,hr];exact hk x ho h
  cases q with
  |true=>exact hq
  |false=>exact .inr hq
end
end Go.VS
