import Derived.Test.YtmbfhipfcjmhmaaGreatVaE
import Derived.ChangeArms
import Derived.Carry
import Derived.ProofKit
import Derived.SizedLaws
namespace Go.VS
open Go.RowKit Go.WideShapes Go.ChangeAt Go.ChangeShapes
def kL:aj:=fun _=>False
def kM (w:World) (xs:List AV) (cs:List Value):Prop:=xs.length=cs.length∧(∀(i:Nat) (x:AV) (v:Value),xs[i]? =some x→cs[i]? =some v→FR w kL x v)∧ ∀v∈cs,v.oneCell' =true
structure Rd (P:Program) (t:TypeId) {T:Type} (n:Nat) (c:T→List AV) (ok:T→Prop):Prop where
 sz:P.cellsOf t=n
 len: ∀a,(c a).length=n
 rd: ∀{H:Type} (enc:TypeId×Value→H) (w:World) (base:Nat) (sp:Nat→Bool) (held:Bool) (fuel:Nat) (cs:List Value) (x:DataW H×List MemPlace),DataW.trod enc P w base sp held fuel t cs=some x→(∀z∈x.1.weights P t,z≤reachBytes)→ ∃a:T,ok a∧kM w (c a) cs
section
variable {P:Program} {t:TypeId}
theorem kM.one {w:World} {x:AV} {v:Value} (h:FR w kL x v) (ho:v.oneCell' =true):kM w [x] [v]:=
 ⟨rfl,fun i y u hy hu=>by
  cases i with
  |zero=>simp at hy hu;subst hy;subst hu;exact h
  |succ i=>simp at hy,by simp [ho]⟩
def Dj (k:IntKind) (n:Int):Prop:=k.min≤n∧n≤k.max
theorem Rd.int {k:IntKind} (ht:P.underlying t=some (.int k)) (hs:P.cellsOf t=1):Rd P t 1 (fun n:Int=>[.int k n]) (Dj k):=
 ⟨hs,fun _=>rfl,fun enc w base sp held fuel cs x h _=>by
  obtain ⟨n,rfl,_,hw⟩:=DataW.trod_int ht h;simp only [Lit.wf,Bool.and_eq_true,decide_eq_true_eq] at hw;exact ⟨n,hw,.one (.int k n) rfl⟩⟩
theorem Rd.bool (ht:P.underlying t=some .bool) (hs:P.cellsOf t=1):Rd P t 1 (fun b:Bool=>[.bool b]) (fun _=>True):=
 ⟨hs,fun _=>rfl,fun enc w base sp held fuel cs x h _=>by
  obtain ⟨b,rfl,_⟩:=DataW.trod_bool ht h;exact ⟨b,trivial,.one (.bool b) rfl⟩⟩
theorem Rd.str (ht:P.underlying t=some .string) (hs:P.cellsOf t=1):Rd P t 1 (fun s:List UInt8=>[.str s]) (fun s=>s.length<2^47):=
 ⟨hs,fun _=>rfl,fun enc w base sp held fuel cs x h hz=>by
  obtain ⟨s,rfl,hx,hm⟩:=DataW.trod_string ht h;have:=hz s.data.toList.length (by rw [hx];simp [DataW.weights])
  have hr:=reachBytes_lt;exact ⟨s.data.toList,by omega,.one (.str s) rfl⟩⟩
theorem yQ {w:World} {base:Nat} {a:Addr} {n:Nat} {cs:List Value} (h:w.cells? base a n=some cs):cs.length=n∧ ∀i,i<n→w.cell? (a.add i)=cs[i]? :=by
 unfold World.cells? at h;split at h
 ·obtain ⟨h1,h2⟩:=mapM_some h;refine ⟨by simpa using h1,fun i hi=> ?_⟩
  have h3:i<cs.length:=by rw [h1];simpa using hi
  rw [List.getElem?_eq_getElem h3];exact h2 i i _ (by simp [hi]) (List.getElem?_eq_getElem h3)
 ·simp at h
theorem Dk {H:Type} {P:Program} {e:TypeId} {d:DataW H} {l:List (DataW H)} {z:Nat} (h:d∈l) (hz:z∈d.weights P e):z∈DataW.weightsAll P e l:=by
 induction l with
 |nil=>simp at h
 |cons x xs ih=>
  simp only [DataW.weightsAll,List.mem_append];rcases List.mem_cons.1 h with rfl|h
  ·exact .inl hz
  ·exact .inr (ih h)
theorem Rd.sl {T:Type} {e:TypeId} {n:Nat} {c:T→List AV} {ok:T→Prop} (he:Rd P e n c ok) (hn:0<n) (ce:T→AV) (hc: ∀a,(ce a).cells=c a) (ht:P.underlying t=some (.slice e)) (hs:P.cellsOf t=1) (Dl:0<P.bytesOf e):
 Rd P t 1 (fun l:List T=>[.fz (l.map ce)]) (fun l=>l.length<2^47∧ ∀a∈l,ok a):=
 ⟨hs,fun _=>rfl,fun {H} enc w base sp held fuel cs x h hz=>by
  rcases DataW.trod_slice ht h with ⟨rfl,_⟩|⟨a,len,cap,jl,rest,m,_,rfl,mg,hb,hl,hm,hlen,bG,_,_⟩
  ·exact ⟨[],⟨by simp,by simp⟩,.one (.c8 none 0) rfl⟩
  ·rw [he.sz] at bG;rw [mg] at hz;have GC:=hz ((jl.length+rest.length)*P.bytesOf e) (by simp [DataW.weights,ht])
   have GD:len<2^47:=by
    have h3:jl.length≤(jl.length+rest.length)*P.bytesOf e:=Nat.le_trans (Nat.le_add_right _ _) (Nat.le_mul_of_pos_right _ Dl);have:=reachBytes_lt;omega
   have each: ∀i,i<len→ ∃(x:T) (cs:List Value),ok x∧w.cells? base (a.add (i*n)) n=some cs∧kM w (c x) cs:=by
    intro i hi;have h1:=bG i hi;have az:i<jl.length:=by omega
    rw [List.getElem?_eq_getElem az] at h1;obtain ⟨cs,h2,h3⟩:=Option.bind_eq_some_iff.1 h1;obtain ⟨x,h4,h5⟩:=he.rd enc w base sp held m cs _ h3 (fun z hq=>hz z (by
     simp only [DataW.weights,ht];exact List.mem_cons_of_mem _ (List.mem_append_left _ (Dk (List.mem_map_of_mem (List.getElem_mem az)) hq))))
    exact ⟨x,cs,h4,h2,h5⟩
   have build: ∀k,k≤len→ ∃l:List T,l.length=k∧ ∀i x,l[i]? =some x→ok x∧ ∃cs,w.cells? base (a.add (i*n)) n=some cs∧kM w (c x) cs:=by
    intro k;induction k with
    |zero=>intro _;exact ⟨[],rfl,by simp⟩
    |succ k ih=>
     intro hk;obtain ⟨l,h1,h2⟩:=ih (by omega)
     obtain ⟨x,cs,h3,h4,h5⟩:=each k (by omega)
     refine ⟨l ++ [x],by simp [h1],fun i y hy=> ?_⟩
     rcases Nat.lt_or_ge i l.length with hi|hi
     ·rw [List.getElem?_append_left hi] at hy;exact h2 i y hy
     ·rw [List.getElem?_append_right hi] at hy;have:i=k:=by
       have:=(List.getElem?_eq_some_iff.1 hy).1;simp at this;omega
      subst this;simp [h1] at hy;subst hy;exact ⟨h3,cs,h4,h5⟩
   obtain ⟨l,h1,h2⟩:=build len (Nat.le_refl _);refine ⟨l,⟨by omega,fun y hy=> ?_⟩,?_⟩
   ·obtain ⟨i,hi⟩:=List.mem_iff_getElem?.1 hy;exact (h2 i y hi).1
   ·refine .one ?_ rfl;by_cases h0:len=0
    ·subst h0;have:l=[]:=List.eq_nil_of_length_eq_zero h1;subst this;exact .c8 (some a) cap
    ·
     have Dm: ∃y,l[0]? =some y:=⟨_,List.getElem?_eq_getElem (by omega)⟩
     obtain ⟨y,hy⟩:=Dm;obtain ⟨_,GF,dx,_⟩:=h2 0 y hy;obtain ⟨gN,Dn⟩:=yQ dx;have ji:=Dn 0 hn;have yR: ∀b:Addr,b.add 0=b:=fun b=>by simp [Addr.add]
     rw [Nat.zero_mul,yR,yR,List.getElem?_eq_getElem (by omega)] at ji
     obtain ⟨ab,ao,Dp⟩:=a;unfold World.cell? at ji;split at ji
     rotate_left
     ·simp at ji
     rename_i arr T0 fr hblk;simp only at hblk ji;cases mf:Dp with
     |some q=>rw [mf] at ji;simp at ji
     |none=>
      subst mf;have ig: ∀i y,l[i]? =some y→ ∀j,j<n→ ∃cs,kM w (c y) cs∧cs.length=n∧arr[ao+i*n+j]? =cs[j]? :=by
       intro i y hy j hj;obtain ⟨_,cs,h3,h4⟩:=h2 i y hy;obtain ⟨h5,h6⟩:=yQ h3;refine ⟨cs,h4,h5,?_⟩;have h7:=h6 j hj;have:((⟨ab,ao,none⟩:Addr).add (i*n)).add j=⟨ab,ao+i*n+j,none⟩:=by
        unfold Addr.add;by_cases kg:i*n=0<;>by_cases Dq:j=0<;>simp [kg,Dq,Nat.add_assoc]
       rw [this,nr hblk] at h7;exact h7
      have r7:(l.map ce).length=len:=by simp [h1]
      have key:FR w kL (.fz (l.map ce)) (.slice (some ⟨ab,ao,none⟩) (l.map ce).length cap):=by
       refine .fz (l.map ce) ab ao cap n arr T0 fr hblk (fun h=>h) (by omega) ?_ ?_ ?_ ?_
       ·rw [r7];obtain ⟨z,hz⟩: ∃z,l[len-1]? =some z:=⟨_,List.getElem?_eq_getElem (by omega)⟩
        obtain ⟨cs,_,k2,k3⟩:=ig (len-1) z hz (n-1) (by omega)
        rw [List.getElem?_eq_getElem (by omega)] at k3
        have:=(Array.getElem?_eq_some_iff.1 k3).1;have e:(len-1)*n+(n-1)+1=len*n:=by
         have:len=(len-1)+1:=by omega
         conv=>rhs;rw [this,Nat.add_mul,Nat.one_mul]
         omega
        omega
       ·intro i x hx;simp only [List.getElem?_map,Option.map_eq_some_iff] at hx;obtain ⟨z,_,rfl⟩:=hx;rw [hc,he.len]
       ·intro j v hj hv;rw [r7] at hj;have hd:j/n<len:=(Nat.div_lt_iff_lt_mul hn).2 hj;obtain ⟨z,hz⟩: ∃z,l[j/n]? =some z:=⟨_,List.getElem?_eq_getElem (by omega)⟩
        obtain ⟨cs,k1,k2,k3⟩:=ig (j/n) z hz (j % n) (Nat.mod_lt _ hn);have e:ao+j/n*n+j % n=ao+j:=by rw [Nat.add_assoc,Nat.mul_comm,Nat.div_add_mod]
        rw [e,hv] at k3;exact k1.2.2 v (List.mem_of_getElem? k3.symm)
       ·intro i x j y v hx hy hv;simp only [List.getElem?_map,Option.map_eq_some_iff] at hx;obtain ⟨z,hz,rfl⟩:=hx;rw [hc] at hy;have hj:j<n:=by rw [←he.len z];exact (List.getElem?_eq_some_iff.1 hy).1
        obtain ⟨cs,k1,_,k3⟩:=ig i z hz j hj;rw [hv] at k3;exact k1.2.1 j y v hy k3.symm
      rw [r7] at key;exact key⟩
structure lI (P:Program) (fs:List (Nat×TypeId)) {T:Type} (off n:Nat) (c:T→List AV) (ok:T→Prop):Prop where
 len: ∀a,(c a).length=n
 rd: ∀{H:Type} (enc:TypeId×Value→H) (w:World) (base:Nat) (sp:Nat→Bool) (held:Bool) (fuel:Nat) (cs:List Value),cs.length=off+n→
  (∀f∈fs,∃x:DataW H×List MemPlace,DataW.trod enc P w base sp held fuel f.2 ((cs.drop f.1).take (P.cellsOf f.2))=some x∧ ∀z∈x.1.weights P f.2,z≤reachBytes)→ ∃a:T,ok a∧kM w (c a) (cs.drop off)
theorem lI.nil {off:Nat}:lI P [] off 0 (fun _:Unit=>[]) (fun _=>True):=
 ⟨fun _=>rfl,fun enc w base sp held fuel cs hl _=>⟨(),trivial,by rw [List.drop_of_length_le (by omega)];exact ⟨rfl,by simp,by simp⟩⟩⟩
theorem lI.cons {ft:TypeId} {fs:List (Nat×TypeId)} {T U:Type} {off n m:Nat} {c:T→List AV} {d:U→List AV} {ok:T→Prop} {mZ:U→Prop} (h:Rd P ft n c ok) (k:lI P fs (off+n) m d mZ):
 lI P ((off,ft)::fs) off (n+m) (fun x:T×U=>c x.1 ++ d x.2) (fun x=>ok x.1∧mZ x.2):=
 ⟨fun a=>by rw [List.length_append,h.len,k.len],fun enc w base sp held fuel cs hl hf=>by
  obtain ⟨x,hx,Dr⟩:=hf (off,ft) (by simp)
  simp only [h.sz] at hx;obtain ⟨a,a1,a2⟩:=h.rd enc w base sp held fuel _ _ hx Dr;obtain ⟨b,b1,b2⟩:=k.rd enc w base sp held fuel cs (by omega) (fun g hg=>hf g (by simp [hg]))
  refine ⟨(a,b),⟨a1,b1⟩,?_⟩;have e:cs.drop off=(cs.drop off).take n ++ cs.drop (off+n):=by
   rw [←List.drop_drop,List.take_append_drop]
  rw [e];obtain ⟨l1,p1,o1⟩:=a2;obtain ⟨l2,p2,o2⟩:=b2;refine ⟨by simp only [List.length_append,l1,l2],fun i x v hx hv=> ?_,fun v hv=> ?_⟩
  ·rcases Nat.lt_or_ge i (c a).length with hi|hi
   ·rw [List.getElem?_append_left hi] at hx;rw [List.getElem?_append_left (by rw [←l1];exact hi)] at hv
    exact p1 i x v hx hv
   ·rw [List.getElem?_append_right hi] at hx;rw [List.getElem?_append_right (by rw [←l1];exact hi),←l1] at hv
    exact p2 _ x v hx hv
  ·rcases List.mem_append.1 hv with h|h
   ·exact o1 v h
   ·exact o2 v h⟩
def yS (P:Program) (t:TypeId):Option (List (Nat×TypeId)):=match P.underlying t with
 |some (.struct fs)=>some (fs.toList.map fun f=>(f.offset,f.type))
 |_=>none
theorem Rd.st {fs:List (Nat×TypeId)} {T:Type} {n:Nat} {c:T→List AV} {ok:T→Prop} (ht:yS P t=some fs) (hs:P.cellsOf t=n) (h:lI P fs 0 n c ok):Rd P t n c ok:=
 ⟨hs,h.len,fun enc w base sp held fuel cs x hx hz=>by
  unfold yS at ht;split at ht
  ·rename_i fa hu;simp only [Option.some.injEq] at ht;obtain ⟨xs,m,_,mg,hl,ca,hf⟩:=DataW.trod_struct hu hx;rw [mg] at hz;obtain ⟨a,h1,h2⟩:=h.rd enc w base sp held m cs (by omega) (fun f yT=>by
    rw [←ht] at yT;obtain ⟨g,hg,rfl⟩:=List.mem_map.1 yT;obtain ⟨i,hi⟩:=List.mem_iff_getElem?.1 hg;rw [Array.getElem?_toList] at hi;have:=hf i g hi;have az:i<xs.length:=by rw [ca];exact (Array.getElem?_eq_some_iff.1 hi).1
    exact ⟨_,by rw [this,List.getElem?_eq_getElem az],fun z hq=>hz z (by
     simp only [DataW.weights,hu];exact DataW.weights_mem_each (j:=i) (t:=g.type) (d:=xs[i].1) (by simp [hi]) (by simp [List.getElem?_eq_getElem az]) z hq)⟩)
   exact ⟨a,h1,by simpa using h2⟩
  ·simp at ht⟩
theorem Rd.map {T U:Type} {n:Nat} {c:T→List AV} {ok:T→Prop} (h:Rd P t n c ok) (g:T→U) {d:U→List AV} {mZ:U→Prop} (hc: ∀a,d (g a)=c a) (hl: ∀b,(d b).length=n) (ho: ∀a,ok a→mZ (g a)):Rd P t n d mZ:=
 ⟨h.sz,hl,fun enc w base sp held fuel cs x hx hz=>by
  obtain ⟨a,h1,h2⟩:=h.rd enc w base sp held fuel cs x hx hz;exact ⟨g a,ho a h1,by rw [hc];exact h2⟩⟩
theorem Rd.GG {H:Type} {enc:TypeId×Value→H} {w:World} {base:Nat} {sp:Nat→Bool} {held:Bool} {T:Type} {f:T→AV} {ok:T→Prop} (h:Rd P t 1 (fun a:T=>[f a]) ok) {v:Value} {d:DataW H} {ps:List MemPlace} (hd:DataW.Trod enc P w base sp held t v d ps) (hv:v.cells= #[v]) {ts:List TypeId} {ds:List (DataW H)} {j:Nat} (hz:(DataW.weightsEach P ts ds).all (· ≤reachBytes)=true) (ht:ts[j]? =some t) (Ds:ds[j]? =some d):
 ∃a,ok a∧FR w kL (f a) v:=by
 obtain ⟨fuel,hf⟩:=hd;obtain ⟨a,h1,h2⟩:=h.rd enc w base sp held fuel _ _ hf (fun z hq=>by simpa using List.all_eq_true.1 hz z (DataW.weights_mem_each ht Ds z hq))
 rw [hv] at h2;exact ⟨a,h1,h2.2.1 0 _ _ rfl rfl⟩
end
theorem GI {P:Program} {f:FuncId} {ys:List AV} (h:b_ P f ys ⟨0,[]⟩ (fun v _=>v= .bool true)) (W:World) (us:Array Value) (hl:ys.length=us.size) (hr: ∀(i:Nat) (x:AV) (u:Value),ys[i]? =some x→us[i]? =some u→FR W kL x u):
 Calls P f us W fun e w' =>e= .returned (.bool true)∧Below W.heap.size W w' :=by
 have ae:St W ⟨0,[]⟩ (fun _=>none) kL:=⟨fun _ _ _ _ _ h=>by simp at h,fun c ⟨_,_,h⟩=>by simp at h,fun c h=>h.elim,fun _ _ h=>by simp at h⟩
 refine (h.2 W kL (fun _=>none) us ae hl (fun i x u hx hu=> .fr _ _ (hr i x u hx hu))).mono fun e w' he=> ?_
 cases e with
 |returned v' =>
  obtain ⟨x,H',ak,A',ho,hx,rfl⟩:=he;have:=hx.fK;subst this;exact ⟨rfl,⟨ho.post.os,ho.post.tape,ho.post.output,ho.post.size,fun k hk=>ho.post.kept k hk (fun ⟨_,_,h⟩=>by simp at h)⟩⟩
 |panicked c=>exact he.elim
 |outgrown=>exact he.elim
theorem yU {H:Type} {enc:TypeId×Value→H} {P:Program} (hl:laidOutB P=true) {W W' :World} {yV:Nat→Bool}: ∀(ts:List TypeId) (vs:List Value) (ds:List (DataW H)) (ps:List MemPlace),(∀t∈ts,P.readableRec t=true∧t<P.types.size)→
 DataW.TrodAll enc P W 0 (fun _=>true) true ts vs ds ps→(∀p∈ps,W.sameAt W' p)→(∀p∈ps,yV p.block=true)→DataW.TrodAll enc P W' 0 yV true ts vs ds ps
 |[],[],[],ps,_,h,_,_=>h
 |t::ts,v::vs,d::ds,ps,hr,h,h1,h2=>by
  obtain ⟨p,q,k1,k2,rfl⟩:=h;exact ⟨p,q,WideElems.Trod_stays hl (hr t (by simp)).1 (hr t (by simp)).2 k1 (fun x hx=>h1 x (by simp [hx])) (fun x hx=>h2 x (by simp [hx])),
   yU hl ts vs ds q (fun t ht=>hr t (by simp [ht])) k2 (fun x hx=>h1 x (by simp [hx])) (fun x hx=>h2 x (by simp [hx])),rfl⟩
 |[],_::_,_,_,_,h,_,_=>h.elim
 |[],[],_::_,_,_,h,_,_=>h.elim
 |_::_,[],_,_,_,h,_,_=>h.elim
 |_::_,_::_,[],_,_,h,_,_=>h.elim
theorem GJ {H:Type} {enc:TypeId×Value→H} {P:Program} {fn:Func} {s:ChangeSpec} {apart fresh handsOn:Bool} {W W' :World} {args:Array Value} {ds gs:List (DataW H)} {before:List MemPlace} {t:TypeId}
 (hW:DataW.Whole enc P fn.params.toList s.vars apart W args.toList ds gs before) (hv:s.vars=[]) (hs:(s.fn H (ds ++ gs)).results=[.lit (.bool true)]∧(s.fn H (ds ++ gs)).args=ds∧(s.fn H (ds ++ gs)).vars=[]) (hr:fn.resultTypes= #[t]) (ht:P.underlying t=some .bool)
 (hl:laidOutB P=true) (qF: ∀t∈fn.params.toList,P.readableRec t=true∧t<P.types.size) (hb:Below W.heap.size W W'):s.post enc P fn apart fresh handsOn false W args (.bool true) W' :=by
 have yW:=hW
 obtain ⟨p,q,h1,h2,rfl,h3,h4⟩:=hW;rw [hv] at h2;have hq:q=[]∧gs=[]:=by
  cases gs with
  |nil=>exact ⟨h2,rfl⟩
  |cons _ _=>exact h2.elim
 obtain ⟨rfl,rfl⟩:=hq;refine ⟨ds,[],p ++ [],[],p,[],yW,?_,?_,?_,hb.frame _,fun h=>by simp at h⟩
 ·rw [hs.1,hr];exact ChangeShapes.trodAll_mk1 (shut_bool ht true)
 ·rw [hs.2.1];have az: ∀x∈p,x.block<W.heap.size:=fun x hx=>yW.lt x (by simp [hx])
  exact yU hl _ _ _ _ qF h1 (fun x hx=>hb.same (az x hx)) (fun x hx=>by simpa using az x hx)
 ·rw [hs.2.2,hv];rfl
theorem GK {P:Program} {w:World} {r:Reach} {b:Nat} {t:TypeId} {v:Value} (h:Value.okWide P w r b t v) (ht: ∀fs,P.underlying t≠some (.struct fs)) (cM: ∀n e,P.underlying t≠some (.array n e)):v.cells= #[v]:=by
 unfold Value.okWide at h;split at h
 ·rename_i fs hu;exact absurd hu (ht fs)
 ·rename_i n e hu;exact absurd hu (cM n e)
 ·have no: ∀cs,v≠ .agg cs∧v≠ .tuple cs:=by
   intro cs;constructor;all_goals
    rintro rfl;unfold Cell.okWide at h;split at h;all_goals first|(rename_i he _;simp at he;done)|skip
    all_goals first|contradiction|skip
    all_goals (unfold Cell.ok at h;split at h<;>first|contradiction|simp_all)
  cases v with
  |agg cs=>exact absurd rfl (no cs).1
  |tuple cs=>exact absurd rfl (no cs).2
  |_=>rfl
end Go.VS
namespace Go.VS
section
open Go.ChangeShapes Go.WideShapes Go.ChangeAt
theorem GL {H:Type} {enc:TypeId×Value→H} {P:Program} {W:World} {b:Nat} {sp:Nat→Bool} {held:Bool} {t:TypeId} {ts:List TypeId} {vs:List Value} {ds:List (DataW H)} {ps:List MemPlace} (h:DataW.TrodAll enc P W b sp held (t::ts) vs ds ps):
 ∃v cj d oZ p q,vs=v::cj∧ds=d::oZ∧DataW.Trod enc P W b sp held t v d p∧DataW.TrodAll enc P W b sp held ts cj oZ q:=by
 match vs,ds,h with
 |v::cj,d::oZ,h=>
  obtain ⟨p,q,h1,h2,_⟩:=h;exact ⟨v,cj,d,oZ,p,q,rfl,rfl,h1,h2⟩
 |[],_::_,h=>exact h.elim
 |[],[],h=>exact h.elim
 |_::_,[],h=>exact h.elim
theorem GM {H:Type} {enc:TypeId×Value→H} {P:Program} {W:World} {b:Nat} {sp:Nat→Bool} {held:Bool} {t e:TypeId} {v:Value} {d:DataW H} {ps:List MemPlace} {ts:List TypeId} {ds:List (DataW H)} {j:Nat} {xs:List AV} {A:aj}
 (h:DataW.Trod enc P W b sp held t v d ps) (hv:v.cells= #[v]) (hu:P.underlying t=some (.slice e)) (hr:FR W A (.fz xs) v) (hz:(DataW.weightsEach P ts ds).all (· ≤reachBytes)=true) (ht:ts[j]? =some t) (hd:ds[j]? =some d) (hb:0<P.bytesOf e):xs.length<2^47:=by
 obtain ⟨fuel,hf⟩:=h;rw [hv] at hf;rcases DataW.trod_slice hu hf with ⟨h1,_⟩|⟨a,len,cap,jl,rest,m,_,h1,h2,_,_,_,hlen,_⟩
 ·have h1:v= .slice none 0 0:=by simpa using h1
  subst h1;cases hr
  simp
 ·have h1:v= .slice (some a) len cap:=by simpa using h1
  subst h1;have cf:d= .slice (jl.map (·.1)) (rest.map (·.1)):=congrArg Prod.fst h2
  subst cf;have hs:=sized_slice hz ht hd hu;have hl:xs.length=len:=by
   cases hr<;>rfl
  have:=reachBytes_lt;have h3:jl.length≤(jl.length+rest.length)*P.bytesOf e:=Nat.le_trans (Nat.le_add_right _ _) (Nat.le_mul_of_pos_right _ hb);simp only [List.length_map] at hs;omega
theorem GN {H:Type} {enc:TypeId×Value→H} {P:Program} {W:World} {b:Nat} {sp:Nat→Bool} {held:Bool} {vs:List Value} {ds:List (DataW H)} {ps:List MemPlace} (h:DataW.TrodAll enc P W b sp held [] vs ds ps):vs=[]∧ds=[]:=by
 match vs,ds,h with
 |[],[],_=>exact ⟨rfl,rfl⟩
 |[],_::_,h=>exact h.elim
 |_::_,_,h=>exact h.elim
end
def GP (x:Int):Prop:= -9223372036854775808≤x∧x≤9223372036854775807
theorem yX {σ ρ :Type} {f: σ →Option (LR σ ρ)} (m: σ →Nat) (I: σ →Prop) (Q: ρ →Prop) (h: ∀x,I x→ ∃y,f x=some y∧match y with| .next x' =>I x' ∧m x' <m x| .done r=>Q r):
 ∀x,I x→ ∃r,fF f x=some r∧Q r:=by
 intro x;generalize hn:m x=n;induction n using Nat.strongRecOn generalizing x with
 |ind n ih=>
  intro hi;obtain ⟨y,h1,h2⟩:=h x hi;rw [rN,h1];cases y with
  |next x' =>
   subst hn;exact ih _ h2.2 x' rfl h2.1
  |done r=>exact ⟨r,rfl,h2⟩
theorem GQ {σ ρ :Type} {f: σ →Option (LR σ ρ)} (m: σ →Nat) (I: σ →Prop) (r: ρ) (h: ∀x,I x→ ∃y,f x=some y∧match y with| .next x' =>I x' ∧m x' <m x| .done r' =>r' =r) (x: σ) (hx:I x):fF f x=some r:=by
 obtain ⟨r',h1,rfl⟩:=yX m I (· =r) h x hx;exact h1
theorem Dt {α :Type} (l:List α) (k:Nat):idx l (k:Int)=l[k]? :=by
 simp [idx]
theorem yY {α :Type} {l:List α} {k:Nat} (h:k<l.length):idx l (k:Int)=some l[k]:=by
 rw [Dt,List.getElem?_eq_getElem h]
theorem Du {n b:Nat} (h:n≤2^32) (hb:b≤4096):roomy n b=true:=by
 have h1:(n+512)*b≤(2^32+512)*4096:=Nat.mul_le_mul (by omega) hb
 simp only [roomy,Bool.and_eq_true,decide_eq_true_eq];constructor
 ·omega
 ·omega
theorem GR {α :Type} {b:Nat} {l m:List α} (h:l.length+m.length≤2^32) (hb:b≤4096):app b l m=some (l ++ m):=by
 simp only [app,Du h hb,if_true]
end Go.VS
namespace Go.VS
def fm {α σ ρ :Type} (g:Nat→ α → σ →LR σ ρ) (fin: σ → ρ):Nat→List α → σ → ρ
 |_,[],s=>fin s
 |k,x::xs,s=>match g k x s with
  | .next s' =>fm g fin (k+1) xs s'
  | .done r=>r
def LR.o0 {σ τ ρ :Type} (f: σ → τ):LR σ ρ →LR τ ρ
 | .next s=> .next (f s)
 | .done r=> .done r
theorem Dv {α σ ρ τ :Type} (l:List α) (f: τ →Option (LR τ ρ)) (mk:Int→ σ → τ) (g:Nat→ α → σ →LR σ ρ) (fin: σ → ρ) (I:Nat→ σ →Prop)
 (hs: ∀(k:Nat) (hk:k<l.length) (s: σ),I k s→f (mk k s)=some ((g k l[k] s).o0 (mk ((k:Int)+1)))∧ ∀s',g k l[k] s= .next s' →I (k+1) s')
 (hz: ∀s,I l.length s→f (mk l.length s)=some (.done (fin s))): ∀(n k:Nat),k+n=l.length→ ∀s,I k s→fF f (mk k s)=some (fm g fin k (l.drop k) s):=by
 intro n;induction n with
 |zero=>
  intro k hk s hi;have:k=l.length:=by omega
  subst this;rw [rN,hz s hi];simp [fm]
 |succ n ih=>
  intro k hk s hi;have hl:k<l.length:=by omega
  obtain ⟨h1,h2⟩:=hs k hl s hi;rw [rN,h1,List.drop_eq_getElem_cons hl];simp only [fm];cases hg:g k l[k] s with
  |next s' =>
   have:=ih (k+1) (by omega) s' (h2 s' hg)
   simpa [LR.o0] using this
  |done r=>rfl
theorem Dw {α σ ρ τ :Type} (l:List α) (f: τ →Option (LR τ ρ)) (mk:Int→ σ → τ) (g:Nat→ α → σ →LR σ ρ) (fin: σ → ρ) (I:Nat→ σ →Prop)
 (hs: ∀(k:Nat) (hk:k<l.length) (s: σ),I k s→f (mk k s)=some ((g k l[k] s).o0 (mk ((k:Int)+1)))∧ ∀s',g k l[k] s= .next s' →I (k+1) s')
 (hz: ∀s,I l.length s→f (mk l.length s)=some (.done (fin s))) (s: σ) (h0:I 0 s):fF f (mk 0 s)=some (fm g fin 0 l s):=by
 have:=Dv l f mk g fin I hs hz l.length 0 (by omega) s h0
 simpa using this
theorem Dx {α σ ρ τ :Type} (l:List α) (f: τ →Option (LR τ ρ)) (mk:Int→ σ → τ) (g:Nat→ α → σ →LR σ ρ) (fin: σ → ρ)
 (hs: ∀(k:Nat) (hk:k<l.length) (s: σ),f (mk k s)=some ((g k l[k] s).o0 (mk ((k:Int)+1))))
 (hz: ∀s,f (mk l.length s)=some (.done (fin s))) (s: σ):fF f (mk 0 s)=some (fm g fin 0 l s):=
 Dw l f mk g fin (fun _ _=>True) (fun k hk s _=>⟨hs k hk s,fun _ _=>trivial⟩) (fun s _=>hz s) s trivial
theorem GS {α σ ρ :Type} {g:Nat→ α → σ →LR σ ρ} {fin: σ → ρ} (p: α →Bool) (r: ρ) (h: ∀k x s,g k x s=if p x then .next s else .done r) (l:List α) (k:Nat) (s: σ):fm g fin k l s=if l.all p then fin s else r:=by
 induction l generalizing k with
 |nil=>simp [fm]
 |cons x xs ih=>
  simp only [fm,h];cases hp:p x
  ·simp [hp]
  ·simp only [if_true,List.all_cons,hp,Bool.true_and];exact ih _
theorem GU {α σ ρ :Type} {g:Nat→ α → σ →LR σ ρ} {fin: σ → ρ} (u: σ → α → σ) (h: ∀k x s,g k x s= .next (u s x)) (l:List α) (k:Nat) (s: σ):fm g fin k l s=fin (l.foldl u s):=by
 induction l generalizing k s with
 |nil=>simp [fm]
 |cons x xs ih=>simp only [fm,h,List.foldl_cons];exact ih _ _
def dF {α :Type} (m:Option α) (Q: α →Prop):Prop:= ∃r,m=some r∧Q r
section
variable {α β :Type} {m:Option α} {Q P: α →Prop} {R: β →Prop}
theorem dF.ret {a: α} (h:Q a):dF (some a) Q:=⟨a,rfl,h⟩
theorem dF.bind {k: α →Option β} (h:dF m fun x=>dF (k x) R):dF (m.bind k) R:=by
 obtain ⟨a,rfl,b,hb,hr⟩:=h;exact ⟨b,hb,hr⟩
theorem dF.use (h:dF m P) (hq: ∀x,P x→Q x):dF m Q:=by
 obtain ⟨a,rfl,hp⟩:=h;exact ⟨a,rfl,hq a hp⟩
theorem dF.then {k: α →Option β} (h:dF m P) (hk: ∀x,P x→dF (k x) R):dF (m.bind k) R:=dF.bind (h.use hk)
theorem dF.GV {c:Bool} {a b:Option α} (ht:c=true→dF a Q) (hf:c=false→dF b Q):dF (bif c then a else b) Q:=by
 cases c with
 |true=>exact ht rfl
 |false=>exact hf rfl
theorem dF.fF {σ ρ :Type} {f: σ →Option (LR σ ρ)} {Q: ρ →Prop} {x: σ} (μ : σ →Nat) (I: σ →Prop) (h: ∀x,I x→dF (f x) fun y=>match y with| .next x' =>I x' ∧ μ x' < μ x| .done r=>Q r) (hi:I x):dF (fF f x) Q:=
 yX μ I Q h x hi
end
theorem u64 {x:Int} (h:0≤x∧x<18446744073709551616):IntKind.u64.wrap x=x:=IntWalk.u64_in x (by omega)
theorem GW {α :Type} {l:List α} {i:Int} (h0:0≤i) (h1:i<l.length):idx l i=some (l[i.toNat]'(by omega)):=by
 obtain ⟨n,rfl⟩:=Int.eq_ofNat_of_zero_le h0;simp only [Int.toNat_natCast];exact yY (by omega)
theorem GX {α :Type} {b:Nat} {n:Int} {d: α} (h0:0≤n) (h:n≤1099511627776) (hb:b≤16):mU b n d=some (List.replicate n.toNat d):=by
 have:(n.toNat+512)*b≤(1099511627776+512)*16:=Nat.mul_le_mul (by omega) hb
 simp only [mU,roomy,Bool.and_eq_true,decide_eq_true_eq];rw [if_pos];refine ⟨h0,?_,?_⟩<;>omega
theorem GY {α :Type} {l:List α} {lo hi:Int} (h0:0≤lo) (h1:lo≤hi) (h2:hi≤l.length):cY l lo hi=some ((l.drop lo.toNat).take (hi.toNat-lo.toNat)):=by
 unfold cY;rw [if_pos ⟨h0,h1,h2⟩]
theorem GZ {a b:Int} (ha:0≤a) (hb:0<b):md a b=some (a % b):=by
 unfold md;rw [if_neg (by omega),Int.tmod_eq_emod_of_nonneg ha]
end Go.VS
namespace Go.VS
theorem Dy {p:Prop} [Decidable p] (h:p):decide p=true:=by simpa using h
theorem G0 {p:Prop} [Decidable p] (h: ¬p):decide p=false:=by simpa using h
def eJ {α :Type} (p: α →Bool):List α →Int
 |[]=> -1
 |x::xs=>if p x then 0 else if eJ p xs<0 then -1 else eJ p xs+1
theorem r8 {α :Type} (p: α →Bool): ∀l:List α,-1≤eJ p l∧eJ p l<l.length
 |[]=>by simp [eJ]
 |x::xs=>by
  have:=r8 p xs;unfold eJ;simp only [List.length_cons];split
  ·omega
  ·split<;>omega
theorem Dz {α :Type} (p: α →Bool): ∀l:List α,decide (0≤eJ p l)=l.any p
 |[]=>by simp [eJ]
 |x::xs=>by
  have h:=Dz p xs;have h2:=r8 p xs;unfold eJ;simp only [List.any_cons];cases hp:p x
  ·simp only [Bool.false_eq_true,if_false,Bool.false_or,←h];by_cases hc:0≤eJ p xs
   ·rw [if_neg (by omega)];simp;omega
   ·rw [if_pos (by omega)];simp;omega
  ·simp
theorem G3 {α :Type} {l:List α} {g: α →Option Bool} (p: α →Bool) {f:Int→Option (LR Int (LR Unit Int))}
 (hf: ∀i,f i=(bif decide (i<(l.length:Int)) then (idx l i).bind fun b=>(g b).bind fun c=>(bif c then some (.done (.done i)) else some (.next (IntKind.i64.wrap (i+1)))) else some (.done (.next ()))))
 (hl:l.length<2^60) (hg: ∀x∈l,g x=some (p x)):fF f 0=some (if eJ p l<0 then .next () else .done (eJ p l)):=by
 have key:=Dx l f (fun k (_:Unit)=>k) (fun k x s=>if p x then .done (.done (k:Int)) else .next s) (fun _=> .next ()) (fun k hk s=>by
  rw [hf,Dy (by simpa using hk),yY hk]
  simp only [cond_true,Option.bind_some];rw [hg _ (List.getElem_mem hk),CW (by omega),Option.bind_some]
  cases p l[k]<;>rfl) (fun s=>by rw [hf];simp) ()
 rw [key];have go: ∀(l:List α) (k:Nat),fm (fun (k:Nat) x (s:Unit)=>if p x then LR.done (LR.done (k:Int)) else .next s) (fun _=> .next ()) k l ()=if eJ p l<0 then (.next ():LR Unit Int) else .done ((k:Int)+eJ p l):=by
  intro l;induction l with
  |nil=>intro k;simp [fm,eJ]
  |cons x xs ih=>
   intro k;have h2:=r8 p xs;simp only [fm];unfold eJ;by_cases hp:p x=true
   ·simp [hp]
   ·simp only [hp,if_false,Bool.false_eq_true];have:=ih (k+1);rw [this];by_cases hc:eJ p xs<0
    ·simp [hc]
    ·rw [if_neg hc,if_neg hc,if_neg (by omega)]
     congr 1;push_cast;omega
 rw [go];simp
def DA {α :Type} (mk:Int→ α → α) (c n:Int):List α →List α
 |[]=>[]
 |x::xs=>mk n x::DA mk c (n+c) xs
end Go.VS
