import Derived.Test.YtclgbpneokeaeaaGreatVaE
import Derived.ChangeArms
import Derived.Carry
import Derived.ProofKit
import Derived.SizedLaws
namespace Go.VS
open Go.RowKit Go.WideShapes Go.ChangeAt Go.ChangeShapes
def jD:ah:=fun _=>False
def jE (w:World) (xs:List AV) (cs:List Value):Prop:=xs.length=cs.length∧(∀(i:Nat) (x:AV) (v:Value),xs[i]? =some x→cs[i]? =some v→FR w jD x v)∧ ∀v∈cs,v.oneCell' =true
structure Rd (P:Program) (t:TypeId) {T:Type} (n:Nat) (c:T→List AV) (ok:T→Prop):Prop where
 sz:P.cellsOf t=n
 len: ∀a,(c a).length=n
 rd: ∀{H:Type} (enc:TypeId×Value→H) (w:World) (base:Nat) (sp:Nat→Bool) (held:Bool) (fuel:Nat) (cs:List Value) (x:DataW H×List MemPlace),DataW.trod enc P w base sp held fuel t cs=some x→(∀z∈x.1.weights P t,z≤reachBytes)→ ∃a:T,ok a∧jE w (c a) cs
section
variable {P:Program} {t:TypeId}
theorem jE.one {w:World} {x:AV} {v:Value} (h:FR w jD x v) (ho:v.oneCell' =true):jE w [x] [v]:=
 ⟨rfl,fun i y u hy hu=>by
  cases i with
  |zero=>simp at hy hu;subst hy;subst hu;exact h
  |succ i=>simp at hy,by simp [ho]⟩
def AZ (k:IntKind) (n:Int):Prop:=k.min≤n∧n≤k.max
theorem Rd.int {k:IntKind} (ht:P.underlying t=some (.int k)) (hs:P.cellsOf t=1):Rd P t 1 (fun n:Int=>[.int k n]) (AZ k):=
 ⟨hs,fun _=>rfl,fun enc w base sp held fuel cs x h _=>by
  obtain ⟨n,rfl,_,hw⟩:=DataW.trod_int ht h;simp only [Lit.wf,Bool.and_eq_true,decide_eq_true_eq] at hw;exact ⟨n,hw,.one (.int k n) rfl⟩⟩
theorem Rd.bool (ht:P.underlying t=some .bool) (hs:P.cellsOf t=1):Rd P t 1 (fun b:Bool=>[.bool b]) (fun _=>True):=
 ⟨hs,fun _=>rfl,fun enc w base sp held fuel cs x h _=>by
  obtain ⟨b,rfl,_⟩:=DataW.trod_bool ht h;exact ⟨b,trivial,.one (.bool b) rfl⟩⟩
theorem Rd.str (ht:P.underlying t=some .string) (hs:P.cellsOf t=1):Rd P t 1 (fun s:List UInt8=>[.str s]) (fun s=>s.length<2^47):=
 ⟨hs,fun _=>rfl,fun enc w base sp held fuel cs x h hz=>by
  obtain ⟨s,rfl,hx,hm⟩:=DataW.trod_string ht h;have:=hz s.data.toList.length (by rw [hx];simp [DataW.weights])
  have hr:=reachBytes_lt;exact ⟨s.data.toList,by omega,.one (.str s) rfl⟩⟩
theorem wI {w:World} {base:Nat} {a:Addr} {n:Nat} {cs:List Value} (h:w.cells? base a n=some cs):cs.length=n∧ ∀i,i<n→w.cell? (a.add i)=cs[i]? :=by
 unfold World.cells? at h;split at h
 ·obtain ⟨h1,h2⟩:=mapM_some h;refine ⟨by simpa using h1,fun i hi=> ?_⟩
  have h3:i<cs.length:=by rw [h1];simpa using hi
  rw [List.getElem?_eq_getElem h3];exact h2 i i _ (by simp [hi]) (List.getElem?_eq_getElem h3)
 ·simp at h
theorem A7 {H:Type} {P:Program} {e:TypeId} {d:DataW H} {l:List (DataW H)} {z:Nat} (h:d∈l) (hz:z∈d.weights P e):z∈DataW.weightsAll P e l:=by
 induction l with
 |nil=>simp at h
 |cons x xs ih=>
  simp only [DataW.weightsAll,List.mem_append];rcases List.mem_cons.1 h with rfl|h
  ·exact .inl hz
  ·exact .inr (ih h)
theorem Rd.sl {T:Type} {e:TypeId} {n:Nat} {c:T→List AV} {ok:T→Prop} (he:Rd P e n c ok) (hn:0<n) (ce:T→AV) (hc: ∀a,(ce a).cells=c a) (ht:P.underlying t=some (.slice e)) (hs:P.cellsOf t=1) (A8:0<P.bytesOf e):
 Rd P t 1 (fun l:List T=>[.fz (l.map ce)]) (fun l=>l.length<2^47∧ ∀a∈l,ok a):=
 ⟨hs,fun _=>rfl,fun {H} enc w base sp held fuel cs x h hz=>by
  rcases DataW.trod_slice ht h with ⟨rfl,_⟩|⟨a,len,cap,il,rest,m,_,rfl,kT,hb,hl,hm,hlen,bR,_,_⟩
  ·exact ⟨[],⟨by simp,by simp⟩,.one (.cH none 0) rfl⟩
  ·rw [he.sz] at bR;rw [kT] at hz;have DQ:=hz ((il.length+rest.length)*P.bytesOf e) (by simp [DataW.weights,ht])
   have DR:len<2^47:=by
    have h3:il.length≤(il.length+rest.length)*P.bytesOf e:=Nat.le_trans (Nat.le_add_right _ _) (Nat.le_mul_of_pos_right _ A8);have:=reachBytes_lt;omega
   have each: ∀i,i<len→ ∃(x:T) (cs:List Value),ok x∧w.cells? base (a.add (i*n)) n=some cs∧jE w (c x) cs:=by
    intro i hi;have h1:=bR i hi;have ax:i<il.length:=by omega
    rw [List.getElem?_eq_getElem ax] at h1;obtain ⟨cs,h2,h3⟩:=Option.bind_eq_some_iff.1 h1;obtain ⟨x,h4,h5⟩:=he.rd enc w base sp held m cs _ h3 (fun z hq=>hz z (by
     simp only [DataW.weights,ht];exact List.mem_cons_of_mem _ (List.mem_append_left _ (A7 (List.mem_map_of_mem (List.getElem_mem ax)) hq))))
    exact ⟨x,cs,h4,h2,h5⟩
   have build: ∀k,k≤len→ ∃l:List T,l.length=k∧ ∀i x,l[i]? =some x→ok x∧ ∃cs,w.cells? base (a.add (i*n)) n=some cs∧jE w (c x) cs:=by
    intro k;induction k with
    |zero=>intro _;exact ⟨[],rfl,by simp⟩
    |succ k ih=>
     intro hk;obtain ⟨l,h1,h2⟩:=ih (by omega)
     obtain ⟨x,cs,h3,h4,h5⟩:=each k (by omega)
     refine ⟨l ++ [x],by simp [h1],fun i y hy=> ?_⟩
     rcases Nat.lt_or_ge i l.length with hi|hi
     ·rw [List.getElem?_append_left hi] at hy;exact h2 i y hy
     ·rw [List.getElem?_append_right hi] at hy;have:i=k:=by
       have:=(List.getElem?_eq_some_iff.1 hy).1;simp at this;omega
      subst this;simp [h1] at hy;subst hy;exact ⟨h3,cs,h4,h5⟩
   obtain ⟨l,h1,h2⟩:=build len (Nat.le_refl _);refine ⟨l,⟨by omega,fun y hy=> ?_⟩,?_⟩
   ·obtain ⟨i,hi⟩:=List.mem_iff_getElem?.1 hy;exact (h2 i y hi).1
   ·refine .one ?_ rfl;by_cases h0:len=0
    ·subst h0;have:l=[]:=List.eq_nil_of_length_eq_zero h1;subst this;exact .cH (some a) cap
    ·
     have A9: ∃y,l[0]? =some y:=⟨_,List.getElem?_eq_getElem (by omega)⟩
     obtain ⟨y,hy⟩:=A9;obtain ⟨_,DS,eu,_⟩:=h2 0 y hy;obtain ⟨jZ,A_⟩:=wI eu;have jF:=A_ 0 hn;have wJ: ∀b:Addr,b.add 0=b:=fun b=>by simp [Addr.add]
     rw [Nat.zero_mul,wJ,wJ,List.getElem?_eq_getElem (by omega)] at jF
     obtain ⟨ab,ao,Ba⟩:=a;unfold World.cell? at jF;split at jF
     rotate_left
     ·simp at jF
     rename_i arr T0 fr hblk;simp only at hblk jF;cases kS:Ba with
     |some q=>rw [kS] at jF;simp at jF
     |none=>
      subst kS;have gq: ∀i y,l[i]? =some y→ ∀j,j<n→ ∃cs,jE w (c y) cs∧cs.length=n∧arr[ao+i*n+j]? =cs[j]? :=by
       intro i y hy j hj;obtain ⟨_,cs,h3,h4⟩:=h2 i y hy;obtain ⟨h5,h6⟩:=wI h3;refine ⟨cs,h4,h5,?_⟩;have h7:=h6 j hj;have:((⟨ab,ao,none⟩:Addr).add (i*n)).add j=⟨ab,ao+i*n+j,none⟩:=by
        unfold Addr.add;by_cases jl:i*n=0<;>by_cases Bb:j=0<;>simp [jl,Bb,Nat.add_assoc]
       rw [this,lU hblk] at h7;exact h7
      have qf:(l.map ce).length=len:=by simp [h1]
      have key:FR w jD (.fz (l.map ce)) (.slice (some ⟨ab,ao,none⟩) (l.map ce).length cap):=by
       refine .fz (l.map ce) ab ao cap n arr T0 fr hblk (fun h=>h) (by omega) ?_ ?_ ?_ ?_
       ·rw [qf];obtain ⟨z,hz⟩: ∃z,l[len-1]? =some z:=⟨_,List.getElem?_eq_getElem (by omega)⟩
        obtain ⟨cs,_,k2,k3⟩:=gq (len-1) z hz (n-1) (by omega)
        rw [List.getElem?_eq_getElem (by omega)] at k3
        have:=(Array.getElem?_eq_some_iff.1 k3).1;have e:(len-1)*n+(n-1)+1=len*n:=by
         have:len=(len-1)+1:=by omega
         conv=>rhs;rw [this,Nat.add_mul,Nat.one_mul]
         omega
        omega
       ·intro i x hx;simp only [List.getElem?_map,Option.map_eq_some_iff] at hx;obtain ⟨z,_,rfl⟩:=hx;rw [hc,he.len]
       ·intro j v hj hv;rw [qf] at hj;have hd:j/n<len:=(Nat.div_lt_iff_lt_mul hn).2 hj;obtain ⟨z,hz⟩: ∃z,l[j/n]? =some z:=⟨_,List.getElem?_eq_getElem (by omega)⟩
        obtain ⟨cs,k1,k2,k3⟩:=gq (j/n) z hz (j % n) (Nat.mod_lt _ hn);have e:ao+j/n*n+j % n=ao+j:=by rw [Nat.add_assoc,Nat.mul_comm,Nat.div_add_mod]
        rw [e,hv] at k3;exact k1.2.2 v (List.mem_of_getElem? k3.symm)
       ·intro i x j y v hx hy hv;simp only [List.getElem?_map,Option.map_eq_some_iff] at hx;obtain ⟨z,hz,rfl⟩:=hx;rw [hc] at hy;have hj:j<n:=by rw [←he.len z];exact (List.getElem?_eq_some_iff.1 hy).1
        obtain ⟨cs,k1,_,k3⟩:=gq i z hz j hj;rw [hv] at k3;exact k1.2.1 j y v hy k3.symm
      rw [qf] at key;exact key⟩
structure kr (P:Program) (fs:List (Nat×TypeId)) {T:Type} (off n:Nat) (c:T→List AV) (ok:T→Prop):Prop where
 len: ∀a,(c a).length=n
 rd: ∀{H:Type} (enc:TypeId×Value→H) (w:World) (base:Nat) (sp:Nat→Bool) (held:Bool) (fuel:Nat) (cs:List Value),cs.length=off+n→
  (∀f∈fs,∃x:DataW H×List MemPlace,DataW.trod enc P w base sp held fuel f.2 ((cs.drop f.1).take (P.cellsOf f.2))=some x∧ ∀z∈x.1.weights P f.2,z≤reachBytes)→ ∃a:T,ok a∧jE w (c a) (cs.drop off)
theorem kr.nil {off:Nat}:kr P [] off 0 (fun _:Unit=>[]) (fun _=>True):=
 ⟨fun _=>rfl,fun enc w base sp held fuel cs hl _=>⟨(),trivial,by rw [List.drop_of_length_le (by omega)];exact ⟨rfl,by simp,by simp⟩⟩⟩
theorem kr.cons {ft:TypeId} {fs:List (Nat×TypeId)} {T U:Type} {off n m:Nat} {c:T→List AV} {d:U→List AV} {ok:T→Prop} {lJ:U→Prop} (h:Rd P ft n c ok) (k:kr P fs (off+n) m d lJ):
 kr P ((off,ft)::fs) off (n+m) (fun x:T×U=>c x.1 ++ d x.2) (fun x=>ok x.1∧lJ x.2):=
 ⟨fun a=>by rw [List.length_append,h.len,k.len],fun enc w base sp held fuel cs hl hf=>by
  obtain ⟨x,hx,Bc⟩:=hf (off,ft) (by simp)
  simp only [h.sz] at hx;obtain ⟨a,a1,a2⟩:=h.rd enc w base sp held fuel _ _ hx Bc;obtain ⟨b,b1,b2⟩:=k.rd enc w base sp held fuel cs (by omega) (fun g hg=>hf g (by simp [hg]))
  refine ⟨(a,b),⟨a1,b1⟩,?_⟩;have e:cs.drop off=(cs.drop off).take n ++ cs.drop (off+n):=by
   rw [←List.drop_drop,List.take_append_drop]
  rw [e];obtain ⟨l1,p1,o1⟩:=a2;obtain ⟨l2,p2,o2⟩:=b2;refine ⟨by simp only [List.length_append,l1,l2],fun i x v hx hv=> ?_,fun v hv=> ?_⟩
  ·rcases Nat.lt_or_ge i (c a).length with hi|hi
   ·rw [List.getElem?_append_left hi] at hx;rw [List.getElem?_append_left (by rw [←l1];exact hi)] at hv
    exact p1 i x v hx hv
   ·rw [List.getElem?_append_right hi] at hx;rw [List.getElem?_append_right (by rw [←l1];exact hi),←l1] at hv
    exact p2 _ x v hx hv
  ·rcases List.mem_append.1 hv with h|h
   ·exact o1 v h
   ·exact o2 v h⟩
def wK (P:Program) (t:TypeId):Option (List (Nat×TypeId)):=match P.underlying t with
 |some (.struct fs)=>some (fs.toList.map fun f=>(f.offset,f.type))
 |_=>none
theorem Rd.st {fs:List (Nat×TypeId)} {T:Type} {n:Nat} {c:T→List AV} {ok:T→Prop} (ht:wK P t=some fs) (hs:P.cellsOf t=n) (h:kr P fs 0 n c ok):Rd P t n c ok:=
 ⟨hs,h.len,fun enc w base sp held fuel cs x hx hz=>by
  unfold wK at ht;split at ht
  ·rename_i fa hu;simp only [Option.some.injEq] at ht;obtain ⟨xs,m,_,kT,hl,cq,hf⟩:=DataW.trod_struct hu hx;rw [kT] at hz;obtain ⟨a,h1,h2⟩:=h.rd enc w base sp held m cs (by omega) (fun f wL=>by
    rw [←ht] at wL;obtain ⟨g,hg,rfl⟩:=List.mem_map.1 wL;obtain ⟨i,hi⟩:=List.mem_iff_getElem?.1 hg;rw [Array.getElem?_toList] at hi;have:=hf i g hi;have ax:i<xs.length:=by rw [cq];exact (Array.getElem?_eq_some_iff.1 hi).1
    exact ⟨_,by rw [this,List.getElem?_eq_getElem ax],fun z hq=>hz z (by
     simp only [DataW.weights,hu];exact DataW.weights_mem_each (j:=i) (t:=g.type) (d:=xs[i].1) (by simp [hi]) (by simp [List.getElem?_eq_getElem ax]) z hq)⟩)
   exact ⟨a,h1,by simpa using h2⟩
  ·simp at ht⟩
theorem Rd.map {T U:Type} {n:Nat} {c:T→List AV} {ok:T→Prop} (h:Rd P t n c ok) (g:T→U) {d:U→List AV} {lJ:U→Prop} (hc: ∀a,d (g a)=c a) (hl: ∀b,(d b).length=n) (ho: ∀a,ok a→lJ (g a)):Rd P t n d lJ:=
 ⟨h.sz,hl,fun enc w base sp held fuel cs x hx hz=>by
  obtain ⟨a,h1,h2⟩:=h.rd enc w base sp held fuel cs x hx hz;exact ⟨g a,ho a h1,by rw [hc];exact h2⟩⟩
theorem Rd.DT {H:Type} {enc:TypeId×Value→H} {w:World} {base:Nat} {sp:Nat→Bool} {held:Bool} {T:Type} {f:T→AV} {ok:T→Prop} (h:Rd P t 1 (fun a:T=>[f a]) ok) {v:Value} {d:DataW H} {ps:List MemPlace} (hd:DataW.Trod enc P w base sp held t v d ps) (hv:v.cells= #[v]) {ts:List TypeId} {ds:List (DataW H)} {j:Nat} (hz:(DataW.weightsEach P ts ds).all (· ≤reachBytes)=true) (ht:ts[j]? =some t) (Bd:ds[j]? =some d):
 ∃a,ok a∧FR w jD (f a) v:=by
 obtain ⟨fuel,hf⟩:=hd;obtain ⟨a,h1,h2⟩:=h.rd enc w base sp held fuel _ _ hf (fun z hq=>by simpa using List.all_eq_true.1 hz z (DataW.weights_mem_each ht Bd z hq))
 rw [hv] at h2;exact ⟨a,h1,h2.2.1 0 _ _ rfl rfl⟩
end
theorem DU {P:Program} {f:FuncId} {ys:List AV} (h:cb P f ys ⟨0,[]⟩ (fun v _=>v= .bool true)) (W:World) (us:Array Value) (hl:ys.length=us.size) (hr: ∀(i:Nat) (x:AV) (u:Value),ys[i]? =some x→us[i]? =some u→FR W jD x u):
 Calls P f us W fun e w' =>e= .returned (.bool true)∧Below W.heap.size W w' :=by
 have ae:St W ⟨0,[]⟩ (fun _=>none) jD:=⟨fun _ _ _ _ _ h=>by simp at h,fun c ⟨_,_,h⟩=>by simp at h,fun c h=>h.elim,fun _ _ h=>by simp at h⟩
 refine (h.2 W jD (fun _=>none) us ae hl (fun i x u hx hu=> .fr _ _ (hr i x u hx hu))).mono fun e w' he=> ?_
 cases e with
 |returned v' =>
  obtain ⟨x,H',ak,A',ho,hx,rfl⟩:=he;have:=hx.eT;subst this;exact ⟨rfl,⟨ho.post.os,ho.post.tape,ho.post.output,ho.post.size,fun k hk=>ho.post.kept k hk (fun ⟨_,_,h⟩=>by simp at h)⟩⟩
 |panicked c=>exact he.elim
 |outgrown=>exact he.elim
theorem wM {H:Type} {enc:TypeId×Value→H} {P:Program} (hl:laidOutB P=true) {W W' :World} {wN:Nat→Bool}: ∀(ts:List TypeId) (vs:List Value) (ds:List (DataW H)) (ps:List MemPlace),(∀t∈ts,P.readableRec t=true∧t<P.types.size)→
 DataW.TrodAll enc P W 0 (fun _=>true) true ts vs ds ps→(∀p∈ps,W.sameAt W' p)→(∀p∈ps,wN p.block=true)→DataW.TrodAll enc P W' 0 wN true ts vs ds ps
 |[],[],[],ps,_,h,_,_=>h
 |t::ts,v::vs,d::ds,ps,hr,h,h1,h2=>by
  obtain ⟨p,q,k1,k2,rfl⟩:=h;exact ⟨p,q,WideElems.Trod_stays hl (hr t (by simp)).1 (hr t (by simp)).2 k1 (fun x hx=>h1 x (by simp [hx])) (fun x hx=>h2 x (by simp [hx])),
   wM hl ts vs ds q (fun t ht=>hr t (by simp [ht])) k2 (fun x hx=>h1 x (by simp [hx])) (fun x hx=>h2 x (by simp [hx])),rfl⟩
 |[],_::_,_,_,_,h,_,_=>h.elim
 |[],[],_::_,_,_,h,_,_=>h.elim
 |_::_,[],_,_,_,h,_,_=>h.elim
 |_::_,_::_,[],_,_,h,_,_=>h.elim
theorem DV {H:Type} {enc:TypeId×Value→H} {P:Program} {fn:Func} {s:ChangeSpec} {apart fresh handsOn:Bool} {W W' :World} {args:Array Value} {ds gs:List (DataW H)} {before:List MemPlace} {t:TypeId}
 (hW:DataW.Whole enc P fn.params.toList s.vars apart W args.toList ds gs before) (hv:s.vars=[]) (hs:(s.fn H (ds ++ gs)).results=[.lit (.bool true)]∧(s.fn H (ds ++ gs)).args=ds∧(s.fn H (ds ++ gs)).vars=[]) (hr:fn.resultTypes= #[t]) (ht:P.underlying t=some .bool)
 (hl:laidOutB P=true) (pb: ∀t∈fn.params.toList,P.readableRec t=true∧t<P.types.size) (hb:Below W.heap.size W W'):s.post enc P fn apart fresh handsOn false W args (.bool true) W' :=by
 have wO:=hW
 obtain ⟨p,q,h1,h2,rfl,h3,h4⟩:=hW;rw [hv] at h2;have hq:q=[]∧gs=[]:=by
  cases gs with
  |nil=>exact ⟨h2,rfl⟩
  |cons _ _=>exact h2.elim
 obtain ⟨rfl,rfl⟩:=hq;refine ⟨ds,[],p ++ [],[],p,[],wO,?_,?_,?_,hb.frame _,fun h=>by simp at h⟩
 ·rw [hs.1,hr];exact ChangeShapes.trodAll_mk1 (shut_bool ht true)
 ·rw [hs.2.1];have ax: ∀x∈p,x.block<W.heap.size:=fun x hx=>wO.lt x (by simp [hx])
  exact wM hl _ _ _ _ pb h1 (fun x hx=>hb.same (ax x hx)) (fun x hx=>by simpa using ax x hx)
 ·rw [hs.2.2,hv];rfl
theorem DW {P:Program} {w:World} {r:Reach} {b:Nat} {t:TypeId} {v:Value} (h:Value.okWide P w r b t v) (ht: ∀fs,P.underlying t≠some (.struct fs)) (cz: ∀n e,P.underlying t≠some (.array n e)):v.cells= #[v]:=by
 unfold Value.okWide at h;split at h
 ·rename_i fs hu;exact absurd hu (ht fs)
 ·rename_i n e hu;exact absurd hu (cz n e)
 ·have no: ∀cs,v≠ .agg cs∧v≠ .tuple cs:=by
   intro cs;constructor;all_goals
    rintro rfl;unfold Cell.okWide at h;split at h;all_goals first|(rename_i he _;simp at he;done)|skip
    all_goals first|contradiction|skip
    all_goals (unfold Cell.ok at h;split at h<;>first|contradiction|simp_all)
  cases v with
  |agg cs=>exact absurd rfl (no cs).1
  |tuple cs=>exact absurd rfl (no cs).2
  |_=>rfl
end Go.VS
namespace Go.VS
section
open Go.ChangeShapes Go.WideShapes Go.ChangeAt
theorem DX {H:Type} {enc:TypeId×Value→H} {P:Program} {W:World} {b:Nat} {sp:Nat→Bool} {held:Bool} {t:TypeId} {ts:List TypeId} {vs:List Value} {ds:List (DataW H)} {ps:List MemPlace} (h:DataW.TrodAll enc P W b sp held (t::ts) vs ds ps):
 ∃v b7 d nA p q,vs=v::b7∧ds=d::nA∧DataW.Trod enc P W b sp held t v d p∧DataW.TrodAll enc P W b sp held ts b7 nA q:=by
 match vs,ds,h with
 |v::b7,d::nA,h=>
  obtain ⟨p,q,h1,h2,_⟩:=h;exact ⟨v,b7,d,nA,p,q,rfl,rfl,h1,h2⟩
 |[],_::_,h=>exact h.elim
 |[],[],h=>exact h.elim
 |_::_,[],h=>exact h.elim
theorem DY {H:Type} {enc:TypeId×Value→H} {P:Program} {W:World} {b:Nat} {sp:Nat→Bool} {held:Bool} {t e:TypeId} {v:Value} {d:DataW H} {ps:List MemPlace} {ts:List TypeId} {ds:List (DataW H)} {j:Nat} {xs:List AV} {A:ah}
 (h:DataW.Trod enc P W b sp held t v d ps) (hv:v.cells= #[v]) (hu:P.underlying t=some (.slice e)) (hr:FR W A (.fz xs) v) (hz:(DataW.weightsEach P ts ds).all (· ≤reachBytes)=true) (ht:ts[j]? =some t) (hd:ds[j]? =some d) (hb:0<P.bytesOf e):xs.length<2^47:=by
 obtain ⟨fuel,hf⟩:=h;rw [hv] at hf;rcases DataW.trod_slice hu hf with ⟨h1,_⟩|⟨a,len,cap,il,rest,m,_,h1,h2,_,_,_,hlen,_⟩
 ·have h1:v= .slice none 0 0:=by simpa using h1
  subst h1;cases hr
  simp
 ·have h1:v= .slice (some a) len cap:=by simpa using h1
  subst h1;have b5:d= .slice (il.map (·.1)) (rest.map (·.1)):=congrArg Prod.fst h2
  subst b5;have hs:=sized_slice hz ht hd hu;have hl:xs.length=len:=by
   cases hr<;>rfl
  have:=reachBytes_lt;have h3:il.length≤(il.length+rest.length)*P.bytesOf e:=Nat.le_trans (Nat.le_add_right _ _) (Nat.le_mul_of_pos_right _ hb);simp only [List.length_map] at hs;omega
theorem DZ {H:Type} {enc:TypeId×Value→H} {P:Program} {W:World} {b:Nat} {sp:Nat→Bool} {held:Bool} {vs:List Value} {ds:List (DataW H)} {ps:List MemPlace} (h:DataW.TrodAll enc P W b sp held [] vs ds ps):vs=[]∧ds=[]:=by
 match vs,ds,h with
 |[],[],_=>exact ⟨rfl,rfl⟩
 |[],_::_,h=>exact h.elim
 |_::_,_,h=>exact h.elim
end
def D0 (x:Int):Prop:= -9223372036854775808≤x∧x≤9223372036854775807
theorem wP {σ ρ :Type} {f: σ →Option (LR σ ρ)} (m: σ →Nat) (I: σ →Prop) (Q: ρ →Prop) (h: ∀x,I x→ ∃y,f x=some y∧match y with| .next x' =>I x' ∧m x' <m x| .done r=>Q r):
 ∀x,I x→ ∃r,eM f x=some r∧Q r:=by
 intro x;generalize hn:m x=n;induction n using Nat.strongRecOn generalizing x with
 |ind n ih=>
  intro hi;obtain ⟨y,h1,h2⟩:=h x hi;rw [pX,h1];cases y with
  |next x' =>
   subst hn;exact ih _ h2.2 x' rfl h2.1
  |done r=>exact ⟨r,rfl,h2⟩
theorem D1 {σ ρ :Type} {f: σ →Option (LR σ ρ)} (m: σ →Nat) (I: σ →Prop) (r: ρ) (h: ∀x,I x→ ∃y,f x=some y∧match y with| .next x' =>I x' ∧m x' <m x| .done r' =>r' =r) (x: σ) (hx:I x):eM f x=some r:=by
 obtain ⟨r',h1,rfl⟩:=wP m I (· =r) h x hx;exact h1
theorem Be {α :Type} (l:List α) (k:Nat):idx l (k:Int)=l[k]? :=by
 simp [idx]
theorem wQ {α :Type} {l:List α} {k:Nat} (h:k<l.length):idx l (k:Int)=some l[k]:=by
 rw [Be,List.getElem?_eq_getElem h]
theorem wR {n b:Nat} (h:n≤2^32) (hb:b≤4096):roomy n b=true:=by
 have h1:(n+512)*b≤(2^32+512)*4096:=Nat.mul_le_mul (by omega) hb
 simp only [roomy,Bool.and_eq_true,decide_eq_true_eq];constructor
 ·omega
 ·omega
theorem D2 {α :Type} {b:Nat} {n:Nat} {d: α} (h:n≤2^32) (hb:b≤4096):kn b (n:Int) d=some (List.replicate n d):=by
 have:=wR h hb;simp only [kn,Int.toNat_natCast,this,and_true,Int.natCast_nonneg,if_true]
theorem D3 {α :Type} {b:Nat} {l m:List α} (h:l.length+m.length≤2^32) (hb:b≤4096):app b l m=some (l ++ m):=by
 simp only [app,wR h hb,if_true]
end Go.VS
namespace Go.VS
def eA {α σ ρ :Type} (g:Nat→ α → σ →LR σ ρ) (fin: σ → ρ):Nat→List α → σ → ρ
 |_,[],s=>fin s
 |k,x::xs,s=>match g k x s with
  | .next s' =>eA g fin (k+1) xs s'
  | .done r=>r
def LR.nB {σ τ ρ :Type} (f: σ → τ):LR σ ρ →LR τ ρ
 | .next s=> .next (f s)
 | .done r=> .done r
theorem Bf {α σ ρ τ :Type} (l:List α) (f: τ →Option (LR τ ρ)) (mk:Int→ σ → τ) (g:Nat→ α → σ →LR σ ρ) (fin: σ → ρ) (I:Nat→ σ →Prop)
 (hs: ∀(k:Nat) (hk:k<l.length) (s: σ),I k s→f (mk k s)=some ((g k l[k] s).nB (mk ((k:Int)+1)))∧ ∀s',g k l[k] s= .next s' →I (k+1) s')
 (hz: ∀s,I l.length s→f (mk l.length s)=some (.done (fin s))): ∀(n k:Nat),k+n=l.length→ ∀s,I k s→eM f (mk k s)=some (eA g fin k (l.drop k) s):=by
 intro n;induction n with
 |zero=>
  intro k hk s hi;have:k=l.length:=by omega
  subst this;rw [pX,hz s hi];simp [eA]
 |succ n ih=>
  intro k hk s hi;have hl:k<l.length:=by omega
  obtain ⟨h1,h2⟩:=hs k hl s hi;rw [pX,h1,List.drop_eq_getElem_cons hl];simp only [eA];cases hg:g k l[k] s with
  |next s' =>
   have:=ih (k+1) (by omega) s' (h2 s' hg)
   simpa [LR.nB] using this
  |done r=>rfl
theorem Bg {α σ ρ τ :Type} (l:List α) (f: τ →Option (LR τ ρ)) (mk:Int→ σ → τ) (g:Nat→ α → σ →LR σ ρ) (fin: σ → ρ) (I:Nat→ σ →Prop)
 (hs: ∀(k:Nat) (hk:k<l.length) (s: σ),I k s→f (mk k s)=some ((g k l[k] s).nB (mk ((k:Int)+1)))∧ ∀s',g k l[k] s= .next s' →I (k+1) s')
 (hz: ∀s,I l.length s→f (mk l.length s)=some (.done (fin s))) (s: σ) (h0:I 0 s):eM f (mk 0 s)=some (eA g fin 0 l s):=by
 have:=Bf l f mk g fin I hs hz l.length 0 (by omega) s h0
 simpa using this
theorem wS {α σ ρ τ :Type} (l:List α) (f: τ →Option (LR τ ρ)) (mk:Int→ σ → τ) (g:Nat→ α → σ →LR σ ρ) (fin: σ → ρ)
 (hs: ∀(k:Nat) (hk:k<l.length) (s: σ),f (mk k s)=some ((g k l[k] s).nB (mk ((k:Int)+1))))
 (hz: ∀s,f (mk l.length s)=some (.done (fin s))) (s: σ):eM f (mk 0 s)=some (eA g fin 0 l s):=
 Bg l f mk g fin (fun _ _=>True) (fun k hk s _=>⟨hs k hk s,fun _ _=>trivial⟩) (fun s _=>hz s) s trivial
theorem D4 {α σ ρ :Type} {g:Nat→ α → σ →LR σ ρ} {fin: σ → ρ} (p: α →Bool) (r: ρ) (h: ∀k x s,g k x s=if p x then .next s else .done r) (l:List α) (k:Nat) (s: σ):eA g fin k l s=if l.all p then fin s else r:=by
 induction l generalizing k with
 |nil=>simp [eA]
 |cons x xs ih=>
  simp only [eA,h];cases hp:p x
  ·simp [hp]
  ·simp only [if_true,List.all_cons,hp,Bool.true_and];exact ih _
theorem Bh {α σ ρ :Type} {g:Nat→ α → σ →LR σ ρ} {fin: σ → ρ} (u: σ → α → σ) (h: ∀k x s,g k x s= .next (u s x)) (l:List α) (k:Nat) (s: σ):eA g fin k l s=fin (l.foldl u s):=by
 induction l generalizing k s with
 |nil=>simp [eA]
 |cons x xs ih=>simp only [eA,h,List.foldl_cons];exact ih _ _
def dc {α :Type} (m:Option α) (Q: α →Prop):Prop:= ∃r,m=some r∧Q r
section
variable {α β :Type} {m:Option α} {Q P: α →Prop} {R: β →Prop}
theorem dc.ret {a: α} (h:Q a):dc (some a) Q:=⟨a,rfl,h⟩
theorem dc.bind {k: α →Option β} (h:dc m fun x=>dc (k x) R):dc (m.bind k) R:=by
 obtain ⟨a,rfl,b,hb,hr⟩:=h;exact ⟨b,hb,hr⟩
theorem dc.use (h:dc m P) (hq: ∀x,P x→Q x):dc m Q:=by
 obtain ⟨a,rfl,hp⟩:=h;exact ⟨a,rfl,hq a hp⟩
theorem dc.then {k: α →Option β} (h:dc m P) (hk: ∀x,P x→dc (k x) R):dc (m.bind k) R:=dc.bind (h.use hk)
theorem dc.D5 {c:Bool} {a b:Option α} (ht:c=true→dc a Q) (hf:c=false→dc b Q):dc (bif c then a else b) Q:=by
 cases c with
 |true=>exact ht rfl
 |false=>exact hf rfl
theorem dc.eM {σ ρ :Type} {f: σ →Option (LR σ ρ)} {Q: ρ →Prop} {x: σ} (μ : σ →Nat) (I: σ →Prop) (h: ∀x,I x→dc (f x) fun y=>match y with| .next x' =>I x' ∧ μ x' < μ x| .done r=>Q r) (hi:I x):dc (eM f x) Q:=
 wP μ I Q h x hi
end
theorem u64 {x:Int} (h:0≤x∧x<18446744073709551616):IntKind.u64.wrap x=x:=IntWalk.u64_in x (by omega)
theorem D6 {α :Type} {l:List α} {i:Int} (h0:0≤i) (h1:i<l.length):idx l i=some (l[i.toNat]'(by omega)):=by
 obtain ⟨n,rfl⟩:=Int.eq_ofNat_of_zero_le h0;simp only [Int.toNat_natCast];exact wQ (by omega)
theorem D7 {α :Type} {l:List α} {lo hi:Int} (h0:0≤lo) (h1:lo≤hi) (h2:hi≤l.length):dU l lo hi=some ((l.drop lo.toNat).take (hi.toNat-lo.toNat)):=by
 unfold dU;rw [if_pos ⟨h0,h1,h2⟩]
end Go.VS
namespace Go.VS
theorem Bi {p:Prop} [Decidable p] (h:p):decide p=true:=by simpa using h
theorem D8 {p:Prop} [Decidable p] (h: ¬p):decide p=false:=by simpa using h
def dV {α :Type} (p: α →Bool):List α →Int
 |[]=> -1
 |x::xs=>if p x then 0 else if dV p xs<0 then -1 else dV p xs+1
theorem qg {α :Type} (p: α →Bool): ∀l:List α,-1≤dV p l∧dV p l<l.length
 |[]=>by simp [dV]
 |x::xs=>by
  have:=qg p xs;unfold dV;simp only [List.length_cons];split
  ·omega
  ·split<;>omega
theorem Bj {α :Type} (p: α →Bool): ∀l:List α,decide (0≤dV p l)=l.any p
 |[]=>by simp [dV]
 |x::xs=>by
  have h:=Bj p xs;have h2:=qg p xs;unfold dV;simp only [List.any_cons];cases hp:p x
  ·simp only [Bool.false_eq_true,if_false,Bool.false_or,←h];by_cases hc:0≤dV p xs
   ·rw [if_neg (by omega)];simp;omega
   ·rw [if_pos (by omega)];simp;omega
  ·simp
theorem D9 {α :Type} {l:List α} {g: α →Option Bool} (p: α →Bool) {f:Int→Option (LR Int (LR Unit Int))}
 (hf: ∀i,f i=(bif decide (i<(l.length:Int)) then (idx l i).bind fun b=>(g b).bind fun c=>(bif c then some (.done (.done i)) else some (.next (IntKind.i64.wrap (i+1)))) else some (.done (.next ()))))
 (hl:l.length<2^60) (hg: ∀x∈l,g x=some (p x)):eM f 0=some (if dV p l<0 then .next () else .done (dV p l)):=by
 have key:=wS l f (fun k (_:Unit)=>k) (fun k x s=>if p x then .done (.done (k:Int)) else .next s) (fun _=> .next ()) (fun k hk s=>by
  rw [hf,Bi (by simpa using hk),wQ hk]
  simp only [cond_true,Option.bind_some];rw [hg _ (List.getElem_mem hk),Aw (by omega),Option.bind_some]
  cases p l[k]<;>rfl) (fun s=>by rw [hf];simp) ()
 rw [key];have go: ∀(l:List α) (k:Nat),eA (fun (k:Nat) x (s:Unit)=>if p x then LR.done (LR.done (k:Int)) else .next s) (fun _=> .next ()) k l ()=if dV p l<0 then (.next ():LR Unit Int) else .done ((k:Int)+dV p l):=by
  intro l;induction l with
  |nil=>intro k;simp [eA,dV]
  |cons x xs ih=>
   intro k;have h2:=qg p xs;simp only [eA];unfold dV;by_cases hp:p x=true
   ·simp [hp]
   ·simp only [hp,if_false,Bool.false_eq_true];have:=ih (k+1);rw [this];by_cases hc:dV p xs<0
    ·simp [hc]
    ·rw [if_neg hc,if_neg hc,if_neg (by omega)]
     congr 1;push_cast;omega
 rw [go];simp
theorem D_ {α :Type} {l:List α} {f:Int→Option (LR Int (LR Unit Bool))} (hs: ∀(k:Nat) (_:k<l.length),f k=some (.next ((k:Int)+1))) (hz:f l.length=some (.done (.next ()))):eM f 0=some (.next ()):=by
 rw [wS l f (fun k (_:Unit)=>k) (fun _ _ s=> .next s) (fun _=> .next ()) (fun k hk s=>by rw [hs k hk];rfl) (fun s=>hz) (),Bh (fun s _=>s) (fun _ _ _=>rfl)]
def Bk {α :Type} (mk:Int→ α → α) (c n:Int):List α →List α
 |[]=>[]
 |x::xs=>mk n x::Bk mk c (n+c) xs
end Go.VS
