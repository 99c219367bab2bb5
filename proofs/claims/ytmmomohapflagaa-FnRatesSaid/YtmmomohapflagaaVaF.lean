import Derived.Test.YtmmomohapflagaaVaE
import Derived.ChangeArms
import Derived.Carry
import Derived.ProofKit
import Derived.SizedLaws
namespace Go.VS
open Go.RowKit Go.WideShapes Go.ChangeAt Go.ChangeShapes
def iW:aj:=fun _=>False
def jM (w:World) (xs:List AV) (cs:List Value):Prop:=xs.length=cs.length∧(∀(i:Nat) (x:AV) (v:Value),xs[i]? =some x→cs[i]? =some v→FR w iW x v)∧ ∀v∈cs,v.oneCell' =true
structure Rd (P:Program) (t:TypeId) {T:Type} (n:Nat) (c:T→List AV) (ok:T→Prop):Prop where
 sz:P.cellsOf t=n
 len: ∀a,(c a).length=n
 rd: ∀{H:Type} (enc:TypeId×Value→H) (w:World) (base:Nat) (sp:Nat→Bool) (held:Bool) (fuel:Nat) (cs:List Value) (x:DataW H×List MemPlace),DataW.trod enc P w base sp held fuel t cs=some x→(∀z∈x.1.weights P t,z≤reachBytes)→ ∃a:T,ok a∧jM w (c a) cs
section
variable {P:Program} {t:TypeId}
theorem jM.one {w:World} {x:AV} {v:Value} (h:FR w iW x v) (ho:v.oneCell' =true):jM w [x] [v]:=
 ⟨rfl,fun i y u hy hu=>by
  cases i with
  |zero=>simp at hy hu;subst hy;subst hu;exact h
  |succ i=>simp at hy,by simp [ho]⟩
def A8 (k:IntKind) (n:Int):Prop:=k.min≤n∧n≤k.max
theorem Rd.int {k:IntKind} (ht:P.underlying t=some (.int k)) (hs:P.cellsOf t=1):Rd P t 1 (fun n:Int=>[.int k n]) (A8 k):=
 ⟨hs,fun _=>rfl,fun enc w base sp held fuel cs x h _=>by
  obtain ⟨n,rfl,_,hw⟩:=DataW.trod_int ht h;simp only [Lit.wf,Bool.and_eq_true,decide_eq_true_eq] at hw;exact ⟨n,hw,.one (.int k n) rfl⟩⟩
theorem Rd.bool (ht:P.underlying t=some .bool) (hs:P.cellsOf t=1):Rd P t 1 (fun b:Bool=>[.bool b]) (fun _=>True):=
 ⟨hs,fun _=>rfl,fun enc w base sp held fuel cs x h _=>by
  obtain ⟨b,rfl,_⟩:=DataW.trod_bool ht h;exact ⟨b,trivial,.one (.bool b) rfl⟩⟩
theorem Rd.str (ht:P.underlying t=some .string) (hs:P.cellsOf t=1):Rd P t 1 (fun s:List UInt8=>[.str s]) (fun s=>s.length<2^47):=
 ⟨hs,fun _=>rfl,fun enc w base sp held fuel cs x h hz=>by
  obtain ⟨s,rfl,hx,hm⟩:=DataW.trod_string ht h;have:=hz s.data.toList.length (by rw [hx];simp [DataW.weights])
  have hr:=reachBytes_lt;exact ⟨s.data.toList,by omega,.one (.str s) rfl⟩⟩
theorem wP {w:World} {base:Nat} {a:Addr} {n:Nat} {cs:List Value} (h:w.cells? base a n=some cs):cs.length=n∧ ∀i,i<n→w.cell? (a.add i)=cs[i]? :=by
 unfold World.cells? at h;split at h
 ·obtain ⟨h1,h2⟩:=mapM_some h;refine ⟨by simpa using h1,fun i hi=> ?_⟩
  have h3:i<cs.length:=by rw [h1];simpa using hi
  rw [List.getElem?_eq_getElem h3];exact h2 i i _ (by simp [hi]) (List.getElem?_eq_getElem h3)
 ·simp at h
theorem A9 {H:Type} {P:Program} {e:TypeId} {d:DataW H} {l:List (DataW H)} {z:Nat} (h:d∈l) (hz:z∈d.weights P e):z∈DataW.weightsAll P e l:=by
 induction l with
 |nil=>simp at h
 |cons x xs ih=>
  simp only [DataW.weightsAll,List.mem_append];rcases List.mem_cons.1 h with rfl|h
  ·exact .inl hz
  ·exact .inr (ih h)
theorem Rd.sl {T:Type} {e:TypeId} {n:Nat} {c:T→List AV} {ok:T→Prop} (he:Rd P e n c ok) (hn:0<n) (ce:T→AV) (hc: ∀a,(ce a).cells=c a) (ht:P.underlying t=some (.slice e)) (hs:P.cellsOf t=1) (A_:0<P.bytesOf e):
 Rd P t 1 (fun l:List T=>[.fz (l.map ce)]) (fun l=>l.length<2^47∧ ∀a∈l,ok a):=
 ⟨hs,fun _=>rfl,fun {H} enc w base sp held fuel cs x h hz=>by
  rcases DataW.trod_slice ht h with ⟨rfl,_⟩|⟨a,len,cap,g6,rest,m,_,rfl,kY,hb,hl,hm,hlen,cR,_,_⟩
  ·exact ⟨[],⟨by simp,by simp⟩,.one (.cO none 0) rfl⟩
  ·rw [he.sz] at cR;rw [kY] at hz;have EM:=hz ((g6.length+rest.length)*P.bytesOf e) (by simp [DataW.weights,ht])
   have EN:len<2^47:=by
    have h3:g6.length≤(g6.length+rest.length)*P.bytesOf e:=Nat.le_trans (Nat.le_add_right _ _) (Nat.le_mul_of_pos_right _ A_);have:=reachBytes_lt;omega
   have each: ∀i,i<len→ ∃(x:T) (cs:List Value),ok x∧w.cells? base (a.add (i*n)) n=some cs∧jM w (c x) cs:=by
    intro i hi;have h1:=cR i hi;have ax:i<g6.length:=by omega
    rw [List.getElem?_eq_getElem ax] at h1;obtain ⟨cs,h2,h3⟩:=Option.bind_eq_some_iff.1 h1;obtain ⟨x,h4,h5⟩:=he.rd enc w base sp held m cs _ h3 (fun z hq=>hz z (by
     simp only [DataW.weights,ht];exact List.mem_cons_of_mem _ (List.mem_append_left _ (A9 (List.mem_map_of_mem (List.getElem_mem ax)) hq))))
    exact ⟨x,cs,h4,h2,h5⟩
   have build: ∀k,k≤len→ ∃l:List T,l.length=k∧ ∀i x,l[i]? =some x→ok x∧ ∃cs,w.cells? base (a.add (i*n)) n=some cs∧jM w (c x) cs:=by
    intro k;induction k with
    |zero=>intro _;exact ⟨[],rfl,by simp⟩
    |succ k ih=>
     intro hk;obtain ⟨l,h1,h2⟩:=ih (by omega)
     obtain ⟨x,cs,h3,h4,h5⟩:=each k (by omega)
     refine ⟨l ++ [x],by simp [h1],fun i y hy=> ?_⟩
     rcases Nat.lt_or_ge i l.length with hi|hi
     ·rw [List.getElem?_append_left hi] at hy;exact h2 i y hy
     ·rw [List.getElem?_append_right hi] at hy;have:i=k:=by
       have:=(List.getElem?_eq_some_iff.1 hy).1;simp at this;omega
      subst this;simp [h1] at hy;subst hy;exact ⟨h3,cs,h4,h5⟩
   obtain ⟨l,h1,h2⟩:=build len (Nat.le_refl _);refine ⟨l,⟨by omega,fun y hy=> ?_⟩,?_⟩
   ·obtain ⟨i,hi⟩:=List.mem_iff_getElem?.1 hy;exact (h2 i y hi).1
   ·refine .one ?_ rfl;by_cases h0:len=0
    ·subst h0;have:l=[]:=List.eq_nil_of_length_eq_zero h1;subst this;exact .cO (some a) cap
    ·
     have Ba: ∃y,l[0]? =some y:=⟨_,List.getElem?_eq_getElem (by omega)⟩
     obtain ⟨y,hy⟩:=Ba;obtain ⟨_,EO,eH,_⟩:=h2 0 y hy;obtain ⟨q_,Bb⟩:=wP eH;have jN:=Bb 0 hn;have wQ: ∀b:Addr,b.add 0=b:=fun b=>by simp [Addr.add]
     rw [Nat.zero_mul,wQ,wQ,List.getElem?_eq_getElem (by omega)] at jN
     obtain ⟨ab,ao,Bc⟩:=a;unfold World.cell? at jN;split at jN
     rotate_left
     ·simp at jN
     rename_i arr T0 fr qh;simp only at qh jN;cases kX:Bc with
     |some q=>rw [kX] at jN;simp at jN
     |none=>
      subst kX;have gP: ∀i y,l[i]? =some y→ ∀j,j<n→ ∃cs,jM w (c y) cs∧cs.length=n∧arr[ao+i*n+j]? =cs[j]? :=by
       intro i y hy j hj;obtain ⟨_,cs,h3,h4⟩:=h2 i y hy;obtain ⟨h5,h6⟩:=wP h3;refine ⟨cs,h4,h5,?_⟩;have h7:=h6 j hj;have:((⟨ab,ao,none⟩:Addr).add (i*n)).add j=⟨ab,ao+i*n+j,none⟩:=by
        unfold Addr.add;by_cases jo:i*n=0<;>by_cases Bd:j=0<;>simp [jo,Bd,Nat.add_assoc]
       rw [this,l7 qh] at h7;exact h7
      have qi:(l.map ce).length=len:=by simp [h1]
      have key:FR w iW (.fz (l.map ce)) (.slice (some ⟨ab,ao,none⟩) (l.map ce).length cap):=by
       refine .fz (l.map ce) ab ao cap n arr T0 fr qh (fun h=>h) (by omega) ?_ ?_ ?_ ?_
       ·rw [qi];obtain ⟨z,hz⟩: ∃z,l[len-1]? =some z:=⟨_,List.getElem?_eq_getElem (by omega)⟩
        obtain ⟨cs,_,k2,k3⟩:=gP (len-1) z hz (n-1) (by omega)
        rw [List.getElem?_eq_getElem (by omega)] at k3
        have:=(Array.getElem?_eq_some_iff.1 k3).1;have e:(len-1)*n+(n-1)+1=len*n:=by
         have:len=(len-1)+1:=by omega
         conv=>rhs;rw [this,Nat.add_mul,Nat.one_mul]
         omega
        omega
       ·intro i x hx;simp only [List.getElem?_map,Option.map_eq_some_iff] at hx;obtain ⟨z,_,rfl⟩:=hx;rw [hc,he.len]
       ·intro j v hj hv;rw [qi] at hj;have hd:j/n<len:=(Nat.div_lt_iff_lt_mul hn).2 hj;obtain ⟨z,hz⟩: ∃z,l[j/n]? =some z:=⟨_,List.getElem?_eq_getElem (by omega)⟩
        obtain ⟨cs,k1,k2,k3⟩:=gP (j/n) z hz (j % n) (Nat.mod_lt _ hn);have e:ao+j/n*n+j % n=ao+j:=by rw [Nat.add_assoc,Nat.mul_comm,Nat.div_add_mod]
        rw [e,hv] at k3;exact k1.2.2 v (List.mem_of_getElem? k3.symm)
       ·intro i x j y v hx hy hv;simp only [List.getElem?_map,Option.map_eq_some_iff] at hx;obtain ⟨z,hz,rfl⟩:=hx;rw [hc] at hy;have hj:j<n:=by rw [←he.len z];exact (List.getElem?_eq_some_iff.1 hy).1
        obtain ⟨cs,k1,_,k3⟩:=gP i z hz j hj;rw [hv] at k3;exact k1.2.1 j y v hy k3.symm
      rw [qi] at key;exact key⟩
structure kD (P:Program) (fs:List (Nat×TypeId)) {T:Type} (off n:Nat) (c:T→List AV) (ok:T→Prop):Prop where
 len: ∀a,(c a).length=n
 rd: ∀{H:Type} (enc:TypeId×Value→H) (w:World) (base:Nat) (sp:Nat→Bool) (held:Bool) (fuel:Nat) (cs:List Value),cs.length=off+n→
  (∀f∈fs,∃x:DataW H×List MemPlace,DataW.trod enc P w base sp held fuel f.2 ((cs.drop f.1).take (P.cellsOf f.2))=some x∧ ∀z∈x.1.weights P f.2,z≤reachBytes)→ ∃a:T,ok a∧jM w (c a) (cs.drop off)
theorem kD.nil {off:Nat}:kD P [] off 0 (fun _:Unit=>[]) (fun _=>True):=
 ⟨fun _=>rfl,fun enc w base sp held fuel cs hl _=>⟨(),trivial,by rw [List.drop_of_length_le (by omega)];exact ⟨rfl,by simp,by simp⟩⟩⟩
theorem kD.cons {ft:TypeId} {fs:List (Nat×TypeId)} {T U:Type} {off n m:Nat} {c:T→List AV} {d:U→List AV} {ok:T→Prop} {lU:U→Prop} (h:Rd P ft n c ok) (k:kD P fs (off+n) m d lU):
 kD P ((off,ft)::fs) off (n+m) (fun x:T×U=>c x.1 ++ d x.2) (fun x=>ok x.1∧lU x.2):=
 ⟨fun a=>by rw [List.length_append,h.len,k.len],fun enc w base sp held fuel cs hl hf=>by
  obtain ⟨x,hx,Be⟩:=hf (off,ft) (by simp)
  simp only [h.sz] at hx;obtain ⟨a,a1,a2⟩:=h.rd enc w base sp held fuel _ _ hx Be;obtain ⟨b,b1,b2⟩:=k.rd enc w base sp held fuel cs (by omega) (fun g hg=>hf g (by simp [hg]))
  refine ⟨(a,b),⟨a1,b1⟩,?_⟩;have e:cs.drop off=(cs.drop off).take n ++ cs.drop (off+n):=by
   rw [←List.drop_drop,List.take_append_drop]
  rw [e];obtain ⟨l1,p1,o1⟩:=a2;obtain ⟨l2,p2,o2⟩:=b2;refine ⟨by simp only [List.length_append,l1,l2],fun i x v hx hv=> ?_,fun v hv=> ?_⟩
  ·rcases Nat.lt_or_ge i (c a).length with hi|hi
   ·rw [List.getElem?_append_left hi] at hx;rw [List.getElem?_append_left (by rw [←l1];exact hi)] at hv
    exact p1 i x v hx hv
   ·rw [List.getElem?_append_right hi] at hx;rw [List.getElem?_append_right (by rw [←l1];exact hi),←l1] at hv
    exact p2 _ x v hx hv
  ·rcases List.mem_append.1 hv with h|h
   ·exact o1 v h
   ·exact o2 v h⟩
def nI (P:Program) (t:TypeId):Option (List (Nat×TypeId)):=match P.underlying t with
 |some (.struct fs)=>some (fs.toList.map fun f=>(f.offset,f.type))
 |_=>none
theorem Rd.st {fs:List (Nat×TypeId)} {T:Type} {n:Nat} {c:T→List AV} {ok:T→Prop} (ht:nI P t=some fs) (hs:P.cellsOf t=n) (h:kD P fs 0 n c ok):Rd P t n c ok:=
 ⟨hs,h.len,fun enc w base sp held fuel cs x hx hz=>by
  unfold nI at ht;split at ht
  ·rename_i fa hu;simp only [Option.some.injEq] at ht;obtain ⟨xs,m,_,kY,hl,cw,hf⟩:=DataW.trod_struct hu hx;rw [kY] at hz;obtain ⟨a,h1,h2⟩:=h.rd enc w base sp held m cs (by omega) (fun f wR=>by
    rw [←ht] at wR;obtain ⟨g,hg,rfl⟩:=List.mem_map.1 wR;obtain ⟨i,hi⟩:=List.mem_iff_getElem?.1 hg;rw [Array.getElem?_toList] at hi;have:=hf i g hi;have ax:i<xs.length:=by rw [cw];exact (Array.getElem?_eq_some_iff.1 hi).1
    exact ⟨_,by rw [this,List.getElem?_eq_getElem ax],fun z hq=>hz z (by
     simp only [DataW.weights,hu];exact DataW.weights_mem_each (j:=i) (t:=g.type) (d:=xs[i].1) (by simp [hi]) (by simp [List.getElem?_eq_getElem ax]) z hq)⟩)
   exact ⟨a,h1,by simpa using h2⟩
  ·simp at ht⟩
theorem Rd.map {T U:Type} {n:Nat} {c:T→List AV} {ok:T→Prop} (h:Rd P t n c ok) (g:T→U) {d:U→List AV} {lU:U→Prop} (hc: ∀a,d (g a)=c a) (hl: ∀b,(d b).length=n) (ho: ∀a,ok a→lU (g a)):Rd P t n d lU:=
 ⟨h.sz,hl,fun enc w base sp held fuel cs x hx hz=>by
  obtain ⟨a,h1,h2⟩:=h.rd enc w base sp held fuel cs x hx hz;exact ⟨g a,ho a h1,by rw [hc];exact h2⟩⟩
theorem Rd.EP {H:Type} {enc:TypeId×Value→H} {w:World} {base:Nat} {sp:Nat→Bool} {held:Bool} {T:Type} {f:T→AV} {ok:T→Prop} (h:Rd P t 1 (fun a:T=>[f a]) ok) {v:Value} {d:DataW H} {ps:List MemPlace} (hd:DataW.Trod enc P w base sp held t v d ps) (hv:v.cells= #[v]) {ts:List TypeId} {ds:List (DataW H)} {j:Nat} (hz:(DataW.weightsEach P ts ds).all (· ≤reachBytes)=true) (ht:ts[j]? =some t) (qj:ds[j]? =some d):
 ∃a,ok a∧FR w iW (f a) v:=by
 obtain ⟨fuel,hf⟩:=hd;obtain ⟨a,h1,h2⟩:=h.rd enc w base sp held fuel _ _ hf (fun z hq=>by simpa using List.all_eq_true.1 hz z (DataW.weights_mem_each ht qj z hq))
 rw [hv] at h2;exact ⟨a,h1,h2.2.1 0 _ _ rfl rfl⟩
theorem Rd.EQ {H:Type} {enc:TypeId×Value→H} {w:World} {base:Nat} {sp:Nat→Bool} {held:Bool} {T:Type} {n:Nat} {c:T→List AV} {ok:T→Prop} (h:Rd P t n c ok) {cs:Array Value} {d:DataW H} {ps:List MemPlace} (hd:DataW.Trod enc P w base sp held t (.agg cs) d ps) {ts:List TypeId} {ds:List (DataW H)} {j:Nat} (hz:(DataW.weightsEach P ts ds).all (· ≤reachBytes)=true) (ht:ts[j]? =some t) (qj:ds[j]? =some d):
 ∃a,ok a∧FR w iW (.agg (c a)) (.agg cs):=by
 obtain ⟨fuel,hf⟩:=hd;obtain ⟨a,h1,h2,h3,h4⟩:=h.rd enc w base sp held fuel _ _ hf (fun z hq=>by simpa using List.all_eq_true.1 hz z (DataW.weights_mem_each ht qj z hq))
 refine ⟨a,h1,.agg _ _ (by simpa [Value.cells] using h2) (fun j v hj=>h4 v ?_) (fun i x v hx hv=>h3 i x v hx ?_)⟩
 ·simp only [Value.cells];exact Array.mem_toList_iff.2 (Array.mem_of_getElem? hj)
 ·simpa [Value.cells] using hv
end
theorem ER {P:Program} {f:FuncId} {ys:List AV} (h:dh P f ys ⟨0,[]⟩ (fun v _=>v= .bool true)) (W:World) (us:Array Value) (hl:ys.length=us.size) (hr: ∀(i:Nat) (x:AV) (u:Value),ys[i]? =some x→us[i]? =some u→FR W iW x u):
 Calls P f us W fun e w' =>e= .returned (.bool true)∧Below W.heap.size W w' :=by
 have ae:St W ⟨0,[]⟩ (fun _=>none) iW:=⟨fun _ _ _ _ _ h=>by simp at h,fun c ⟨_,_,h⟩=>by simp at h,fun c h=>h.elim,fun _ _ h=>by simp at h⟩
 refine (h.2 W iW (fun _=>none) us ae hl (fun i x u hx hu=> .fr _ _ (hr i x u hx hu))).mono fun e w' he=> ?_
 cases e with
 |returned v' =>
  obtain ⟨x,H',ak,A',ho,hx,rfl⟩:=he;have:=hx.fc;subst this;exact ⟨rfl,⟨ho.post.os,ho.post.tape,ho.post.output,ho.post.size,fun k hk=>ho.post.kept k hk (fun ⟨_,_,h⟩=>by simp at h)⟩⟩
 |panicked c=>exact he.elim
 |outgrown=>exact he.elim
theorem wS {H:Type} {enc:TypeId×Value→H} {P:Program} (hl:laidOutB P=true) {W W' :World} {wT:Nat→Bool}: ∀(ts:List TypeId) (vs:List Value) (ds:List (DataW H)) (ps:List MemPlace),(∀t∈ts,P.readableRec t=true∧t<P.types.size)→
 DataW.TrodAll enc P W 0 (fun _=>true) true ts vs ds ps→(∀p∈ps,W.sameAt W' p)→(∀p∈ps,wT p.block=true)→DataW.TrodAll enc P W' 0 wT true ts vs ds ps
 |[],[],[],ps,_,h,_,_=>h
 |t::ts,v::vs,d::ds,ps,hr,h,h1,h2=>by
  obtain ⟨p,q,k1,k2,rfl⟩:=h;exact ⟨p,q,WideElems.Trod_stays hl (hr t (by simp)).1 (hr t (by simp)).2 k1 (fun x hx=>h1 x (by simp [hx])) (fun x hx=>h2 x (by simp [hx])),
   wS hl ts vs ds q (fun t ht=>hr t (by simp [ht])) k2 (fun x hx=>h1 x (by simp [hx])) (fun x hx=>h2 x (by simp [hx])),rfl⟩
 |[],_::_,_,_,_,h,_,_=>h.elim
 |[],[],_::_,_,_,h,_,_=>h.elim
 |_::_,[],_,_,_,h,_,_=>h.elim
 |_::_,_::_,[],_,_,h,_,_=>h.elim
theorem ES {H:Type} {enc:TypeId×Value→H} {P:Program} {fn:Func} {s:ChangeSpec} {apart fresh handsOn:Bool} {W W' :World} {args:Array Value} {ds gs:List (DataW H)} {before:List MemPlace} {t:TypeId}
 (hW:DataW.Whole enc P fn.params.toList s.vars apart W args.toList ds gs before) (hv:s.vars=[]) (hs:(s.fn H (ds ++ gs)).results=[.lit (.bool true)]∧(s.fn H (ds ++ gs)).args=ds∧(s.fn H (ds ++ gs)).vars=[]) (hr:fn.resultTypes= #[t]) (ht:P.underlying t=some .bool)
 (hl:laidOutB P=true) (o_: ∀t∈fn.params.toList,P.readableRec t=true∧t<P.types.size) (hb:Below W.heap.size W W'):s.post enc P fn apart fresh handsOn false W args (.bool true) W' :=by
 have wU:=hW
 obtain ⟨p,q,h1,h2,rfl,h3,h4⟩:=hW;rw [hv] at h2;have hq:q=[]∧gs=[]:=by
  cases gs with
  |nil=>exact ⟨h2,rfl⟩
  |cons _ _=>exact h2.elim
 obtain ⟨rfl,rfl⟩:=hq;refine ⟨ds,[],p ++ [],[],p,[],wU,?_,?_,?_,hb.frame _,fun h=>by simp at h⟩
 ·rw [hs.1,hr];exact ChangeShapes.trodAll_mk1 (shut_bool ht true)
 ·rw [hs.2.1];have ax: ∀x∈p,x.block<W.heap.size:=fun x hx=>wU.lt x (by simp [hx])
  exact wS hl _ _ _ _ o_ h1 (fun x hx=>hb.same (ax x hx)) (fun x hx=>by simpa using ax x hx)
 ·rw [hs.2.2,hv];rfl
theorem ET {P:Program} {w:World} {r:Reach} {b:Nat} {t:TypeId} {v:Value} (h:Value.okWide P w r b t v) (ht: ∀fs,P.underlying t≠some (.struct fs)) (dg: ∀n e,P.underlying t≠some (.array n e)):v.cells= #[v]:=by
 unfold Value.okWide at h;split at h
 ·rename_i fs hu;exact absurd hu (ht fs)
 ·rename_i n e hu;exact absurd hu (dg n e)
 ·have no: ∀cs,v≠ .agg cs∧v≠ .tuple cs:=by
   intro cs;constructor;all_goals
    rintro rfl;unfold Cell.okWide at h;split at h;all_goals first|(rename_i he _;simp at he;done)|skip
    all_goals first|contradiction|skip
    all_goals (unfold Cell.ok at h;split at h<;>first|contradiction|simp_all)
  cases v with
  |agg cs=>exact absurd rfl (no cs).1
  |tuple cs=>exact absurd rfl (no cs).2
  |_=>rfl
theorem EU {P:Program} {w:World} {r:Reach} {b:Nat} {t:TypeId} {v:Value} {fs:List (Nat×TypeId)} (h:Value.okWide P w r b t v) (ht:nI P t=some fs): ∃cs,v= .agg cs:=by
 unfold nI at ht;split at ht
 ·rename_i fa hu;unfold Value.okWide at h;rw [hu] at h;obtain ⟨cs,rfl,_⟩:=h;exact ⟨cs,rfl⟩
 ·simp at ht
end Go.VS
namespace Go.VS
section
open Go.ChangeShapes Go.WideShapes Go.ChangeAt
theorem EV {H:Type} {enc:TypeId×Value→H} {P:Program} {W:World} {b:Nat} {sp:Nat→Bool} {held:Bool} {t:TypeId} {ts:List TypeId} {vs:List Value} {ds:List (DataW H)} {ps:List MemPlace} (h:DataW.TrodAll enc P W b sp held (t::ts) vs ds ps):
 ∃v cb d nJ p q,vs=v::cb∧ds=d::nJ∧DataW.Trod enc P W b sp held t v d p∧DataW.TrodAll enc P W b sp held ts cb nJ q:=by
 match vs,ds,h with
 |v::cb,d::nJ,h=>
  obtain ⟨p,q,h1,h2,_⟩:=h;exact ⟨v,cb,d,nJ,p,q,rfl,rfl,h1,h2⟩
 |[],_::_,h=>exact h.elim
 |[],[],h=>exact h.elim
 |_::_,[],h=>exact h.elim
theorem EW {H:Type} {enc:TypeId×Value→H} {P:Program} {W:World} {b:Nat} {sp:Nat→Bool} {held:Bool} {t e:TypeId} {v:Value} {d:DataW H} {ps:List MemPlace} {ts:List TypeId} {ds:List (DataW H)} {j:Nat} {xs:List AV} {A:aj}
 (h:DataW.Trod enc P W b sp held t v d ps) (hv:v.cells= #[v]) (hu:P.underlying t=some (.slice e)) (hr:FR W A (.fz xs) v) (hz:(DataW.weightsEach P ts ds).all (· ≤reachBytes)=true) (ht:ts[j]? =some t) (hd:ds[j]? =some d) (hb:0<P.bytesOf e):xs.length<2^47:=by
 obtain ⟨fuel,hf⟩:=h;rw [hv] at hf;rcases DataW.trod_slice hu hf with ⟨h1,_⟩|⟨a,len,cap,g6,rest,m,_,h1,h2,_,_,_,hlen,_⟩
 ·have h1:v= .slice none 0 0:=by simpa using h1
  subst h1;cases hr
  simp
 ·have h1:v= .slice (some a) len cap:=by simpa using h1
  subst h1;have ca:d= .slice (g6.map (·.1)) (rest.map (·.1)):=congrArg Prod.fst h2
  subst ca;have hs:=sized_slice hz ht hd hu;have hl:xs.length=len:=by
   cases hr<;>rfl
  have:=reachBytes_lt;have h3:g6.length≤(g6.length+rest.length)*P.bytesOf e:=Nat.le_trans (Nat.le_add_right _ _) (Nat.le_mul_of_pos_right _ hb);simp only [List.length_map] at hs;omega
theorem EX {H:Type} {enc:TypeId×Value→H} {P:Program} {W:World} {b:Nat} {sp:Nat→Bool} {held:Bool} {vs:List Value} {ds:List (DataW H)} {ps:List MemPlace} (h:DataW.TrodAll enc P W b sp held [] vs ds ps):vs=[]∧ds=[]:=by
 match vs,ds,h with
 |[],[],_=>exact ⟨rfl,rfl⟩
 |[],_::_,h=>exact h.elim
 |_::_,_,h=>exact h.elim
end
def wV (x:Int):Prop:= -9223372036854775808≤x∧x≤9223372036854775807
theorem EY (x:Int):wV (IntKind.i64.wrap x):=by
 rw [wV,IntKind.wrap_i64];omega
theorem wW {σ ρ :Type} {f: σ →Option (LR σ ρ)} (m: σ →Nat) (I: σ →Prop) (Q: ρ →Prop) (h: ∀x,I x→ ∃y,f x=some y∧match y with| .next x' =>I x' ∧m x' <m x| .done r=>Q r):
 ∀x,I x→ ∃r,dP f x=some r∧Q r:=by
 intro x;generalize hn:m x=n;induction n using Nat.strongRecOn generalizing x with
 |ind n ih=>
  intro hi;obtain ⟨y,h1,h2⟩:=h x hi;rw [lQ,h1];cases y with
  |next x' =>
   subst hn;exact ih _ h2.2 x' rfl h2.1
  |done r=>exact ⟨r,rfl,h2⟩
theorem wX {σ ρ :Type} {f: σ →Option (LR σ ρ)} (m: σ →Nat) (I: σ →Prop) (r: ρ) (h: ∀x,I x→ ∃y,f x=some y∧match y with| .next x' =>I x' ∧m x' <m x| .done r' =>r' =r) (x: σ) (hx:I x):dP f x=some r:=by
 obtain ⟨r',h1,rfl⟩:=wW m I (· =r) h x hx;exact h1
theorem EZ {σ ρ :Type} {f g: σ →Option (LR σ ρ)} (m: σ →Nat) (I: σ →Prop) (Q: ρ →Prop) (h: ∀x,I x→ ∃y,f x=some y∧g x=some y∧match y with| .next x' =>I x' ∧m x' <m x| .done r=>Q r):
 ∀x,I x→ ∃r,dP f x=some r∧dP g x=some r∧Q r:=by
 intro x;generalize hn:m x=n;induction n using Nat.strongRecOn generalizing x with
 |ind n ih=>
  intro hi;obtain ⟨y,h1,h2,h3⟩:=h x hi;rw [lQ f,h1,lQ g,h2];cases y with
  |next x' =>
   subst hn;exact ih _ h3.2 x' rfl h3.1
  |done r=>exact ⟨r,rfl,rfl,h3⟩
theorem Bf {α :Type} (l:List α) (k:Nat):idx l (k:Int)=l[k]? :=by
 simp [idx]
theorem qk {α :Type} {l:List α} {k:Nat} (h:k<l.length):idx l (k:Int)=some l[k]:=by
 rw [Bf,List.getElem?_eq_getElem h]
theorem wY {n b:Nat} (h:n≤2^32) (hb:b≤4096):roomy n b=true:=by
 have h1:(n+512)*b≤(2^32+512)*4096:=Nat.mul_le_mul (by omega) hb
 simp only [roomy,Bool.and_eq_true,decide_eq_true_eq];constructor
 ·omega
 ·omega
theorem E0 {α :Type} {b:Nat} {n:Nat} {d: α} (h:n≤2^32) (hb:b≤4096):eX b (n:Int) d=some (List.replicate n d):=by
 have:=wY h hb;simp only [eX,Int.toNat_natCast,this,and_true,Int.natCast_nonneg,if_true]
theorem E1 {α :Type} {b:Nat} {l m:List α} (h:l.length+m.length≤2^32) (hb:b≤4096):app b l m=some (l ++ m):=by
 simp only [app,wY h hb,if_true]
theorem E2 {α :Type} (l:List α) (k:Nat) (h:k<l.length) (d:List α) (hd:d.length=l.length):(l.take k ++ d.drop k).set k l[k]=l.take (k+1) ++ d.drop (k+1):=by
 apply List.ext_getElem?;intro i;rw [List.getElem?_set];by_cases hi:k=i
 ·subst hi;have hl:k<(l.take k ++ d.drop k).length:=by simp;omega
  rw [if_pos rfl,if_pos hl,List.getElem?_append_left (by simp;omega),List.getElem?_take,if_pos (by omega),List.getElem?_eq_getElem h]
 ·rw [if_neg hi];simp only [List.getElem?_append,List.length_take,List.getElem?_take,List.getElem?_drop];rcases Nat.lt_trichotomy i k with h1|h1|h1
  ·rw [if_pos (by omega),if_pos h1,if_pos (by omega),if_pos (by omega)]
  ·omega
  ·rw [if_neg (by omega),if_neg (by omega)]
   congr 1;omega
end Go.VS
namespace Go.VS
def cM {α σ ρ :Type} (g:Nat→ α → σ →LR σ ρ) (fin: σ → ρ):Nat→List α → σ → ρ
 |_,[],s=>fin s
 |k,x::xs,s=>match g k x s with
  | .next s' =>cM g fin (k+1) xs s'
  | .done r=>r
def LR.nK {σ τ ρ :Type} (f: σ → τ):LR σ ρ →LR τ ρ
 | .next s=> .next (f s)
 | .done r=> .done r
theorem Bg {α σ ρ τ :Type} (l:List α) (f: τ →Option (LR τ ρ)) (mk:Int→ σ → τ) (g:Nat→ α → σ →LR σ ρ) (fin: σ → ρ) (I:Nat→ σ →Prop)
 (hs: ∀(k:Nat) (hk:k<l.length) (s: σ),I k s→f (mk k s)=some ((g k l[k] s).nK (mk ((k:Int)+1)))∧ ∀s',g k l[k] s= .next s' →I (k+1) s')
 (hz: ∀s,I l.length s→f (mk l.length s)=some (.done (fin s))): ∀(n k:Nat),k+n=l.length→ ∀s,I k s→dP f (mk k s)=some (cM g fin k (l.drop k) s):=by
 intro n;induction n with
 |zero=>
  intro k hk s hi;have:k=l.length:=by omega
  subst this;rw [lQ,hz s hi];simp [cM]
 |succ n ih=>
  intro k hk s hi;have hl:k<l.length:=by omega
  obtain ⟨h1,h2⟩:=hs k hl s hi;rw [lQ,h1,List.drop_eq_getElem_cons hl];simp only [cM];cases hg:g k l[k] s with
  |next s' =>
   have:=ih (k+1) (by omega) s' (h2 s' hg)
   simpa [LR.nK] using this
  |done r=>rfl
theorem wZ {α σ ρ τ :Type} (l:List α) (f: τ →Option (LR τ ρ)) (mk:Int→ σ → τ) (g:Nat→ α → σ →LR σ ρ) (fin: σ → ρ) (I:Nat→ σ →Prop)
 (hs: ∀(k:Nat) (hk:k<l.length) (s: σ),I k s→f (mk k s)=some ((g k l[k] s).nK (mk ((k:Int)+1)))∧ ∀s',g k l[k] s= .next s' →I (k+1) s')
 (hz: ∀s,I l.length s→f (mk l.length s)=some (.done (fin s))) (s: σ) (h0:I 0 s):dP f (mk 0 s)=some (cM g fin 0 l s):=by
 have:=Bg l f mk g fin I hs hz l.length 0 (by omega) s h0
 simpa using this
theorem w7 {α σ ρ τ :Type} (l:List α) (f: τ →Option (LR τ ρ)) (mk:Int→ σ → τ) (g:Nat→ α → σ →LR σ ρ) (fin: σ → ρ)
 (hs: ∀(k:Nat) (hk:k<l.length) (s: σ),f (mk k s)=some ((g k l[k] s).nK (mk ((k:Int)+1))))
 (hz: ∀s,f (mk l.length s)=some (.done (fin s))) (s: σ):dP f (mk 0 s)=some (cM g fin 0 l s):=
 wZ l f mk g fin (fun _ _=>True) (fun k hk s _=>⟨hs k hk s,fun _ _=>trivial⟩) (fun s _=>hz s) s trivial
theorem Bh {α σ ρ :Type} {g:Nat→ α → σ →LR σ ρ} {fin: σ → ρ} (I:List α → σ →Prop) (Q: ρ →Prop) (hz: ∀s,I [] s→Q (fin s))
 (hs: ∀k x xs s,I (x::xs) s→match g k x s with| .next s' =>I xs s' | .done r=>Q r): ∀(l:List α) (k:Nat) (s: σ),I l s→Q (cM g fin k l s)
 |[],_,s,h=>hz s h
 |x::xs,k,s,h=>by
  have:=hs k x xs s h;simp only [cM];cases hg:g k x s with
  |next s' =>rw [hg] at this;exact Bh I Q hz hs xs (k+1) s' this
  |done r=>rw [hg] at this;exact this
theorem E3 {α σ ρ :Type} {g g' :Nat→ α → σ →LR σ ρ} {fin kE: σ → ρ} (hg: ∀k x s,g k x s=g' k x s) (hf: ∀s,fin s=kE s) (k:Nat) (l:List α) (s: σ):cM g fin k l s=cM g' kE k l s:=by
 rw [show g=g' from funext fun k=>funext fun x=>funext fun s=>hg k x s,show fin=kE from funext hf]
theorem Bi {α σ ρ lV ql:Type} {g:Nat→ α → σ →LR σ ρ} {fin: σ → ρ} {g' :Nat→ α →lV→LR lV ql} {kE:lV→ql} (R: σ →lV→Prop) (Q: ρ →ql→Prop) (hz: ∀s s',R s s' →Q (fin s) (kE s'))
 (hs: ∀k x s s',R s s' →match g k x s,g' k x s' with| .next t,.next t' =>R t t' | .done r,.done r' =>Q r r' |_,_=>False): ∀(l:List α) (k:Nat) (s: σ) (s' :lV),R s s' →Q (cM g fin k l s) (cM g' kE k l s')
 |[],_,s,s',h=>hz s s' h
 |x::xs,k,s,s',h=>by
  have:=hs k x s s' h
  simp only [cM];cases h1:g k x s<;>cases h2:g' k x s' <;>rw [h1,h2] at this
  ·exact Bi R Q hz hs xs (k+1) _ _ this
  ·exact this.elim
  ·exact this.elim
  ·exact this
theorem E4 {α σ ρ :Type} {g:Nat→ α → σ →LR σ ρ} {fin: σ → ρ} (p: α →Bool) (r: ρ) (h: ∀k x s,g k x s=if p x then .next s else .done r) (l:List α) (k:Nat) (s: σ):cM g fin k l s=if l.all p then fin s else r:=by
 induction l generalizing k with
 |nil=>simp [cM]
 |cons x xs ih=>
  simp only [cM,h];cases hp:p x
  ·simp [hp]
  ·simp only [if_true,List.all_cons,hp,Bool.true_and];exact ih _
theorem Bj {α σ ρ :Type} {g:Nat→ α → σ →LR σ ρ} {fin: σ → ρ} (u: σ → α → σ) (h: ∀k x s,g k x s= .next (u s x)) (l:List α) (k:Nat) (s: σ):cM g fin k l s=fin (l.foldl u s):=by
 induction l generalizing k s with
 |nil=>simp [cM]
 |cons x xs ih=>simp only [cM,h,List.foldl_cons];exact ih _ _
def cC {α :Type} (m:Option α) (Q: α →Prop):Prop:= ∃r,m=some r∧Q r
section
variable {α β :Type} {m:Option α} {Q P: α →Prop} {R: β →Prop}
theorem cC.ret {a: α} (h:Q a):cC (some a) Q:=⟨a,rfl,h⟩
theorem cC.bind {k: α →Option β} (h:cC m fun x=>cC (k x) R):cC (m.bind k) R:=by
 obtain ⟨a,rfl,b,hb,hr⟩:=h;exact ⟨b,hb,hr⟩
theorem cC.use (h:cC m P) (hq: ∀x,P x→Q x):cC m Q:=by
 obtain ⟨a,rfl,hp⟩:=h;exact ⟨a,rfl,hq a hp⟩
theorem cC.then {k: α →Option β} (h:cC m P) (hk: ∀x,P x→cC (k x) R):cC (m.bind k) R:=cC.bind (h.use hk)
theorem cC.eqv {a: α} (h:m=some a) (hq:Q a):cC m Q:=⟨a,h,hq⟩
theorem cC.E5 {c:Bool} {a b:Option α} (ht:c=true→cC a Q) (hf:c=false→cC b Q):cC (bif c then a else b) Q:=by
 cases c with
 |true=>exact ht rfl
 |false=>exact hf rfl
theorem cC.ite {c:Prop} [Decidable c] {a b:Option α} (ht:c→cC a Q) (hf: ¬c→cC b Q):cC (if c then a else b) Q:=by
 split
 ·exact ht ‹_›
 ·exact hf ‹_›
theorem cC.dP {σ ρ :Type} {f: σ →Option (LR σ ρ)} {Q: ρ →Prop} {x: σ} (μ : σ →Nat) (I: σ →Prop) (h: ∀x,I x→cC (f x) fun y=>match y with| .next x' =>I x' ∧ μ x' < μ x| .done r=>Q r) (hi:I x):cC (dP f x) Q:=
 wW μ I Q h x hi
end
theorem E6 {α :Type} (c:Bool) (a b: α):(bif c then a else b)=if c=true then a else b:=by cases c<;>rfl
theorem E7 (c:Bool):((!c)=true)=(c=false):=by cases c<;>simp
theorem u64 {x:Int} (h:0≤x∧x<18446744073709551616):IntKind.u64.wrap x=x:=IntWalk.u64_in x (by omega)
theorem E8 {x:Int} (h: -9223372036854775808≤x) (h' :x≤9223372036854775807):IntKind.i64.wrap x=x:=p_ ⟨h,h'⟩
theorem E9 {α :Type} {l:List α} {i:Int} (h0:0≤i) (h1:i<l.length):idx l i=some (l[i.toNat]'(by omega)):=by
 obtain ⟨n,rfl⟩:=Int.eq_ofNat_of_zero_le h0;simp only [Int.toNat_natCast];exact qk (by omega)
theorem E_ {α :Type} {b:Nat} {l m:List α} (h:l.length+m.length≤1099511627776) (hb:b≤16):app b l m=some (l ++ m):=by
 have:(l.length+m.length+512)*b≤(1099511627776+512)*16:=Nat.mul_le_mul (by omega) hb
 simp only [app,roomy,Bool.and_eq_true,decide_eq_true_eq];rw [if_pos];constructor<;>omega
theorem Fa {α :Type} {b:Nat} {n:Int} {d: α} (h0:0≤n) (h:n≤1099511627776) (hb:b≤16):eX b n d=some (List.replicate n.toNat d):=by
 have:(n.toNat+512)*b≤(1099511627776+512)*16:=Nat.mul_le_mul (by omega) hb
 simp only [eX,roomy,Bool.and_eq_true,decide_eq_true_eq];rw [if_pos];refine ⟨h0,?_,?_⟩<;>omega
theorem Fb {u v:List UInt8} (h:u.length+v.length≤1099511627776):cat u v=some (u ++ v):=by
 unfold cat;rw [if_pos (by omega)]
theorem Fc {α :Type} {l:List α} {lo hi:Int} (h0:0≤lo) (h1:lo≤hi) (h2:hi≤l.length):cA l lo hi=some ((l.drop lo.toNat).take (hi.toNat-lo.toNat)):=by
 unfold cA;rw [if_pos ⟨h0,h1,h2⟩]
theorem Fe {a b:Int} (ha:0≤a) (qL:a≤9223372036854775807) (hb:0<b):dv .i64 a b=some (a/b):=by
 unfold dv;rw [if_neg (by omega),Int.tdiv_eq_ediv_of_nonneg ha,p_]
 have h1:0≤a/b:=Int.ediv_nonneg ha (by omega)
 have h2:a/b≤a:=Int.ediv_le_self b ha;omega
theorem Ff {a b:Int} (ha:0≤a) (hb:0<b):md a b=some (a % b):=by
 unfold md;rw [if_neg (by omega),Int.tmod_eq_emod_of_nonneg ha]
end Go.VS
namespace Go.VS
theorem qm {p:Prop} [Decidable p] (h:p):decide p=true:=by simpa using h
theorem w8 {p:Prop} [Decidable p] (h: ¬p):decide p=false:=by simpa using h
def cD {α :Type} (p: α →Bool):List α →Int
 |[]=> -1
 |x::xs=>if p x then 0 else if cD p xs<0 then -1 else cD p xs+1
theorem nL {α :Type} (p: α →Bool): ∀l:List α,-1≤cD p l∧cD p l<l.length
 |[]=>by simp [cD]
 |x::xs=>by
  have:=nL p xs;unfold cD;simp only [List.length_cons];split
  ·omega
  ·split<;>omega
theorem w9 {α :Type} (p: α →Bool): ∀l:List α,decide (0≤cD p l)=l.any p
 |[]=>by simp [cD]
 |x::xs=>by
  have h:=w9 p xs;have h2:=nL p xs;unfold cD;simp only [List.any_cons];cases hp:p x
  ·simp only [Bool.false_eq_true,if_false,Bool.false_or,←h];by_cases hc:0≤cD p xs
   ·rw [if_neg (by omega)];simp;omega
   ·rw [if_pos (by omega)];simp;omega
  ·simp
theorem Fg {α :Type} (p: α →Bool) (l:List α):decide (cD p l<0)= !l.any p:=by
 rw [←w9];by_cases h:0≤cD p l
 ·rw [qm h,w8 (by omega)];rfl
 ·rw [w8 h,qm (by omega)];rfl
theorem Bk {α :Type} (p: α →Bool): ∀(l:List α),0≤cD p l→ ∃x,l[(cD p l).toNat]? =some x∧p x=true∧ ∀k y,k<(cD p l).toNat→l[k]? =some y→p y=false
 |[],h=>by simp [cD] at h
 |x::xs,h=>by
  have h2:=nL p xs;unfold cD at h⊢;cases hp:p x
  ·simp only [hp,Bool.false_eq_true,if_false] at h⊢;by_cases hc:cD p xs<0
   ·rw [if_pos hc] at h;omega
   ·rw [if_neg hc] at h⊢;obtain ⟨y,h3,h4,h5⟩:=Bk p xs (by omega)
    have e:(cD p xs+1).toNat=(cD p xs).toNat+1:=by omega
    rw [e];refine ⟨y,by simpa using h3,h4,fun k z hk hz=> ?_⟩
    cases k with
    |zero=>simp at hz;subst hz;exact hp
    |succ k=>exact h5 k z (by omega) (by simpa using hz)
  ·simp only [if_true];exact ⟨x,rfl,hp,fun k z hk _=>by simp at hk⟩
theorem Fh {α :Type} {l:List α} {g: α →Option Bool} (p: α →Bool) {f:Int→Option (LR Int (LR Unit Int))}
 (hf: ∀i,f i=(bif decide (i<(l.length:Int)) then (idx l i).bind fun b=>(g b).bind fun c=>(bif c then some (.done (.done i)) else some (.next (IntKind.i64.wrap (i+1)))) else some (.done (.next ()))))
 (hl:l.length<2^60) (hg: ∀x∈l,g x=some (p x)):dP f 0=some (if cD p l<0 then .next () else .done (cD p l)):=by
 have key:=w7 l f (fun k (_:Unit)=>k) (fun k x s=>if p x then .done (.done (k:Int)) else .next s) (fun _=> .next ()) (fun k hk s=>by
  rw [hf,qm (by simpa using hk),qk hk]
  simp only [cond_true,Option.bind_some];rw [hg _ (List.getElem_mem hk),p_ (by omega),Option.bind_some]
  cases p l[k]<;>rfl) (fun s=>by rw [hf];simp) ()
 rw [key];have go: ∀(l:List α) (k:Nat),cM (fun (k:Nat) x (s:Unit)=>if p x then LR.done (LR.done (k:Int)) else .next s) (fun _=> .next ()) k l ()=if cD p l<0 then (.next ():LR Unit Int) else .done ((k:Int)+cD p l):=by
  intro l;induction l with
  |nil=>intro k;simp [cM,cD]
  |cons x xs ih=>
   intro k;have h2:=nL p xs;simp only [cM];unfold cD;by_cases hp:p x=true
   ·simp [hp]
   ·simp only [hp,if_false,Bool.false_eq_true];have:=ih (k+1);rw [this];by_cases hc:cD p xs<0
    ·simp [hc]
    ·rw [if_neg hc,if_neg hc,if_neg (by omega)]
     congr 1;push_cast;omega
 rw [go];simp
theorem Fi {α :Type} {l:List α} {f:Int→Option (LR Int (LR Unit Bool))} (hs: ∀(k:Nat) (_:k<l.length),f k=some (.next ((k:Int)+1))) (hz:f l.length=some (.done (.next ()))):dP f 0=some (.next ()):=by
 rw [w7 l f (fun k (_:Unit)=>k) (fun _ _ s=> .next s) (fun _=> .next ()) (fun k hk s=>by rw [hs k hk];rfl) (fun s=>hz) (),Bj (fun s _=>s) (fun _ _ _=>rfl)]
theorem Fj {α β :Type} {l:List α} {h: α → β} {f:List β ×Int→Option (LR (List β ×Int) (List β))}
 (hs: ∀(k:Nat) (hk:k<l.length) (x:List β),x.length=l.length→f (x,k)=some (.next (x.set k (h l[k]),(k:Int)+1))) (hz: ∀x,f (x,l.length)=some (.done x)) {d:List β} (hd:d.length=l.length):dP f (d,0)=some (l.map h):=by
 have key:=wZ l f (fun k (s:List β)=>(s,k)) (fun k x s=> .next (s.set k (h x))) (fun s=>s) (fun _ s=>s.length=l.length) (fun k hk s hi=>by
  rw [hs k hk s hi];exact ⟨rfl,fun s' e=>by simp at e;rw [←e,List.length_set];exact hi⟩) (fun s _=>hz s) d hd
 rw [key];congr 1;have go: ∀(m:List α) (k:Nat) (s:List β),s.length=k+m.length→cM (fun k x (s:List β)=>LR.next (s.set k (h x))) (fun s=>s) k m s=s.take k ++ m.map h:=by
  intro m;induction m with
  |nil=>intro k s hs;simp [cM];simp at hs;rw [List.take_of_length_le (by omega)]
  |cons x xs ih=>
   intro k s hs;simp only [cM];simp only [List.length_cons] at hs;rw [ih (k+1) _ (by rw [List.length_set];omega)]
   simp only [List.map_cons];rw [List.take_set,List.take_add_one,List.getElem?_eq_getElem (by omega),List.set_append,if_neg (by rw [List.length_take];omega),List.append_assoc]
   simp [Nat.min_eq_left (show k≤s.length by omega)]
 have:=go l 0 d (by omega)
 simpa using this
def en {α :Type} (mk:Int→ α → α) (c n:Int):List α →List α
 |[]=>[]
 |x::xs=>mk n x::en mk c (n+c) xs
theorem w_ {α :Type} (mk:Int→ α → α) (c n:Int) (l:List α):(en mk c n l).length=l.length:=by
 induction l generalizing n with
 |nil=>rfl
 |cons x xs ih=>simp [en,ih]
theorem Fk {α :Type} (mk:Int→ α → α) (c n:Int) (l:List α) (k:Nat):(en mk c n l)[k]? =(l[k]?).map (mk (n+c*k)):=by
 induction l generalizing n k with
 |nil=>simp [en]
 |cons x xs ih=>
  cases k with
  |zero=>simp [en]
  |succ k=>
   simp only [en,List.getElem?_cons_succ,ih];have:n+c+c*(k:Int)=n+c*((k+1:Nat):Int):=by push_cast;rw [Int.mul_add];omega
   rw [this]
theorem Bl {α :Type} (mk:Int→ α → α) (c n:Int) (l:List α) (x: α):en mk c n (l ++ [x])=en mk c n l ++ [mk (n+c*l.length) x]:=by
 induction l generalizing n with
 |nil=>simp [en]
 |cons y ys ih=>
  simp only [List.cons_append,en,ih,List.length_cons];have:n+c+c*(ys.length:Int)=n+c*((ys.length+1:Nat):Int):=by push_cast;rw [Int.mul_add];omega
  rw [this]
theorem Fl {α :Type} {l:List α} {n0 c:Int} {mk:Int→ α → α} {f:List α ×Int×Int→Option (LR (List α ×Int×Int) (Int×List α))}
 (hs: ∀(k:Nat) (x:List α) (hk:k<x.length),x.length=l.length→f (x,n0+c*k,k)=some (.next (x.set k (mk (n0+c*k) x[k]),n0+c*k+c,(k:Int)+1))) (hz: ∀x:List α,x.length=l.length→f (x,n0+c*l.length,l.length)=some (.done (n0+c*l.length,x))):
 dP f (l,n0,0)=some (n0+c*l.length,en mk c n0 l):=by
 refine wX (fun s=>((l.length:Int)-s.2.2).toNat) (fun s=> ∃k:Nat,k≤l.length∧s=(en mk c n0 (l.take k) ++ l.drop k,n0+c*k,(k:Int))) _ ?_ _ ⟨0,by omega,by simp [en]⟩
 rintro _ ⟨k,hk,rfl⟩;have hlen:(en mk c n0 (l.take k) ++ l.drop k).length=l.length:=by simp [w_];omega
 by_cases jB:k<l.length
 ·refine ⟨_,hs k _ (by omega) hlen,⟨k+1,by omega,?_⟩,by dsimp only;omega⟩
  have e:n0+c*(k:Int)+c=n0+c*((k+1:Nat):Int):=by push_cast;rw [Int.mul_add];omega
  simp only [Prod.mk.injEq,e];refine ⟨?_,trivial,by push_cast;rfl⟩
  have hm:(en mk c n0 (l.take k)).length=k:=by rw [w_,List.length_take];omega
  have hx:(en mk c n0 (l.take k) ++ l.drop k)[k]=l[k]:=by
   rw [List.getElem_append_right (by omega)]
   simp [hm]
  rw [hx,List.set_append,if_neg (by omega),hm,List.drop_eq_getElem_cons jB,List.take_add_one,List.getElem?_eq_getElem jB]
  simp only [Nat.sub_self,List.set_cons_zero,Option.toList];rw [Bl,List.append_assoc,List.length_take,Nat.min_eq_left (by omega)]
  rfl
 ·have:k=l.length:=by omega
  subst this;exact ⟨_,hz _ hlen,by simp⟩
theorem Fm {n0 c:Int} {len:Nat} {f:Int×Int→Option (LR (Int×Int) (LR Int Int))} (hs: ∀(k:Nat),k<len→f (n0+c*k,k)=some (.next (n0+c*k+c,(k:Int)+1))) (hz:f (n0+c*len,len)=some (.done (.next (n0+c*len)))):dP f (n0,0)=some (.next (n0+c*len)):=by
 refine wX (fun s=>((len:Int)-s.2).toNat) (fun s=> ∃k:Nat,k≤len∧s=(n0+c*k,(k:Int))) _ ?_ _ ⟨0,by omega,by simp⟩
 rintro _ ⟨k,hk,rfl⟩;by_cases jB:k<len
 ·refine ⟨_,hs k jB,⟨k+1,by omega,?_⟩,by dsimp only;omega⟩
  have e:n0+c*(k:Int)+c=n0+c*((k+1:Nat):Int):=by push_cast;rw [Int.mul_add];omega
  rw [e];push_cast;rfl
 ·have:k=len:=by omega
  subst this;exact ⟨_,hz,rfl⟩
theorem Fo {α :Type} {l:List α} {k:Nat} {v: α} (h:k<l.length):idx (l.set k v) (k:Int)=some v:=by
 rw [qk (by simpa using h)]
 simp
end Go.VS
