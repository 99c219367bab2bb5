import Derived.Test.YtmmomohapflagaaVaA
namespace Go.VS
theorem wZ (jB cap:Nat) (h:cap<jB):Builtin.nextslicecap jB cap≤2*jB+512:=by
 have g: ∀(r c:Nat),c≤2*jB+512→Builtin.growBy jB r c≤2*jB+512:=by
  intro r;induction r with
  |zero=>intro c hc;exact hc
  |succ r ih=>
   intro c hc;simp only [Builtin.growBy];split
   ·exact hc
   ·exact ih _ (by omega)
 unfold Builtin.nextslicecap;split
 ·omega
 ·split
  ·omega
  ·exact g _ _ (by omega)
section ops
variable {P:Program} {E:aJ} (hE: ∀t ti,E t=some ti→aT P t ti)
variable {w:World} {G:J} {φ :ag} {A:ah}
theorem nI {t:TypeId} {ti:TI} (h:aT P t ti) (hn: ∀k,ti.aq≠ .it k) (w:World): ∃d,(underlying t).run P w= .ok d w∧(∀k,d≠ .int k):=by
 obtain ⟨i,d,z,_,hd,_,_,_,_,_,_,_,_,a8,_⟩:=h.out;exact ⟨d,run_underlying hd w,fun k hk=>hn k (by rw [←a8,hk];rfl)⟩
structure w7 (P:Program) (w:World) (G:J) (φ :ag) (A:ah) (xs:List AV) (v:Value) (sz:Nat) (cs:Array Value):Prop where
 len:(Builtin.lenOf v).run P w= .ok xs.length w
 run: ∀m,m≤xs.length→(Builtin.firstCells sz m v).run P w= .ok (cs.extract 0 (m*sz)) w
 size:cs.size=xs.length*sz
 rel: ∀(i:Nat) (x:AV) (j:Nat) (y:AV) (u:Value),xs[i]? =some x→x.cells[j]? =some y→cs[i*sz+j]? =some u→R w G φ A y u∧u.oneCell' =true
 one: ∀u∈cs.toList,u.oneCell' =true
theorem jC {H0:J} (ae:St w G φ A) (hX:a4 H0 G) {x:AV} {v:Value} {xs:List AV} {sz:Nat} (hx:R w G φ A x v) (h:ct H0 x=some xs) (hs:bC sz xs=true) (hz:0<sz):
 ∃cs,w7 P w G φ A xs v sz cs:=by
 by_cases qd: ∃s,x= .str s
 ·obtain ⟨s,rfl⟩:=qd;obtain ⟨b,rfl,rfl⟩:=hx.eL;simp only [ct,Option.some.injEq] at h;have cj:xs.length=b.size:=by rw [←h,List.length_map];exact Array.length_toList
  refine ⟨b.data.map fun c=> .int .u8 c.toNat,by simp [Builtin.lenOf,cj],fun m hm=> ?_,?_,fun i x j y u hi hy hu=> ?_,fun u hu=> ?_⟩
  ·have aH:sz=1∨xs=[]:=by
    rcases xs with _|⟨y,ys⟩
    ·exact .inr rfl
    ·left;have:=gM (i:=0) hs rfl;have hy:(b.data.toList.map fun c:UInt8=>AV.int .u8 c.toNat)[0]? =some y:=by rw [h];rfl
     simp only [List.getElem?_map,Option.map_eq_some_iff] at hy;obtain ⟨c,_,rfl⟩:=hy;exact this.symm
   simp only [Builtin.firstCells,Sem.run_pure];congr 1;rcases aH with rfl|rfl
   ·rw [ByteArray.data_extract,Nat.mul_one];apply Array.ext';simp
   ·simp at hm;subst hm;rw [ByteArray.data_extract];apply Array.ext';simp
  ·rcases xs with _|⟨y,ys⟩
   ·rw [Array.size_map,List.length_nil,Nat.zero_mul];exact cj.symm
   ·have:=gM (i:=0) hs rfl;have hy:(b.data.toList.map fun c:UInt8=>AV.int .u8 c.toNat)[0]? =some y:=by rw [h];rfl
    simp only [List.getElem?_map,Option.map_eq_some_iff] at hy;obtain ⟨c,_,rfl⟩:=hy;have h1:sz=1:=this.symm;subst h1;rw [Nat.mul_one,cj,Array.size_map];rfl
  ·rw [←h] at hi;simp only [List.getElem?_map,Option.map_eq_some_iff] at hi;obtain ⟨c,hc,rfl⟩:=hi;have h1:=gM hs (i:=i) (x:= .int .u8 c.toNat) (by rw [←h];simp [hc])
   have h1:sz=1:=h1.symm;subst h1;cases j with
   |zero=>
    simp only [AV.cells,List.getElem?_cons_zero,Option.some.injEq] at hy;subst hy;simp only [Nat.mul_one,Nat.add_zero,Array.getElem?_map,Option.map_eq_some_iff] at hu;obtain ⟨c',gJ,rfl⟩:=hu;have:b.data[i]? =some c:=by simpa using hc
    rw [this] at gJ;simp only [Option.some.injEq] at gJ;subst gJ;exact ⟨.fr _ _ (.int _ _),rfl⟩
   |succ j=>simp [AV.cells] at hy
  ·simp only [Array.toList_map,List.mem_map] at hu;obtain ⟨c,_,rfl⟩:=hu;rfl
 ·have cE:=nG ae hX hx h hs (fun s hs=>qd ⟨s,hs⟩);obtain ⟨cs,c1,c2,c3,c4⟩:=cE.cells (P:=P) hz;refine ⟨cs,?_,fun m hm=> ?_,c2,c3,c4⟩
  ·rcases cE.out with ⟨rfl,a,cap,rfl⟩|⟨c,o,cap,arr,T,fr,rfl,_⟩<;>simp [Builtin.lenOf]
  ·rcases cE.out with ⟨rfl,a,cap,rfl⟩|⟨c,o,cap,arr,T,fr,rfl,h1,h2,_⟩
   ·simp at hm;subst hm;have:cs= #[]:=Array.eq_empty_of_size_eq_zero (by simpa using c2)
    subst this;cases a with
    |none=>simp [Builtin.firstCells]
    |some a=>simp [Builtin.firstCells,loadCells,loadCellsFrom]
   ·simp only [Builtin.firstCells] at c1⊢;have hle:m*sz≤xs.length*sz:=Nat.mul_le_mul_right _ hm;rw [ke P h1 o (xs.length*sz) h2] at c1;rw [ke P h1 o (m*sz) (by omega)]
    simp only [Result.ok.injEq,and_true] at c1;congr 1;rw [←c1];simp only [Array.extract_extract];congr 1<;>omega
theorem run_append_grow {t tx e:TypeId} {ti te eG:TI} (ht:aT P t ti) (hu:ti.aq= .sl e) (bf:aT P e te) (cy:aT P tx eG) (fK: ∀k,eG.aq≠ .it k) (tys:Array TypeId) (h0:tys[0]? =some t) (h1:tys[1]? =some tx) (ty:TypeId)
 {base:Option Addr} {sLen sCap:Nat} {x:Value} {n:Nat} {gn ig:Array Value} (hlen:(Builtin.lenOf x).run P w= .ok n w) (hS:(Builtin.firstCells te.sz sLen (.slice base sLen sCap)).run P w.drew= .ok gn w.drew)
 (hX:(Builtin.firstCells te.sz n x).run P w.drew= .ok ig w.drew) (sS:gn.size=sLen*te.sz) (sX:ig.size=n*te.sz) (ko:sCap<sLen+n) (jD:roomy (sLen+n) te.bytes=true):
 ∃cap arr,sLen+n≤cap∧(Builtin.append_ tys ty #[.slice base sLen sCap,x]).run P w= .ok (.slice (some ⟨w.heap.size,0,none⟩) (sLen+n) cap) (w.drew.alloc (.cells arr e))∧arr.size=cap*te.sz∧
  ∀j,j<(sLen+n)*te.sz→arr[j]? =(gn ++ ig)[j]? :=by
 obtain ⟨d,hd,nJ⟩:=nI cy fK w;obtain ⟨inf,i1,i2,_⟩:=bf.typeInfo w;obtain ⟨zv,z1,z2,_⟩:=bf.zeroValue w.drew;simp only [roomy,Bool.and_eq_true,decide_eq_true_eq] at jD;obtain ⟨r1,r2⟩:=jD;have qe:(match d with| .int _=>true|_=>false)=false:=by cases d<;>first|rfl|exact absurd rfl (nJ _)
 have hb: ¬(Builtin.nextslicecap (sLen+n) sCap*inf.bytes>2^48):=by
  rw [i2];have h2:=wZ (sLen+n) sCap ko;have h3:Builtin.nextslicecap (sLen+n) sCap*te.bytes≤(2*(sLen+n)+512)*te.bytes:=Nat.mul_le_mul_right _ h2;have h4:(2*(sLen+n)+512)*te.bytes≤2*((sLen+n+512)*te.bytes):=by
   rw [←Nat.mul_assoc];exact Nat.mul_le_mul_right _ (by omega)
  omega
 have nK: ¬(((sLen+n:Nat):Int)>IntKind.i64.max):=by have:IntKind.i64.max=9223372036854775807:=rfl;omega
 let q:Question:= .appendCap (sLen+n) sCap e
 let cap:=q.cut (w.tape w.drawn q)
 have fb:sLen+n≤cap:=Nat.le_add_right _ _
 let arr:=gn ++ ig ++ Builtin.zeroCells zv.cells (cap-(sLen+n))
 have gN:(Builtin.zeroCells zv.cells (cap-(sLen+n))).size=(cap-(sLen+n))*te.sz:=by simp [Builtin.zeroCells,z2]
 refine ⟨cap,arr,fb,?_,?_,fun j hj=> ?_⟩
 ·unfold Builtin.append_;simp only [h0,h1,List.getElem?_toArray,List.getElem?_cons_zero,List.getElem?_cons_succ,Sem.run_bind,ht.sl w hu,Result.andThen_ok,bf.sizeOf,hd,Sem.run_pure];have lG: ¬(sLen+n≤sCap):=by omega
  obtain ⟨w8,nL,w9,_⟩:=bf.typeInfo w.drew;simp only [Bool.false_eq_true,if_false,Bool.not_false,if_true,Sem.run_bind,hlen,Result.andThen_ok,lG,i1,nK,false_and,hb,run_choose,Question.forced,World.drew_eq,nL,run_askRoom];show ((Builtin.firstCells te.sz sLen (.slice base sLen sCap)).run P w.drew).andThen _=_;simp only [hS,hX,Result.andThen_ok,z1,Sem.run_bind,newRow,run_newObj,Sem.run_pure,World.alloc_eq];rfl
 ·simp only [arr,Array.size_append,sS,sX,gN];rw [←Nat.add_mul,←Nat.add_mul];congr 1;omega
 ·have:j<(gn ++ ig).size:=by simp only [Array.size_append,sS,sX];rw [←Nat.add_mul];exact hj
  simp only [arr];rw [Array.getElem?_append_left this]
end ops
end Go.VS
namespace Go.VS
section ops
variable {P:Program} {E:aJ} (hE: ∀t ti,E t=some ti→aT P t ti)
variable {w:World} {G:J} {φ :ag} {A:ah}
theorem lH (ae:St w G φ A):Out w G φ A w.drew G φ A:=
 have aW:bM w G φ A w.drew G φ A:=⟨fun c a t fr hc hn=>⟨⟨fr,hc⟩,hn⟩,Nat.le_refl _,fun i b' ax _=>⟨b',ax,rfl,rfl,rfl,rfl,fun loc hl=>hl⟩,fun c _=>rfl⟩
 ⟨⟨ae.inj,ae.own,ae.ca,fun id loc h=>by
  obtain ⟨b,hb,af⟩:=ae.ap id loc h;refine ⟨b,hb,af.ad,af.sized,af.aQ,fun c b0 hl=> ?_⟩;obtain ⟨arr,T,fr,h1,h2,h3,h4⟩:=af.here c b0 hl;exact ⟨arr,T,fr,h1,h2,h3,fun i x j y v hx hy hv=>⟨(h4 i x j y v hx hy hv).1.mono aW,(h4 i x j y v hx hy hv).2⟩⟩⟩,
  ⟨rfl,rfl,rfl,Nat.le_refl _,fun _ _ _=>rfl,fun _ _=>rfl,fun _ h=> .inl h⟩,aW,fun _ h _=>h⟩
theorem a9.of {H0 H' :J} {r:Result Next} {x:AV} {v:Value} {w' :World} {ak:ag} {A' :ah} (hr:r= .ok (.value v) w') (hx:R w' G ak A' x v) (ho:Out w G φ A w' G ak A')
 (bU: ∀id loc,ak id=some loc→ φ id=some loc∨(H0.bs.length≤id∧id<H'.bs.length)):a9 w G φ A H0 H' r x:=⟨_,v,w',ak,A',hr,.inl rfl,hx,ho,bU⟩
include hE in
theorem qf {H0 H' :J} (ae:St w G φ A) (hX:a4 H' G) (bw:H0.bs.length<H'.bs.length→ φ H0.bs.length=none) {t tx:TypeId} {tys:Array TypeId} {ty:TypeId} (h0:tys[0]? =some t) (h1:tys[1]? =some tx) {te eG:TI} (bf:cm E t=some te)
 (cy:E tx=some eG) {k:IntKind} (hit:eG.aq= .it k) {n:Int} {z:AV} {a b:Value} (hs:R w G φ A .nil a) (hx:R w G φ A (.int .i64 n) b) (h:jm te n H0=some (z,H')):
 a9 w G φ A H0 H' ((do pure (.value (←Builtin.append_ tys ty #[a,b])):Sem Next).run P w) z:=by
 obtain ⟨ti,e,ht,hu,ci⟩:=iN bf;have e1:=hs.cY;have e2:=hx.cx;subst e1;subst e2;unfold jm at h;split at h
 rotate_left
 ·simp at h
 rename_i zA hz;split at h
 rotate_left
 ·simp at h
 rename_i hcnd;obtain ⟨c0,c2,c3⟩:=hcnd;obtain ⟨inf,i1,i2,_⟩:=(hE _ _ ci).typeInfo w;simp only [roomy,Bool.and_eq_true,decide_eq_true_eq] at c2;obtain ⟨r1,r2⟩:=c2;have hn:IntKind.i64.wrap n=n:=IntWalk.i64_in n (by omega)
 have e1:(n.toNat+512)*te.bytes=n.toNat*te.bytes+512*te.bytes:=Nat.add_mul _ _ _;have hb: ¬(n*(inf.bytes:Int)>2^48):=by
  rw [i2];have e2:n*((te.bytes:Int))=((n.toNat*te.bytes:Nat):Int):=by
   rw [Int.natCast_mul,Int.toNat_of_nonneg (by omega)]
  rw [e2];omega
 have hd:=(hE _ _ cy).kb (w:=w) hit;have t1: ¬(IntKind.i64.wrap n<0):=by rw [hn];omega
 have ax: ¬(IntKind.i64.wrap n*(inf.bytes:Int)>2^48):=by rw [hn];exact hb
 by_cases nM:n=0
 ·rw [if_pos nM] at h;simp only [Option.some.injEq,Prod.mk.injEq] at h;obtain ⟨rfl,rfl⟩:=h;subst nM;refine a9.val ae ?_ (.fr _ _ .nil);unfold Builtin.append_;simp only [h0,h1,List.getElem?_toArray,List.getElem?_cons_zero,List.getElem?_cons_succ,Sem.run_bind,(hE _ _ ht).sl w hu,Result.andThen_ok,(hE _ _ ci).sizeOf,hd,Sem.run_pure,asInt,asIntOf];simp only [t1,if_true,if_false,Sem.run_bind,Sem.run_pure,Result.andThen_ok,i1,ax];rw [hn];simp
 ·rw [if_neg nM] at h;simp only [Option.some.injEq,Prod.mk.injEq] at h;obtain ⟨rfl,rfl⟩:=h;have dL:=lH ae;obtain ⟨zv,z1,z2,z3,z5⟩:=p7 (hE _ _ ci) hz w.drew;obtain ⟨w8,nL,w9,_⟩:=(hE _ _ ci).typeInfo w.drew
  let q:Question:= .appendCap n.toNat 0 e
  let cap:=q.cut (w.tape w.drawn q)
  have fb:n.toNat≤cap:=Nat.le_add_right _ _
  let arr:=Builtin.zeroCells zv.cells n.toNat ++ Builtin.zeroCells zv.cells (cap-n.toNat)
  have gN: ∀m,(Builtin.zeroCells zv.cells m).size=m*te.sz:=fun m=>by simp [Builtin.zeroCells,z2]
  have w_:Builtin.nextslicecap n.toNat 0=n.toNat:=by unfold Builtin.nextslicecap;rw [if_pos (by omega)]
  have fg: ¬(n.toNat*inf.bytes>2^48):=by rw [i2];omega
  have nK: ¬((n.toNat:Int)>IntKind.i64.max):=by have:IntKind.i64.max=9223372036854775807:=rfl;omega
  have aK: ¬(n.toNat*te.sz=0):=by
   intro h0;rcases Nat.mul_eq_zero.1 h0 with h0|h0<;>omega
  have cH:(Builtin.append_ tys ty #[.slice none 0 0,.int .i64 n]).run P w= .ok (.slice (some ⟨w.heap.size,0,none⟩) n.toNat cap) (w.drew.alloc (.cells arr e)):=by
   unfold Builtin.append_;simp only [h0,h1,List.getElem?_toArray,List.getElem?_cons_zero,List.getElem?_cons_succ,Sem.run_bind,(hE _ _ ht).sl w hu,Result.andThen_ok,(hE _ _ ci).sizeOf,hd,Sem.run_pure,asInt,asIntOf];simp only [t1,if_true,if_false,Sem.run_bind,Sem.run_pure,Result.andThen_ok,i1,ax];rw [hn];have lG: ¬(n.toNat≤0):=by omega
   have kq: ¬(Builtin.nextslicecap n.toNat 0*inf.bytes>2^48):=by rw [w_];exact fg
   simp only [Nat.zero_add];rw [if_neg lG];simp only [if_false,Sem.run_bind,Sem.run_pure,Result.andThen_ok,i1,nK,false_and,kq,run_choose,Question.forced,World.drew_eq,nL,run_askRoom,Builtin.firstCells,aK,z1,newRow,run_newObj,World.alloc_eq,Array.empty_append,Bool.not_true,Bool.false_eq_true];rfl
  have dI:arr.size=cap*te.sz:=by
   simp only [arr,Array.size_append,gN];rw [←Nat.add_mul];congr 1;omega
  have cB: ∀(i:Nat) (x:AV),(List.replicate n.toNat zA)[i]? =some x→x.cells.length=te.sz:=by
   intro i x hx;simp only [List.getElem?_replicate] at hx;split at hx
   ·simp only [Option.some.injEq] at hx;subst hx;exact z3
   ·simp at hx
  have iL: ∀(i:Nat) (x:AV) (j:Nat) (y:AV) (v:Value),(List.replicate n.toNat zA)[i]? =some x→x.cells[j]? =some y→arr[i*te.sz+j]? =some v→R w.drew G φ A y v∧v.oneCell' =true:=by
   intro i x j y v hx hy hv;simp only [List.getElem?_replicate] at hx;split at hx
   ·rename_i hi;simp only [Option.some.injEq] at hx;subst hx;have hj:j<te.sz:=by rw [←z3];exact (List.getElem?_eq_some_iff.1 hy).1
    have aw:i*te.sz+j<n.toNat*te.sz:=by have:=cD (n:=te.sz) hi;omega
    simp only [arr] at hv;rw [Array.getElem?_append_left (by rw [gN];exact aw)] at hv
    have bg:zv.cells[j]? =some v:=by
     refine kl z2 hi hj ?_;rw [←hv];simp only [Builtin.zeroCells,z2]
    have:=z5 w.drew A j y v hy bg;exact ⟨.fr _ _ this.1,this.2⟩
   ·simp at hx
  obtain ⟨ak,A',bE,aY,bU⟩:=jy (arr:=arr) e dL.st hX (bw (by simp [J.new])) cB (by rw [dI];simpa using Nat.mul_le_mul_right _ fb) iL
  have hg:=hX.1 _ _ (J.dX H0 te.sz false (List.replicate n.toNat zA));exact a9.of (by simp only [Sem.run_bind,cH,Result.andThen_ok,Sem.run_pure];rfl) (jz hg (Nat.lt_of_lt_of_le (Nat.lt_succ_self _) hX.2) aY (by simp) fb (by simpa using fb) (by rw [kj,dI];exact Nat.le_refl _)) (dL.trans ae bE) bU
include hE in
theorem nN {H0 H' :J} (ae:St w G φ A) (fh:a4 H0 G) (hX:a4 H' G) (bw:H0.bs.length<H'.bs.length→ φ H0.bs.length=none) {t tx:TypeId} {tys:Array TypeId} {ty:TypeId} (h0:tys[0]? =some t) (h1:tys[1]? =some tx) {te eG:TI} (bf:cm E t=some te)
 (cy:E tx=some eG) (fK: ∀k,eG.aq≠ .it k) {s x z:AV} {a b:Value} (hs:R w G φ A s a) (hx:R w G φ A x b) (hq:s= .nil∨s= .e0) (h:dw te s x H0=some (z,H')):
 a9 w G φ A H0 H' ((do pure (.value (←Builtin.append_ tys ty #[a,b])):Sem Next).run P w) z:=by
 obtain ⟨ti,e,ht,hu,ci⟩:=iN bf;obtain ⟨base,rfl⟩: ∃base,a= .slice base 0 0:=by
  rcases hq with rfl|rfl
  ·exact ⟨none,hs.cY⟩
  ·obtain ⟨a0,rfl⟩:=hs.eD;exact ⟨a0,rfl⟩
 unfold dw at h;split at h
 ·simp at h
 ·rename_i xs dM;split at h
  ·simp at h
  ·rename_i aH;simp only [Bool.not_eq_true',Bool.not_eq_false] at aH;split at h
   ·simp at h
   ·rename_i hz;have hz:0<te.sz:=by omega
    obtain ⟨cs,cI⟩:=jC (P:=P) ae fh hx dM aH hz;have qg:xs.length=0→a9 w G φ A H0 H0 ((do pure (.value (←Builtin.append_ tys ty #[.slice base 0 0,b])):Sem Next).run P w) s:=by
     intro hl;refine a9.val ae ?_ hs;obtain ⟨d,hd,nJ⟩:=nI (hE _ _ cy) fK w;have hc:=cI.run 0 (by omega)
     have dc:=cI.len;rw [hl] at dc;simp only [Nat.zero_mul,Array.extract_zero] at hc;unfold Builtin.append_;simp only [h0,h1,List.getElem?_toArray,List.getElem?_cons_zero,List.getElem?_cons_succ,Sem.run_bind,(hE _ _ ht).sl w hu,Result.andThen_ok,(hE _ _ ci).sizeOf,hd,Sem.run_pure];simp only [Bool.false_eq_true,if_false,Bool.not_false,if_true,Sem.run_bind,dc,Result.andThen_ok,Nat.add_zero,Nat.le_refl,hc];cases base with
     |none=>simp
     |some p=>simp [storeCells]
    have qh: ∀{v:Nat},0<xs.length→roomy xs.length te.bytes=true→a4 (H0.new te.sz false xs) G→ φ H0.bs.length=none→v=xs.length→
     a9 w G φ A H0 (H0.new te.sz false xs) ((do pure (.value (←Builtin.append_ tys ty #[.slice base 0 0,b])):Sem Next).run P w) (.ref H0.bs.length H0.st 0 xs.length):=by
     intro v hl hr hX xa _;have dL:=lH ae;have hc:(Builtin.firstCells te.sz 0 (.slice base 0 0)).run P w.drew= .ok #[] w.drew:=by
      cases base with
      |none=>simp [Builtin.firstCells]
      |some p=>simp [Builtin.firstCells,loadCells,loadCellsFrom]
     obtain ⟨aU,eO⟩:=jC (P:=P) dL.st fh (hx.mono dL.bW) dM aH hz;have de:=eO.run xs.length (Nat.le_refl _);rw [←eO.size] at de;simp only [Array.extract_size] at de;obtain ⟨cap,arr,k1,k2,k3,k4⟩:=run_append_grow (P:=P) (w:=w) (hE _ _ ht) hu (hE _ _ ci) (hE _ _ cy) fK tys h0 h1 ty cI.len hc de (by simp) eO.size (by omega) (by simpa using hr)
     simp only [Nat.zero_add] at k1 k2 k4;have cB: ∀(i:Nat) (x:AV),xs[i]? =some x→x.cells.length=te.sz:=fun i x hi=>gM aH hi;have hle:xs.length*te.sz≤cap*te.sz:=Nat.mul_le_mul_right _ k1;obtain ⟨ak,A',bE,aY,bU⟩:=jy (arr:=arr) e dL.st hX xa cB (by rw [k3];exact hle) (fun i x j y v hi hy hv=>by
      have cc:i<xs.length:=(List.getElem?_eq_some_iff.1 hi).1;have dN:j<x.cells.length:=(List.getElem?_eq_some_iff.1 hy).1;have:=cB i x hi;have:=cD (n:=te.sz) cc;rw [k4 _ (by omega)] at hv
      simp only [Array.empty_append] at hv;exact eO.rel i x j y v hi hy hv)
     have hg:=hX.1 _ _ (J.dX H0 te.sz false xs);exact a9.of (by simp [k2]) (jz hg (Nat.lt_of_lt_of_le (Nat.lt_succ_self _) hX.2) aY (Nat.le_refl _) k1 k1 (by
      have:=kj w.drew arr e;rw [this,k3];exact Nat.le_refl _)) (dL.trans ae bE) bU
    rcases hq with rfl|rfl
    ·simp only at h;split at h
     ·rename_i hl;simp only [Option.some.injEq,Prod.mk.injEq] at h;obtain ⟨rfl,rfl⟩:=h;exact qg hl
     ·rename_i hl;split at h
      ·rename_i hr;simp only [Option.some.injEq,Prod.mk.injEq] at h;obtain ⟨rfl,rfl⟩:=h;exact qh (by omega) hr hX (bw (by simp [J.new])) rfl
      ·simp at h
    ·simp only at h;split at h
     ·rename_i hl;simp only [Option.some.injEq,Prod.mk.injEq] at h;obtain ⟨rfl,rfl⟩:=h;exact qg hl
     ·rename_i hl;split at h
      ·rename_i hr;simp only [Option.some.injEq,Prod.mk.injEq] at h;obtain ⟨rfl,rfl⟩:=h;exact qh (by omega) hr hX (bw (by simp [J.new])) rfl
      ·simp at h
include hE in
theorem xb {H0 H' :J} (ae:St w G φ A) (fh:a4 H0 G) (hX:a4 H' G) (bw:H0.bs.length<H'.bs.length→ φ H0.bs.length=none) {src dst:TypeId} {x z:AV} {a:Value} (hx:R w G φ A x a)
 (h:(match (generalizing:=false) E src,E dst,x with
 |some _,some td,.int _ n=>match td.aq with
  | .it k=>some (AV.int k (k.wrap n),H0)
  |_=>none
 |some _,some td,.str l=>match td.aq with
  | .str=>some (.str l,H0)
  | .sl e=>match E e with
   |some te=>match te.aq with
    | .it .u8=>if te.sz=1∧te.bytes=1∧l.length≤2^45 then some (.ref H0.bs.length H0.st 0 l.length,H0.new 1 false (l.map fun b=> .int .u8 b.toNat)) else none
    |_=>none
   |none=>none
  |_=>none
 |some ts,some td,x=>match ts.aq,td.aq with
  | .sl e,.str=>match E e with
   |some te=>match te.aq with
    | .it .u8=>match ct H0 x with
     |some xs=>if te.sz=1 then (match ((bytesOf xs).map AV.str) with|some v=>some (v,H0)|none=>none) else none
     |none=>none
    |_=>none
   |none=>none
  |_,_=>none
 |_,_,_=>none)=some (z,H')):a9 w G φ A H0 H' ((do pure (.value (←convert src dst a)):Sem Next).run P w) z:=by
 have ef:(∃s,x= .str s)∨ ∀s,x≠ .str s:=by
  by_cases h: ∃s,x= .str s
  ·exact .inl h
  ·exact .inr fun s hs=>h ⟨s,hs⟩
 split at h
 ·rename_i ts td k n h1 h2;have e1:=hx.cx;subst e1;split at h
  ·rename_i k' hu
   simp only [Option.some.injEq,Prod.mk.injEq] at h;obtain ⟨rfl,rfl⟩:=h;obtain ⟨i,d,zz,_,hd,_⟩:=(hE _ _ h1).out;refine a9.val ae ?_ (.fr _ _ (.int _ _));simp only [Sem.run_bind,convert,run_underlying hd,(hE _ _ h2).kb w hu,Result.andThen_ok];cases d<;>rfl
  ·simp at h
 ·rename_i ts td l h1 h2;obtain ⟨s,rfl,rfl⟩:=hx.eL;obtain ⟨i,d,zz,_,hd,_⟩:=(hE _ _ h1).out;split at h
  ·rename_i hu;simp only [Option.some.injEq,Prod.mk.injEq] at h;obtain ⟨rfl,rfl⟩:=h;refine a9.val ae ?_ hx;simp only [Sem.run_bind,convert,run_underlying hd,(hE _ _ h2).iH w hu,Result.andThen_ok];cases d<;>rfl
  ·rename_i e hu;split at h
   ·rename_i te h3;split at h
    ·rename_i nO;split at h
     ·rename_i hc;simp only [Option.some.injEq,Prod.mk.injEq] at h;obtain ⟨rfl,rfl⟩:=h;have hl:s.data.toList.length=s.size:=Array.length_toList;have dL:=lH ae
      let q:Question:= .appendCap s.size 0 e
      let cap:=q.cut (w.tape w.drawn q)
      have fb:s.size≤cap:=Nat.le_add_right _ _
      let arr:Array Value:=(s.data.map fun b=>Value.int .u8 b.toNat) ++ Array.replicate (cap-s.size) (.int .u8 0)
      have dI:arr.size=cap:=by
       simp only [arr,Array.size_append,Array.size_map,Array.size_replicate];have:s.data.size=s.size:=rfl;omega
      obtain ⟨ak,A',bE,aY,bU⟩:=p6 (arr:=arr) (arr.size,arr.size+1) e dL.st hX (bw (by simp [J.new])) (fun i x hi=>by
       simp only [List.getElem?_map,Option.map_eq_some_iff] at hi;obtain ⟨c,_,rfl⟩:=hi;rfl) (by rw [List.length_map,hl,dI];omega) (fun j hj h=>by have:=h.1;simp only at this;omega) (fun i x j y v hi hy hv=>by
       simp only [List.getElem?_map,Option.map_eq_some_iff] at hi;obtain ⟨c,hc,rfl⟩:=hi;cases j with
       |zero=>
        simp only [AV.cells,List.getElem?_cons_zero,Option.some.injEq] at hy;subst hy;simp only [Nat.mul_one,Nat.add_zero] at hv;have hi:i<s.data.size:=by rw [←Array.length_toList];exact (List.getElem?_eq_some_iff.1 hc).1
        simp only [arr] at hv;rw [Array.getElem?_append_left (by simpa using hi)] at hv
        simp only [Array.getElem?_map,Option.map_eq_some_iff] at hv;obtain ⟨c',gJ,rfl⟩:=hv;have:s.data[i]? =some c:=by simpa using hc
        rw [this] at gJ;simp only [Option.some.injEq] at gJ;subst gJ;exact ⟨.fr _ _ (.int _ _),rfl⟩
       |succ j=>simp [AV.cells] at hy)
      have hg:=hX.1 _ _ (J.dX H0 1 false (s.data.toList.map fun b=>AV.int .u8 b.toNat));have cH:(convert src dst (.string s)).run P w= .ok (.slice (some ⟨w.heap.size,0,none⟩) s.size cap) (w.drew.alloc (.cells arr e (arr.size,arr.size+1))):=by
       have e2:(convert src dst (.string s)).run P w=(Conv.stringToBytes e s).run P w:=by
        simp only [convert,Sem.run_bind,run_underlying hd,(hE _ _ h2).sl w hu,Result.andThen_ok];have:=(hE _ _ h3).kb w nO;cases d<;>simp [this]
       rw [e2];unfold Conv.stringToBytes;simp only [Sem.run_bind,run_choose,Question.forced,Bool.false_eq_true,if_false,World.drew_eq,Result.andThen_ok,newRow,run_newObj,World.alloc_eq,Sem.run_pure];have fi:((w.drew.alloc (.cells arr e)).shape? w.drew.heap.size)=some (e,arr.size):=by
        unfold World.shape?;rw [heap_alloc_new]
       simp only [markStringish,Sem.run_bind,run_shape,Result.andThen_ok];rw [show (w.drew.alloc (.cells ((s.data.map fun b=>Value.int .u8 b.toNat) ++ Array.replicate (q.cut (w.tape w.drawn q)-s.size) (.int .u8 0)) e))=w.drew.alloc (.cells arr e) from rfl];rw [fi];simp only [run_freeze,Result.andThen_ok];congr 1;unfold World.freeze;simp only [Nat.one_ne_zero,if_false];have: ∀(h:Array Obj) (o:Obj) (f:Obj→Obj),(h.push o).modify h.size f=h.push (f o):=by
        intro h o f;apply Array.ext
        ·simp
        ·intro i h1 h2;simp only [Array.getElem_modify,Array.getElem_push];simp at h1;by_cases hi:h.size=i
         ·subst hi;simp
         ·have:i<h.size:=by omega
          simp [hi,this]
       show ({w.drew.alloc (.cells arr e) with heap:=(w.drew.heap.push (.cells arr e)).modify w.drew.heap.size _}:World)=_;rw [this];rfl
      refine a9.of (by simp [cH];rfl) ?_ (dL.trans ae bE) bU
      rw [hl];exact jz hg (Nat.lt_of_lt_of_le (Nat.lt_succ_self _) hX.2) aY (by simp [hl]) fb (by simp [hl];exact fb) (by
       have:a_ (w.drew.alloc (.cells arr e (arr.size,arr.size+1))) w.heap.size=arr.size:=by
        unfold a_;rw [show w.heap.size=w.drew.heap.size from rfl,heap_alloc_new]
       rw [this,dI];simp)
     ·simp at h
    ·simp at h
   ·simp at h
  ·simp at h
 ·rename_i x o1 o2 x' ts td h1 h2 Ah lI
  replace lI: ∀s,x≠AV.str s:=by
   rcases ef with ⟨s,rfl⟩|hn
   ·exact (lI s rfl).elim
   ·exact hn
  split at h
  ·rename_i e dr a8;split at h
   ·rename_i te h3;split at h
    ·rename_i nO;split at h
     ·rename_i xs dM;split at h
      ·split at h
       ·rename_i v hv;simp only [Option.some.injEq,Prod.mk.injEq] at h;obtain ⟨rfl,rfl⟩:=h;simp only [Option.map_eq_some_iff] at hv;obtain ⟨l,hl,rfl⟩:=hv;obtain ⟨u,hu,hr⟩:=wY hE ae fh hx dM hl lI;refine a9.val ae ?_ hr;have ha: ∃a0 l0 c0,a= .slice a0 l0 c0:=by
         obtain ⟨ns,lJ,_⟩:=qc hl;have cE:=nG ae fh hx dM (sz:=1) (by rw [lJ];simp [bC,AV.cells]) lI
         rcases cE.out with ⟨_,a0,c0,rfl⟩|⟨c,o,cap,arr,T,fr,rfl,_⟩
         ·exact ⟨_,_,_,rfl⟩
         ·exact ⟨_,_,_,rfl⟩
        obtain ⟨a0,l0,c0,rfl⟩:=ha;have e3:=(hE _ _ h3).kb w nO;simp only [Sem.run_bind,convert,(hE _ _ h1).sl w dr,(hE _ _ h2).iH w a8,Result.andThen_ok];cases a0<;>simp [e3,hu]
       ·simp at h
      ·simp at h
     ·simp at h
    ·simp at h
   ·simp at h
  ·simp at h
 ·simp at h
end ops
end Go.VS
namespace Go.VS
section ops
variable {P:Program} {E:aJ} (hE: ∀t ti,E t=some ti→aT P t ti)
variable {w:World} {G:J} {φ :ag} {A:ah}
theorem a9.fj {H0 H' :J} {sv:Sem Value} {x:AV} (ae:St w G φ A) (h: ∃v,sv.run P w= .ok v w∧R w G φ A x v):a9 w G φ A H0 H' ((do pure (.value (←sv)):Sem Next).run P w) x:=by
 obtain ⟨v,hv,hx⟩:=h;exact a9.val ae (by simp [hv]) hx
include hE in
theorem nP {H0 H' :J} (ae:St w G φ A) (fh:a4 H0 G) (hX:a4 H' G) (bw:H0.bs.length<H'.bs.length→ φ H0.bs.length=none) {o:Oper} {s:aj} {ρ :Operand→Value} {z:AV} (hq:dF o.op=true)
 (aR: ∀y∈o.op.operands,R w G φ A (ev s y) (ρ y)) (h:aL E o.op s H0=some (z,H')):a9 w G φ A H0 H' ((execOp ρ o).run P w) z:=by
 obtain ⟨dst,op,type,pos,after,guard⟩:=o;simp only at hq aR h;cases op with
 |move x=>
  simp only [aL,Option.some.injEq,Prod.mk.injEq] at h;obtain ⟨rfl,rfl⟩:=h;exact a9.val ae rfl (aR x (by simp [Op.operands]))
 |assign x=>
  simp only [aL,Option.some.injEq,Prod.mk.injEq] at h;obtain ⟨rfl,rfl⟩:=h;exact a9.val ae rfl (aR x (by simp [Op.operands]))
 |pick c a b=>
  have hc:=aR c (by simp [Op.operands])
  have ha:=aR a (by simp [Op.operands])
  have hb:=aR b (by simp [Op.operands])
  simp only [aL] at h;split at h
  ·rename_i t ht;rw [ht] at hc;have e1:=hc.eK;simp only [Option.some.injEq,Prod.mk.injEq] at h;obtain ⟨rfl,rfl⟩:=h;refine a9.val ae (v:=if t then ρ a else ρ b) (by simp [execOp,asBool,e1]) ?_
   cases t
   ·exact hb
   ·exact ha
  ·simp at h
 |binOp op t x y ty=>
  have hx:=aR x (by simp [Op.operands])
  have hy:=aR y (by simp [Op.operands])
  simp only [aL] at h;have key: ∀z,aI E op t (ev s x) (ev s y)=some z→((∃u,y= .const u)∨ ∀e,ev s y≠ .cf e)→a9 w G φ A H0 H0 ((execOp ρ {dst,op:= .binOp op t x y ty,type,pos,after,guard}).run P w) z:=
   fun z hz hc=>a9.fj ae (wo hE hx hy x y hc hz)
  split at h
  ·rename_i u;split at h
   ·rename_i v hv;simp only [Option.some.injEq,Prod.mk.injEq] at h;obtain ⟨rfl,rfl⟩:=h;exact key _ hv (.inl ⟨u,rfl⟩)
   ·simp at h
  ·split at h
   ·simp at h
   ·rename_i he;split at h
    ·rename_i v hv;simp only [Option.some.injEq,Prod.mk.injEq] at h;obtain ⟨rfl,rfl⟩:=h;exact key _ hv (.inr he)
    ·simp at h
 |unOp op t x=>
  have hx:=aR x (by simp [Op.operands])
  simp only [aL] at h;split at h
  ·rename_i v hv;simp only [Option.some.injEq,Prod.mk.injEq] at h;obtain ⟨rfl,rfl⟩:=h;exact a9.fj ae (wb P hx hv)
  ·simp at h
 |extract x i=>
  have hx:=aR x (by simp [Op.operands])
  simp only [aL] at h;split at h
  ·rename_i vs dA;rw [dA] at hx;obtain ⟨us,dr,hl,hp⟩:=hx.lv;split at h
   ·rename_i v hv;simp only [Option.some.injEq,Prod.mk.injEq] at h;obtain ⟨rfl,rfl⟩:=h;have hi:i<us.size:=by rw [←hl];exact (List.getElem?_eq_some_iff.1 hv).1
    exact a9.fj ae ⟨us[i],by simp [Instr.extract,dr,Array.getElem?_eq_getElem hi],hp i _ _ hv (Array.getElem?_eq_getElem hi)⟩
   ·simp at h
  ·simp at h
 |nilCheck x=>
  have hx:=aR x (by simp [Op.operands])
  simp only [aL] at h;split at h
  ·rename_i a b c d hv;rw [hv] at hx;split at h
   ·rename_i bl hb;simp only [Option.some.injEq,Prod.mk.injEq] at h;obtain ⟨rfl,rfl⟩:=h;obtain ⟨_,_,hp⟩:=hx.fc;obtain ⟨c0,b0,_,ck⟩:=hp _ (fh.ap hb);exact a9.val ae (by simp only [execOp,ck];rfl) (by rw [ck] at hx;exact hx)
   ·simp at h
  ·rename_i y o hv;rw [hv] at hx;simp only [Option.some.injEq,Prod.mk.injEq] at h;obtain ⟨rfl,rfl⟩:=h;obtain ⟨c,p,arr,T,fr,ck,_⟩:=eC hx.eC;exact a9.val ae (by simp only [execOp,ck];rfl) (by rw [ck] at hx;exact hx)
  ·simp at h
 |convert src dst x=>
  have hx:=aR x (by simp [Op.operands])
  simp only [aL] at h;exact xb hE ae fh hX bw hx h
 |field t x f=>
  have hx:=aR x (by simp [Op.operands])
  simp only [aL] at h;exact a9.fj ae (wz hE hx h)
 |fieldAddr t x f=>
  have hx:=aR x (by simp [Op.operands])
  simp only [aL] at h;exact a9.fj ae (wj hE fh hx h)
 |indexAddr t x i=>
  have hx:=aR x (by simp [Op.operands])
  have hi:=aR i (by simp [Op.operands])
  simp only [aL] at h;exact a9.fj ae (wy hE fh hx hi h)
 |index t x i=>
  have hx:=aR x (by simp [Op.operands])
  have hi:=aR i (by simp [Op.operands])
  simp only [aL] at h;exact a9.fj ae (wA hE hx hi h)
 |load t x=>
  have hx:=aR x (by simp [Op.operands])
  simp only [aL] at h;exact a9.fj ae (pW hE ae fh hx h)
 |alloc t=>
  simp only [aL] at h;exact wK hE ae hX bw h
 |box t x=>
  have hx:=aR x (by simp [Op.operands])
  simp only [aL] at h;exact wL hE ae hX bw hx h
 |build t parts=>
  have hp: ∀p∈parts.toList,R w G φ A (ev s p.2) (ρ p.2):=fun p hp=>aR p.2 (by simp [Op.operands];exact ⟨p.1,by simpa using hp⟩)
  simp only [aL] at h;exact a9.fj ae (wS hE hp h)
 |buildSlice t len parts=>
  have hp: ∀p∈parts.toList,R w G φ A (ev s p.2) (ρ p.2):=fun p hp=>aR p.2 (by simp [Op.operands];exact ⟨p.1,by simpa using hp⟩)
  simp only [aL] at h;exact wT hE ae hX bw hp h
 |makeSlice t l c=>
  have hl:=aR l (by simp [Op.operands])
  have hc:=aR c (by simp [Op.operands])
  simp only [aL] at h;exact wN hE ae hX bw hl hc h
 |slice t x lo hi mx=>
  have hx:=aR x (by simp [Op.operands])
  have nQ: ∀(q:Option Operand) (r:Option Int),(∀y,q=some y→R w G φ A (ev s y) (ρ y))→dT (q.map (ev s))=some r→eM r (q.map ρ):=by
   intro q r hq hr;refine wB (w:=w) (G:=G) (φ := φ) (A:=A) hr ?_;cases q with
   |none=>exact .inl ⟨rfl,rfl⟩
   |some y=>exact .inr ⟨_,_,rfl,rfl,hq y rfl⟩
  simp only [aL] at h;split at h
  ·rename_i l' h' m' e1 e2 e3
   split at h
   ·rename_i v hv;simp only [Option.some.injEq,Prod.mk.injEq] at h;obtain ⟨rfl,rfl⟩:=h;refine a9.fj ae (wF hE fh hx (nQ lo l' (fun y hy=>aR y ?_) e1) (nQ hi h' (fun y hy=>aR y ?_) e2) (nQ mx m' (fun y hy=>aR y ?_) e3) hv)<;>simp [Op.operands,hy]
   ·simp at h
  ·simp at h
 |makeFunc fn first cap=>
  cases fn with
  |func f=>
   simp only [aL] at h;split at h
   ·rename_i hf;simp only [Option.some.injEq,Prod.mk.injEq] at h;obtain ⟨rfl,rfl⟩:=h;have xc:first= #[]:=Array.eq_empty_of_size_eq_zero hf
    subst xc;refine a9.fj ae ⟨.func (.func f) #[] (cap.map ρ),by simp [Instr.makeFunc],R.fn f (cap.toList.map (ev s)) (cap.map ρ) (by simp) fun i x v hx hv=> ?_⟩
    simp only [List.getElem?_map,Option.map_eq_some_iff,Array.getElem?_map,Array.getElem?_toList] at hx hv;obtain ⟨y,hy,rfl⟩:=hx;obtain ⟨y',ei,rfl⟩:=hv;rw [hy] at ei;simp only [Option.some.injEq] at ei;subst ei;exact aR y (by simp [Op.operands];exact Array.mem_of_getElem? hy)
   ·simp at h
  |_=>simp [aL] at h
 |_=>simp [dF] at hq
end ops
end Go.VS
namespace Go.VS
structure kr (w:World) (c:Nat) (o:Obj) (w' :World):Prop where
 here:w'.heap[c]? =some o
 other: ∀k,k≠c→w'.heap[k]? =w.heap[k]?
 size:w'.heap.size=w.heap.size
 os:w'.os=w.os
 tape:w'.tape=w.tape
 output:w'.output=w.output
theorem xd {w:World} {c:Nat} {arr:Array Value} {T:TypeId} {fr:Nat×Nat} (h:w.heap[c]? =some (.cells arr T fr)) (p:Nat) (v:Value):
 kr w c (.cells (arr.setIfInBounds p v) T fr) (w.setCell ⟨c,p,none⟩ v):=by
 refine ⟨?_,fun k hk=> ?_,by simp,rfl,rfl,rfl⟩
 ·simp only [World.setCell,Array.getElem?_modify,if_true,h,Option.map_some];rfl
 ·simp only [World.setCell,Array.getElem?_modify];rw [if_neg (fun e=>hk e.symm)]
theorem lK (P:Program) (c p:Nat) (T:TypeId) (fr:Nat×Nat): ∀(vs:List Value) (i:Nat) (arr:Array Value) (w:World),w.heap[c]? =some (.cells arr T fr)→
 (∀j,j<arr.size→ ¬(fr.1≤j∧j<fr.2))→p+i+vs.length≤arr.size→(∀u∈vs,u.oneCell' =true)→
 ∃w' arr',(storeCells ⟨c,p,none⟩ vs i).run P w= .ok () w' ∧kr w c (.cells arr' T fr) w' ∧arr'.size=arr.size∧
  ∀m,arr'[m]? =if p+i≤m∧m<p+i+vs.length then vs[m-(p+i)]? else arr[m]?
 |[],i,arr,w,h,_,_,_=>⟨w,arr,by simp [storeCells],⟨h,fun _ _=>rfl,rfl,rfl,rfl,rfl⟩,rfl,fun m=>by rw [if_neg (by simp only [List.length_nil];omega)]⟩
 |v::vs,i,arr,w,h,hf,hl,ho=>by
  simp only [List.length_cons] at hl;have aw:p+i<arr.size:=by omega
  have hc:w.cell? ⟨c,p+i,none⟩=some arr[p+i]:=by rw [lz h];exact Array.getElem?_eq_getElem aw
  have iI:w.frozen? ⟨c,p+i,none⟩=false:=by
   unfold World.frozen?;simp only [h];have:=hf (p+i) aw;simp only [Bool.and_eq_false_iff,decide_eq_false_iff_not];by_cases h1:fr.1≤p+i
   ·right;exact fun h2=>this ⟨h1,h2⟩
   ·left;exact h1
  have hu:=xd h (p+i) v;obtain ⟨w',arr',e1,e2,e3,e4⟩:=lK P c p T fr vs (i+1) (arr.setIfInBounds (p+i) v) (w.setCell ⟨c,p+i,none⟩ v) hu.here (by simpa using hf) (by simp;omega) (fun u hu=>ho u (by simp [hu]))
  refine ⟨w',arr',?_,⟨e2.here,fun k hk=>(e2.other k hk).trans (hu.other k hk),e2.size.trans hu.size,e2.os.trans hu.os,e2.tape.trans hu.tape,e2.output.trans hu.output⟩,by rw [e3];simp,fun m=> ?_⟩
  ·simp only [storeCells,Sem.run_bind,gK,run_store P w ⟨c,p+i,none⟩ v .plain (ho v (by simp)),hc,iI,Bool.false_eq_true,if_false,Result.andThen_ok]
   exact e1
  ·rw [e4,Array.getElem?_setIfInBounds];simp only [List.length_cons];by_cases hm:m=p+i
   ·subst hm;rw [if_neg (by omega)]
    simp only [if_true];rw [if_pos aw,if_pos (by omega)]
    simp
   ·by_cases kh:p+(i+1)≤m∧m<p+(i+1)+vs.length
    ·rw [if_pos kh,if_pos (by omega)]
     obtain ⟨q,rfl⟩: ∃q,m=p+i+1+q:=⟨m-(p+i+1),by omega⟩
     have e1:p+i+1+q-(p+(i+1))=q:=by omega
     have e2:p+i+1+q-(p+i)=q+1:=by omega
     rw [e1,e2];rfl
    ·rw [if_neg kh,if_neg (by omega),if_neg (by omega)]
theorem J.ii {H:J} {id:Nat} {b0 b:bI} (h:H.get id=some b0) (k:Nat):(H.bq id b).get k=if k=id then some b else H.get k:=by
 have aw:=J.ib h;unfold J.bq J.get;simp only [List.getElem?_set];by_cases hk:id=k
 ·subst hk;simp [aw]
 ·rw [if_neg hk,if_neg (fun e=>hk e.symm)]
section ops
variable {P:Program} {E:aJ}
variable {w:World} {H:J} {φ :ag} {A:ah}
def cd (w:World) (H:J) (φ :ag) (A:ah) (H' :J) (r:Result Next) (x:AV):Prop:=
 ∃n v w' ak A',r= .ok n w' ∧(n= .value v∨(n= .skip∧v=undef))∧R w' H' ak A' x v∧Out w H φ A w' H' ak A'
theorem qi (ae:St w H φ A) {id:Nat} {b b' :bI} {c b0:Nat} (hg:H.get id=some b) (aY: φ id=some (.at_ c b0)) (hv:b'.ad=b.ad) (hs:b'.sz=b.sz) (hf:b'.fix=b.fix) (hl:b'.el.length=b.el.length)
 {arr arr' :Array Value} {T:TypeId} {fr:Nat×Nat} {w' :World} (hc:w.heap[c]? =some (.cells arr T fr)) (hu:kr w c (.cells arr' T fr) w') (aH:arr'.size=arr.size)
 (dY: ∀(i:Nat) (x:AV),b'.el[i]? =some x→x.cells.length=b.sz)
 (gL: ∀(i:Nat) (x:AV) (j:Nat) (y:AV) (v:Value),b'.el[i]? =some x→x.cells[j]? =some y→arr'[b0+i*b.sz+j]? =some v→R w H φ A y v∧v.oneCell' =true):
 Out w H φ A w' (H.bq id b') φ A:=by
 have kt: ∀k,a_ w' k=a_ w k:=by
  intro k;unfold a_;by_cases hk:k=c
  ·subst hk;rw [hu.here,hc];exact aH
  ·rw [hu.other k hk]
 have ff:e9 w φ w' φ :=⟨hu.os,hu.tape,hu.output,by rw [hu.size];exact Nat.le_refl _,fun k _ hk=>hu.other k (fun e=>hk (e▸⟨id,b0,aY⟩)),fun k _=>kt k,fun k hk=> .inl hk⟩
 have aW:bM w H φ A w' (H.bq id b') φ A:=by
  refine ⟨fun k a t r hk hn=>⟨⟨r,by rw [hu.other k (fun e=>hn (e▸ae.own c ⟨id,b0,aY⟩))];exact hk⟩,hn⟩,Nat.le_refl _,fun i bb hb _=> ?_,fun k _=>kt k⟩
  rw [J.ii hg] at hb;split at hb
  ·rename_i hi;subst hi;simp only [Option.some.injEq] at hb;subst hb;exact ⟨b,hg,hv.symm,hs,hf,hl,fun loc h=>h⟩
  ·exact ⟨bb,hb,rfl,rfl,rfl,rfl,fun loc h=>h⟩
 refine ⟨⟨ae.inj,ae.own,fun k hk=>by rw [hu.size];exact ae.ca k hk,fun i loc c9=> ?_⟩,ff,aW,fun k hk _=>hk⟩
 obtain ⟨bb,jE,af⟩:=ae.ap i loc c9;by_cases hi:i=id
 ·subst hi;rw [hg] at jE;simp only [Option.some.injEq] at jE;subst jE;rw [aY] at c9;simp only [Option.some.injEq] at c9;subst c9;obtain ⟨a0,t0,r0,k1,k2,k3,k4⟩:=af.here c b0 rfl;rw [hc] at k1;simp only [Option.some.injEq,Obj.cells.injEq] at k1;obtain ⟨rfl,rfl,rfl⟩:=k1;refine ⟨b',by rw [J.ii hg,if_pos rfl],by rw [hv];exact af.ad,fun j x hx=>by rw [hs];exact dY j x hx,by simp,fun c' b1 he=> ?_⟩
  simp only [Loc.at_.injEq] at he;obtain ⟨rfl,rfl⟩:=he;refine ⟨arr',T,fr,hu.here,by rw [aH];exact k2,by rw [hl,hs,aH];exact k3,fun j x m y v hx hy ck=> ?_⟩
  rw [hs] at ck;obtain ⟨h1,h2⟩:=gL j x m y v hx hy ck;exact ⟨h1.mono aW,h2⟩
 ·refine ⟨bb,by rw [J.ii hg,if_neg hi];exact jE,af.ad,af.sized,af.aQ,fun c' b1 he=> ?_⟩
  subst he;have aK:c' ≠c:=by rintro rfl;exact hi (ae.inj _ _ _ _ _ c9 aY)
  obtain ⟨a0,t0,r0,k1,k2,k3,k4⟩:=af.here c' b1 rfl
  exact ⟨a0,t0,r0,by rw [hu.other c' aK];exact k1,k2,k3,fun j x m y v hx hy ck=>⟨(k4 j x m y v hx hy ck).1.mono aW,(k4 j x m y v hx hy ck).2⟩⟩
theorem qj (ae:St w H φ A) {id:Nat} {b b' :bI} (hg:H.get id=some b) (hv:b'.ad=H.st)
 {c b0:Nat} {arr' :Array Value} {T:TypeId} {fr:Nat×Nat} {w' :World} (hc:Ow φ c∧(∃bx,φ id=some (.at_ c bx))∨w.heap.size≤c) (hu:w'.heap[c]? =some (.cells arr' T fr))
 (lL: ∀k,k<w.heap.size→k≠c→w'.heap[k]? =w.heap[k]?) (lM:w.heap.size≤w'.heap.size) (xe:w'.os=w.os) (xf:w'.tape=w.tape) (bE:w'.output=w.output)
 (cZ:c<w.heap.size→arr'.size=a_ w c) (iI: ∀j,j<arr'.size→ ¬(fr.1≤j∧j<fr.2)) (jF:b0+b'.el.length*b'.sz≤arr'.size)
 (dY: ∀(i:Nat) (x:AV),b'.el[i]? =some x→x.cells.length=b'.sz)
 (gL: ∀(i:Nat) (x:AV) (j:Nat) (y:AV) (v:Value),b'.el[i]? =some x→x.cells[j]? =some y→arr'[b0+i*b'.sz+j]? =some v→R w H φ A y v∧v.oneCell' =true):
 Out w H φ A w' ⟨H.st+1,H.bs.set id (some b')⟩ (fun i=>if i=id then some (.at_ c b0) else φ i) (fun k=>A k∨k=c):=by
 have bA: ∀k,(J.mk (H.st+1) (H.bs.set id (some b'))).get k=if k=id then some b' else H.get k:=fun k=>J.ii hg k
 have kt: ∀k,k<w.heap.size→a_ w' k=a_ w k:=by
  intro k hk;by_cases dZ:k=c
  ·subst dZ;rw [←cZ hk];unfold a_;rw [hu]
  ·unfold a_;rw [lL k hk dZ]
 have dG: ∀k,Ow (fun i=>if i=id then some (.at_ c b0) else φ i) k→Ow φ k∨k=c:=by
  rintro k ⟨i,bb,h⟩;try simp only at h
  split at h
  ·simp only [Option.some.injEq,Loc.at_.injEq] at h;exact .inr h.1.symm
  ·exact .inl ⟨i,bb,h⟩
 have qk:c<w'.heap.size:=gh hu;have ff:e9 w φ w' (fun i=>if i=id then some (.at_ c b0) else φ i):=by
  refine ⟨xe,xf,bE,lM,fun k hk hn=>lL k hk (fun e=> ?_),kt,fun k hk=> ?_⟩
  ·subst e;rcases hc with h|h
   ·exact hn h.1
   ·omega
  ·rcases dG k hk with h|rfl
   ·exact .inl h
   ·rcases hc with h|h
    ·exact .inl h.1
    ·exact .inr h
 have aW:bM w H φ A w' ⟨H.st+1,H.bs.set id (some b')⟩ (fun i=>if i=id then some (.at_ c b0) else φ i) (fun k=>A k∨k=c):=by
  refine ⟨fun k a t r hk hn=> ?_,Nat.le_succ _,fun i bb hb aw=> ?_,fun k hk=>kt k (Ow.lt ae hk)⟩
  ·have aw:=gh hk;have dZ:k≠c:=by
    rintro rfl;rcases hc with h|h
    ·exact hn (ae.own _ h.1)
    ·omega
   exact ⟨⟨r,by rw [lL k aw dZ];exact hk⟩,fun h=>by rcases h with h|h;exact hn h;exact dZ h⟩
  ·rw [bA] at hb;split at hb
   ·simp only [Option.some.injEq] at hb;subst hb;omega
   ·rename_i hi;exact ⟨bb,hb,rfl,rfl,rfl,rfl,fun loc h=>by rw [if_neg hi];exact h⟩
 refine ⟨⟨fun i i' k b1 b2 h1 h2=> ?_,fun k hk=> ?_,fun k hk=> ?_,fun i loc c9=> ?_⟩,ff,aW,fun k hk _=> .inl hk⟩
 ·try simp only at h1 h2
  have key: ∀{i k b1},i≠id→ φ i=some (.at_ k b1)→k≠c:=by
   rintro i k b1 hi h rfl;rcases hc with ⟨_,bx,h2⟩|h2
   ·exact hi (ae.inj _ _ _ _ _ h h2)
   ·have:=Ow.lt ae ⟨i,b1,h⟩;omega
  split at h1
  ·rename_i hi;split at h2
   ·rename_i fG;omega
   ·rename_i fG;simp only [Option.some.injEq,Loc.at_.injEq] at h1;exact absurd h1.1.symm (key fG h2)
  ·rename_i hi;split at h2
   ·simp only [Option.some.injEq,Loc.at_.injEq] at h2;exact absurd h2.1.symm (key hi h1)
   ·exact ae.inj _ _ _ _ _ h1 h2
 ·rcases dG k hk with h|h
  ·exact .inl (ae.own k h)
  ·exact .inr h
 ·rcases hk with h|rfl
  ·have:=ae.ca k h;omega
  ·exact qk
 ·try simp only at c9
  split at c9
  ·rename_i hi;subst hi;simp only [Option.some.injEq] at c9;subst c9;refine ⟨b',by rw [bA,if_pos rfl],by rw [hv];exact Nat.lt_succ_self _,dY,by simp,fun c' b1 he=> ?_⟩
   simp only [Loc.at_.injEq] at he;obtain ⟨rfl,rfl⟩:=he;refine ⟨arr',T,fr,hu,iI,jF,fun j x m y v hx hy ck=> ?_⟩;obtain ⟨h1,h2⟩:=gL j x m y v hx hy ck;exact ⟨h1.mono aW,h2⟩
  ·rename_i hi;obtain ⟨bb,jE,af⟩:=ae.ap i loc c9;refine ⟨bb,by rw [bA,if_neg hi];exact jE,Nat.lt_succ_of_lt af.ad,af.sized,af.aQ,fun c' b1 he=> ?_⟩
   subst he;have aK:c' ≠c:=by
    rintro rfl;rcases hc with ⟨_,bx,h2⟩|h2
    ·exact hi (ae.inj _ _ _ _ _ c9 h2)
    ·have:=Ow.lt ae ⟨i,b1,c9⟩;omega
   obtain ⟨a0,t0,r0,k1,k2,k3,k4⟩:=af.here c' b1 rfl
   exact ⟨a0,t0,r0,by rw [lL c' (gh k1) aK];exact k1,k2,k3,fun j x m y v hx hy ck=>⟨(k4 j x m y v hx hy ck).1.mono aW,(k4 j x m y v hx hy ck).2⟩⟩
end ops
end Go.VS
namespace Go.VS
theorem xg {y v y' :AV} {off:Nat} (h:fY y off v=some y') (hv:dB v=true):off+v.cells.length≤y.cells.length∧y'.cells=splice y.cells off v.cells:=by
 cases y with
 |agg cs=>
  simp only [fY] at h;split at h
  ·rename_i hle;simp only [Option.some.injEq] at h;subst h;exact ⟨hle,rfl⟩
  ·simp at h
 |undef=>simp [fY] at h
 |_=>
  cases v<;>simp only [fY] at h<;>first
   |(simp at h;done)
   |(simp [dB,cF] at hv;done)
   |(split at h
     ·rename_i ho;simp only [Option.some.injEq] at h;subst h;subst ho;exact ⟨by simp [AV.cells],by simp [AV.cells,splice]⟩
     ·simp at h)
section ops
variable {P:Program} {E:aJ} (hE: ∀t ti,E t=some ti→aT P t ti)
variable {w:World} {H:J} {φ :ag} {A:ah}
include hE in
theorem xh {H' :J} (ae:St w H φ A) {t:TypeId} {x v z:AV} {a u:Value} (hx:R w H φ A x a) (hv:R w H φ A v u)
 (h:(match (generalizing:=false) E t with
 |some ti=>match (generalizing:=false) x with
  | .ptr id ad idx off=>match H.ap id ad with
   |some b=>match b.el[idx]? with
    |some y=>if v.cells.length=ti.sz∧dB v then match fY y off v with
     |some y' =>some (AV.aC [],H.bq id {b with el:=b.el.set idx y' })
     |none=>none
     else none
    |none=>none
   |none=>none
  |_=>none
 |none=>none)=some (z,H')):cd w H φ A H' ((do Instr.storeAt t a u;pure .skip:Sem Next).run P w) z:=by
 split at h
 ·rename_i ti h1;split at h
  ·rename_i id ad idx off;split at h
   ·rename_i b hb;split at h
    ·rename_i y hy;split at h
     ·rename_i hc;split at h
      ·rename_i y' hw
       simp only [Option.some.injEq,Prod.mk.injEq] at h;obtain ⟨rfl,rfl⟩:=h;obtain ⟨_,_,hp⟩:=hx.fc;obtain ⟨c,b0,aY,rfl⟩:=hp b hb;obtain ⟨b1,cC,af⟩:=ae.ap id _ aY;have hg:=(J.br hb).1;rw [hg] at cC;simp only [Option.some.injEq] at cC;subst cC;obtain ⟨arr,T,fr,k1,k2,k3,k4⟩:=af.here c b0 rfl;obtain ⟨w1,w2⟩:=xg hw hc.2;obtain ⟨m1,m2⟩:=hv.cells (ny hc.2);have m3:=hv.lx hc.2;have cc:idx<b.el.length:=(List.getElem?_eq_some_iff.1 hy).1;have hle:=cD (n:=b.sz) cc;have cq:=af.sized idx y hy;obtain ⟨w',arr',e1,e2,e3,e4⟩:=lK P c (b0+idx*b.sz+off) T fr u.cells.toList 0 arr w k1 k2 (by simp;omega) (fun q hq=>by
        obtain ⟨k,hk⟩:=List.getElem?_of_mem hq;exact m3 k q (by simpa using hk))
       have xi:y'.cells.length=b.sz:=by rw [w2,iJ _ _ _ w1,cq]
       have eP: ∀(i:Nat) (q:AV),(b.el.set idx y')[i]? =some q→(i=idx∧q=y')∨(i≠idx∧b.el[i]? =some q):=by
        intro i q hq;rw [List.getElem?_set] at hq;split at hq
        ·rename_i hi;first
          |(rw [if_pos cc] at hq;simp only [Option.some.injEq] at hq;exact .inl ⟨hi.symm,hq.symm⟩)
          |(simp only [Option.some.injEq] at hq;exact .inl ⟨hi.symm,hq.symm⟩)
        ·rename_i hi;exact .inr ⟨fun e=>hi e.symm,hq⟩
       have bE:=qi (b' :={b with el:=b.el.set idx y' }) ae hg aY rfl rfl rfl (by simp) k1 e2 e3
        (fun i q hq=>by rcases eP i q hq with ⟨rfl,rfl⟩|⟨_,hq⟩;exact xi;exact af.sized i q hq)
        (fun i q j s v' hq hs bg=>by
         rw [e4] at bg;simp only [Nat.add_zero,Array.length_toList] at bg;rcases eP i q hq with ⟨rfl,rfl⟩|⟨aK,hq⟩
         ·rw [w2,nx _ _ _ w1] at hs;rw [m1] at hs;by_cases hj:off≤j∧j<off+u.cells.size
          ·rw [if_pos hj] at hs;rw [if_pos (by omega)] at bg
           have e5:b0+i*b.sz+j-(b0+i*b.sz+off)=j-off:=by omega
           rw [e5] at bg;exact ⟨m2 _ _ _ hs (by simpa using bg),m3 _ _ (by simpa using bg)⟩
          ·rw [if_neg hj] at hs;rw [if_neg (by omega)] at bg
           exact k4 i y j s v' hy hs bg
         ·have nR:i<b.el.length:=(List.getElem?_eq_some_iff.1 hq).1;have dN:j<q.cells.length:=(List.getElem?_eq_some_iff.1 hs).1;have ql:=af.sized i q hq;rw [if_neg (by
           intro hh;rcases Nat.lt_or_gt_of_ne aK with h1|h1
           ·have:=cD (n:=b.sz) h1;omega
           ·have:=cD (n:=b.sz) h1;omega)] at bg
          exact k4 i q j s v' hq hs bg)
       refine ⟨.skip,undef,w',φ,A,?_,.inr ⟨rfl,rfl⟩,.fr _ _ (.aC [] #[] rfl (by simp)),bE⟩
       have aH: ¬(u.cells.size≠ti.sz):=by rw [←m1];simp [hc.1]
       simp only [Instr.storeAt,Instr.sureAddr,storeVar,Sem.run_bind,Sem.run_pure,Result.andThen_ok,(hE _ _ h1).sizeOf,aH,if_false,e1]
      ·simp at h
     ·simp at h
    ·simp at h
   ·simp at h
  ·simp at h
 ·simp at h
theorem nS (ae:St w H φ A) {id ad off len:Nat} {a:Value} (hx:R w H φ A (.ref id ad off len) a) {b:bI} (hb:H.ap id ad=some b) {at_ n:Nat} (h1:at_+n≤b.el.length) (h2:off≤at_) (hn:0<n) (_hlen:0<len∨b.el.length≤off+len∨True)
 {xs:List AV} (cj:xs.length=n) {cs:Array Value} (aH:cs.size=n*b.sz) (nt: ∀u∈cs.toList,u.oneCell' =true) (dY: ∀(i:Nat) (x:AV),xs[i]? =some x→x.cells.length=b.sz)
 (fL: ∀(i:Nat) (x:AV) (j:Nat) (y:AV) (u:Value),xs[i]? =some x→x.cells[j]? =some y→cs[i*b.sz+j]? =some u→R w H φ A y u∧u.oneCell' =true):
 ∃c b0 cap w',φ id=some (.at_ c b0)∧a= .slice (some ⟨c,b0+off*b.sz,none⟩) len cap∧b.el.length≤off+cap∧(storeCells ⟨c,b0+at_*b.sz,none⟩ cs.toList).run P w= .ok () w' ∧
  Out w H φ A w' (H.bq id {b with el:=splice b.el at_ xs}) φ A:=by
 obtain ⟨_,_,hr⟩:=hx.dW;obtain ⟨loc,a0,cap,q1,rfl,q3,q4,q5,q6⟩:=(hr b hb).out;cases loc with
 |aQ=>simp only at q6;rw [q6.1] at h1;simp at h1;omega
 |at_ c b0=>
  simp only at q6;rcases q6 with q6|⟨rfl,q7⟩
  ·omega
  ·obtain ⟨b1,cC,af⟩:=ae.ap id _ q1;have hg:=(J.br hb).1;rw [hg] at cC;simp only [Option.some.injEq] at cC;subst cC;obtain ⟨arr,T,fr,k1,k2,k3,k4⟩:=af.here c b0 rfl;have hle:at_*b.sz+n*b.sz≤b.el.length*b.sz:=by rw [←Nat.add_mul];exact Nat.mul_le_mul_right _ h1
   obtain ⟨w',arr',e1,e2,e3,e4⟩:=lK P c (b0+at_*b.sz) T fr cs.toList 0 arr w k1 k2 (by simp [aH];omega) nt
   have ku: ∀(i:Nat) (q:AV),(splice b.el at_ xs)[i]? =some q→(at_≤i∧i<at_+n∧xs[i-at_]? =some q)∨(¬(at_≤i∧i<at_+n)∧b.el[i]? =some q):=by
    intro i q hq;rw [nx _ _ _ (by omega),cj] at hq
    split at hq
    ·rename_i hi;exact .inl ⟨hi.1,hi.2,hq⟩
    ·rename_i hi;exact .inr ⟨hi,hq⟩
   refine ⟨c,b0,cap,w',q1,rfl,q5,e1,qi (b' :={b with el:=splice b.el at_ xs}) ae hg q1 rfl rfl rfl (by simp only;rw [iJ _ _ _ (by omega)]) k1 e2 e3 (fun i q hq=> ?_) (fun i q j s v' hq hs bg=> ?_)⟩
   ·rcases ku i q hq with ⟨_,_,h⟩|⟨_,h⟩
    ·exact dY _ _ h
    ·exact af.sized i q h
   ·rw [e4] at bg;simp only [Nat.add_zero,Array.length_toList,aH] at bg;have dN:j<q.cells.length:=(List.getElem?_eq_some_iff.1 hs).1;rcases ku i q hq with ⟨i1,i2,h⟩|⟨hi,h⟩
    ·have ql:=dY _ _ h;have e5:i*b.sz=at_*b.sz+(i-at_)*b.sz:=by rw [←Nat.add_mul];congr 1;omega
     have e6:=cD (n:=b.sz) (show i-at_<n by omega)
     rw [if_pos (by omega)] at bg
     have e7:b0+i*b.sz+j-(b0+at_*b.sz)=(i-at_)*b.sz+j:=by omega
     rw [e7] at bg;exact fL _ q j s v' h hs (by simpa using bg)
    ·have ql:=af.sized _ _ h;rw [if_neg (by
      intro hh;rcases Nat.lt_or_ge i at_ with h1|h1
      ·have:=cD (n:=b.sz) h1;omega
      ·have h2:at_+n≤i:=by omega
       have:=Nat.mul_le_mul_right b.sz h2;rw [Nat.add_mul] at this;omega)] at bg
     exact k4 i q j s v' h hs bg
end ops
end Go.VS
namespace Go.VS
theorem nT (cs:List AV) (k:Nat) (_h:k≤cs.length):splice cs k []=cs:=by
 unfold splice;simp
section ops
variable {P:Program} {E:aJ} (hE: ∀t ti,E t=some ti→aT P t ti)
variable {w:World} {H:J} {φ :ag} {A:ah}
theorem xj (ae:St w H φ A) {H' :J} (hg: ∀id,H'.get id=H.get id) (hs:H'.st=H.st):Out w H φ A w H' φ A:=by
 have aW:bM w H φ A w H' φ A:=⟨fun c a t fr hc hn=>⟨⟨fr,hc⟩,hn⟩,by rw [hs];exact Nat.le_refl _,fun id b hb _=>⟨b,by rw [←hg];exact hb,rfl,rfl,rfl,rfl,fun _ h=>h⟩,fun _ _=>rfl⟩
 refine ⟨⟨ae.inj,ae.own,ae.ca,fun id loc h=> ?_⟩,.refl _ _,aW,fun _ h _=>h⟩;obtain ⟨b,hb,af⟩:=ae.ap id loc h;refine ⟨b,by rw [hg];exact hb,by rw [hs];exact af.ad,af.sized,af.aQ,fun c b0 hl=> ?_⟩
 obtain ⟨arr,T,fr,h1,h2,h3,h4⟩:=af.here c b0 hl;exact ⟨arr,T,fr,h1,h2,h3,fun i x j y v hx hy hv=>⟨(h4 i x j y v hx hy hv).1.mono aW,(h4 i x j y v hx hy hv).2⟩⟩
theorem nU (ae:St w H φ A) {id:Nat} {b:bI} (hg:H.get id=some b):Out w H φ A w (H.bq id b) φ A:=
 xj ae (fun k=>by
  rw [J.ii hg];split
  ·rename_i h;rw [h,hg]
  ·rfl) rfl
theorem nV {t tx e:TypeId} {ti te eG:TI} (ht:aT P t ti) (hu:ti.aq= .sl e) (bf:aT P e te) (cy:aT P tx eG) (fK: ∀k,eG.aq≠ .it k) (tys:Array TypeId) (h0:tys[0]? =some t) (h1:tys[1]? =some tx) (ty:TypeId)
 {base:Option Addr} {sLen sCap:Nat} {x:Value} {n:Nat} {ig:Array Value} {w' :World} (hlen:(Builtin.lenOf x).run P w= .ok n w)
 (hX:(Builtin.firstCells te.sz n x).run P w= .ok ig w) (ko:sLen+n≤sCap) (ae:match base with|some a=>(storeCells (a.add (sLen*te.sz)) ig.toList).run P w= .ok () w' |none=>w' =w):
 (Builtin.append_ tys ty #[.slice base sLen sCap,x]).run P w= .ok (.slice base (sLen+n) sCap) w' :=by
 obtain ⟨d,hd,nJ⟩:=nI cy fK w;unfold Builtin.append_;simp only [h0,h1,List.getElem?_toArray,List.getElem?_cons_zero,List.getElem?_cons_succ,Sem.run_bind,ht.sl w hu,Result.andThen_ok,bf.sizeOf,hd,Sem.run_pure];simp only [Bool.false_eq_true,if_false,Bool.not_false,if_true,Sem.run_bind,hlen,Result.andThen_ok,ko,hX];cases base with
 |none=>simp only at ae;subst ae;rfl
 |some a=>simp only at ae⊢;simp only [Sem.run_bind,ae,Result.andThen_ok,Sem.run_pure]
include hE in
theorem xk {H' :J} (ae:St w H φ A) {t tx:TypeId} {tys:Array TypeId} {ty:TypeId} (h0:tys[0]? =some t) (h1:tys[1]? =some tx) {te eG:TI} (bf:cm E t=some te)
 (cy:E tx=some eG) (fK: ∀k,eG.aq≠ .it k) {id ad off len:Nat} {x z:AV} {a b:Value} (hs:R w H φ A (.ref id ad off len) a) (hx:R w H φ A x b) (h:dw te (.ref id ad off len) x H=some (z,H')):
 cd w H φ A H' ((do pure (.value (←Builtin.append_ tys ty #[a,b])):Sem Next).run P w) z:=by
 obtain ⟨ti,e,ht,hu,ci⟩:=iN bf;unfold dw at h;split at h
 ·simp at h
 ·rename_i xs dM;split at h
  ·simp at h
  ·rename_i aH;simp only [Bool.not_eq_true',Bool.not_eq_false] at aH;split at h
   ·simp at h
   ·rename_i hz;have hz:0<te.sz:=by omega
    obtain ⟨cs,cI⟩:=jC (P:=P) ae (a4.refl H) hx dM aH hz;have lN:=cI.run xs.length (Nat.le_refl _);rw [←cI.size,Array.extract_size] at lN;obtain ⟨hv,_,hr⟩:=hs.dW;have cB: ∀(i:Nat) (x:AV),xs[i]? =some x→x.cells.length=te.sz:=fun i x hi=>gM aH hi;simp only at h;split at h
    ·simp at h
    ·rename_i bk hb;have hg:=(J.br hb).1;split at h
     ·simp at h
     ·rename_i cZ;simp only [ne_eq,Decidable.not_not] at cZ;obtain ⟨loc,a0,cap,q1,rfl,q3,q4,q5,q6⟩:=(hr bk hb).out;split at h
      ·rename_i jF;simp only [Option.some.injEq,Prod.mk.injEq] at h;obtain ⟨rfl,rfl⟩:=h;by_cases hn:xs.length=0
       ·have kx:xs=[]:=List.eq_nil_of_length_eq_zero hn;subst kx;have hcs:cs= #[]:=Array.eq_empty_of_size_eq_zero (by simpa using cI.size)
        subst hcs;have cH:=nV (P:=P) (w:=w) (w' :=w) (base:=a0) (sLen:=len) (sCap:=cap) (hE _ _ ht) hu (hE _ _ ci) (hE _ _ cy) fK tys h0 h1 ty cI.len lN (by simpa using q4) (by cases a0<;>simp [storeCells])
        have ho:Out w H φ A w (H.bq id {bk with el:=splice bk.el (off+len) []}) φ A:=by
         rw [nT _ _ q3];exact nU ae hg
        exact ⟨_,_,w,φ,A,by simp only [Sem.run_bind,cH,Result.andThen_ok,Sem.run_pure];rfl,.inl rfl,hs.mono ho.bW,ho⟩
       ·obtain ⟨c,b0,eN,w',p1,p2,p3,p4,p5⟩:=nS (P:=P) ae hs hb (at_:=off+len) (n:=xs.length) jF (by omega) (by omega) (.inr (.inr trivial)) rfl (cs:=cs) (by rw [cZ];exact cI.size) cI.one
         (fun i x hi=>by rw [cZ];exact cB i x hi) (fun i x j y u hi hy hu=>cI.rel i x j y u hi hy (by rw [←cZ];exact hu))
        simp only [Value.slice.injEq,true_and] at p2;obtain ⟨rfl,rfl⟩:=p2;have cH:=nV (P:=P) (w:=w) (w' :=w') (base:=some ⟨c,b0+off*bk.sz,none⟩) (sLen:=len) (sCap:=cap) (hE _ _ ht) hu (hE _ _ ci) (hE _ _ cy) fK tys h0 h1 ty cI.len lN (by omega) (by
         simp only [gK];have:b0+off*bk.sz+len*te.sz=b0+(off+len)*bk.sz:=by rw [←cZ,Nat.add_mul];omega
         rw [this];exact p4)
        refine ⟨_,_,w',φ,A,by simp only [Sem.run_bind,cH,Result.andThen_ok,Sem.run_pure];rfl,.inl rfl,?_,p5⟩
        refine .ref _ _ _ _ _ (Nat.lt_of_lt_of_le hv p5.bW.st) ⟨_,_,rfl⟩ fun b' ax=> ?_
        have cS:=(J.br ax).1
        rw [J.ii hg,if_pos rfl] at cS;simp only [Option.some.injEq] at cS;subst cS;have jG:(splice bk.el (off+len) xs).length=bk.el.length:=iJ _ _ _ jF;refine ⟨.at_ c b0,_,_,p1,rfl,by simp only [jG];omega,by omega,by simp only [jG];omega,?_⟩
        simp only;rw [p1] at q1;simp only [Option.some.injEq] at q1;subst q1;simp only at q6;rcases q6 with q6|⟨_,q7⟩
        ·omega
        ·right;exact ⟨by first|rfl|trivial,by rw [p5.post.a_ c (Ow.lt ae ⟨id,b0,p1⟩)];exact q7⟩
      ·rename_i jF;split at h
       ·simp at h
       ·rename_i xl;split at h
        ·rename_i hc;obtain ⟨c1,c2⟩:=hc;simp only [Option.some.injEq,Prod.mk.injEq] at h;obtain ⟨rfl,rfl⟩:=h;have hn:0<xs.length:=by
          rcases Nat.eq_zero_or_pos xs.length with h|h
          ·rw [h] at jF;omega
          ·exact h
         have ky: ∀(i:Nat) (x:AV),(aG bk.el off len ++ xs)[i]? =some x→x.cells.length=bk.sz:=by
          intro i x hi;rw [List.getElem?_append] at hi;split at hi
          ·simp only [aG,List.getElem?_take,List.getElem?_drop] at hi;split at hi
           ·obtain ⟨b1,cC,af⟩:=ae.ap id _ q1;rw [hg] at cC;simp only [Option.some.injEq] at cC;subst cC;exact af.sized _ _ hi
           ·simp at hi
          ·rw [cZ];exact cB _ _ hi
         have bh:(aG bk.el off len).length=len:=by simp [aG];omega
         by_cases ko:len+xs.length≤cap
         ·
          cases loc with
          |aQ=>
           simp only at q6;have:=q6.2 (by simpa using xl)
           omega
          |at_ c b0=>
           simp only at q6;rcases q6 with q6|⟨rfl,q7⟩
           ·omega
           ·obtain ⟨b1,cC,af⟩:=ae.ap id _ q1;rw [hg] at cC;simp only [Option.some.injEq] at cC;subst cC;obtain ⟨arr,T,fr,k1,k2,k3,k4⟩:=af.here c b0 rfl;have qm:a_ w c=arr.size:=by unfold a_;rw [k1]
            rw [qm] at q7;have hle:(off+len)*bk.sz+xs.length*bk.sz≤(off+cap)*bk.sz:=by rw [←Nat.add_mul];exact Nat.mul_le_mul_right _ (by omega)
            have hcs:cs.size=xs.length*bk.sz:=by rw [cZ];exact cI.size
            obtain ⟨w',arr',e1,e2,e3,e4⟩:=lK P c (b0+(off+len)*bk.sz) T fr cs.toList 0 arr w k1 k2 (by simp [hcs];omega) cI.one
            have cH:=nV (P:=P) (w:=w) (w' :=w') (base:=some ⟨c,b0+off*bk.sz,none⟩) (sLen:=len) (sCap:=cap) (hE _ _ ht) hu (hE _ _ ci) (hE _ _ cy) fK tys h0 h1 ty cI.len lN ko (by
             simp only [gK];have:b0+off*bk.sz+len*te.sz=b0+(off+len)*bk.sz:=by rw [←cZ,Nat.add_mul];omega
             rw [this];exact e1)
            have hmul:off*bk.sz+len*bk.sz=(off+len)*bk.sz:=(Nat.add_mul _ _ _).symm;have ho:=qj (b' :=⟨H.st,bk.sz,false,aG bk.el off len ++ xs⟩) (c:=c) (b0:=b0+off*bk.sz) (arr' :=arr') (T:=T) (fr:=fr) (w' :=w') ae hg rfl (.inl ⟨⟨id,b0,q1⟩,b0,q1⟩) e2.here (fun k _ hk=>e2.other k hk) (by rw [e2.size];exact Nat.le_refl _) e2.os e2.tape e2.output
             (fun _=>by rw [e3,qm]) (by rw [e3];exact k2) (by
              rw [List.length_append,bh,e3];have:(len+xs.length)*bk.sz=len*bk.sz+xs.length*bk.sz:=Nat.add_mul _ _ _;show b0+off*bk.sz+(len+xs.length)*bk.sz≤arr.size;omega) ky (fun i x j y v hi hy bg=>by
              dsimp only at bg;rw [e4] at bg;simp only [Nat.add_zero,Array.length_toList,hcs] at bg;have dN:j<x.cells.length:=(List.getElem?_eq_some_iff.1 hy).1;have cj:=ky i x hi;rw [List.getElem?_append] at hi;split at hi
              ·rename_i cc;rw [bh] at cc;simp only [aG,List.getElem?_take,List.getElem?_drop] at hi;split at hi
               ·have:=cD (n:=bk.sz) cc;rw [if_neg (by omega)] at bg
                exact k4 (off+i) x j y v hi hy (by rw [←bg];congr 1;rw [Nat.add_mul];omega)
               ·first|(cases hi;done)|(exact absurd cc ‹_›)
              ·rename_i cc;rw [bh] at hi cc;have xm:i-len<xs.length:=(List.getElem?_eq_some_iff.1 hi).1;have h7:i*bk.sz=len*bk.sz+(i-len)*bk.sz:=by rw [←Nat.add_mul];congr 1;omega
               have h8:=cD (n:=bk.sz) xm;rw [if_pos (by omega)] at bg
               refine cI.rel _ x j y v hi hy ?_;rw [←bg,←cZ,Array.getElem?_toList];congr 1;omega)
            refine ⟨_,_,w',_,_,by simp only [Sem.run_bind,cH,Result.andThen_ok,Sem.run_pure];rfl,.inl rfl,?_,ho⟩
            refine .ref _ _ _ _ _ (Nat.lt_succ_self _) ⟨_,_,rfl⟩ fun b' ax=> ?_
            have cS:=(J.br ax).1
            rw [show (J.mk (H.st+1) (H.bs.set id (some ⟨H.st,bk.sz,false,aG bk.el off len ++ xs⟩))).get id=_ from J.ii hg id,if_pos rfl] at cS;simp only [Option.some.injEq] at cS;subst cS;refine ⟨.at_ c (b0+off*bk.sz),_,_,by simp,rfl,by simp [bh],by omega,by simp [bh];omega,?_⟩
            refine Or.inr ⟨by simp,?_⟩
            dsimp only;have:a_ w' c=arr.size:=by unfold a_;rw [e2.here];exact e3
            rw [this,Nat.zero_add];have:(off+cap)*bk.sz=off*bk.sz+cap*bk.sz:=Nat.add_mul _ _ _;omega
         ·
          have dL:=lH ae;obtain ⟨gn,t1,t2⟩: ∃gn:Array Value,(Builtin.firstCells te.sz len (.slice a0 len cap)).run P w.drew= .ok gn w.drew∧gn.size=len*te.sz∧
           ∀(i:Nat) (x:AV) (j:Nat) (y:AV) (v:Value),(aG bk.el off len)[i]? =some x→x.cells[j]? =some y→gn[i*te.sz+j]? =some v→R w.drew H φ A y v∧v.oneCell' =true:=by
           have xn:ct H (.ref id ad off len)=some (aG bk.el off len):=by simp only [ct,hb];rw [if_pos c1]
           have xp:bC te.sz (aG bk.el off len)=true:=by
            rw [bC,List.all_eq_true];intro q hq;obtain ⟨k,hk⟩:=List.getElem?_of_mem hq;have:=ky k q (by rw [List.getElem?_append_left (List.getElem?_eq_some_iff.1 hk).1];exact hk)
            simp [this,cZ]
           obtain ⟨aU,eO⟩:=jC (P:=P) dL.st (a4.refl H) (hs.mono dL.bW) xn xp hz;have de:=eO.run len (by rw [bh];exact Nat.le_refl _)
           have qn:aU.size=len*te.sz:=by rw [eO.size,bh]
           rw [←qn,Array.extract_size] at de;exact ⟨aU,de,qn,eO.rel⟩
          obtain ⟨t2,t3⟩:=t2;obtain ⟨aU,eO⟩:=jC (P:=P) dL.st (a4.refl H) (hx.mono dL.bW) dM aH hz;have de:=eO.run xs.length (Nat.le_refl _);rw [←eO.size,Array.extract_size] at de;obtain ⟨eN,arr,k1,k2,k3,k4⟩:=run_append_grow (P:=P) (w:=w) (hE _ _ ht) hu (hE _ _ ci) (hE _ _ cy) fK tys h0 h1 ty (base:=a0) (sLen:=len) (sCap:=cap) cI.len t1 de t2 eO.size (by omega) c2
          have hle:(len+xs.length)*te.sz≤eN*te.sz:=Nat.mul_le_mul_right _ k1
          have ho:=qj (b' :=⟨H.st,bk.sz,false,aG bk.el off len ++ xs⟩) (c:=w.drew.heap.size) (b0:=0) (arr' :=arr) (T:=e) (fr:=(0,0)) (w' :=w.drew.alloc (.cells arr e)) dL.st hg rfl (.inr (Nat.le_refl _)) (heap_alloc_new _ _) (fun k hk _=>heap_alloc_old _ _ hk) (by simp) rfl rfl rfl
           (fun h=>absurd h (Nat.lt_irrefl _)) (fun j _ h=>absurd h.2 (Nat.not_lt_zero j)) (by rw [List.length_append,bh,k3,cZ];omega) ky (fun i x j y v hi hy bg=>by
            have dN:j<x.cells.length:=(List.getElem?_eq_some_iff.1 hy).1;have cj:=ky i x hi;have cc:i<len+xs.length:=by have:=(List.getElem?_eq_some_iff.1 hi).1;rw [List.length_append,bh] at this;exact this
            have h9:=cD (n:=te.sz) cc;simp only [cZ,Nat.zero_add] at bg cj
            rw [k4 _ (by omega)] at bg
            rw [List.getElem?_append,bh] at hi;split at hi
            ·rename_i nR;have:=cD (n:=te.sz) nR;rw [Array.getElem?_append_left (by omega)] at bg
             exact t3 i x j y v hi hy bg
            ·rename_i nR;have h7:i*te.sz=len*te.sz+(i-len)*te.sz:=by rw [←Nat.add_mul];congr 1;omega
             rw [Array.getElem?_append_right (by omega)] at bg
             exact eO.rel _ x j y v hi hy (by rw [←bg];congr 1;omega))
          have xq:=dL.trans ae ho;refine ⟨_,_,_,_,_,by simp only [Sem.run_bind,k2,Result.andThen_ok,Sem.run_pure];rfl,.inl rfl,?_,xq⟩
          refine .ref _ _ _ _ _ (Nat.lt_succ_self _) ⟨_,_,rfl⟩ fun b' ax=> ?_
          have cS:=(J.br ax).1
          rw [show (J.mk (H.st+1) (H.bs.set id (some ⟨H.st,bk.sz,false,aG bk.el off len ++ xs⟩))).get id=_ from J.ii hg id,if_pos rfl] at cS;simp only [Option.some.injEq] at cS;subst cS;refine ⟨.at_ w.drew.heap.size 0,_,_,by simp,rfl,by simp [bh],k1,by simp [bh];omega,?_⟩
          refine Or.inr ⟨by simp,?_⟩
          dsimp only;rw [kj,k3,cZ];simp
        ·simp at h
end ops
end Go.VS
namespace Go.VS
section ops
variable {P:Program} {E:aJ} (hE: ∀t ti,E t=some ti→aT P t ti)
variable {w:World} {H:J} {φ :ag} {A:ah}
theorem cd.same {r:Result Next} {x:AV} {v:Value} {H' :J} (hr:r= .ok (.value v) w) (hx:R w H φ A x v) (ho:Out w H φ A w H' φ A):cd w H φ A H' r x:=
 ⟨_,v,w,φ,A,hr,.inl rfl,hx.mono ho.bW,ho⟩
include hE in
theorem xr {H' :J} (ae:St w H φ A) {t:TypeId} {tys:Array TypeId} {ty:TypeId} (h0:tys[0]? =some t) {te:TI} (bf:cm E t=some te) {d x z:AV} {a b:Value} (hs:R w H φ A d a) (hx:R w H φ A x b)
 (h:m5 te d x H=some (z,H')):cd w H φ A H' ((do pure (.value (←Builtin.copy_ tys ty #[a,b])):Sem Next).run P w) z:=by
 obtain ⟨ti,e,ht,hu,ci⟩:=iN bf;unfold m5 at h;split at h
 ·simp at h
 ·rename_i xs dM;split at h
  ·simp at h
  ·rename_i aH;simp only [Bool.or_eq_true,Bool.not_eq_true',beq_iff_eq,not_or,Bool.not_eq_false] at aH;obtain ⟨aH,hz⟩:=aH;have hz:0<te.sz:=by omega
   obtain ⟨cs,cI⟩:=jC (P:=P) ae (a4.refl H) hx dM aH hz;have cH: ∀(base:Option Addr) (iO qo:Nat) (w' :World),(match base with|some a=>(storeCells a ((cs.extract 0 (min xs.length iO*te.sz)).toList)).run P w= .ok () w' |none=>w' =w)→
    (Builtin.copy_ tys ty #[.slice base iO qo,b]).run P w= .ok (.int .i64 (min xs.length iO:Nat)) w' :=by
    intro base iO qo w' hw
    have hc:=cI.run (min xs.length iO) (Nat.min_le_left _ _);unfold Builtin.copy_;simp only [h0,List.getElem?_toArray,List.getElem?_cons_zero,List.getElem?_cons_succ,Sem.run_bind,(hE _ _ ht).sl w hu,Result.andThen_ok,cI.len,(hE _ _ ci).sizeOf];rw [show Nat.min xs.length iO=min xs.length iO from rfl,hc];simp only [Result.andThen_ok];cases base with
    |none=>simp only at hw;subst hw;rfl
    |some a=>simp only at hw;simp only [Sem.run_bind,hw,Result.andThen_ok,Sem.run_pure,goInt]
   have hzero: ∀base cap,(Builtin.copy_ tys ty #[.slice base 0 cap,b]).run P w= .ok (.int .i64 0) w:=by
    intro base cap;have:=cH base 0 cap w (by cases base<;>simp [storeCells])
    simpa using this
   split at h
   ·simp only [Option.some.injEq,Prod.mk.injEq] at h;obtain ⟨rfl,rfl⟩:=h;have:=hs.cY;subst this;exact cd.same (by simp [hzero]) (.fr _ _ (.int _ _)) (.refl ae)
   ·simp only [Option.some.injEq,Prod.mk.injEq] at h;obtain ⟨rfl,rfl⟩:=h;obtain ⟨a0,rfl⟩:=hs.eD;exact cd.same (by simp [hzero]) (.fr _ _ (.int _ _)) (.refl ae)
   ·rename_i id ad off len;split at h
    ·simp at h
    ·rename_i bk hb;have hg:=(J.br hb).1;split at h
     ·rename_i hc;simp only [Option.some.injEq,Prod.mk.injEq] at h;obtain ⟨rfl,rfl⟩:=h;have fM:(xs.take len).length=min xs.length len:=by rw [List.length_take,Nat.min_comm]
      by_cases hn:min xs.length len=0
      ·have:xs.take len=[]:=List.eq_nil_of_length_eq_zero (by omega)
       rw [this,nT _ _ (by omega),hn]
       obtain ⟨_,⟨a0,c0,rfl⟩,hr⟩:=hs.dW;have:=cH a0 len c0 w (by rw [hn];cases a0<;>simp [storeCells])
       rw [hn] at this;exact cd.same (by simp [this]) (.fr _ _ (.int _ _)) (nU ae hg)
      ·have jG:(cs.extract 0 (min xs.length len*te.sz)).size=min xs.length len*te.sz:=by
        have:=cI.size;have h2:min xs.length len*te.sz≤xs.length*te.sz:=Nat.mul_le_mul_right _ (Nat.min_le_left _ _);simp;omega
       obtain ⟨c,b0,cap,w',p1,p2,p3,p4,p5⟩:=nS (P:=P) ae hs hb (at_:=off) (n:=min xs.length len) (by omega) (Nat.le_refl _) (by omega) (.inr (.inr trivial)) fM (cs:=cs.extract 0 (min xs.length len*te.sz))
        (by rw [hc.1];exact jG) (fun u hu=>cI.one u (by rw [Array.toList_extract,List.extract_eq_take_drop] at hu;exact List.mem_of_mem_drop (List.mem_of_mem_take hu)))
        (fun i x hi=>by
         rw [List.getElem?_take] at hi;split at hi
         ·rw [hc.1];exact gM aH hi
         ·simp at hi)
        (fun i x j y u hi hy hu=>by
         rw [List.getElem?_take] at hi;split at hi
         ·rw [Array.getElem?_extract] at hu;split at hu
          ·rw [hc.1] at hu;exact cI.rel i x j y u hi hy (by rw [←hu];congr 1;omega)
          ·simp at hu
         ·simp at hi)
       subst p2;have:=cH (some ⟨c,b0+off*bk.sz,none⟩) len cap w' p4
       exact ⟨_,_,w',φ,A,by simp only [Sem.run_bind,this,Result.andThen_ok,Sem.run_pure],.inl rfl,.fr _ _ (.int _ _),p5⟩
     ·simp at h
   ·simp at h
include hE in
theorem xt {H' :J} (ae:St w H φ A) {t:TypeId} {tys:Array TypeId} {ty:TypeId} (h0:tys[0]? =some t) {te:TI} (bf:cm E t=some te) {d z:AV} {a:Value} (hs:R w H φ A d a)
 (h:jn te d H=some (z,H')):cd w H φ A H' ((do pure (.value (←Builtin.clear_ tys ty #[a])):Sem Next).run P w) z:=by
 obtain ⟨ti,e,ht,hu,ci⟩:=iN bf;have hzero: ∀a0 cap,(Builtin.clear_ tys ty #[.slice a0 0 cap]).run P w= .ok (.tuple #[]) w:=by
  intro a0 cap;unfold Builtin.clear_;simp only [h0,List.getElem?_toArray,List.getElem?_cons_zero,Sem.run_bind,(hE _ _ ht).sl w hu,Result.andThen_ok];cases a0<;>rfl
 have nW:R w H φ A (.aC []) (.tuple #[]):= .fr _ _ (.aC [] #[] rfl (by simp))
 unfold jn at h;split at h
 ·simp only [Option.some.injEq,Prod.mk.injEq] at h;obtain ⟨rfl,rfl⟩:=h;have:=hs.cY;subst this;exact cd.same (by simp [hzero]) nW (.refl ae)
 ·simp only [Option.some.injEq,Prod.mk.injEq] at h;obtain ⟨rfl,rfl⟩:=h;obtain ⟨a0,rfl⟩:=hs.eD;exact cd.same (by simp [hzero]) nW (.refl ae)
 ·rename_i id ad off len;split at h
  ·rename_i bk zA hb hz;have hg:=(J.br hb).1;split at h
   ·rename_i hc;simp only [Option.some.injEq,Prod.mk.injEq] at h;obtain ⟨rfl,rfl⟩:=h;by_cases hn:len=0
    ·subst hn;obtain ⟨_,_,hr⟩:=hs.dW;obtain ⟨loc,a1,cap,_,rfl,_⟩:=(hr bk hb).out;rw [List.replicate_zero,nT _ _ (by omega)]
     exact cd.same (by simp [hzero]) nW (nU ae hg)
    ·obtain ⟨zv,z1,z2,z3,z4,_,z5⟩:=iK (hE _ _ ci) hz w;have hcs: ∀(i j:Nat) (u:Value),i<len→j<te.sz→(Builtin.zeroCells zv.cells len)[i*te.sz+j]? =some u→zv.cells[j]? =some u:=by
      intro i j u hi hj hu;refine kl z2 hi hj ?_;rw [←hu];unfold Builtin.zeroCells;rw [z2]
     have lM:(Builtin.zeroCells zv.cells len).size=len*te.sz:=by simp [Builtin.zeroCells,z2]
     have nX:0<te.sz:=by
      rcases Nat.eq_zero_or_pos te.sz with h|h
      ·rw [h] at hc;have:=hc.2.2;simp at this
      ·exact h
     obtain ⟨c,b0,cap,w',p1,p2,p3,p4,p5⟩:=nS (P:=P) ae hs hb (at_:=off) (n:=len) (by omega) (Nat.le_refl _) (by omega) (.inr (.inr trivial)) (xs:=List.replicate len zA) (by simp) (cs:=Builtin.zeroCells zv.cells len)
      (by rw [hc.1];exact lM) (fun u hu=>by
       obtain ⟨k,hk⟩:=List.getElem?_of_mem hu;rw [Array.getElem?_toList] at hk;have nH:k<len*te.sz:=by rw [←lM];exact (Array.getElem?_eq_some_iff.1 hk).1
       have qb:k/te.sz*te.sz+k % te.sz=k:=by rw [Nat.mul_comm];exact Nat.div_add_mod k te.sz
       have:=hcs (k/te.sz) (k % te.sz) u (qa nH nX) (Nat.mod_lt k nX) (by rw [qb];exact hk)
       have dN:k % te.sz<te.zero.length:=by rw [z4];exact Nat.mod_lt k nX
       exact (z5 w A _ _ u (List.getElem?_eq_getElem dN) this).2)
      (fun i x hi=>by
       rw [List.getElem?_replicate] at hi;split at hi
       ·simp only [Option.some.injEq] at hi;subst hi;rw [z3,z4,hc.1]
       ·simp at hi)
      (fun i x j y u hi hy hu=>by
       rw [List.getElem?_replicate] at hi;split at hi
       ·rename_i cc;simp only [Option.some.injEq] at hi;subst hi;rw [z3] at hy;have hj:j<te.sz:=by rw [←z4];exact (List.getElem?_eq_some_iff.1 hy).1
        rw [hc.1] at hu;have:=z5 w A j y u hy (hcs i j u cc hj hu);exact ⟨.fr _ _ this.1,this.2⟩
       ·simp at hi)
     subst p2;refine ⟨_,_,w',φ,A,?_,.inl rfl,.fr _ _ (.aC [] #[] rfl (by simp)),p5⟩
     have:(Builtin.clear_ tys ty #[.slice (some ⟨c,b0+off*bk.sz,none⟩) len cap]).run P w= .ok (.tuple #[]) w' :=by
      unfold Builtin.clear_;simp only [h0,List.getElem?_toArray,List.getElem?_cons_zero,Sem.run_bind,(hE _ _ ht).sl w hu,Result.andThen_ok];cases len with
      |zero=>exact absurd rfl hn
      |succ n=>simp only [z1,Result.andThen_ok,p4,Sem.run_pure]
     simp only [Sem.run_bind,this,Result.andThen_ok,Sem.run_pure]
   ·simp at h
  ·simp at h
 ·simp at h
include hE in
theorem qp {t:TypeId} {tys:Array TypeId} {ty:TypeId} (h0:tys[0]? =some t) {x:AV} {a:Value} (hs:R w H φ A x a) {n:Nat} {H0:J} (_hX:a4 H0 H) (h:lenOf H0 x=some n) {ti:TI} (ht:E t=some ti) (hu:(∃e,ti.aq= .sl e∧ ∀s,x≠ .str s)∨(ti.aq= .str∧ ∃s,x= .str s)):
 (Builtin.len_ tys ty #[a]).run P w= .ok (.int .i64 n) w:=by
 unfold Builtin.len_;simp only [h0,List.getElem?_toArray,List.getElem?_cons_zero,Sem.run_bind];rcases hu with ⟨e,hu,hn⟩|⟨hu,s,rfl⟩
 ·simp only [(hE _ _ ht).sl w hu,Result.andThen_ok];cases x with
  |nil=>simp [lenOf] at h;subst h;have:=hs.cY;subst this;rfl
  |e0=>simp [lenOf] at h;subst h;obtain ⟨a0,rfl⟩:=hs.eD;rfl
  |fz xs=>simp [lenOf] at h;subst h;have:=hs.dz;cases this<;>rfl
  |ref id ad off len=>
   simp only [lenOf,Option.some.injEq] at h;subst h;obtain ⟨_,⟨a1,cap,rfl⟩,_⟩:=hs.dW;rfl
  |str s=>exact absurd rfl (hn s)
  |_=>simp [lenOf] at h
 ·obtain ⟨b,rfl,hb⟩:=hs.eL;simp only [lenOf,Option.some.injEq] at h;subst h;simp only [(hE _ _ ht).iH w hu,Result.andThen_ok,Sem.run_pure,goInt];rw [←hb];simp
end ops
end Go.VS
namespace Go.VS
theorem J.iP {H H' :J} (h:H' =H∨ ∃sz fx el,H' =H.new sz fx el):a4 H H' ∧(∀id b,H'.get id=some b→b.ad<H.st→H.get id=some b)∧H.bs.length≤H'.bs.length:=by
 rcases h with rfl|⟨sz,fx,el,rfl⟩
 ·exact ⟨a4.refl _,fun _ _ h _=>h,Nat.le_refl _⟩
 ·refine ⟨J.nw H sz fx el,fun id b hg hv=> ?_,by simp [J.new]⟩
  by_cases bU:id<H.bs.length
  ·rw [J.pZ H sz fx el bU] at hg;exact hg
  ·have hl:=J.ib hg;have:id=H.bs.length:=by simp [J.new] at hl;omega
   subst this;rw [J.dX] at hg;simp only [Option.some.injEq] at hg;subst hg;exact absurd hv (Nat.lt_irrefl _)
theorem qq {E:aJ} {op:Op} {s:aj} {H H' :J} {z:AV} (hq:dF op=true) (h:aL E op s H=some (z,H')):H' =H∨ ∃sz fx el,H' =H.new sz fx el:=by
 have lJ: ¬ ∃t a v,op= .store t a v:=by
  rintro ⟨t,a,v,rfl⟩;have:dF (.store t a v)=false:=rfl;rw [this] at hq;simp at hq
 cases op with
 |makeFunc fn first cap=>
  cases fn<;>simp only [aL] at h
  ·split at h
   ·simp only [Option.some.injEq,Prod.mk.injEq] at h;exact .inl h.2.symm
   ·simp at h
  all_goals simp at h
 |_=>(simp only [aL] at h<;>(repeat' split at h)<;>first
  |(simp at h;done)
  |(simp only [Option.some.injEq,Prod.mk.injEq] at h;first|exact .inl h.2.symm|exact .inr ⟨_,_,_,h.2.symm⟩|exact absurd ⟨_,_,_,rfl⟩ lJ)
  |exact absurd ⟨_,_,_,rfl⟩ lJ)
section ops
variable {P:Program} {E:aJ} (hE: ∀t ti,E t=some ti→aT P t ti)
variable {w:World} {H:J} {φ :ag} {A:ah}
theorem St.new (ae:St w H φ A) {id:Nat} (h:H.bs.length≤id): φ id=none:=by
 cases hp: φ id with
 |none=>rfl
 |some loc=>
  obtain ⟨b,hb,_⟩:=ae.ap id loc hp;have:=J.ib hb;omega
theorem iQ (ae:St w H φ A) {H' :J} (hx:a4 H H') (ho: ∀id b,H'.get id=some b→b.ad<H.st→H.get id=some b):Out w H φ A w H' φ A:=by
 have aW:bM w H φ A w H' φ A:=⟨fun c a t fr hc hn=>⟨⟨fr,hc⟩,hn⟩,hx.2,fun id b hb hv=>⟨b,ho id b hb hv,rfl,rfl,rfl,rfl,fun _ h=>h⟩,fun _ _=>rfl⟩
 refine ⟨⟨ae.inj,ae.own,ae.ca,fun id loc h=> ?_⟩,.refl _ _,aW,fun _ h _=>h⟩;obtain ⟨b,hb,af⟩:=ae.ap id loc h;refine ⟨b,hx.1 _ _ hb,Nat.lt_of_lt_of_le af.ad hx.2,af.sized,af.aQ,fun c b0 hl=> ?_⟩;obtain ⟨arr,T,fr,h1,h2,h3,h4⟩:=af.here c b0 hl;exact ⟨arr,T,fr,h1,h2,h3,fun i x j y v hx hy hv=>⟨(h4 i x j y v hx hy hv).1.mono aW,(h4 i x j y v hx hy hv).2⟩⟩
theorem cd.kz (ae:St w H φ A) {H' :J} (he:H' =H∨ ∃sz fx el,H' =H.new sz fx el) {r:Result Next} {z:AV} (h:a9 w H' φ A H H' r z):cd w H φ A H' r z:=by
 obtain ⟨n,v,w',ak,A',h1,h2,h3,h4,_⟩:=h;obtain ⟨e1,e2,_⟩:=J.iP he;exact ⟨n,v,w',ak,A',h1,h2,h3,(iQ ae e1 e2).trans ae h4⟩
include hE in
theorem xu {H' :J} (ae:St w H φ A) {o:Oper} {s:aj} {ρ :Operand→Value} {z:AV} (aR: ∀y∈o.op.operands,R w H φ A (ev s y) (ρ y)) (h:aL E o.op s H=some (z,H')):
 cd w H φ A H' ((execOp ρ o).run P w) z:=by
 by_cases hq:dF o.op=true
 ·have he:=qq hq h;obtain ⟨e1,e2,_⟩:=J.iP he;have ho:=iQ ae e1 e2;exact cd.kz ae he (nP hE ho.st e1 (a4.refl _) (fun _=>ae.new (Nat.le_refl _)) hq (fun y hy=>(aR y hy).mono ho.bW) h)
 ·obtain ⟨dst,op,type,pos,after,guard⟩:=o;cases op with
  |store t x v=>
   have hx:=aR x (by simp [Op.operands])
   have hv:=aR v (by simp [Op.operands])
   simp only [aL] at h;exact xh hE ae hx hv h
  |_=>first|(simp [dF] at hq;done)|(simp [aL] at h;done)
theorem kA {op:Value→Value→Sem Value} {f:AV→AV→Option AV} (bp: ∀a b x y z,R w H φ A a x→R w H φ A b y→f a b=some z→ ∃v,(op x y).run P w= .ok v w∧R w H φ A z v):
 ∀(rest:List AV) (vs:List Value) (x:AV) (v:Value) (z:AV),rest.length=vs.length→(∀(i:Nat) (a:AV) (u:Value),rest[i]? =some a→vs[i]? =some u→R w H φ A a u)→R w H φ A x v→rest.foldlM f x=some z→
 ∃u,(vs.foldlM op v).run P w= .ok u w∧R w H φ A z u
 |[],[],x,v,z,_,_,hx,h=>by simp at h;subst h;exact ⟨v,by simp,hx⟩
 |[],_::_,_,_,_,h,_,_,_=>by simp at h
 |_::_,[],_,_,_,h,_,_,_=>by simp at h
 |a::rest,b::vs,x,v,z,hl,hr,hx,h=>by
  simp only [List.foldlM_cons] at h;cases hf:f x a with
  |none=>simp [hf] at h
  |some y=>
   simp only [hf,Option.bind_eq_bind,Option.bind_some] at h;obtain ⟨u,hu,hy⟩:=bp _ _ _ _ _ hx (hr 0 a b rfl rfl) hf;obtain ⟨q,hq,hz⟩:=kA bp rest vs y u z (by simpa using hl) (fun i a u h1 h2=>hr (i+1) a u h1 h2) hy h
   exact ⟨q,by simp [hu,hq],hz⟩
include hE in
theorem xv {H' :J} (ae:St w H φ A) {b:Builtin} {tys:Array TypeId} {ty:TypeId} {consts:Array Bool} {args:List AV} {vs:Array Value} {z:AV} (hl:args.length=vs.size)
 (aR: ∀(i:Nat) (a:AV) (u:Value),args[i]? =some a→vs[i]? =some u→R w H φ A a u) (h:cp E b tys args H=some (z,H')):
 cd w H φ A H' ((builtin b tys ty consts vs).run P w) z:=by
 unfold cp at h;split at h
 ·rename_i x;obtain ⟨a,rfl⟩: ∃a,vs= #[a]:=by
   have h1:vs.size=1:=hl.symm;exact ⟨vs[0],by apply Array.ext;simp [h1];intro i h1 h2;simp at h2;subst h2;rfl⟩
  have hx:=aR 0 x a rfl rfl;split at h
  ·rename_i ti n ht hn;obtain ⟨t,h0,ht⟩:=Option.bind_eq_some_iff.1 ht;have key: ∀{q:AV×J},some q=some (z,H')→q=(AV.int .i64 n,H)→((∃e,ti.aq= .sl e∧ ∀s,x≠ .str s)∨(ti.aq= .str∧ ∃s,x= .str s))→cd w H φ A H' ((builtin .len tys ty consts #[a]).run P w) z:=by
    intro q hq nY hu;subst nY;simp only [Option.some.injEq,Prod.mk.injEq] at hq;obtain ⟨rfl,rfl⟩:=hq;have:=qp (tys:=tys) (ty:=ty) hE h0 hx (a4.refl H) hn ht hu;exact cd.same (by simp [builtin,this]) (.fr _ _ (.int _ _)) (.refl ae)
   split at h
   ·rename_i s hu;exact key h rfl (.inr ⟨hu,s,rfl⟩)
   ·simp at h
   ·rename_i e hu aK;exact key h rfl (.inl ⟨e,hu,fun s hs=>aK s hs⟩)
   ·simp at h
  ·simp at h
 ·rename_i s x;obtain ⟨a,b,rfl⟩: ∃a b,vs= #[a,b]:=by
   have h1:vs.size=2:=hl.symm;exact ⟨vs[0],vs[1],by apply Array.ext;simp [h1];intro i h1 h2;simp at h2;rcases i with _|_|i;rfl;rfl;omega⟩
  have hs:=aR 0 s a rfl rfl;have hx:=aR 1 x b rfl rfl;split at h
  ·rename_i t h0;split at h
   ·rename_i te tx bf cy;obtain ⟨t2,h1,cy⟩:=Option.bind_eq_some_iff.1 cy;by_cases hit: ∃k,tx.aq= .it k
    ·obtain ⟨k,hit⟩:=hit;rw [hit] at h;simp only at h;split at h
     ·rename_i n;have he:H' =H∨ ∃sz fx el,H' =H.new sz fx el:=by
       unfold jm at h;repeat' split at h
       all_goals first
        |(simp at h;done)
        |(simp only [Option.some.injEq,Prod.mk.injEq] at h;first|exact .inl h.2.symm|exact .inr ⟨_,_,_,h.2.symm⟩)
      obtain ⟨e1,e2,_⟩:=J.iP he;have ho:=iQ ae e1 e2;exact cd.kz ae he (qf hE ho.st (a4.refl _) (fun _=>ae.new (Nat.le_refl _)) h0 h1 bf cy hit (hs.mono ho.bW) (hx.mono ho.bW) h)
     ·simp at h
    have lO: ∀k,tx.aq≠ .it k:=fun k hk=>hit ⟨k,hk⟩;replace h:dw te s x H=some (z,H'):=by
     split at h
     ·rename_i k hk;exact absurd hk (lO k)
     ·exact h
    cases s with
    |ref id ad off len=>exact xk hE ae h0 h1 bf cy lO hs hx h
    |nil=>
     have he:H' =H∨ ∃sz fx el,H' =H.new sz fx el:=by
      simp only [dw] at h;repeat' split at h
      all_goals first
       |(simp at h;done)
       |(simp only [Option.some.injEq,Prod.mk.injEq] at h;first|exact .inl h.2.symm|exact .inr ⟨_,_,_,h.2.symm⟩)
     obtain ⟨e1,e2,_⟩:=J.iP he;have ho:=iQ ae e1 e2;exact cd.kz ae he (nN hE ho.st e1 (a4.refl _) (fun _=>ae.new (Nat.le_refl _)) h0 h1 bf cy lO (hs.mono ho.bW) (hx.mono ho.bW) (.inl rfl) h)
    |e0=>
     have he:H' =H∨ ∃sz fx el,H' =H.new sz fx el:=by
      simp only [dw] at h;repeat' split at h
      all_goals first
       |(simp at h;done)
       |(simp only [Option.some.injEq,Prod.mk.injEq] at h;first|exact .inl h.2.symm|exact .inr ⟨_,_,_,h.2.symm⟩)
     obtain ⟨e1,e2,_⟩:=J.iP he;have ho:=iQ ae e1 e2;exact cd.kz ae he (nN hE ho.st e1 (a4.refl _) (fun _=>ae.new (Nat.le_refl _)) h0 h1 bf cy lO (hs.mono ho.bW) (hx.mono ho.bW) (.inr rfl) h)
    |_=>(simp only [dw] at h;(repeat' split at h)<;>simp at h)
   ·simp at h
  ·simp at h
 ·rename_i d x;obtain ⟨a,b,rfl⟩: ∃a b,vs= #[a,b]:=by
   have h1:vs.size=2:=hl.symm;exact ⟨vs[0],vs[1],by apply Array.ext;simp [h1];intro i h1 h2;simp at h2;rcases i with _|_|i;rfl;rfl;omega⟩
  split at h
  ·rename_i te bf;obtain ⟨t,h0,bf⟩:=Option.bind_eq_some_iff.1 bf;exact xr hE ae h0 bf (aR 0 d a rfl rfl) (aR 1 x b rfl rfl) h
  ·simp at h
 ·rename_i d;obtain ⟨a,rfl⟩: ∃a,vs= #[a]:=by
   have h1:vs.size=1:=hl.symm;exact ⟨vs[0],by apply Array.ext;simp [h1];intro i h1 h2;simp at h2;subst h2;rfl⟩
  split at h
  ·rename_i te bf;obtain ⟨t,h0,bf⟩:=Option.bind_eq_some_iff.1 bf;exact xt hE ae h0 bf (aR 0 d a rfl rfl) h
  ·simp at h
 ·split at h
  ·rename_i v hv;simp only [Option.some.injEq,Prod.mk.injEq] at h;obtain ⟨rfl,rfl⟩:=h;cases args with
   |nil=>simp [jo] at hv
   |cons x rest=>
    obtain ⟨a,us,dr⟩: ∃a us,vs.toList=a::us:=by
     cases eQ:vs.toList with
     |nil=>have:=congrArg List.length eQ;simp at this;simp [this] at hl
     |cons a us=>exact ⟨a,us,rfl⟩
    have hlen:rest.length=us.length:=by have:=congrArg List.length dr;simp at this;simp at hl;omega
    have bA: ∀(i:Nat) (u:Value),(a::us)[i]? =some u→vs[i]? =some u:=fun i u hu=>by rw [←dr] at hu;simpa using hu
    obtain ⟨u,hu,hz⟩:=kA (P:=P) (op:=Builtin.min2) (f:=fun a b=>match a,b with| .int k x,.int _ y=>some (.int k (if y<x then y else x))|_,_=>none) (fun a b x y z ha hb hf=>by
     split at hf
     ·have e1:=ha.cx;have e2:=hb.cx;subst e1;subst e2;simp only [Option.some.injEq] at hf;subst hf;exact ⟨_,by simp [Builtin.min2],.fr _ _ (.int _ _)⟩
     ·simp at hf) rest us x a v hlen (fun i p q hp hq=>aR (i+1) p q hp (bA (i+1) q hq)) (aR 0 x a rfl (bA 0 a rfl)) hv
    exact cd.same (by simp [builtin,Builtin.min_,dr,hu]) hz (.refl ae)
  ·simp at h
 ·split at h
  ·rename_i v hv;simp only [Option.some.injEq,Prod.mk.injEq] at h;obtain ⟨rfl,rfl⟩:=h;cases args with
   |nil=>simp [jp] at hv
   |cons x rest=>
    obtain ⟨a,us,dr⟩: ∃a us,vs.toList=a::us:=by
     cases eQ:vs.toList with
     |nil=>have:=congrArg List.length eQ;simp at this;simp [this] at hl
     |cons a us=>exact ⟨a,us,rfl⟩
    have hlen:rest.length=us.length:=by have:=congrArg List.length dr;simp at this;simp at hl;omega
    have bA: ∀(i:Nat) (u:Value),(a::us)[i]? =some u→vs[i]? =some u:=fun i u hu=>by rw [←dr] at hu;simpa using hu
    obtain ⟨u,hu,hz⟩:=kA (P:=P) (op:=Builtin.max2) (f:=fun a b=>match a,b with| .int k x,.int _ y=>some (.int k (if y>x then y else x))|_,_=>none) (fun a b x y z ha hb hf=>by
     split at hf
     ·have e1:=ha.cx;have e2:=hb.cx;subst e1;subst e2;simp only [Option.some.injEq] at hf;subst hf;exact ⟨_,by simp [Builtin.max2],.fr _ _ (.int _ _)⟩
     ·simp at hf) rest us x a v hlen (fun i p q hp hq=>aR (i+1) p q hp (bA (i+1) q hq)) (aR 0 x a rfl (bA 0 a rfl)) hv
    exact cd.same (by simp [builtin,Builtin.max_,dr,hu]) hz (.refl ae)
  ·simp at h
 ·obtain ⟨a,rfl⟩: ∃a,vs= #[a]:=by
   have h1:vs.size=1:=hl.symm;exact ⟨vs[0],by apply Array.ext;simp [h1];intro i h1 h2;simp at h2;subst h2;rfl⟩
  have hx:=(aR 0 .nil a rfl rfl).cY;subst hx;split at h
  ·rename_i ti ht;obtain ⟨t,h0,ht⟩:=Option.bind_eq_some_iff.1 ht;split at h
   ·rename_i e hu;simp only [Option.some.injEq,Prod.mk.injEq] at h;obtain ⟨rfl,rfl⟩:=h;have hc:(Builtin.cap_ tys ty #[.slice none 0 0]).run P w= .ok (.int .i64 0) w:=by
     unfold Builtin.cap_;simp only [h0,List.getElem?_toArray,List.getElem?_cons_zero,Sem.run_bind,(hE _ _ ht).sl w hu,Result.andThen_ok];rfl
    exact cd.same (by simp [builtin,hc]) (.fr _ _ (.int _ _)) (.refl ae)
   ·simp at h
  ·simp at h
 ·simp at h
end ops
end Go.VS
namespace Go.VS
def aB (φ :ag) (L:J):ag:=fun id=>if (L.get id).isSome then φ id else none
theorem J.ij (H:J) (id k:Nat):(H.del id).get k=if k=id then none else H.get k:=by
 unfold J.del J.get;simp only [List.getElem?_set];by_cases hk:id=k
 ·subst hk;simp only [if_true];split<;>rfl
 ·rw [if_neg hk,if_neg (fun e=>hk e.symm)]
structure bu (L L1:J):Prop where
 get: ∀id b,L1.get id=some b→L.get id=some b
 st:L1.st=L.st
 len:L1.bs.length=L.bs.length
theorem bu.refl (L:J):bu L L:=⟨fun _ _ h=>h,rfl,rfl⟩
theorem bu.trans {L L1 L2:J} (h:bu L L1) (k:bu L1 L2):bu L L2:=⟨fun id b hb=>h.get id b (k.get id b hb),k.st.trans h.st,k.len.trans h.len⟩
theorem bu.del (L:J) (id:Nat):bu L (L.del id):=⟨fun k b h=>by rw [J.ij] at h;split at h;simp at h;exact h,rfl,by simp [J.del]⟩
theorem df {φ :ag} {L:J} {id:Nat} {loc:Loc} (h:aB φ L id=some loc): φ id=some loc∧ ∃b,L.get id=some b:=by
 unfold aB at h;split at h
 ·rename_i hs;exact ⟨h,Option.isSome_iff_exists.1 hs⟩
 ·simp at h
theorem fN {φ :ag} {L L1:J} (h:bu L L1):aB (aB φ L) L1=aB φ L1:=by
 funext id
 unfold aB;cases h1:L1.get id with
 |none=>simp
 |some b=>simp [h.get id b h1]
theorem bF {φ :ag} {L:J} {c:Nat} (h:Ow (aB φ L) c):Ow φ c:=by
 obtain ⟨id,b,h⟩:=h;exact ⟨id,b,(df h).1⟩
section bj
variable {w:World}
theorem cT {L L1:J} {φ :ag} {A:ah} (hl:bu L L1):bM w L φ A w L1 (aB φ L1) A:=by
 refine ⟨fun c a t fr hc hn=>⟨⟨fr,hc⟩,hn⟩,by rw [hl.st];exact Nat.le_refl _,fun id b hb _=>⟨b,hl.get id b hb,rfl,rfl,rfl,rfl,fun loc h=> ?_⟩,fun _ _=>rfl⟩
 unfold aB;rw [hb];simpa using h
theorem d_ {L L1:J} {φ :ag} {A:ah} (ae:St w L φ A) (hl:bu L L1):St w L1 (aB φ L1) A:=by
 refine ⟨fun i i' c b b' h h' =>ae.inj _ _ _ _ _ (df h).1 (df h').1,fun c hc=>ae.own c (bF hc),ae.ca,fun id loc h=> ?_⟩
 obtain ⟨h1,b,hb⟩:=df h;obtain ⟨b',ax,af⟩:=ae.ap id loc h1;rw [hl.get id b hb] at ax;simp only [Option.some.injEq] at ax;subst ax;refine ⟨b,hb,by rw [hl.st];exact af.ad,af.sized,af.aQ,fun c b0 he=> ?_⟩
 obtain ⟨arr,T,fr,k1,k2,k3,k4⟩:=af.here c b0 he;exact ⟨arr,T,fr,k1,k2,k3,fun i x j y v hx hy hv=>⟨(k4 i x j y v hx hy hv).1.mono (cT hl),(k4 i x j y v hx hy hv).2⟩⟩
structure bX (w:World) (L:J) (φL:ag) (AL:ah) (H:J) (φ :ag) (AH:ah):Prop where
 sl:St w L φL AL
 sh:St w H φ AH
 b7: ∀c,Ow φL c→ ¬Ow φ c
 ej: ∀c,Ow φL c→AH c
structure b8 (w:World) (L:J) (φL:ag) (AL:ah) (H:J) (φ :ag) (AH:ah) (L1:J) (H1:J) (φ1:ag):Prop where
 less:bu L L1
 bj:bX w L1 (aB φL L1) AL H1 φ1 AH
 eh:bM w H φ AH w H1 φ1 AH
 oh: ∀c,Ow φ1 c→Ow φ c∨(Ow φL c∧ ¬Ow (aB φL L1) c)
 gO: ∀c,Ow φ c→Ow φ1 c
 hlen:H.bs.length≤H1.bs.length
 bA: ∀id b,H.get id=some b→H1.get id=some b
 bY: ∀id loc,φ id=some loc→ φ1 id=some loc
theorem b8.refl {L:J} {φL:ag} {AL:ah} {H:J} {φ :ag} {AH:ah} (h:bX w L φL AL H φ AH):b8 w L φL AL H φ AH L H φ :=by
 refine ⟨.refl _,⟨d_ h.sl (.refl _),h.sh,fun c hc=>h.b7 c (bF hc),fun c hc=>h.ej c (bF hc)⟩,.refl _ _ _ _,fun c hc=> .inl hc,fun c hc=>hc,Nat.le_refl _,fun _ _ h=>h,fun _ _ h=>h⟩
theorem b8.trans {L L1 L2:J} {φL:ag} {AL:ah} {H H1 H2:J} {φ φ1 a7:ag} {AH:ah} (h:b8 w L φL AL H φ AH L1 H1 φ1) (k:b8 w L1 (aB φL L1) AL H1 φ1 AH L2 H2 a7):b8 w L φL AL H φ AH L2 H2 a7:=by
 have hr:=fN (φ := φL) k.less;refine ⟨h.less.trans k.less,by rw [←hr];exact k.bj,h.eh.trans k.eh (fun _ _=>rfl),fun c hc=> ?_,fun c hc=>k.gO c (h.gO c hc),Nat.le_trans h.hlen k.hlen,fun id b hb=>k.bA id b (h.bA id b hb),fun id loc hl=>k.bY id loc (h.bY id loc hl)⟩
 rcases k.oh c hc with h1|⟨h1,h2⟩
 ·rcases h.oh c h1 with h3|⟨h3,h4⟩
  ·exact .inl h3
  ·refine .inr ⟨h3,fun h5=>h4 ?_⟩;rw [←hr] at h5;exact bF h5
 ·rw [hr] at h2;exact .inr ⟨bF h1,h2⟩
theorem newAt {L L1:J} {φL:ag} {AL:ah} {H H1:J} {φ φ1:ag} {AH:ah} (m:b8 w L φL AL H φ AH L1 H1 φ1) {sz:Nat} {fx:Bool} {el:List AV} {loc:Loc}
 (dY: ∀(i:Nat) (x:AV),el[i]? =some x→x.cells.length=sz) (hv:loc= .aQ→el=[])
 (ek: ∀c b0,loc= .at_ c b0→Ow φL c∧ ¬Ow (aB φL L1) c∧ ¬Ow φ1 c∧AH c∧ ∃arr T fr,w.heap[c]? =some (.cells arr T fr)∧(∀j,j<arr.size→ ¬(fr.1≤j∧j<fr.2))∧b0+el.length*sz≤arr.size∧
  ∀(i:Nat) (x:AV) (j:Nat) (y:AV) (v:Value),el[i]? =some x→x.cells[j]? =some y→arr[b0+i*sz+j]? =some v→R w H1 φ1 AH y v∧v.oneCell' =true):
 b8 w L φL AL H φ AH L1 (H1.new sz fx el) (fun i=>if i=H1.bs.length then some loc else φ1 i):=by
 have fi:=m.bj.sh;have bw:=St.new fi (Nat.le_refl H1.bs.length);have hx:=J.nw H1 sz fx el;have hold: ∀id b,(H1.new sz fx el).get id=some b→b.ad<H1.st→H1.get id=some b:=(J.iP (.inr ⟨sz,fx,el,rfl⟩)).2.1;have aW:bM w H1 φ1 AH w (H1.new sz fx el) (fun i=>if i=H1.bs.length then some loc else φ1 i) AH:=by
  refine ⟨fun c a t fr hc hn=>⟨⟨fr,hc⟩,hn⟩,hx.2,fun id b hb aw=>⟨b,hold id b hb aw,rfl,rfl,rfl,rfl,fun l hl=> ?_⟩,fun _ _=>rfl⟩;rw [if_neg (by rintro rfl;rw [bw] at hl;simp at hl)];exact hl
 have dG: ∀c,Ow (fun i=>if i=H1.bs.length then some loc else φ1 i) c→Ow φ1 c∨ ∃b0,loc= .at_ c b0:=by
  rintro c ⟨i,b,h⟩;try simp only at h
  split at h
  ·simp only [Option.some.injEq] at h;exact .inr ⟨b,h⟩
  ·exact .inl ⟨i,b,h⟩
 refine ⟨m.less,⟨m.bj.sl,⟨fun i i' c b b' h1 h2=> ?_,fun c hc=> ?_,fi.ca,fun i l hl=> ?_⟩,fun c hc ho=> ?_,m.bj.ej⟩,m.eh.trans aW (fun _ _=>rfl),fun c hc=> ?_,fun c hc=> ?_,?_,fun id b hb=>hx.1 _ _ (m.bA id b hb),fun id l hl=> ?_⟩
 ·try simp only at h1 h2
  split at h1
  ·rename_i hi;split at h2
   ·rename_i fG;omega
   ·simp only [Option.some.injEq] at h1;exact absurd ⟨i',b',h2⟩ (ek c b h1).2.2.1
  ·split at h2
   ·simp only [Option.some.injEq] at h2;exact absurd ⟨i,b,h1⟩ (ek c b' h2).2.2.1
   ·exact fi.inj _ _ _ _ _ h1 h2
 ·rcases dG c hc with h|⟨b0,h⟩
  ·exact fi.own c h
  ·exact (ek c b0 h).2.2.2.1
 ·try simp only at hl
  split at hl
  ·rename_i hi;subst hi;simp only [Option.some.injEq] at hl;subst hl;refine ⟨_,J.dX _ _ _ _,Nat.lt_succ_self _,dY,hv,fun c b0 he=> ?_⟩;obtain ⟨_,_,_,_,arr,T,fr,k1,k2,k3,k4⟩:=ek c b0 he;exact ⟨arr,T,fr,k1,k2,k3,fun j x q y v bz hy ck=>⟨(k4 j x q y v bz hy ck).1.mono aW,(k4 j x q y v bz hy ck).2⟩⟩
  ·obtain ⟨bb,hb,af⟩:=fi.ap i l hl;refine ⟨bb,hx.1 _ _ hb,Nat.lt_of_lt_of_le af.ad hx.2,af.sized,af.aQ,fun c b0 he=> ?_⟩;obtain ⟨arr,T,fr,k1,k2,k3,k4⟩:=af.here c b0 he;exact ⟨arr,T,fr,k1,k2,k3,fun j x q y v bz hy ck=>⟨(k4 j x q y v bz hy ck).1.mono aW,(k4 j x q y v bz hy ck).2⟩⟩
 ·rcases dG c ho with h|⟨b0,h⟩
  ·exact m.bj.b7 c hc h
  ·exact (ek c b0 h).2.1 hc
 ·rcases dG c hc with h|⟨b0,h⟩
  ·exact m.oh c h
  ·exact .inr ⟨(ek c b0 h).1,(ek c b0 h).2.1⟩
 ·obtain ⟨i,b,h⟩:=m.gO c hc
  exact ⟨i,b,by show (if i=H1.bs.length then some loc else φ1 i)=_;rw [if_neg (by rintro rfl;rw [bw] at h;simp at h)];exact h⟩
 ·simp only [J.new,List.length_append,List.length_singleton];exact Nat.le_succ_of_le m.hlen
 ·have:=m.bY id l hl;rw [if_neg (by rintro rfl;rw [bw] at this;simp at this)];exact this
end bj
end Go.VS
namespace Go.VS
section bj
variable {w:World}
theorem qt {L H:J} {φL φ :ag} {AL AH:ah} {x:AV} {v:Value} (hp:dl x=true) (h:R w L φL AL x v):R w H φ AH x v:=by
 cases x with
 |undef=>exact .fr _ _ (.undef _)
 |int k n=>have:=h.cx;subst this;exact .fr _ _ (.int _ _)
 |bool b=>have:=h.eK;subst this;exact .fr _ _ (.bool _)
 |str s=>obtain ⟨b,rfl,rfl⟩:=h.eL;exact .fr _ _ (.str _)
 |cf b=>rcases h.jv with ⟨rfl,rfl⟩|⟨rfl,t,u,rfl⟩;exact .fr _ _ .ju;exact .fr _ _ (.err _ _)
 |dt=>cases h with|fr _ _ h=>cases h;exact .fr _ _ .dt
 |_=>simp [dl] at hp
theorem qu {x:AV} (hp:dl x=true) (H:J):aD x H=(x,H):=by
 cases x<;>first|rfl|simp [dl] at hp
def fO (AL AH:ah) (y:AV):Prop:=(∀c,AH c→AL c)∨cb y=true
def dO (AL AH:ah) (ys:List AV):Prop:=(∀c,AH c→AL c)∨dV ys=true
theorem dO.cons {AL AH:ah} {y:AV} {ys:List AV} (h:dO AL AH (y::ys)):fO AL AH y∧dO AL AH ys:=by
 rcases h with h|h
 ·exact ⟨.inl h,.inl h⟩
 ·simp only [dV,Bool.and_eq_true] at h;exact ⟨.inr h.1,.inr h.2⟩
theorem nZ {es:List Sh} (hE: ∀(x:AV) (vs:List Value) (L:J) (φL:ag) (AL:ah) (H:J) (φ :ag) (AH:ah) (y:AV) (L1:J) (a:AV) (H1:J),bX w L φL AL H φ AH→x.cells.length=vs.length→
 (∀(j:Nat) (c:AV) (u:Value),x.cells[j]? =some c→vs[j]? =some u→R w L φL AL c u)→aX es x L=some (y,L1)→aD y H=(a,H1)→fO AL AH y→
 ∃ φ1,b8 w L φL AL H φ AH L1 H1 φ1∧a.cells.length=x.cells.length∧ ∀(j:Nat) (c:AV) (u:Value),a.cells[j]? =some c→vs[j]? =some u→R w H1 φ1 AH c u):
 ∀(xs:List AV) (g:Nat→Nat→Value) (L:J) (φL:ag) (AL:ah) (H:J) (φ :ag) (AH:ah) (ys:List AV) (L1:J) (as:List AV) (H1:J),bX w L φL AL H φ AH→
  (∀(i:Nat) (x:AV) (j:Nat) (c:AV),xs[i]? =some x→x.cells[j]? =some c→R w L φL AL c (g i j))→dj (aX es) xs L=some (ys,L1)→aE ys H=(as,H1)→dO AL AH ys→
  ∃ φ1,b8 w L φL AL H φ AH L1 H1 φ1∧as.length=xs.length∧(∀(i:Nat) (x a:AV),xs[i]? =some x→as[i]? =some a→a.cells.length=x.cells.length)∧
   ∀(i:Nat) (a:AV) (j:Nat) (c:AV),as[i]? =some a→a.cells[j]? =some c→R w H1 φ1 AH c (g i j)
 |[],g,L,φL,AL,H,φ,AH,ys,L1,as,H1,hd,_,ht,hw,_=>by
  simp only [dj,Option.some.injEq,Prod.mk.injEq] at ht;obtain ⟨rfl,rfl⟩:=ht;simp only [aE,Prod.mk.injEq] at hw;obtain ⟨rfl,rfl⟩:=hw;exact ⟨φ,.refl hd,rfl,by simp,by simp⟩
 |x::xs,g,L,φL,AL,H,φ,AH,ys,L1,as,H1,hd,hr,ht,hw,hk=>by
  simp only [dj] at ht;split at ht
  ·rename_i y L' h1
   split at ht
   ·rename_i aS c5 h2
    simp only [Option.some.injEq,Prod.mk.injEq] at ht;obtain ⟨rfl,rfl⟩:=ht;obtain ⟨k1,k2⟩:=hk.cons;simp only [aE,Prod.mk.injEq] at hw;obtain ⟨rfl,rfl⟩:=hw
    let vs:List Value:=(List.range x.cells.length).map (g 0)
    obtain ⟨φ1,m1,l1,r1⟩:=hE x vs L φL AL H φ AH y L' _ _ hd (by simp [vs]) (fun j c u hj hu=>by
     have dN:j<x.cells.length:=(List.getElem?_eq_some_iff.1 hj).1;have:vs[j]? =some (g 0 j):=by simp [vs,dN]
     rw [this] at hu;simp only [Option.some.injEq] at hu;subst hu;exact hr 0 x j c rfl hj) h1 rfl k1
    obtain ⟨a7,m2,l2,s2,r2⟩:=nZ hE xs (fun i j=>g (i+1) j) L' (aB φL L') AL _ φ1 AH aS c5 _ _ m1.bj (fun i x' j c hi hj=>(hr (i+1) x' j c hi hj).mono (cT m1.less)) h2 rfl k2
    refine ⟨a7,m1.trans m2,by simp [l2],fun i x' a hx ha=> ?_,fun i a j c ha hc=> ?_⟩
    ·cases i with
     |zero=>simp at hx ha;subst hx;subst ha;exact l1
     |succ i=>exact s2 i x' a hx ha
    ·cases i with
     |zero=>
      simp only [List.getElem?_cons_zero,Option.some.injEq] at ha;subst ha;have hj:j<x.cells.length:=by rw [←l1];exact (List.getElem?_eq_some_iff.1 hc).1
      exact (r1 j c (g 0 j) hc (by simp [vs,hj])).mono m2.eh
     |succ i=>exact r2 i a j c ha hc
   ·simp at ht
  ·simp at ht
theorem lP {L:J} {φL:ag} {AL:ah} {H:J} {φ :ag} {AH:ah} (hd:bX w L φL AL H φ AH) {id ad:Nat} {b:bI} (hb:L.ap id ad=some b) {off n:Nat} (hle:off+n≤b.el.length) {sz:Nat} (hs:b.sz=sz) {loc:Loc} (aY: φL id=some loc)
 {L1:J} {as:List AV} {H1:J} {g:Nat→Nat→Value} {φ1:ag} (hg: ∀c b0 arr T fr,loc= .at_ c b0→w.heap[c]? =some (.cells arr T fr)→ ∀(i j:Nat) (v:Value),i<n→j<sz→arr[b0+(off+i)*sz+j]? =some v→g i j=v)
 (m:b8 w (L.del id) (aB φL (L.del id)) AL H φ AH L1 H1 φ1) (hl:as.length=n) (dY: ∀(i:Nat) (a:AV),as[i]? =some a→a.cells.length=sz)
 (hr: ∀(i:Nat) (a:AV) (j:Nat) (c:AV),as[i]? =some a→a.cells[j]? =some c→R w H1 φ1 AH c (g i j)) (fx:Bool) (loc' :Loc) (gP:loc' = .aQ∧n=0∨ ∃c b0,loc= .at_ c b0∧loc' = .at_ c (b0+off*sz)):
 b8 w L φL AL H φ AH L1 (H1.new sz fx as) (fun i=>if i=H1.bs.length then some loc' else φ1 i):=by
 have n0:=(J.br hb).1;have n1:=(bu.del L id).trans m.less;have gQ:aB (aB φL (L.del id)) L1=aB φL L1:=fN m.less;have m' :b8 w L φL AL H φ AH L1 H1 φ1:=by
  refine ⟨n1,by have:=m.bj;rwa [gQ] at this,m.eh,fun c hc=> ?_,m.gO,m.hlen,m.bA,m.bY⟩
  rcases m.oh c hc with h|⟨h1,h2⟩
  ·exact .inl h
  ·rw [gQ] at h2;exact .inr ⟨bF h1,h2⟩
 refine newAt m' dY (fun hv=> ?_) (fun c b1 he=> ?_)
 ·rcases gP with ⟨_,h0⟩|⟨c,b0,_,h2⟩
  ·exact List.eq_nil_of_length_eq_zero (by omega)
  ·rw [h2] at hv;simp at hv
 ·rcases gP with ⟨h1,_⟩|⟨c',b0,h1,h2⟩
  ·rw [h1] at he;simp at he
  ·rw [h2] at he;simp only [Loc.at_.injEq] at he;obtain ⟨rfl,rfl⟩:=he;subst h1;have iR:Ow φL c' :=⟨id,b0,aY⟩
   have n3: ¬Ow (aB φL L1) c' :=by
    rintro ⟨i,bb,hi⟩;obtain ⟨fk,bk,aV⟩:=df hi;have:=hd.sl.inj _ _ _ _ _ fk aY;subst this;have:=m.less.get _ _ aV;rw [J.ij,if_pos rfl] at this;simp at this
   refine ⟨iR,n3,fun ho=> ?_,hd.ej _ iR,?_⟩
   ·rcases m.oh c' ho with h|⟨⟨i,bb,hi⟩,_⟩
    ·exact hd.b7 c' iR h
    ·obtain ⟨fk,bk,aV⟩:=df hi;have:=hd.sl.inj _ _ _ _ _ fk aY;subst this;rw [J.ij,if_pos rfl] at aV;simp at aV
   ·obtain ⟨bk,aV,af⟩:=hd.sl.ap id _ aY;rw [n0] at aV;simp only [Option.some.injEq] at aV;subst aV;obtain ⟨arr,T,fr,k1,k2,k3,k4⟩:=af.here c' b0 rfl
    have hmul:off*sz+n*sz≤b.el.length*sz:=by rw [←Nat.add_mul];exact Nat.mul_le_mul_right _ hle
    refine ⟨arr,T,fr,k1,k2,by rw [hl];rw [hs] at k3;omega,fun i a j c v ha hc hv=> ?_⟩
    have hi:i<n:=by rw [←hl];exact (List.getElem?_eq_some_iff.1 ha).1
    have hj:j<sz:=by rw [←dY i a ha];exact (List.getElem?_eq_some_iff.1 hc).1
    have e:b0+off*sz+i*sz+j=b0+(off+i)*sz+j:=by rw [Nat.add_mul];omega
    rw [e] at hv;have n4:=hg c' b0 arr T fr rfl k1 i j v hi hj hv
    refine ⟨by rw [←n4];exact hr i a j c ha hc,?_⟩
    have cE:off+i<b.el.length:=by omega
    have hx:=List.getElem?_eq_getElem cE;have cj:=af.sized _ _ hx;exact (k4 (off+i) _ j _ v hx (List.getElem?_eq_getElem (by omega)) (by rw [hs];exact hv)).2
end bj
end Go.VS
namespace Go.VS
section bj
variable {w:World}
theorem iS {x:AV} (h1:x≠ .undef) (h2: ∀cs,x≠ .agg cs):x.cells=[x]:=by
 cases x<;>first|rfl|exact absurd rfl h1|exact absurd rfl (h2 _)
theorem jH {H:J} {id ad:Nat} {b b' :bI} (h:H.get id=some b) (h' :H.ap id ad=some b'):b' =b:=by
 have:=(J.br h').1;rw [h] at this;simp only [Option.some.injEq] at this;exact this.symm
mutual
theorem lQ (sh:Sh) (x:AV) (v:Value) (L:J) (φL:ag) (AL:ah) (H:J) (φ :ag) (AH:ah) (y:AV) (L1:J) (a:AV) (H1:J) (hd:bX w L φL AL H φ AH) (hx:R w L φL AL x v)
 (ht:aO sh x L=some (y,L1)) (hw:aD y H=(a,H1)) (hk:fO AL AH y): ∃ φ1,b8 w L φL AL H φ AH L1 H1 φ1∧R w H1 φ1 AH a v∧(x≠ .undef→a.cells=[a])∧(x= .undef→a= .undef):=by
 cases sh with
 |sc=>
  simp only [aO] at ht;split at ht
  ·rename_i hp;simp only [Option.some.injEq,Prod.mk.injEq] at ht;obtain ⟨rfl,rfl⟩:=ht;rw [qu hp] at hw;simp only [Prod.mk.injEq] at hw;obtain ⟨rfl,rfl⟩:=hw;exact ⟨φ,.refl hd,qt hp hx,fun hu=>iS hu (by rintro cs rfl;simp [dl] at hp),fun h=>h⟩
  ·simp at ht
 |sl es=>
  have kB: ∀{v0:Option Addr},v= .slice v0 0 0→aD (.own es.length []) H=(a,H1)→L1=L→ ∃ φ1,b8 w L φL AL H φ AH L1 H1 φ1∧R w H1 φ1 AH a v∧a.cells=[a]:=by
   intro v0 hv hw hL;subst hL;simp only [aD,aE,Prod.mk.injEq] at hw;obtain ⟨rfl,rfl⟩:=hw;have m:=newAt (b8.refl hd) (sz:=es.length) (fx:=false) (el:=[]) (loc:= .aQ) (by simp) (fun _=>rfl) (by simp)
   refine ⟨_,m,?_,rfl⟩;refine .ref _ _ _ _ _ (Nat.lt_succ_self _) ⟨_,_,hv⟩ fun b hb=> ?_;have:=jH (J.dX H es.length false []) hb;subst this;exact ⟨.aQ,v0,0,by simp,hv,by simp,Nat.le_refl _,by simp,rfl,fun _=>rfl⟩
  cases x with
  |nil=>
   simp only [aO,Option.some.injEq,Prod.mk.injEq] at ht;obtain ⟨rfl,rfl⟩:=ht;obtain ⟨φ1,h1,h2,h3⟩:=kB hx.cY hw rfl;exact ⟨φ1,h1,h2,fun _=>h3,fun h=>by simp at h⟩
  |e0=>
   simp only [aO,Option.some.injEq,Prod.mk.injEq] at ht;obtain ⟨rfl,rfl⟩:=ht;obtain ⟨a0,kC⟩:=hx.eD;obtain ⟨φ1,h1,h2,h3⟩:=kB kC hw rfl;exact ⟨φ1,h1,h2,fun _=>h3,fun h=>by simp at h⟩
  |fz xs=>
   simp only [aO,Option.some.injEq,Prod.mk.injEq] at ht;obtain ⟨rfl,rfl⟩:=ht;simp only [aD,Prod.mk.injEq] at hw;obtain ⟨rfl,rfl⟩:=hw;rcases hk with hk|hk
   ·exact ⟨φ,.refl hd,.fr _ _ (hx.dz.shrink hk),fun _=>rfl,fun h=>by simp at h⟩
   ·simp [cb] at hk
  |ref id ad off len=>
   simp only [aO] at ht;split at ht
   ·rename_i b hb;split at ht
    ·rename_i hc;obtain ⟨c1,c2,c3⟩:=hc;split at ht
     ·rename_i ys L' hm
      simp only [Option.some.injEq,Prod.mk.injEq] at ht;obtain ⟨rfl,rfl⟩:=ht;simp only [aD,Prod.mk.injEq] at hw;obtain ⟨rfl,rfl⟩:=hw;have hg:=(J.br hb).1;obtain ⟨bG,_,hr⟩:=hx.dW;obtain ⟨loc,a0,cap,q1,rfl,q3,q4,q5,q6⟩:=(hr b hb).out;obtain ⟨bk,aV,af⟩:=hd.sl.ap id _ q1;rw [hg] at aV;simp only [Option.some.injEq] at aV;subst aV;have bB:dO AL AH ys:=by
       rcases hk with h|h
       ·exact .inl h
       ·exact .inr (by simpa [cb] using h)
      have cJ:=bu.del L id;have bZ:bX w (L.del id) (aB φL (L.del id)) AL H φ AH:=⟨d_ hd.sl cJ,hd.sh,fun c hc=>hd.b7 c (bF hc),fun c hc=>hd.ej c (bF hc)⟩
      have bh:(aG b.el off len).length=len:=by simp [aG];omega
      have fP: ∀(i:Nat) (x:AV),(aG b.el off len)[i]? =some x→b.el[off+i]? =some x:=by
       intro i x hi;simp only [aG,List.getElem?_take,List.getElem?_drop] at hi;split at hi
       ·exact hi
       ·simp at hi
      let g:Nat→Nat→Value:=match loc with
       | .aQ=>fun _ _=>undef
       | .at_ c b0=>fun i j=>match w.heap[c]? with
        |some (.cells arr _ _)=>arr.getD (b0+(off+i)*es.length+j) undef
        |_=>undef
      have fL: ∀(i:Nat) (x:AV) (j:Nat) (c:AV),(aG b.el off len)[i]? =some x→x.cells[j]? =some c→R w (L.del id) (aB φL (L.del id)) AL c (g i j):=by
       intro i x j c hi hj;have bz:=fP i x hi
       have cc:i<len:=by rw [←bh];exact (List.getElem?_eq_some_iff.1 hi).1
       cases loc with
       |aQ=>have:=af.aQ rfl;rw [this] at bz;simp at bz
       |at_ c0 b0=>
        obtain ⟨arr,T,fr,k1,k2,k3,k4⟩:=af.here c0 b0 rfl;have dN:j<b.sz:=by rw [←af.sized _ _ bz];exact (List.getElem?_eq_some_iff.1 hj).1
        have hle:=cD (n:=b.sz) (show off+i<b.el.length by omega)
        have aw:b0+(off+i)*b.sz+j<arr.size:=by omega
        have:g i j=arr[b0+(off+i)*b.sz+j]:=by
         simp only [g,k1,←c1,Array.getD_eq_getD_getElem?,Array.getElem?_eq_getElem aw,Option.getD_some]
        rw [this];exact ((k4 _ _ _ _ _ bz hj (Array.getElem?_eq_getElem aw)).1).mono (cT cJ)
      obtain ⟨φ1,m,l1,s1,r1⟩:=nZ (w:=w) (es:=es) (fun x vs L φL AL H φ AH y L1 a H1=>lR es x vs L φL AL H φ AH y L1 a H1) _ g _ _ _ _ _ _ _ _ _ _ bZ fL hm rfl bB
      rw [bh] at l1;have kD: ∀(i:Nat) (a:AV),(aE ys H).1[i]? =some a→a.cells.length=b.sz:=by
       intro i a ha;have cc:i<(aG b.el off len).length:=by rw [bh,←l1];exact (List.getElem?_eq_some_iff.1 ha).1
       have ik:=List.getElem?_eq_getElem cc;rw [s1 i _ a ik ha];exact af.sized _ _ (fP i _ ik)
      have n5: ∀c b0 arr T fr,loc= .at_ c b0→w.heap[c]? =some (.cells arr T fr)→ ∀(i j:Nat) (v:Value),i<len→j<b.sz→arr[b0+(off+i)*b.sz+j]? =some v→g i j=v:=by
       intro c b0 arr T fr hl hh i j v _ _ hv;subst hl;simp only [g,hh,←c1,Array.getD_eq_getD_getElem?,hv,Option.getD_some]
      let loc' :Loc:=match loc with
       | .aQ=> .aQ
       | .at_ c b0=>if cap=0 then .aQ else .at_ c (b0+off*b.sz)
      have gP:loc' = .aQ∧len=0∨ ∃c b0,loc= .at_ c b0∧loc' = .at_ c (b0+off*b.sz):=by
       cases loc with
       |aQ=>left;refine ⟨rfl,?_⟩;have:=af.aQ rfl;rw [this] at q3;simp at q3;omega
       |at_ c b0=>
        by_cases en:cap=0
        ·left;exact ⟨by simp [loc',en],by omega⟩
        ·right;exact ⟨c,b0,rfl,by simp [loc',en]⟩
      have M:=lP hd hb c2 rfl q1 n5 m l1 kD r1 false loc' gP
      rw [c1] at M;refine ⟨_,M,?_,fun _=>rfl,fun h=>by simp at h⟩
      refine .ref _ _ _ _ _ (Nat.lt_succ_self _) ⟨a0,cap,by rw [l1]⟩ fun b' ax=> ?_
      have:=jH (J.dX (aE ys H).2 es.length false (aE ys H).1) ax;subst this;refine ⟨loc',a0,cap,by simp,by rw [l1],by simp,by omega,by simp only;omega,?_⟩
      cases loc with
      |aQ=>
       simp only at q6;have dK:len=0:=by have:=af.aQ rfl;rw [this] at q3;simp at q3;omega
       refine ⟨List.eq_nil_of_length_eq_zero (by rw [l1,dK]),fun _=> ?_⟩
       rcases c3 with c3|c3
       ·exact q6.2 c3
       ·omega
      |at_ c b0=>
       simp only at q6;by_cases en:cap=0
       ·simp only [loc',en,if_true];exact ⟨List.eq_nil_of_length_eq_zero (by omega),fun _=>by first|trivial|omega|rfl⟩
       ·simp only [loc',en,if_false];rcases q6 with q6|⟨h1,h2⟩
        ·exact absurd q6 en
        ·refine Or.inr ⟨by rw [h1];simp,?_⟩
         rw [c1] at h2⊢;have:(off+cap)*es.length=off*es.length+cap*es.length:=Nat.add_mul _ _ _;simp only [Nat.zero_add];omega
     ·simp at ht
    ·simp at ht
   ·simp at ht
  |_=>simp [aO] at ht
 |pt es=>
  cases x with
  |fe z o=>
   simp only [aO,Option.some.injEq,Prod.mk.injEq] at ht;obtain ⟨rfl,rfl⟩:=ht;simp only [aD,Prod.mk.injEq] at hw;obtain ⟨rfl,rfl⟩:=hw;rcases hk with hk|hk
   ·exact ⟨φ,.refl hd,.fr _ _ (hx.eC.shrink hk),fun _=>rfl,fun h=>by simp at h⟩
   ·simp [cb] at hk
  |ptr id ad idx off=>
   rcases idx with _|idx
   rotate_left
   ·simp [aO] at ht
   rcases off with _|off
   rotate_left
   ·simp [aO] at ht
   simp only [aO] at ht;split at ht
   ·rename_i n6 sz n7 z hb;split at ht
    ·rename_i y' L' hm
     simp only [Option.some.injEq,Prod.mk.injEq] at ht;obtain ⟨rfl,rfl⟩:=ht;simp only [aD,Prod.mk.injEq] at hw;obtain ⟨rfl,rfl⟩:=hw;have hg:=(J.br hb).1;obtain ⟨bG,_,hr⟩:=hx.fc;obtain ⟨c,b0,q1,rfl⟩:=hr _ hb;obtain ⟨bk,aV,af⟩:=hd.sl.ap id _ q1;rw [hg] at aV;simp only [Option.some.injEq] at aV;subst aV;obtain ⟨arr,T,fr,k1,k2,k3,k4⟩:=af.here c b0 rfl;have bB:fO AL AH y' :=by
      rcases hk with h|h
      ·exact .inl h
      ·exact .inr (by simpa [cb] using h)
     have cJ:=bu.del L id;have bZ:bX w (L.del id) (aB φL (L.del id)) AL H φ AH:=⟨d_ hd.sl cJ,hd.sh,fun c hc=>hd.b7 c (bF hc),fun c hc=>hd.ej c (bF hc)⟩
     have db:z.cells.length=sz:=af.sized 0 z rfl;simp only [List.length_singleton,Nat.one_mul] at k3
     let vs:List Value:=(arr.extract b0 (b0+sz)).toList
     have dA:vs.length=sz:=by simp [vs];omega
     have fQ: ∀j u,vs[j]? =some u→arr[b0+j]? =some u:=by
      intro j u hu;simp only [vs,Array.getElem?_toList,Array.getElem?_extract] at hu;split at hu
      ·exact hu
      ·simp at hu
     obtain ⟨φ1,m,l1,r1⟩:=lR es z vs _ _ _ _ _ _ _ _ _ _ bZ (by rw [dA,db]) (fun j c' u hj hu=>((k4 0 z j c' u rfl hj (by simpa using fQ j u hu)).1).mono (cT cJ)) hm rfl bB
     have M:=lP (as:=[(aD y' H).1]) (n:=1) (off:=0) (sz:=sz) (loc' := .at_ c b0) (g:=fun i j=>vs.getD j undef) hd hb (by simp) rfl q1 (fun c' n8 arr' T' eJ hl hh i j v hi hj hv=>by
      simp only [Loc.at_.injEq] at hl;obtain ⟨rfl,rfl⟩:=hl;rw [k1] at hh;simp only [Option.some.injEq,Obj.cells.injEq] at hh;obtain ⟨rfl,_,_⟩:=hh;have iT:i=0:=by omega
      subst iT;simp only [Nat.zero_mul,Nat.add_zero] at hv;have:vs[j]? =some v:=by
       simp only [vs,Array.getElem?_toList,Array.getElem?_extract];rw [if_pos (by omega)];exact hv
      simp [List.getD,this]) m rfl (fun i a ha=>by
      cases i with
      |zero=>simp at ha;subst ha;rw [l1,db]
      |succ i=>simp at ha) (fun i a j c' ha hc=>by
      cases i with
      |zero=>
       simp at ha;subst ha;have hj:j<vs.length:=by rw [dA,←db,←l1];exact (List.getElem?_eq_some_iff.1 hc).1
       have:=r1 j c' vs[j] hc (List.getElem?_eq_getElem hj)
       simpa [List.getD,hj] using this
      |succ i=>simp at ha) false (.inr ⟨c,b0,rfl,by simp⟩)
     refine ⟨_,M,?_,fun _=>rfl,fun h=>by simp at h⟩
     refine .ptr _ _ _ _ _ (Nat.lt_succ_self _) ⟨_,rfl⟩ fun b' ax=>⟨c,b0,by simp,?_⟩
     simp
    ·simp at ht
   ·simp at ht
  |_=>simp [aO] at ht
 termination_by (SizeOf.sizeOf sh,0)
theorem lR (es:List Sh) (x:AV) (vs:List Value) (L:J) (φL:ag) (AL:ah) (H:J) (φ :ag) (AH:ah) (y:AV) (L1:J) (a:AV) (H1:J) (hd:bX w L φL AL H φ AH) (hl:x.cells.length=vs.length)
 (hx: ∀(j:Nat) (c:AV) (u:Value),x.cells[j]? =some c→vs[j]? =some u→R w L φL AL c u) (ht:aX es x L=some (y,L1)) (hw:aD y H=(a,H1)) (hk:fO AL AH y):
 ∃ φ1,b8 w L φL AL H φ AH L1 H1 φ1∧a.cells.length=x.cells.length∧ ∀(j:Nat) (c:AV) (u:Value),a.cells[j]? =some c→vs[j]? =some u→R w H1 φ1 AH c u:=by
 by_cases bT: ∃cs,x= .agg cs
 ·obtain ⟨cs,rfl⟩:=bT;have cU: ∃aU,cg es cs L=some (aU,L1)∧y= .agg aU:=by
   match es,ht with
   |[],ht=>
    simp only [aX] at ht;split at ht
    ·rename_i aU L' hc
     simp only [Option.some.injEq,Prod.mk.injEq] at ht;obtain ⟨rfl,rfl⟩:=ht;exact ⟨aU,hc,rfl⟩
    ·simp at ht
   |[e],ht=>
    simp only [aX] at ht;split at ht
    ·rename_i aU L' hc
     simp only [Option.some.injEq,Prod.mk.injEq] at ht;obtain ⟨rfl,rfl⟩:=ht;exact ⟨aU,hc,rfl⟩
    ·simp at ht
   |e::e' ::es,ht=>
    simp only [aX] at ht;split at ht
    ·rename_i aU L' hc
     simp only [Option.some.injEq,Prod.mk.injEq] at ht;obtain ⟨rfl,rfl⟩:=ht;exact ⟨aU,hc,rfl⟩
    ·simp at ht
  obtain ⟨aU,hc,rfl⟩:=cU;simp only [aD,Prod.mk.injEq] at hw;obtain ⟨rfl,rfl⟩:=hw;have bB:dO AL AH aU:=by
   rcases hk with h|h
   ·exact .inl h
   ·exact .inr (by simpa [cb] using h)
  exact n9 es cs vs L φL AL H φ AH aU L1 _ _ hd hl hx hc rfl bB
 ·have dq: ∀cs,x≠ .agg cs:=fun cs h=>bT ⟨cs,h⟩
  match es,ht with
  |[e],ht=>
   have cU:aO e x L=some (y,L1):=by
    cases x<;>first|(simpa only [aX] using ht)|exact absurd rfl (dq _)
   by_cases hu:x= .undef
   ·subst hu;have fD:vs=[]:=List.eq_nil_of_length_eq_zero (by simpa [AV.cells] using hl.symm)
    subst fD;obtain ⟨φ1,m,_,_,h4⟩:=lQ e .undef undef L φL AL H φ AH y L1 a H1 hd (.fr _ _ (.undef _)) cU hw hk
    exact ⟨φ1,m,by rw [h4 rfl],by simp⟩
   ·have cK:=iS hu dq;rw [cK] at hl;obtain ⟨v,rfl⟩: ∃v,vs=[v]:=by
     match vs,hl with
     |[v],_=>exact ⟨v,rfl⟩
    obtain ⟨φ1,m,h2,h3,_⟩:=lQ e x v L φL AL H φ AH y L1 a H1 hd (hx 0 x v (by rw [cK];rfl) rfl) cU hw hk
    refine ⟨φ1,m,by rw [h3 hu,cK];rfl,fun j c u hj aN=> ?_⟩
    rw [h3 hu] at hj;cases j with
    |zero=>simp at hj aN;subst hj;subst aN;exact h2
    |succ j=>simp at hj
  |[],ht=>cases x<;>first|(simp [aX] at ht;done)|exact absurd rfl (dq _)
  |_::_::_,ht=>cases x<;>first|(simp [aX] at ht;done)|exact absurd rfl (dq _)
 termination_by (SizeOf.sizeOf es,1)
theorem n9 (es:List Sh) (cs:List AV) (vs:List Value) (L:J) (φL:ag) (AL:ah) (H:J) (φ :ag) (AH:ah) (ys:List AV) (L1:J) (as:List AV) (H1:J) (hd:bX w L φL AL H φ AH) (hl:cs.length=vs.length)
 (hx: ∀(j:Nat) (c:AV) (u:Value),cs[j]? =some c→vs[j]? =some u→R w L φL AL c u) (ht:cg es cs L=some (ys,L1)) (hw:aE ys H=(as,H1)) (hk:dO AL AH ys):
 ∃ φ1,b8 w L φL AL H φ AH L1 H1 φ1∧as.length=cs.length∧ ∀(j:Nat) (c:AV) (u:Value),as[j]? =some c→vs[j]? =some u→R w H1 φ1 AH c u:=by
 match es,cs,ht with
 |[],[],ht=>
  simp only [cg,Option.some.injEq,Prod.mk.injEq] at ht;obtain ⟨rfl,rfl⟩:=ht;simp only [aE,Prod.mk.injEq] at hw;obtain ⟨rfl,rfl⟩:=hw;exact ⟨φ,.refl hd,rfl,by simp⟩
 |e::es,x::cs,ht=>
  simp only [cg] at ht;split at ht
  ·rename_i y L' h1
   split at ht
   ·rename_i aS c5 h2
    simp only [Option.some.injEq,Prod.mk.injEq] at ht;obtain ⟨rfl,rfl⟩:=ht;simp only [aE,Prod.mk.injEq] at hw;obtain ⟨rfl,rfl⟩:=hw;obtain ⟨k1,k2⟩:=hk.cons
    match vs,hl with
    |v::vs,hl=>
     obtain ⟨φ1,m1,r1,_,_⟩:=lQ e x v L φL AL H φ AH y L' _ _ hd (hx 0 x v rfl rfl) h1 rfl k1
     obtain ⟨a7,m2,l2,r2⟩:=n9 es cs vs L' (aB φL L') AL _ φ1 AH aS c5 _ _ m1.bj (by simpa using hl) (fun j c u hj hu=>(hx (j+1) c u hj hu).mono (cT m1.less)) h2 rfl k2
     refine ⟨a7,m1.trans m2,by simp [l2],fun j c u hj hu=> ?_⟩
     cases j with
     |zero=>simp at hj hu;subst hj;subst hu;exact r1.mono m2.eh
     |succ j=>exact r2 j c u hj hu
   ·simp at ht
  ·simp at ht
 |[],_::_,ht=>simp [cg] at ht
 |_::_,[],ht=>simp [cg] at ht
 termination_by (SizeOf.sizeOf es,0)
end
end bj
end Go.VS
namespace Go.VS
section bj
variable {w:World}
theorem R.lS {H:J} {φ :ag} {A A' :ah} (hA: ∀c,A' c→A c) {x:AV} {v:Value} (h:R w H φ A x v):R w H φ A' x v:=
 h.mono ⟨fun c _arr _T fr hc hn=>⟨⟨fr,hc⟩,fun h=>hn (hA c h)⟩,Nat.le_refl _,fun _id b h _=>⟨b,h,rfl,rfl,rfl,rfl,fun _ h=>h⟩,fun _ _=>rfl⟩
theorem kE {es:List Sh} {cs:List AV} {L L1:J} {y:AV} (ht:aX es (.agg cs) L=some (y,L1)): ∃aU,cg es cs L=some (aU,L1)∧y= .agg aU:=by
 match es,ht with
 |[],ht=>
  simp only [aX] at ht;split at ht
  ·rename_i aU L' hc
   simp only [Option.some.injEq,Prod.mk.injEq] at ht;obtain ⟨rfl,rfl⟩:=ht;exact ⟨aU,hc,rfl⟩
  ·simp at ht
 |[e],ht=>
  simp only [aX] at ht;split at ht
  ·rename_i aU L' hc
   simp only [Option.some.injEq,Prod.mk.injEq] at ht;obtain ⟨rfl,rfl⟩:=ht;exact ⟨aU,hc,rfl⟩
  ·simp at ht
 |e::e' ::es,ht=>
  simp only [aX] at ht;split at ht
  ·rename_i aU L' hc
   simp only [Option.some.injEq,Prod.mk.injEq] at ht;obtain ⟨rfl,rfl⟩:=ht;exact ⟨aU,hc,rfl⟩
  ·simp at ht
theorem iU {es:List Sh} {x:AV} (hx: ∀cs,x≠ .agg cs) {L L1:J} {y:AV} (ht:aX es x L=some (y,L1)): ∃e,es=[e]∧aO e x L=some (y,L1):=by
 match es,ht with
 |[e],ht=>
  refine ⟨e,rfl,?_⟩;cases x<;>first|(simpa only [aX] using ht)|exact absurd rfl (hx _)
 |[],ht=>cases x<;>first|(simp [aX] at ht;done)|exact absurd rfl (hx _)
 |_::_::_,ht=>cases x<;>first|(simp [aX] at ht;done)|exact absurd rfl (hx _)
theorem qv {es:List Sh} {x:AV} {v:Value} {L:J} {φL:ag} {AL:ah} {H:J} {φ :ag} {AH:ah} {y:AV} {L1:J} {a:AV} {H1:J} (hd:bX w L φL AL H φ AH) (hx:R w L φL AL x v)
 (ht:aX es x L=some (y,L1)) (hw:aD y H=(a,H1)) (hk:fO AL AH y): ∃ φ1,b8 w L φL AL H φ AH L1 H1 φ1∧R w H1 φ1 AH a v:=by
 by_cases bT: ∃cs,x= .agg cs
 ·obtain ⟨cs,rfl⟩:=bT;obtain ⟨aU,hc,rfl⟩:=kE ht;simp only [aD,Prod.mk.injEq] at hw;obtain ⟨rfl,rfl⟩:=hw;have bB:dO AL AH aU:=by
   rcases hk with h|h
   ·exact .inl h
   ·exact .inr (by simpa [cb] using h)
  obtain ⟨vs,rfl,hl,ho,hp⟩:=hx.fE;obtain ⟨φ1,m,l1,r1⟩:=n9 es cs vs.toList L φL AL H φ AH aU L1 _ _ hd (by simpa using hl) (fun j c u hj hu=>hp j c u hj (by simpa using hu)) hc rfl bB
  exact ⟨φ1,m,.agg _ _ (by rw [l1,hl]) ho fun i x v hx hv=>r1 i x v hx (by simpa using hv)⟩
 ·obtain ⟨e,rfl,cU⟩:=iU (fun cs h=>bT ⟨cs,h⟩) ht;obtain ⟨φ1,m,r,_⟩:=lQ e x v L φL AL H φ AH y L1 a H1 hd hx cU hw hk
  exact ⟨φ1,m,r⟩
def gone (φ :ag) (A:ah) (L1:J):ah:=fun c=>A c∧(Ow φ c→Ow (aB φ L1) c)
theorem n_ {φ :ag} {A:ah} {L L1:J} (h:bu L L1) {c:Nat} (hc:gone φ A L1 c):gone φ A L c:=
 ⟨hc.1,fun ho=>by
  obtain ⟨i,b,hi⟩:=hc.2 ho;obtain ⟨h1,bk,h2⟩:=df hi;exact ⟨i,b,by simp [aB,h.get _ _ h2,h1]⟩⟩
theorem qw {w:World} {L L1:J} {φ :ag} {A:ah} (ae:St w L φ A) {id c b0:Nat} (h: φ id=some (.at_ c b0)) (hn:L1.get id=none): ¬gone φ A L1 c:=by
 rintro ⟨_,h2⟩;obtain ⟨i,b,hi⟩:=h2 ⟨id,b0,h⟩;obtain ⟨h1,bk,h3⟩:=df hi;have:=ae.inj _ _ _ _ _ h1 h;subst this;rw [hn] at h3;simp at h3
theorem xw {x:AV} (hp:dl x=true):bn x=x:=by
 cases x<;>first|rfl|simp [dl] at hp
theorem xx {L:J} {φL:ag} {AL A' :ah} {x:AV} {v:Value} (hp:dl x=true) (h:R w L φL AL x v):FR w A' x v:=by
 cases x with
 |undef=>exact .undef _
 |int k n=>have:=h.cx;subst this;exact .int _ _
 |bool b=>have:=h.eK;subst this;exact .bool _
 |str s=>obtain ⟨b,rfl,rfl⟩:=h.eL;exact .str _
 |cf b=>rcases h.jv with ⟨rfl,rfl⟩|⟨rfl,t,u,rfl⟩;exact .ju;exact .err _ _
 |dt=>cases h with|fr _ _ h=>cases h;exact .dt
 |_=>simp [dl] at hp
theorem lT {f:AV→J→Option (AV×J)} (hf: ∀x L y L1,f x L=some (y,L1)→bu L L1): ∀(xs:List AV) (L:J) (ys:List AV) (L1:J),dj f xs L=some (ys,L1)→bu L L1
 |[],L,ys,L1,h=>by simp [dj] at h;obtain ⟨_,rfl⟩:=h;exact .refl _
 |x::xs,L,ys,L1,h=>by
  simp only [dj] at h;split at h
  ·rename_i y L' h1
   split at h
   ·rename_i aS c5 h2
    simp only [Option.some.injEq,Prod.mk.injEq] at h;obtain ⟨_,rfl⟩:=h;exact (hf _ _ _ _ h1).trans (lT hf xs L' aS _ h2)
   ·simp at h
  ·simp at h
mutual
theorem oa: ∀(sh:Sh) (x:AV) (L:J) (y:AV) (L1:J),aO sh x L=some (y,L1)→bu L L1
 | .sc,x,L,y,L1,ht=>by
  simp only [aO] at ht;split at ht
  ·simp only [Option.some.injEq,Prod.mk.injEq] at ht;obtain ⟨_,rfl⟩:=ht;exact .refl _
  ·simp at ht
 | .sl es,x,L,y,L1,ht=>by
  cases x with
  |ref id ad off len=>
   simp only [aO] at ht;split at ht
   ·split at ht
    ·split at ht
     ·rename_i ys L' hm
      simp only [Option.some.injEq,Prod.mk.injEq] at ht;obtain ⟨_,rfl⟩:=ht;exact (bu.del L id).trans (lT (fun x L y L1 h=>fl es x L y L1 h) _ _ _ _ hm)
     ·simp at ht
    ·simp at ht
   ·simp at ht
  |_=>first
   |(simp [aO] at ht;done)
   |(simp only [aO,Option.some.injEq,Prod.mk.injEq] at ht;obtain ⟨_,rfl⟩:=ht;exact .refl _)
 | .pt es,x,L,y,L1,ht=>by
  cases x with
  |fe z o=>simp only [aO,Option.some.injEq,Prod.mk.injEq] at ht;obtain ⟨_,rfl⟩:=ht;exact .refl _
  |ptr id ad idx off=>
   rcases idx with _|idx
   rotate_left
   ·simp [aO] at ht
   rcases off with _|off
   rotate_left
   ·simp [aO] at ht
   simp only [aO] at ht;split at ht
   ·split at ht
    ·rename_i y' L' hm
     simp only [Option.some.injEq,Prod.mk.injEq] at ht;obtain ⟨_,rfl⟩:=ht;exact (bu.del L id).trans (fl es _ _ _ _ hm)
    ·simp at ht
   ·simp at ht
  |_=>simp [aO] at ht
 termination_by sh=>(SizeOf.sizeOf sh,0)
theorem fl: ∀(es:List Sh) (x:AV) (L:J) (y:AV) (L1:J),aX es x L=some (y,L1)→bu L L1
 |es,x,L,y,L1,ht=>by
  by_cases bT: ∃cs,x= .agg cs
  ·obtain ⟨cs,rfl⟩:=bT;obtain ⟨aU,hc,_⟩:=kE ht;exact ob es cs L aU L1 hc
  ·obtain ⟨e,rfl,cU⟩:=iU (fun cs h=>bT ⟨cs,h⟩) ht;exact oa e x L y L1 cU
 termination_by es=>(SizeOf.sizeOf es,1)
theorem ob: ∀(es:List Sh) (cs:List AV) (L:J) (ys:List AV) (L1:J),cg es cs L=some (ys,L1)→bu L L1
 |[],[],L,ys,L1,ht=>by simp [cg] at ht;obtain ⟨_,rfl⟩:=ht;exact .refl _
 |e::es,x::cs,L,ys,L1,ht=>by
  simp only [cg] at ht;split at ht
  ·rename_i y L' h1
   split at ht
   ·rename_i aS c5 h2
    simp only [Option.some.injEq,Prod.mk.injEq] at ht;obtain ⟨_,rfl⟩:=ht;exact (oa e x L y L' h1).trans (ob es cs L' aS _ h2)
   ·simp at ht
  ·simp at ht
 |[],_::_,_,_,_,ht=>by simp [cg] at ht
 |_::_,[],_,_,_,ht=>by simp [cg] at ht
 termination_by es=>(SizeOf.sizeOf es,0)
end
theorem qx {es:List Sh} {A' :ah} (hE: ∀(x:AV) (vs:List Value) (L:J) (φL:ag) (AL:ah) (y:AV) (L1:J),St w L φL AL→x.cells.length=vs.length→
 (∀(j:Nat) (c:AV) (u:Value),x.cells[j]? =some c→vs[j]? =some u→R w L φL AL c u)→aX es x L=some (y,L1)→(∀c,A' c→gone φL AL L1 c)→
 (bn y).cells.length=x.cells.length∧ ∀(j:Nat) (c:AV) (u:Value),(bn y).cells[j]? =some c→vs[j]? =some u→FR w A' c u):
 ∀(xs:List AV) (g:Nat→Nat→Value) (L:J) (φL:ag) (AL:ah) (ys:List AV) (L1:J),St w L φL AL→
  (∀(i:Nat) (x:AV) (j:Nat) (c:AV),xs[i]? =some x→x.cells[j]? =some c→R w L φL AL c (g i j))→dj (aX es) xs L=some (ys,L1)→(∀c,A' c→gone φL AL L1 c)→
  (bR ys).length=xs.length∧(∀(i:Nat) (x a:AV),xs[i]? =some x→(bR ys)[i]? =some a→a.cells.length=x.cells.length)∧
   ∀(i:Nat) (a:AV) (j:Nat) (c:AV),(bR ys)[i]? =some a→a.cells[j]? =some c→FR w A' c (g i j)
 |[],g,L,φL,AL,ys,L1,hd,_,ht,hk=>by
  simp only [dj,Option.some.injEq,Prod.mk.injEq] at ht;obtain ⟨rfl,rfl⟩:=ht;exact ⟨rfl,by simp,by simp [bR]⟩
 |x::xs,g,L,φL,AL,ys,L1,hd,hr,ht,hk=>by
  simp only [dj] at ht;split at ht
  ·rename_i y L' h1
   split at ht
   ·rename_i aS c5 h2
    simp only [Option.some.injEq,Prod.mk.injEq] at ht;obtain ⟨rfl,rfl⟩:=ht
    let vs:List Value:=(List.range x.cells.length).map (g 0)
    have eo:=fl es x L y L' h1
    have dc:=lT (fun x L y L1 h=>fl es x L y L1 h) _ _ _ _ h2;obtain ⟨l1,r1⟩:=hE x vs L φL AL y L' hd (by simp [vs]) (fun j c u hj hu=>by
     have dN:j<x.cells.length:=(List.getElem?_eq_some_iff.1 hj).1;have:vs[j]? =some (g 0 j):=by simp [vs,dN]
     rw [this] at hu;simp only [Option.some.injEq] at hu;subst hu;exact hr 0 x j c rfl hj) h1 (fun c hc=>n_ dc (hk c hc))
    obtain ⟨l2,s2,r2⟩:=qx hE xs (fun i j=>g (i+1) j) L' (aB φL L') AL aS c5 (d_ hd eo) (fun i x' j c hi hj=>(hr (i+1) x' j c hi hj).mono (cT eo)) h2 (fun c hc=>by
     obtain ⟨k1,k2⟩:=hk c hc;exact ⟨k1,fun ho=>by rw [fN dc];exact k2 (bF ho)⟩)
    refine ⟨by simp [bR,l2],fun i x' a hx ha=> ?_,fun i a j c ha hc=> ?_⟩
    ·cases i with
     |zero=>simp [bR] at hx ha;subst hx;subst ha;exact l1
     |succ i=>simp [bR] at hx ha;exact s2 i x' a hx ha
    ·cases i with
     |zero=>
      simp only [bR,List.getElem?_cons_zero,Option.some.injEq] at ha;subst ha;have hj:j<x.cells.length:=by rw [←l1];exact (List.getElem?_eq_some_iff.1 hc).1
      exact r1 j c (g 0 j) hc (by simp [vs,hj])
     |succ i=>exact r2 i a j c (by simpa [bR] using ha) hc
   ·simp at ht
  ·simp at ht
mutual
theorem lU (sh:Sh) (x:AV) (v:Value) (L:J) (φL:ag) (AL A' :ah) (y:AV) (L1:J) (ae:St w L φL AL) (hx:R w L φL AL x v)
 (ht:aO sh x L=some (y,L1)) (hk: ∀c,A' c→gone φL AL L1 c):FR w A' (bn y) v∧(x≠ .undef→(bn y).cells=[bn y])∧(x= .undef→bn y= .undef):=by
 cases sh with
 |sc=>
  simp only [aO] at ht;split at ht
  ·rename_i hp;simp only [Option.some.injEq,Prod.mk.injEq] at ht;obtain ⟨rfl,rfl⟩:=ht;rw [xw hp];exact ⟨xx hp hx,fun hu=>iS hu (by rintro cs rfl;simp [dl] at hp),fun h=>h⟩
  ·simp at ht
 |sl es=>
  cases x with
  |nil=>
   simp only [aO,Option.some.injEq,Prod.mk.injEq] at ht;obtain ⟨rfl,rfl⟩:=ht;have:=hx.cY;subst this;exact ⟨.cA _ _,fun _=>rfl,fun h=>by simp at h⟩
  |e0=>
   simp only [aO,Option.some.injEq,Prod.mk.injEq] at ht;obtain ⟨rfl,rfl⟩:=ht;obtain ⟨a0,rfl⟩:=hx.eD;exact ⟨.cA _ _,fun _=>rfl,fun h=>by simp at h⟩
  |fz xs=>
   simp only [aO,Option.some.injEq,Prod.mk.injEq] at ht;obtain ⟨rfl,rfl⟩:=ht;exact ⟨hx.dz.shrink fun c hc=>(hk c hc).1,fun _=>rfl,fun h=>by simp at h⟩
  |ref id ad off len=>
   simp only [aO] at ht;split at ht
   ·rename_i b hb;split at ht
    ·rename_i hc;obtain ⟨c1,c2,c3⟩:=hc;split at ht
     ·rename_i ys L' hm
      simp only [Option.some.injEq,Prod.mk.injEq] at ht;obtain ⟨rfl,rfl⟩:=ht;have hg:=(J.br hb).1;obtain ⟨bG,_,hr⟩:=hx.dW;obtain ⟨loc,a0,cap,q1,rfl,q3,q4,q5,q6⟩:=(hr b hb).out;obtain ⟨bk,aV,af⟩:=ae.ap id _ q1;rw [hg] at aV;simp only [Option.some.injEq] at aV;subst aV;have cJ:=bu.del L id;have dc:=lT (fun x L y L1 h=>fl es x L y L1 h) _ _ _ _ hm;have gR:L'.get id=none:=by
       cases hq:L'.get id with
       |none=>rfl
       |some b=>have:=dc.get _ _ hq;rw [J.ij,if_pos rfl] at this;simp at this
      have bh:(aG b.el off len).length=len:=by simp [aG];omega
      have fP: ∀(i:Nat) (x:AV),(aG b.el off len)[i]? =some x→b.el[off+i]? =some x:=by
       intro i x hi;simp only [aG,List.getElem?_take,List.getElem?_drop] at hi;split at hi
       ·exact hi
       ·simp at hi
      refine ⟨?_,fun _=>rfl,fun h=>by simp at h⟩
      simp only [bn];rcases Nat.eq_zero_or_pos len with dK|xy
      ·subst dK;have:ys=[]:=by
        have h0:aG b.el off 0=[]:=by simp [aG]
        rw [h0] at hm;simp [dj] at hm;exact hm.1
       subst this;exact .cA _ _
      ·cases loc with
       |aQ=>have:=af.aQ rfl;rw [this] at q3;simp at q3;omega
       |at_ c b0=>
        simp only at q6;rcases q6 with q6|⟨h1,h2⟩
        ·omega
        obtain ⟨arr,T,fr,k1,k2,k3,k4⟩:=af.here c b0 rfl
        let g:Nat→Nat→Value:=fun i j=>arr.getD (b0+(off+i)*b.sz+j) undef
        have cr: ∀(i:Nat) (x:AV) (j:Nat),(aG b.el off len)[i]? =some x→j<x.cells.length→b0+(off+i)*b.sz+j<arr.size:=by
         intro i x j hi hj;have bz:=fP i x hi
         have cc:i<len:=by rw [←bh];exact (List.getElem?_eq_some_iff.1 hi).1
         rw [af.sized _ _ bz] at hj;have hle:=cD (n:=b.sz) (show off+i<b.el.length by omega)
         omega
        have fL: ∀(i:Nat) (x:AV) (j:Nat) (c:AV),(aG b.el off len)[i]? =some x→x.cells[j]? =some c→R w (L.del id) (aB φL (L.del id)) AL c (g i j):=by
         intro i x j c' hi hj
         have aw:=cr i x j hi (List.getElem?_eq_some_iff.1 hj).1;have:g i j=arr[b0+(off+i)*b.sz+j]:=by
          simp only [g,Array.getD_eq_getD_getElem?,Array.getElem?_eq_getElem aw,Option.getD_some]
         rw [this];exact ((k4 _ _ _ _ _ (fP i x hi) hj (Array.getElem?_eq_getElem aw)).1).mono (cT cJ)
        obtain ⟨l1,s1,r1⟩:=qx (A' :=A') (es:=es) (fun x vs L φL AL y L1=>qy es x vs L φL AL A' y L1) _ g _ _ _ _ _ (d_ ae cJ) fL hm (fun c hc=>by
         obtain ⟨k1,k2⟩:=hk c hc;exact ⟨k1,fun ho=>by rw [fN dc];exact k2 (bF ho)⟩)
        rw [bh] at l1;have hmul:(off+len)*b.sz≤b.el.length*b.sz:=Nat.mul_le_mul_right _ q3;have xA:(off+len)*b.sz=off*b.sz+len*b.sz:=Nat.add_mul _ _ _;have gS:=FR.fz (A:=A') (bR ys) c (b0+off*b.sz) cap b.sz arr T fr k1 (fun hA=>qw ae q1 gR (hk c hA)) (by rw [l1];exact q4) (by rw [l1];omega)
         (fun i a ha=>by
          have hi:i<(aG b.el off len).length:=by rw [bh,←l1];exact (List.getElem?_eq_some_iff.1 ha).1
          rw [s1 i _ a (List.getElem?_eq_getElem hi) ha];exact af.sized _ _ (fP i _ (List.getElem?_eq_getElem hi)))
         (fun j v hj hv=>by
          rw [l1] at hj;have ef:0<b.sz:=by
           rcases Nat.eq_zero_or_pos b.sz with h|h
           ·rw [h] at hj;simp at hj
           ·exact h
          have xB:j/b.sz<len:=Nat.div_lt_of_lt_mul (by rw [Nat.mul_comm];exact hj)
          have oc:j % b.sz<b.sz:=Nat.mod_lt _ ef;have xC:j=(j/b.sz)*b.sz+j % b.sz:=by rw [Nat.mul_comm];exact (Nat.div_add_mod j b.sz).symm
          have cE:off+j/b.sz<b.el.length:=by omega
          have hx:=List.getElem?_eq_getElem cE;have cj:=af.sized _ _ hx;have e:b0+off*b.sz+j=b0+(off+j/b.sz)*b.sz+j % b.sz:=by rw [Nat.add_mul];omega
          rw [e] at hv;exact (k4 _ _ _ _ v hx (List.getElem?_eq_getElem (show j % b.sz<_ by rw [cj];exact oc)) hv).2)
         (fun i a j c' v ha hc hv=>by
          have e:b0+off*b.sz+i*b.sz+j=b0+(off+i)*b.sz+j:=by rw [Nat.add_mul];omega
          rw [e] at hv;have:g i j=v:=by simp only [g,Array.getD_eq_getD_getElem?,hv,Option.getD_some]
          rw [←this];exact r1 i a j c' ha hc)
        rw [l1] at gS;rw [h1];exact gS
     ·simp at ht
    ·simp at ht
   ·simp at ht
  |_=>simp [aO] at ht
 |pt es=>
  cases x with
  |fe z o=>
   simp only [aO,Option.some.injEq,Prod.mk.injEq] at ht;obtain ⟨rfl,rfl⟩:=ht;exact ⟨hx.eC.shrink fun c hc=>(hk c hc).1,fun _=>rfl,fun h=>by simp at h⟩
  |ptr id ad idx off=>
   rcases idx with _|idx
   rotate_left
   ·simp [aO] at ht
   rcases off with _|off
   rotate_left
   ·simp [aO] at ht
   simp only [aO] at ht;split at ht
   ·rename_i n6 sz n7 z hb;split at ht
    ·rename_i y' L' hm
     simp only [Option.some.injEq,Prod.mk.injEq] at ht;obtain ⟨rfl,rfl⟩:=ht;refine ⟨?_,fun _=>rfl,fun h=>by simp at h⟩
     have hg:=(J.br hb).1;obtain ⟨bG,_,hr⟩:=hx.fc;obtain ⟨c,b0,q1,rfl⟩:=hr _ hb;obtain ⟨bk,aV,af⟩:=ae.ap id _ q1;rw [hg] at aV;simp only [Option.some.injEq] at aV;subst aV;obtain ⟨arr,T,fr,k1,k2,k3,k4⟩:=af.here c b0 rfl;have cJ:=bu.del L id;have dc:=fl es _ _ _ _ hm;have gR:L'.get id=none:=by
      cases hq:L'.get id with
      |none=>rfl
      |some b=>have:=dc.get _ _ hq;rw [J.ij,if_pos rfl] at this;simp at this
     have db:z.cells.length=sz:=af.sized 0 z rfl;simp only [List.length_singleton,Nat.one_mul] at k3
     let vs:List Value:=(arr.extract b0 (b0+sz)).toList
     have dA:vs.length=sz:=by simp [vs];omega
     have fQ: ∀j u,vs[j]? =some u→arr[b0+j]? =some u:=by
      intro j u hu;simp only [vs,Array.getElem?_toList,Array.getElem?_extract] at hu;split at hu
      ·exact hu
      ·simp at hu
     obtain ⟨l1,r1⟩:=qy es z vs _ _ _ A' _ _ (d_ ae cJ) (by rw [dA,db]) (fun j c' u hj hu=>((k4 0 z j c' u rfl hj (by simpa using fQ j u hu)).1).mono (cT cJ)) hm (fun c hc=>by
      obtain ⟨k1,k2⟩:=hk c hc;exact ⟨k1,fun ho=>by rw [fN dc];exact k2 (bF ho)⟩)
     have:=FR.fe (A:=A') (bn y') 0 c b0 arr T fr k1 (fun hA=>qw ae q1 gR (hk c hA)) (by rw [l1,db];exact k3)
      (fun j v hj hv=>by
       rw [l1] at hj;exact (k4 0 z j _ v rfl (List.getElem?_eq_getElem hj) (by simpa using hv)).2)
      (fun j c' v hc hv=>by
       have hj:j<sz:=by rw [←db,←l1];exact (List.getElem?_eq_some_iff.1 hc).1
       exact r1 j c' v hc (by simp only [vs,Array.getElem?_toList,Array.getElem?_extract];rw [if_pos (by omega)];exact hv))
     simpa [bn] using this
    ·simp at ht
   ·simp at ht
  |_=>simp [aO] at ht
 termination_by (SizeOf.sizeOf sh,0)
theorem qy (es:List Sh) (x:AV) (vs:List Value) (L:J) (φL:ag) (AL A' :ah) (y:AV) (L1:J) (ae:St w L φL AL) (hl:x.cells.length=vs.length)
 (hx: ∀(j:Nat) (c:AV) (u:Value),x.cells[j]? =some c→vs[j]? =some u→R w L φL AL c u) (ht:aX es x L=some (y,L1)) (hk: ∀c,A' c→gone φL AL L1 c):
 (bn y).cells.length=x.cells.length∧ ∀(j:Nat) (c:AV) (u:Value),(bn y).cells[j]? =some c→vs[j]? =some u→FR w A' c u:=by
 by_cases bT: ∃cs,x= .agg cs
 ·obtain ⟨cs,rfl⟩:=bT;obtain ⟨aU,hc,rfl⟩:=kE ht;exact od es cs vs L φL AL A' aU L1 ae hl hx hc hk
 ·have dq: ∀cs,x≠ .agg cs:=fun cs h=>bT ⟨cs,h⟩;obtain ⟨e,rfl,cU⟩:=iU dq ht;by_cases hu:x= .undef
  ·subst hu;have fD:vs=[]:=List.eq_nil_of_length_eq_zero (by simpa [AV.cells] using hl.symm)
   subst fD;obtain ⟨_,_,h4⟩:=lU e .undef undef L φL AL A' y L1 ae (.fr _ _ (.undef _)) cU hk
   exact ⟨by rw [h4 rfl],by simp⟩
  ·have cK:=iS hu dq;rw [cK] at hl;obtain ⟨v,rfl⟩: ∃v,vs=[v]:=by
    match vs,hl with
    |[v],_=>exact ⟨v,rfl⟩
   obtain ⟨h2,h3,_⟩:=lU e x v L φL AL A' y L1 ae (hx 0 x v (by rw [cK];rfl) rfl) cU hk
   refine ⟨by rw [h3 hu,cK];rfl,fun j c u hj aN=> ?_⟩
   rw [h3 hu] at hj;cases j with
   |zero=>simp at hj aN;subst hj;subst aN;exact h2
   |succ j=>simp at hj
 termination_by (SizeOf.sizeOf es,1)
theorem od (es:List Sh) (cs:List AV) (vs:List Value) (L:J) (φL:ag) (AL A' :ah) (ys:List AV) (L1:J) (ae:St w L φL AL) (hl:cs.length=vs.length)
 (hx: ∀(j:Nat) (c:AV) (u:Value),cs[j]? =some c→vs[j]? =some u→R w L φL AL c u) (ht:cg es cs L=some (ys,L1)) (hk: ∀c,A' c→gone φL AL L1 c):
 (bR ys).length=cs.length∧ ∀(j:Nat) (c:AV) (u:Value),(bR ys)[j]? =some c→vs[j]? =some u→FR w A' c u:=by
 match es,cs,ht with
 |[],[],ht=>
  simp only [cg,Option.some.injEq,Prod.mk.injEq] at ht;obtain ⟨rfl,rfl⟩:=ht;exact ⟨rfl,by simp [bR]⟩
 |e::es,x::cs,ht=>
  simp only [cg] at ht;split at ht
  ·rename_i y L' h1
   split at ht
   ·rename_i aS c5 h2
    simp only [Option.some.injEq,Prod.mk.injEq] at ht;obtain ⟨rfl,rfl⟩:=ht;have eo:=oa e x L y L' h1
    have dc:=ob es cs L' aS c5 h2
    match vs,hl with
    |v::vs,hl=>
     obtain ⟨r1,_,_⟩:=lU e x v L φL AL A' y L' ae (hx 0 x v rfl rfl) h1 (fun c hc=>n_ dc (hk c hc))
     obtain ⟨l2,r2⟩:=od es cs vs L' (aB φL L') AL A' aS c5 (d_ ae eo) (by simpa using hl) (fun j c u hj hu=>(hx (j+1) c u hj hu).mono (cT eo)) h2 (fun c hc=>by
      obtain ⟨k1,k2⟩:=hk c hc;exact ⟨k1,fun ho=>by rw [fN dc];exact k2 (bF ho)⟩)
     refine ⟨by simp [bR,l2],fun j c u hj hu=> ?_⟩
     cases j with
     |zero=>simp [bR] at hj hu;subst hj;subst hu;exact r1
     |succ j=>exact r2 j c u (by simpa [bR] using hj) hu
   ·simp at ht
  ·simp at ht
 |[],_::_,ht=>simp [cg] at ht
 |_::_,[],ht=>simp [cg] at ht
 termination_by (SizeOf.sizeOf es,0)
end
end bj
end Go.VS
namespace Go.VS
section xD
variable {w:World} {H:J} {φ :ag} {A:ah}
theorem mapM_some {α β :Type} {f: α →Option β}: ∀{xs:List α} {ys:List β},xs.mapM f=some ys→ys.length=xs.length∧ ∀(i:Nat) (x: α) (y: β),xs[i]? =some x→ys[i]? =some y→f x=some y
 |[],ys,h=>by simp at h;subst h;simp
 |x::xs,ys,h=>by
  simp only [List.mapM_cons,Option.bind_eq_bind,Option.bind_eq_some_iff,Option.pure_def,Option.some.injEq] at h;obtain ⟨y,h1,aS,h2,rfl⟩:=h;obtain ⟨hl,hp⟩:=mapM_some h2;refine ⟨by simp [hl],fun i a b ha hb=> ?_⟩
  cases i with
  |zero=>simp at ha hb;subst ha;subst hb;exact h1
  |succ i=>exact hp i a b ha hb
def fm (φ :ag) (A:ah):ah:=fun c=>A c∧ ¬Ow φ c
def kF (w:World) (H:J) (φ :ag) (A:ah) (n:Nat):Prop:= ∀(x:AV) (v:Value) (y:AV),R w H φ A x v→aP n H x=some y→
 FR w (fm φ A) y v∧(eI x=false→FR w A y v)∧((∀cs,x≠ .agg cs)→x≠ .undef→y.cells=[y])∧(x= .undef→y= .undef)
def qz (w:World) (H:J) (φ :ag) (A:ah) (n:Nat):Prop:= ∀(x:AV) (vs:List Value) (y:AV),x.cells.length=vs.length→
 (∀(j:Nat) (c:AV) (u:Value),x.cells[j]? =some c→vs[j]? =some u→R w H φ A c u)→aP n H x=some y→
 y.cells.length=x.cells.length∧ ∀(j:Nat) (c:AV) (u:Value),y.cells[j]? =some c→vs[j]? =some u→FR w (fm φ A) c u
theorem oe: ∀{xs:List AV},lu xs=false→ ∀(i:Nat) (x:AV),xs[i]? =some x→eI x=false
 |[],_,i,x,h=>by simp at h
 |y::ys,hl,i,x,h=>by
  simp only [lu,Bool.or_eq_false_iff] at hl;cases i with
  |zero=>simp at h;subst h;exact hl.1
  |succ i=>exact oe hl.2 i x h
theorem qA {n:Nat} (hV:kF w H φ A n) (xE: ∀m,n=m+1→kF w H φ A m):qz w H φ A n:=by
 intro x vs y hl hx hs;by_cases bT: ∃cs,x= .agg cs
 ·obtain ⟨cs,rfl⟩:=bT;cases n with
  |zero=>simp [aP] at hs
  |succ n=>
   simp only [aP,Option.map_eq_some_iff] at hs;obtain ⟨ys,hm,rfl⟩:=hs;obtain ⟨l1,p1⟩:=mapM_some hm;refine ⟨l1,fun j c u hj hu=> ?_⟩;have dN:j<cs.length:=by rw [←l1];exact (List.getElem?_eq_some_iff.1 hj).1
   have hc:=List.getElem?_eq_getElem dN;exact (xE n rfl _ _ _ (hx j _ u hc hu) (p1 j _ c hc hj)).1
 ·have dq: ∀cs,x≠ .agg cs:=fun cs h=>bT ⟨cs,h⟩;by_cases hu:x= .undef
  ·subst hu;have fD:vs=[]:=List.eq_nil_of_length_eq_zero (by simpa [AV.cells] using hl.symm)
   subst fD;have:=(hV .undef undef y (.fr _ _ (.undef _)) hs).2.2.2 rfl;subst this;exact ⟨rfl,by simp⟩
  ·have cK:=iS hu dq;rw [cK] at hl;obtain ⟨v,rfl⟩: ∃v,vs=[v]:=by
    match vs,hl with
    |[v],_=>exact ⟨v,rfl⟩
   obtain ⟨h1,_,h3,_⟩:=hV x v y (hx 0 x v (by rw [cK];rfl) rfl) hs
   have h3:=h3 dq hu;refine ⟨by rw [h3,cK];rfl,fun j c u hj aN=> ?_⟩
   rw [h3] at hj;cases j with
   |zero=>simp at hj aN;subst hj;subst aN;exact h1
   |succ j=>simp at hj
theorem qB (ae:St w H φ A): ∀n,kF w H φ A n∧qz w H φ A n
 |0=>by
  have h0:kF w H φ A 0:=fun x v y _ hs=>by simp [aP] at hs
  exact ⟨h0,qA h0 (fun m h=>by omega)⟩
 |n+1=>by
  obtain ⟨hV,hE⟩:=qB ae n;have key:kF w H φ A (n+1):=by
   have bh: ∀c,fm φ A c→A c:=fun c h=>h.1;have qC: ∀c,Ow φ c→ ¬fm φ A c:=fun c h hl=>hl.2 h;have same: ∀{x:AV} {v:Value},FR w A x v→x.cells=[x]→FR w (fm φ A) x v∧(eI x=false→FR w A x v)∧((∀cs,x≠ .agg cs)→x≠ .undef→x.cells=[x])∧(x= .undef→x= .undef):=
    fun h hc=>⟨h.shrink bh,fun _=>h,fun _ _=>hc,fun h=>h⟩
   intro x v y hx hs;cases x with
   |undef=>simp only [aP,Option.some.injEq] at hs;subst hs;exact ⟨.undef _,fun _=> .undef _,fun _ h=>absurd rfl h,fun h=>h⟩
   |int k n=>simp only [aP,Option.some.injEq] at hs;subst hs;cases hx with|fr _ _ h=>exact same h rfl
   |bool b=>simp only [aP,Option.some.injEq] at hs;subst hs;cases hx with|fr _ _ h=>exact same h rfl
   |str s=>simp only [aP,Option.some.injEq] at hs;subst hs;cases hx with|fr _ _ h=>exact same h rfl
   |cf b=>simp only [aP,Option.some.injEq] at hs;subst hs;cases hx with|fr _ _ h=>exact same h rfl
   |dt=>simp only [aP,Option.some.injEq] at hs;subst hs;cases hx with|fr _ _ h=>exact same h rfl
   |fz xs=>simp only [aP,Option.some.injEq] at hs;subst hs;cases hx with|fr _ _ h=>exact same h rfl
   |fe x o=>simp only [aP,Option.some.injEq] at hs;subst hs;cases hx with|fr _ _ h=>exact same h rfl
   |own sz xs=>simp [aP] at hs
   |di sz x=>simp [aP] at hs
   |aC xs=>simp [aP] at hs
   |nil=>
    simp only [aP,Option.some.injEq] at hs;subst hs;have:=hx.cY;subst this;exact ⟨.cA _ _,fun _=> .cA _ _,fun _ _=>rfl,fun h=>by simp at h⟩
   |e0=>
    simp only [aP,Option.some.injEq] at hs;subst hs;obtain ⟨a,rfl⟩:=hx.eD;exact ⟨.cA _ _,fun _=> .cA _ _,fun _ _=>rfl,fun h=>by simp at h⟩
   |agg cs=>
    simp only [aP,Option.map_eq_some_iff] at hs;obtain ⟨ys,hm,rfl⟩:=hs;obtain ⟨l1,p1⟩:=mapM_some hm;obtain ⟨vs,rfl,hl,ho,hp⟩:=hx.fE;have hc: ∀(i:Nat) (z:AV) (u:Value),ys[i]? =some z→vs[i]? =some u→ ∃c,cs[i]? =some c∧R w H φ A c u∧aP n H c=some z:=by
     intro i z u hz hu;have cc:i<cs.length:=by rw [←l1];exact (List.getElem?_eq_some_iff.1 hz).1
     have hc:=List.getElem?_eq_getElem cc;exact ⟨_,hc,hp i _ u hc hu,p1 i _ z hc hz⟩
    refine ⟨.agg _ _ (by rw [l1,hl]) ho fun i z u hz hu=> ?_,fun hlen=> .agg _ _ (by rw [l1,hl]) ho fun i z u hz hu=> ?_,fun h _=>absurd rfl (h cs),fun h=>by simp at h⟩
    ·obtain ⟨c,h1,h2,h3⟩:=hc i z u hz hu;exact (hV c u z h2 h3).1
    ·obtain ⟨c,h1,h2,h3⟩:=hc i z u hz hu;exact (hV c u z h2 h3).2.1 (oe (by simpa [eI] using hlen) i c h1)
   |fn f cs=>
    simp only [aP,Option.map_eq_some_iff] at hs;obtain ⟨ys,hm,rfl⟩:=hs;obtain ⟨l1,p1⟩:=mapM_some hm;obtain ⟨vs,rfl,hl,hp⟩:=hx.ka;have hc: ∀(i:Nat) (z:AV) (u:Value),ys[i]? =some z→vs[i]? =some u→ ∃c,cs[i]? =some c∧R w H φ A c u∧aP n H c=some z:=by
     intro i z u hz hu;have cc:i<cs.length:=by rw [←l1];exact (List.getElem?_eq_some_iff.1 hz).1
     have hc:=List.getElem?_eq_getElem cc;exact ⟨_,hc,hp i _ u hc hu,p1 i _ z hc hz⟩
    refine ⟨.fn _ _ _ (by rw [l1,hl]) fun i z u hz hu=> ?_,fun hlen=> .fn _ _ _ (by rw [l1,hl]) fun i z u hz hu=> ?_,fun _ _=>rfl,fun h=>by simp at h⟩
    ·obtain ⟨c,h1,h2,h3⟩:=hc i z u hz hu;exact (hV c u z h2 h3).1
    ·obtain ⟨c,h1,h2,h3⟩:=hc i z u hz hu;exact (hV c u z h2 h3).2.1 (oe (by simpa [eI] using hlen) i c h1)
   |ptr id ad idx off=>
    simp only [aP] at hs;split at hs
    ·rename_i b hb;split at hs
     ·rename_i x' bz
      simp only [Option.map_eq_some_iff] at hs;obtain ⟨y',hy,rfl⟩:=hs;have hg:=(J.br hb).1;obtain ⟨bG,_,hr⟩:=hx.fc;obtain ⟨c,b0,q1,rfl⟩:=hr _ hb;obtain ⟨bk,aV,af⟩:=ae.ap id _ q1;rw [hg] at aV;simp only [Option.some.injEq] at aV;subst aV;obtain ⟨arr,T,fr,k1,k2,k3,k4⟩:=af.here c b0 rfl;have xF:idx<b.el.length:=(List.getElem?_eq_some_iff.1 bz).1;have hle:=cD (n:=b.sz) xF;have cj:=af.sized _ _ bz
      let o:=b0+idx*b.sz
      let vs:List Value:=(arr.extract o (o+b.sz)).toList
      have dA:vs.length=b.sz:=by simp [vs,o];omega
      have fQ: ∀j u,vs[j]? =some u→arr[o+j]? =some u:=by
       intro j u hu;simp only [vs,Array.getElem?_toList,Array.getElem?_extract] at hu;split at hu
       ·exact hu
       ·simp at hu
      obtain ⟨l1,r1⟩:=hE x' vs y' (by rw [dA,cj]) (fun j c' u hj hu=>(k4 idx x' j c' u bz hj (fQ j u hu)).1) hy
      refine ⟨?_,fun h=>by simp [eI] at h,fun _ _=>rfl,fun h=>by simp at h⟩
      refine FR.fe y' off c o arr T fr k1 (qC c ⟨id,b0,q1⟩) (by rw [l1,cj];omega) (fun j v hj hv=> ?_) (fun j c' v hc hv=> ?_)
      ·rw [l1] at hj;exact (k4 idx x' j _ v bz (List.getElem?_eq_getElem hj) hv).2
      ·have hj:j<b.sz:=by rw [←cj,←l1];exact (List.getElem?_eq_some_iff.1 hc).1
       exact r1 j c' v hc (by simp only [vs,Array.getElem?_toList,Array.getElem?_extract];rw [if_pos (by omega)];exact hv)
     ·simp at hs
    ·simp at hs
   |ref id ad off len=>
    simp only [aP] at hs;split at hs
    ·rename_i b hb;split at hs
     ·rename_i Ai;simp only [Option.map_eq_some_iff] at hs;obtain ⟨ys,hm,rfl⟩:=hs;obtain ⟨l1,p1⟩:=mapM_some hm;have hg:=(J.br hb).1;obtain ⟨bG,_,hr⟩:=hx.dW;obtain ⟨loc,a0,cap,q1,rfl,q3,q4,q5,q6⟩:=(hr b hb).out;obtain ⟨bk,aV,af⟩:=ae.ap id _ q1;rw [hg] at aV;simp only [Option.some.injEq] at aV;subst aV;have bh:(aG b.el off len).length=len:=by simp [aG];omega
      have fP: ∀(i:Nat) (x:AV),(aG b.el off len)[i]? =some x→b.el[off+i]? =some x:=by
       intro i x hi;simp only [aG,List.getElem?_take,List.getElem?_drop] at hi;split at hi
       ·exact hi
       ·simp at hi
      rw [bh] at l1;refine ⟨?_,fun h=>by simp [eI] at h,fun _ _=>rfl,fun h=>by simp at h⟩
      rcases Nat.eq_zero_or_pos len with dK|xy
      ·subst dK;have:=List.eq_nil_of_length_eq_zero l1;subst this;exact .cA _ _
      ·cases loc with
       |aQ=>have:=af.aQ rfl;rw [this] at q3;simp at q3;omega
       |at_ c b0=>
        simp only at q6;rcases q6 with q6|⟨h1,h2⟩
        ·omega
        obtain ⟨arr,T,fr,k1,k2,k3,k4⟩:=af.here c b0 rfl;have hmul:(off+len)*b.sz≤b.el.length*b.sz:=Nat.mul_le_mul_right _ q3;have xA:(off+len)*b.sz=off*b.sz+len*b.sz:=Nat.add_mul _ _ _;have qD: ∀(i:Nat) (a:AV),ys[i]? =some a→a.cells.length=b.sz∧ ∀(j:Nat) (c' :AV) (v:Value),a.cells[j]? =some c' →arr[b0+(off+i)*b.sz+j]? =some v→FR w (fm φ A) c' v:=by
         intro i a ha;have hi:i<len:=by rw [←l1];exact (List.getElem?_eq_some_iff.1 ha).1
         have hx:=List.getElem?_eq_getElem (l:=aG b.el off len) (by rw [bh];exact hi)
         have bz:=fP i _ hx
         have cj:=af.sized _ _ bz;have hle:=cD (n:=b.sz) (show off+i<b.el.length by omega)
         let o:=b0+(off+i)*b.sz
         let vs:List Value:=(arr.extract o (o+b.sz)).toList
         have dA:vs.length=b.sz:=by simp [vs,o];omega
         have fQ: ∀j u,vs[j]? =some u→arr[o+j]? =some u:=by
          intro j u hu;simp only [vs,Array.getElem?_toList,Array.getElem?_extract] at hu;split at hu
          ·exact hu
          ·simp at hu
         obtain ⟨l2,r2⟩:=hE _ vs a (by rw [dA,cj]) (fun j c' u hj hu=>(k4 _ _ j c' u bz hj (fQ j u hu)).1) (p1 i _ a hx ha)
         refine ⟨by rw [l2,cj],fun j c' v hc hv=>r2 j c' v hc ?_⟩
         have hj:j<b.sz:=by rw [←cj,←l2];exact (List.getElem?_eq_some_iff.1 hc).1
         simp only [vs,Array.getElem?_toList,Array.getElem?_extract];rw [if_pos (by omega)];exact hv
        have gS:=FR.fz (A:=fm φ A) ys c (b0+off*b.sz) cap b.sz arr T fr k1 (qC c ⟨id,b0,q1⟩) (by rw [l1];exact q4) (by rw [l1];omega)
         (fun i a ha=>(qD i a ha).1)
         (fun j v hj hv=>by
          rw [l1] at hj;have ef:0<b.sz:=by
           rcases Nat.eq_zero_or_pos b.sz with h|h
           ·rw [h] at hj;simp at hj
           ·exact h
          have xB:j/b.sz<len:=Nat.div_lt_of_lt_mul (by rw [Nat.mul_comm];exact hj)
          have oc:j % b.sz<b.sz:=Nat.mod_lt _ ef;have xC:j=(j/b.sz)*b.sz+j % b.sz:=by rw [Nat.mul_comm];exact (Nat.div_add_mod j b.sz).symm
          have cE:off+j/b.sz<b.el.length:=by omega
          have hx:=List.getElem?_eq_getElem cE;have cj:=af.sized _ _ hx;have e:b0+off*b.sz+j=b0+(off+j/b.sz)*b.sz+j % b.sz:=by rw [Nat.add_mul];omega
          rw [e] at hv;exact (k4 _ _ _ _ v hx (List.getElem?_eq_getElem (show j % b.sz<_ by rw [cj];exact oc)) hv).2)
         (fun i a j c' v ha hc hv=>by
          have e:b0+off*b.sz+i*b.sz+j=b0+(off+i)*b.sz+j:=by rw [Nat.add_mul];omega
          rw [e] at hv;exact (qD i a ha).2 j c' v hc hv)
        rw [l1] at gS;rw [h1];exact gS
     ·simp at hs
    ·simp at hs
  exact ⟨key,qA key (fun m h=>by have:m=n:=by omega
                                 subst this;exact hV)⟩
end xD
end Go.VS
namespace Go.VS
theorem qE: ∀(ys:List AV) (L:J),(∀(i:Nat) (z:AV),ys[i]? =some z→ ∀L,aD z L=(z,L))→aE ys L=(ys,L)
 |[],L,_=>rfl
 |y::ys,L,h=>by
  have h1:=h 0 y rfl L;have h2:=qE ys L (fun i z hz=>h (i+1) z hz);simp only [aE,h1,h2]
theorem lV (H:J): ∀(n:Nat) (x y:AV),aP n H x=some y→ ∀L,aD y L=(y,L)
 |0,x,y,h,L=>by simp [aP] at h
 |n+1,x,y,h,L=>by
  cases x with
  |agg cs=>
   simp only [aP,Option.map_eq_some_iff] at h;obtain ⟨ys,hm,rfl⟩:=h;obtain ⟨l1,p1⟩:=mapM_some hm;have:=qE ys L (fun i z hz=>by
    have cc:i<cs.length:=by rw [←l1];exact (List.getElem?_eq_some_iff.1 hz).1
    exact lV H n _ z (p1 i _ z (List.getElem?_eq_getElem cc) hz))
   simp only [aD,this]
  |fn f cs=>simp only [aP,Option.map_eq_some_iff] at h;obtain ⟨ys,_,rfl⟩:=h;rfl
  |ref id ad off len=>
   simp only [aP] at h;split at h
   ·split at h
    ·simp only [Option.map_eq_some_iff] at h;obtain ⟨ys,_,rfl⟩:=h;rfl
    ·simp at h
   ·simp at h
  |ptr id ad idx off=>
   simp only [aP] at h;split at h
   ·split at h
    ·simp only [Option.map_eq_some_iff] at h;obtain ⟨ys,_,rfl⟩:=h;rfl
    ·simp at h
   ·simp at h
  |own sz xs=>simp [aP] at h
  |di sz xs=>simp [aP] at h
  |aC xs=>simp [aP] at h
  |_=>simp only [aP,Option.some.injEq] at h;subst h;rfl
def gT (H:J) (φ :ag) (L0:J) (aA:ag) (a x:AV):Prop:=
 ∃k kv bk,j8 x=some (k,kv)∧L0.ap k kv=some bk∧(∃loc,aA k=some loc)∧(dE a=none→bk.el=[])∧
  ∀id ad,dE a=some (id,ad)→ ∃b c b0,H.ap id ad=some b∧bk.sz=b.sz∧bk.el.length=b.el.length∧ φ id=some (.at_ c b0)∧aA k=some (.at_ c b0)
def b5 (H:J) (φ :ag) (L0:J) (aA:ag):List Mode→List AV→List AV→Prop
 | .io::ms,a::as,x::xs=>gT H φ L0 aA a x∧b5 H φ L0 aA ms as xs
 |_::ms,_::as,_::xs=>b5 H φ L0 aA ms as xs
 |_,_,_=>True
theorem J.qF {L L1:J} (h:bu L L1) {id ad:Nat} {b:bI} (hb:L1.ap id ad=some b):L.ap id ad=some b:=by
 obtain ⟨h1,h2⟩:=J.br hb;have:=J.gd (h.get id b h1)
 rwa [h2] at this
theorem og {L L1:J} (h: ∀id b,L.get id=some b→L1.get id=some b) {id ad:Nat} {b:bI} (hb:L.ap id ad=some b):L1.ap id ad=some b:=by
 obtain ⟨h1,h2⟩:=J.br hb;have:=J.gd (h id b h1)
 rwa [h2] at this
theorem gT.mono {H H' :J} {φ :ag} {L0 L1:J} {aA φ1:ag} {a x:AV} (hl:bu H H') (bA: ∀id b,L0.get id=some b→L1.get id=some b) (bY: ∀id loc,aA id=some loc→ φ1 id=some loc)
 (h:gT H' (aB φ H') L0 aA a x):gT H φ L1 φ1 a x:=by
 obtain ⟨k,kv,bk,h1,h2,⟨loc,kG⟩,h3,h4⟩:=h;refine ⟨k,kv,bk,h1,og bA h2,⟨loc,bY _ _ kG⟩,h3,fun id ad hr=> ?_⟩;obtain ⟨b,c,b0,q1,q2,q3,q4,q5⟩:=h4 id ad hr;exact ⟨b,c,b0,J.qF hl q1,q2,q3,(df q4).1,bY _ _ q5⟩
theorem b5.mono {H H' :J} {φ :ag} {L0 L1:J} {aA φ1:ag} (hl:bu H H') (bA: ∀id b,L0.get id=some b→L1.get id=some b) (bY: ∀id loc,aA id=some loc→ φ1 id=some loc):
 ∀{ms:List Mode} {as xs:List AV},b5 H' (aB φ H') L0 aA ms as xs→b5 H φ L1 φ1 ms as xs
 |[],_,_,_=>by simp [b5]
 | .io::ms,a::as,x::xs,h=>by
  simp only [b5] at h⊢;exact ⟨h.1.mono hl bA bY,b5.mono hl bA bY h.2⟩
 | .val::ms,a::as,x::xs,h=>by
  simp only [b5] at h⊢;exact b5.mono hl bA bY h
 | .eH::ms,a::as,x::xs,h=>by
  simp only [b5] at h⊢;exact b5.mono hl bA bY h
 |m::ms,[],_,_=>by cases m<;>simp [b5]
 |m::ms,_::_,[],_=>by cases m<;>simp [b5]
section bj
variable {w:World} {A:ah}
theorem oi {H:J} {φ :ag} {L:J} {φL:ag} (hd:bX w H φ A L φL A) (sz:Nat) {a:AV} {u:Value} (hv: ∃p cap,u= .slice p 0 cap) (hr:dE a=none):
 ∃ φ1,b8 w H φ A L φL A H (L.new sz true []) φ1∧R w (L.new sz true []) φ1 A (.ref L.bs.length L.st 0 0) u∧gT H φ (L.new sz true []) φ1 a (.ref L.bs.length L.st 0 0):=by
 obtain ⟨p,cap,rfl⟩:=hv;have m:=newAt (b8.refl hd) (sz:=sz) (fx:=true) (el:=[]) (loc:= .aQ) (by simp) (fun _=>rfl) (by simp)
 have hg:=J.dX L sz true [];refine ⟨_,m,.ref _ _ _ _ _ (Nat.lt_succ_self _) ⟨_,_,rfl⟩ fun b hb=> ?_,_,_,_,rfl,J.gd hg,⟨.aQ,by simp⟩,fun _=>rfl,fun id ad h=>by rw [hr] at h;simp at h⟩
 have:=jH hg hb;subst this;exact ⟨.aQ,p,cap,by simp,rfl,by simp,Nat.zero_le _,by simp,rfl,fun h=>by simp at h⟩
theorem xG {H:J} {φ :ag} {L:J} {φL:ag} (hd:bX w H φ A L φL A) {sh:List Sh} {a:AV} {u:Value} (ha:R w H φ A a u) {z:AV} {H1:J} (hz:eW .io sh a H=some (z,H1)):
 (∃sz xs φ1,z= .own sz xs∧b8 w H φ A L φL A H1 ((aE xs L).2.new sz true (aE xs L).1) φ1∧
  R w ((aE xs L).2.new sz true (aE xs L).1) φ1 A (.ref (aE xs L).2.bs.length (aE xs L).2.st 0 (aE xs L).1.length) u∧
  gT H φ ((aE xs L).2.new sz true (aE xs L).1) φ1 a (.ref (aE xs L).2.bs.length (aE xs L).2.st 0 (aE xs L).1.length))∨
 (∃sz x φ1,z= .di sz x∧b8 w H φ A L φL A H1 (aD z L).2 φ1∧R w (aD z L).2 φ1 A (aD z L).1 u∧gT H φ (aD z L).2 φ1 a (aD z L).1):=by
 cases a with
 |nil=>
  simp only [eW,Option.some.injEq,Prod.mk.injEq] at hz;obtain ⟨rfl,rfl⟩:=hz;obtain ⟨φ1,h1,h2,h3⟩:=oi hd (h_ sh).length (a:= .nil) ⟨none,0,ha.cY⟩ rfl;exact .inl ⟨_,_,φ1,rfl,h1,h2,h3⟩
 |e0=>
  simp only [eW,Option.some.injEq,Prod.mk.injEq] at hz;obtain ⟨rfl,rfl⟩:=hz;obtain ⟨a0,kC⟩:=ha.eD;obtain ⟨φ1,h1,h2,h3⟩:=oi hd (h_ sh).length (a:= .e0) ⟨a0,0,kC⟩ rfl;exact .inl ⟨_,_,φ1,rfl,h1,h2,h3⟩
 |ref id ad off len=>
  simp only [eW] at hz;split at hz
  ·rename_i b hb;obtain ⟨bG,_,hr⟩:=ha.dW;obtain ⟨loc,a0,cap,q1,rfl,q3,q4,q5,q6⟩:=(hr b hb).out;split at hz
   ·rename_i dK;subst dK;simp only [Option.some.injEq,Prod.mk.injEq] at hz;obtain ⟨rfl,rfl⟩:=hz;obtain ⟨φ1,h1,h2,h3⟩:=oi hd (h_ sh).length (a:= .ref id ad off 0) ⟨a0,cap,rfl⟩ (by simp [dE])
    exact .inl ⟨_,_,φ1,rfl,h1,h2,h3⟩
   ·rename_i dK;split at hz
    ·rename_i xH;obtain ⟨rfl,hlen⟩:=xH;obtain ⟨e,rfl,ht⟩:=iU (by simp) hz
     cases e with
     |sc=>simp [aO,dl] at ht
     |pt es=>simp [aO] at ht
     |sl es=>
      simp only [aO,hb] at ht;split at ht
      ·rename_i hc;obtain ⟨c1,c2,c3⟩:=hc;split at ht
       ·rename_i ys L' hm
        simp only [Option.some.injEq,Prod.mk.injEq] at ht;obtain ⟨rfl,rfl⟩:=ht;left;have hg:=(J.br hb).1;obtain ⟨bk,aV,af⟩:=hd.sl.ap id _ q1;rw [hg] at aV;simp only [Option.some.injEq] at aV;subst aV;have cJ:=bu.del H id;have bZ:bX w (H.del id) (aB φ (H.del id)) A L φL A:=⟨d_ hd.sl cJ,hd.sh,fun c hc=>hd.b7 c (bF hc),fun c hc=>hd.ej c (bF hc)⟩
        have bh:aG b.el 0 len=b.el:=by simp [aG,hlen]
        rw [bh] at hm;cases loc with
        |aQ=>have:=af.aQ rfl;rw [this] at hlen;simp at hlen;omega
        |at_ c b0=>
        simp only at q6;rcases q6 with q6|⟨h1,h2⟩
        ·omega
        obtain ⟨arr,T,fr,k1,k2,k3,k4⟩:=af.here c b0 rfl
        let g:Nat→Nat→Value:=fun i j=>arr.getD (b0+i*b.sz+j) undef
        have fL: ∀(i:Nat) (x:AV) (j:Nat) (y:AV),b.el[i]? =some x→x.cells[j]? =some y→R w (H.del id) (aB φ (H.del id)) A y (g i j):=by
         intro i x j y hi hj;have dN:j<b.sz:=by rw [←af.sized _ _ hi];exact (List.getElem?_eq_some_iff.1 hj).1
         have hle:=cD (n:=b.sz) (List.getElem?_eq_some_iff.1 hi).1;have aw:b0+i*b.sz+j<arr.size:=by omega
         have:g i j=arr[b0+i*b.sz+j]:=by
          simp only [g,Array.getD_eq_getD_getElem?,Array.getElem?_eq_getElem aw,Option.getD_some]
         rw [this];exact ((k4 _ _ _ _ _ hi hj (Array.getElem?_eq_getElem aw)).1).mono (cT cJ)
        obtain ⟨φ1,m,l1,s1,r1⟩:=nZ (w:=w) (es:=es) (fun x vs L φL AL H φ AH y L1 a H1=>lR es x vs L φL AL H φ AH y L1 a H1) _ g _ _ _ _ _ _ _ _ _ _ bZ fL hm rfl (.inl fun _ h=>h)
        have kD: ∀(i:Nat) (a:AV),(aE ys L).1[i]? =some a→a.cells.length=b.sz:=by
         intro i a ha;have cc:i<b.el.length:=by rw [←l1];exact (List.getElem?_eq_some_iff.1 ha).1
         have ik:=List.getElem?_eq_getElem cc;rw [s1 i _ a ik ha];exact af.sized _ _ ik
        have M:=lP (off:=0) (n:=len) hd hb c2 rfl q1 (fun c' n8 arr' T' eJ hl hh i j v hi hj hv=>by
         simp only [Loc.at_.injEq] at hl;obtain ⟨rfl,rfl⟩:=hl;rw [k1] at hh;simp only [Option.some.injEq,Obj.cells.injEq] at hh;obtain ⟨rfl,_,_⟩:=hh;simp only [Nat.zero_add] at hv;simp only [g,Array.getD_eq_getD_getElem?,hv,Option.getD_some]) m (by rw [l1,hlen]) kD r1 true (.at_ c b0) (.inr ⟨c,b0,rfl,by simp⟩)
        rw [c1] at M;have lW:=J.dX (aE ys L).2 es.length true (aE ys L).1;refine ⟨_,_,_,rfl,M,?_,_,_,_,rfl,J.gd lW,⟨.at_ c b0,by simp⟩,fun h=>by simp [dE,dK] at h,fun fC gp h=> ?_⟩
        ·refine .ref _ _ _ _ _ (Nat.lt_succ_self _) ⟨a0,cap,by rw [l1,hlen]⟩ fun b' ax=> ?_
         have:=jH lW ax;subst this;refine ⟨.at_ c b0,a0,cap,by simp,by rw [l1,hlen],by simp,by omega,by simp only;omega,?_⟩
         refine Or.inr ⟨by rw [h1];simp,?_⟩
         rw [c1] at h2;simpa using h2
        ·simp only [dE,dK,if_false,Option.some.injEq,Prod.mk.injEq] at h;obtain ⟨rfl,rfl⟩:=h;exact ⟨b,c,b0,hb,c1.symm,l1,q1,by simp⟩
       ·simp at ht
      ·simp at ht
    ·simp at hz
  ·simp at hz
 |ptr id ad idx off=>
  simp only [eW] at hz;obtain ⟨e,rfl,ht⟩:=iU (by simp) hz
  cases e with
  |sc=>simp [aO,dl] at ht
  |sl es=>simp [aO] at ht
  |pt es=>
   rcases idx with _|idx
   rotate_left
   ·simp [aO] at ht
   rcases off with _|off
   rotate_left
   ·simp [aO] at ht
   simp only [aO] at ht;split at ht
   ·rename_i n6 sz n7 z' hb
    split at ht
    ·rename_i y' L' hm
     simp only [Option.some.injEq,Prod.mk.injEq] at ht;obtain ⟨rfl,rfl⟩:=ht;right;have hg:=(J.br hb).1;obtain ⟨bG,_,hr⟩:=ha.fc;obtain ⟨c,b0,q1,rfl⟩:=hr _ hb;obtain ⟨bk,aV,af⟩:=hd.sl.ap id _ q1;rw [hg] at aV;simp only [Option.some.injEq] at aV;subst aV;obtain ⟨arr,T,fr,k1,k2,k3,k4⟩:=af.here c b0 rfl;have cJ:=bu.del H id;have bZ:bX w (H.del id) (aB φ (H.del id)) A L φL A:=⟨d_ hd.sl cJ,hd.sh,fun c hc=>hd.b7 c (bF hc),fun c hc=>hd.ej c (bF hc)⟩
     have db:z'.cells.length=sz:=af.sized 0 z' rfl
     simp only [List.length_singleton,Nat.one_mul] at k3
     let vs:List Value:=(arr.extract b0 (b0+sz)).toList
     have dA:vs.length=sz:=by simp [vs];omega
     have fQ: ∀j u,vs[j]? =some u→arr[b0+j]? =some u:=by
      intro j u hu;simp only [vs,Array.getElem?_toList,Array.getElem?_extract] at hu;split at hu
      ·exact hu
      ·simp at hu
     obtain ⟨φ1,m,l1,r1⟩:=lR es z' vs _ _ _ _ _ _ _ _ _ _ bZ (by rw [dA,db]) (fun j c' u hj hu=>((k4 0 z' j c' u rfl hj (by simpa using fQ j u hu)).1).mono (cT cJ)) hm rfl (.inl fun _ h=>h)
     have M:=lP (as:=[(aD y' L).1]) (n:=1) (off:=0) (sz:=sz) (loc' := .at_ c b0) (g:=fun i j=>vs.getD j undef) hd hb (by simp) rfl q1 (fun c' n8 arr' T' eJ hl hh i j v hi hj hv=>by
      simp only [Loc.at_.injEq] at hl;obtain ⟨rfl,rfl⟩:=hl;rw [k1] at hh;simp only [Option.some.injEq,Obj.cells.injEq] at hh;obtain ⟨rfl,_,_⟩:=hh;have iT:i=0:=by omega
      subst iT;simp only [Nat.zero_mul,Nat.add_zero] at hv;have:vs[j]? =some v:=by
       simp only [vs,Array.getElem?_toList,Array.getElem?_extract];rw [if_pos (by omega)];exact hv
      simp [List.getD,this]) m rfl (fun i a ha=>by
      cases i with
      |zero=>simp at ha;subst ha;rw [l1,db]
      |succ i=>simp at ha) (fun i a j c' ha hc=>by
      cases i with
      |zero=>
       simp at ha;subst ha;have hj:j<vs.length:=by rw [dA,←db,←l1];exact (List.getElem?_eq_some_iff.1 hc).1
       have:=r1 j c' vs[j] hc (List.getElem?_eq_getElem hj)
       simpa [List.getD,hj] using this
      |succ i=>simp at ha) false (.inr ⟨c,b0,rfl,by simp⟩)
     have lW:=J.dX (aD y' L).2 sz false [(aD y' L).1]
     refine ⟨_,_,_,rfl,M,?_,_,_,_,rfl,J.gd lW,⟨.at_ c b0,by simp⟩,fun h=>by simp [dE] at h,fun fC gp h=> ?_⟩
     ·refine .ptr _ _ _ _ _ (Nat.lt_succ_self _) ⟨_,rfl⟩ fun b' ax=>⟨c,b0,by simp,?_⟩
      simp
     ·simp only [dE,Option.some.injEq,Prod.mk.injEq] at h;obtain ⟨rfl,rfl⟩:=h;exact ⟨_,c,b0,hb,rfl,rfl,q1,by simp⟩
    ·simp at ht
   ·simp at ht
 |_=>simp [eW] at hz
end bj
end Go.VS
