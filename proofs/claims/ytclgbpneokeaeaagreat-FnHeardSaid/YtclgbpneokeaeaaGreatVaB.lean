import Derived.Test.YtclgbpneokeaeaaGreatVaA
namespace Go.VS
theorem x9 (jV cap:Nat) (h:cap<jV):Builtin.nextslicecap jV cap≤2*jV+512:=by
 have g: ∀(r c:Nat),c≤2*jV+512→Builtin.growBy jV r c≤2*jV+512:=by
  intro r;induction r with
  |zero=>intro c hc;exact hc
  |succ r ih=>
   intro c hc;simp only [Builtin.growBy];split
   ·exact hc
   ·exact ih _ (by omega)
 unfold Builtin.nextslicecap;split
 ·omega
 ·split
  ·omega
  ·exact g _ _ (by omega)
section ops
variable {P:Program} {E:aK} (hE: ∀t ti,E t=some ti→aS P t ti)
variable {w:World} {G:J} {φ :ag} {A:ah}
theorem ou {t:TypeId} {ti:TI} (h:aS P t ti) (hn: ∀k,ti.au≠ .it k) (w:World): ∃d,(underlying t).run P w= .ok d w∧(∀k,d≠ .int k):=by
 obtain ⟨i,d,z,_,hd,_,_,_,_,_,_,_,_,bf,_⟩:=h.out;exact ⟨d,run_underlying hd w,fun k hk=>hn k (by rw [←bf,hk];rfl)⟩
structure x_ (P:Program) (w:World) (G:J) (φ :ag) (A:ah) (xs:List AV) (v:Value) (sz:Nat) (cs:Array Value):Prop where
 len:(Builtin.lenOf v).run P w= .ok xs.length w
 run: ∀m,m≤xs.length→(Builtin.firstCells sz m v).run P w= .ok (cs.extract 0 (m*sz)) w
 size:cs.size=xs.length*sz
 rel: ∀(i:Nat) (x:AV) (j:Nat) (y:AV) (u:Value),xs[i]? =some x→x.cells[j]? =some y→cs[i*sz+j]? =some u→R w G φ A y u∧u.oneCell' =true
 one: ∀u∈cs.toList,u.oneCell' =true
theorem jW {H0:J} (ae:St w G φ A) (hX:a_ H0 G) {x:AV} {v:Value} {xs:List AV} {sz:Nat} (hx:R w G φ A x v) (h:cN H0 x=some xs) (hs:bK sz xs=true) (hz:0<sz):
 ∃cs,x_ P w G φ A xs v sz cs:=by
 by_cases qV: ∃s,x= .str s
 ·obtain ⟨s,rfl⟩:=qV;obtain ⟨b,rfl,rfl⟩:=hx.eF;simp only [cN,Option.some.injEq] at h;have cq:xs.length=b.size:=by rw [←h,List.length_map];exact Array.length_toList
  refine ⟨b.data.map fun c=> .int .u8 c.toNat,by simp [Builtin.lenOf,cq],fun m hm=> ?_,?_,fun i x j y u hi hy hu=> ?_,fun u hu=> ?_⟩
  ·have aA:sz=1∨xs=[]:=by
    rcases xs with _|⟨y,ys⟩
    ·exact .inr rfl
    ·left;have:=gY (i:=0) hs rfl;have hy:(b.data.toList.map fun c:UInt8=>AV.int .u8 c.toNat)[0]? =some y:=by rw [h];rfl
     simp only [List.getElem?_map,Option.map_eq_some_iff] at hy;obtain ⟨c,_,rfl⟩:=hy;exact this.symm
   simp only [Builtin.firstCells,Sem.run_pure];congr 1;rcases aA with rfl|rfl
   ·rw [ByteArray.data_extract,Nat.mul_one];apply Array.ext';simp
   ·simp at hm;subst hm;rw [ByteArray.data_extract];apply Array.ext';simp
  ·rcases xs with _|⟨y,ys⟩
   ·rw [Array.size_map,List.length_nil,Nat.zero_mul];exact cq.symm
   ·have:=gY (i:=0) hs rfl;have hy:(b.data.toList.map fun c:UInt8=>AV.int .u8 c.toNat)[0]? =some y:=by rw [h];rfl
    simp only [List.getElem?_map,Option.map_eq_some_iff] at hy;obtain ⟨c,_,rfl⟩:=hy;have h1:sz=1:=this.symm;subst h1;rw [Nat.mul_one,cq,Array.size_map];rfl
  ·rw [←h] at hi;simp only [List.getElem?_map,Option.map_eq_some_iff] at hi;obtain ⟨c,hc,rfl⟩:=hi;have h1:=gY hs (i:=i) (x:= .int .u8 c.toNat) (by rw [←h];simp [hc])
   have h1:sz=1:=h1.symm;subst h1;cases j with
   |zero=>
    simp only [AV.cells,List.getElem?_cons_zero,Option.some.injEq] at hy;subst hy;simp only [Nat.mul_one,Nat.add_zero,Array.getElem?_map,Option.map_eq_some_iff] at hu;obtain ⟨c',gU,rfl⟩:=hu;have:b.data[i]? =some c:=by simpa using hc
    rw [this] at gU;simp only [Option.some.injEq] at gU;subst gU;exact ⟨.fr _ _ (.int _ _),rfl⟩
   |succ j=>simp [AV.cells] at hy
  ·simp only [Array.toList_map,List.mem_map] at hu;obtain ⟨c,_,rfl⟩:=hu;rfl
 ·have bR:=oo ae hX hx h hs (fun s hs=>qV ⟨s,hs⟩);obtain ⟨cs,c1,c2,c3,c4⟩:=bR.cells (P:=P) hz;refine ⟨cs,?_,fun m hm=> ?_,c2,c3,c4⟩
  ·rcases bR.out with ⟨rfl,a,cap,rfl⟩|⟨c,o,cap,arr,T,fr,rfl,_⟩<;>simp [Builtin.lenOf]
  ·rcases bR.out with ⟨rfl,a,cap,rfl⟩|⟨c,o,cap,arr,T,fr,rfl,h1,h2,_⟩
   ·simp at hm;subst hm;have:cs= #[]:=Array.eq_empty_of_size_eq_zero (by simpa using c2)
    subst this;cases a with
    |none=>simp [Builtin.firstCells]
    |some a=>simp [Builtin.firstCells,loadCells,loadCellsFrom]
   ·simp only [Builtin.firstCells] at c1⊢;have hle:m*sz≤xs.length*sz:=Nat.mul_le_mul_right _ hm;rw [kH P h1 o (xs.length*sz) h2] at c1;rw [kH P h1 o (m*sz) (by omega)]
    simp only [Result.ok.injEq,and_true] at c1;congr 1;rw [←c1];simp only [Array.extract_extract];congr 1<;>omega
theorem run_append_grow {t tx e:TypeId} {ti te eL:TI} (ht:aS P t ti) (hu:ti.au= .sl e) (bm:aS P e te) (cG:aS P tx eL) (fR: ∀k,eL.au≠ .it k) (tys:Array TypeId) (h0:tys[0]? =some t) (h1:tys[1]? =some tx) (ty:TypeId)
 {base:Option Addr} {sLen sCap:Nat} {x:Value} {n:Nat} {gy iF:Array Value} (hlen:(Builtin.lenOf x).run P w= .ok n w) (hS:(Builtin.firstCells te.sz sLen (.slice base sLen sCap)).run P w.drew= .ok gy w.drew)
 (hX:(Builtin.firstCells te.sz n x).run P w.drew= .ok iF w.drew) (sS:gy.size=sLen*te.sz) (sX:iF.size=n*te.sz) (kP:sCap<sLen+n) (l6:roomy (sLen+n) te.bytes=true):
 ∃cap arr,sLen+n≤cap∧(Builtin.append_ tys ty #[.slice base sLen sCap,x]).run P w= .ok (.slice (some ⟨w.heap.size,0,none⟩) (sLen+n) cap) (w.drew.alloc (.cells arr e))∧arr.size=cap*te.sz∧
  ∀j,j<(sLen+n)*te.sz→arr[j]? =(gy ++ iF)[j]? :=by
 obtain ⟨d,hd,ov⟩:=ou cG fR w;obtain ⟨inf,i1,i2,_⟩:=bm.typeInfo w;obtain ⟨zv,z1,z2,_⟩:=bm.zeroValue w.drew;simp only [roomy,Bool.and_eq_true,decide_eq_true_eq] at l6;obtain ⟨r1,r2⟩:=l6;have qW:(match d with| .int _=>true|_=>false)=false:=by cases d<;>first|rfl|exact absurd rfl (ov _)
 have hb: ¬(Builtin.nextslicecap (sLen+n) sCap*inf.bytes>2^48):=by
  rw [i2];have h2:=x9 (sLen+n) sCap kP;have h3:Builtin.nextslicecap (sLen+n) sCap*te.bytes≤(2*(sLen+n)+512)*te.bytes:=Nat.mul_le_mul_right _ h2;have h4:(2*(sLen+n)+512)*te.bytes≤2*((sLen+n+512)*te.bytes):=by
   rw [←Nat.mul_assoc];exact Nat.mul_le_mul_right _ (by omega)
  omega
 have l7: ¬(((sLen+n:Nat):Int)>IntKind.i64.max):=by have:IntKind.i64.max=9223372036854775807:=rfl;omega
 let q:Question:= .appendCap (sLen+n) sCap e
 let cap:=q.cut (w.tape w.drawn q)
 have fj:sLen+n≤cap:=Nat.le_add_right _ _
 let arr:=gy ++ iF ++ Builtin.zeroCells zv.cells (cap-(sLen+n))
 have gZ:(Builtin.zeroCells zv.cells (cap-(sLen+n))).size=(cap-(sLen+n))*te.sz:=by simp [Builtin.zeroCells,z2]
 refine ⟨cap,arr,fj,?_,?_,fun j hj=> ?_⟩
 ·unfold Builtin.append_;simp only [h0,h1,List.getElem?_toArray,List.getElem?_cons_zero,List.getElem?_cons_succ,Sem.run_bind,ht.sl w hu,Result.andThen_ok,bm.sizeOf,hd,Sem.run_pure];have l8: ¬(sLen+n≤sCap):=by omega
  obtain ⟨ya,oz,yb,_⟩:=bm.typeInfo w.drew;simp only [Bool.false_eq_true,if_false,Bool.not_false,if_true,Sem.run_bind,hlen,Result.andThen_ok,l8,i1,l7,false_and,hb,run_choose,Question.forced,World.drew_eq,oz,run_askRoom];show ((Builtin.firstCells te.sz sLen (.slice base sLen sCap)).run P w.drew).andThen _=_;simp only [hS,hX,Result.andThen_ok,z1,Sem.run_bind,newRow,run_newObj,Sem.run_pure,World.alloc_eq];rfl
 ·simp only [arr,Array.size_append,sS,sX,gZ];rw [←Nat.add_mul,←Nat.add_mul];congr 1;omega
 ·have:j<(gy ++ iF).size:=by simp only [Array.size_append,sS,sX];rw [←Nat.add_mul];exact hj
  simp only [arr];rw [Array.getElem?_append_left this]
end ops
end Go.VS
namespace Go.VS
section ops
variable {P:Program} {E:aK} (hE: ∀t ti,E t=some ti→aS P t ti)
variable {w:World} {G:J} {φ :ag} {A:ah}
theorem l9 (ae:St w G φ A):Out w G φ A w.drew G φ A:=
 have aR:bH w G φ A w.drew G φ A:=⟨fun c a t fr hc hn=>⟨⟨fr,hc⟩,hn⟩,Nat.le_refl _,fun i b' aw _=>⟨b',aw,rfl,rfl,rfl,rfl,fun loc hl=>hl⟩,fun c _=>rfl⟩
 ⟨⟨ae.inj,ae.own,ae.bY,fun id loc h=>by
  obtain ⟨b,hb,af⟩:=ae.ap id loc h;refine ⟨b,hb,af.ad,af.sized,af.aQ,fun c b0 hl=> ?_⟩;obtain ⟨arr,T,fr,h1,h2,h3,h4⟩:=af.here c b0 hl;exact ⟨arr,T,fr,h1,h2,h3,fun i x j y v hx hy hv=>⟨(h4 i x j y v hx hy hv).1.mono aR,(h4 i x j y v hx hy hv).2⟩⟩⟩,
  ⟨rfl,rfl,rfl,Nat.le_refl _,fun _ _ _=>rfl,fun _ _=>rfl,fun _ h=> .inl h⟩,aR,fun _ h _=>h⟩
theorem bg.of {H0 H' :J} {r:Result Next} {x:AV} {v:Value} {w' :World} {ak:ag} {A' :ah} (hr:r= .ok (.value v) w') (hx:R w' G ak A' x v) (ho:Out w G φ A w' G ak A')
 (bN: ∀id loc,ak id=some loc→ φ id=some loc∨(H0.bs.length≤id∧id<H'.bs.length)):bg w G φ A H0 H' r x:=⟨_,v,w',ak,A',hr,.inl rfl,hx,ho,bN⟩
include hE in
theorem qX {H0 H' :J} (ae:St w G φ A) (hX:a_ H' G) (bp:H0.bs.length<H'.bs.length→ φ H0.bs.length=none) {t tx:TypeId} {tys:Array TypeId} {ty:TypeId} (h0:tys[0]? =some t) (h1:tys[1]? =some tx) {te eL:TI} (bm:cB E t=some te)
 (cG:E tx=some eL) {k:IntKind} (hit:eL.au= .it k) {n:Int} {z:AV} {a b:Value} (hs:R w G φ A .nil a) (hx:R w G φ A (.int .i64 n) b) (h:jH te n H0=some (z,H')):
 bg w G φ A H0 H' ((do pure (.value (←Builtin.append_ tys ty #[a,b])):Sem Next).run P w) z:=by
 obtain ⟨ti,e,ht,hu,cp⟩:=jf bm;have e1:=hs.c8;have e2:=hx.cm;subst e1;subst e2;unfold jH at h;split at h
 rotate_left
 ·simp at h
 rename_i zA hz;split at h
 rotate_left
 ·simp at h
 rename_i hcnd;obtain ⟨c0,c2,c3⟩:=hcnd;obtain ⟨inf,i1,i2,_⟩:=(hE _ _ cp).typeInfo w;simp only [roomy,Bool.and_eq_true,decide_eq_true_eq] at c2;obtain ⟨r1,r2⟩:=c2;have hn:IntKind.i64.wrap n=n:=IntWalk.i64_in n (by omega)
 have e1:(n.toNat+512)*te.bytes=n.toNat*te.bytes+512*te.bytes:=Nat.add_mul _ _ _;have hb: ¬(n*(inf.bytes:Int)>2^48):=by
  rw [i2];have e2:n*((te.bytes:Int))=((n.toNat*te.bytes:Nat):Int):=by
   rw [Int.natCast_mul,Int.toNat_of_nonneg (by omega)]
  rw [e2];omega
 have hd:=(hE _ _ cG).kE (w:=w) hit;have t1: ¬(IntKind.i64.wrap n<0):=by rw [hn];omega
 have aw: ¬(IntKind.i64.wrap n*(inf.bytes:Int)>2^48):=by rw [hn];exact hb
 by_cases oA:n=0
 ·rw [if_pos oA] at h;simp only [Option.some.injEq,Prod.mk.injEq] at h;obtain ⟨rfl,rfl⟩:=h;subst oA;refine bg.val ae ?_ (.fr _ _ .nil);unfold Builtin.append_;simp only [h0,h1,List.getElem?_toArray,List.getElem?_cons_zero,List.getElem?_cons_succ,Sem.run_bind,(hE _ _ ht).sl w hu,Result.andThen_ok,(hE _ _ cp).sizeOf,hd,Sem.run_pure,asInt,asIntOf];simp only [t1,if_true,if_false,Sem.run_bind,Sem.run_pure,Result.andThen_ok,i1,aw];rw [hn];simp
 ·rw [if_neg oA] at h;simp only [Option.some.injEq,Prod.mk.injEq] at h;obtain ⟨rfl,rfl⟩:=h;have dM:=l9 ae;obtain ⟨zv,z1,z2,z3,z5⟩:=qP (hE _ _ cp) hz w.drew;obtain ⟨ya,oz,yb,_⟩:=(hE _ _ cp).typeInfo w.drew
  let q:Question:= .appendCap n.toNat 0 e
  let cap:=q.cut (w.tape w.drawn q)
  have fj:n.toNat≤cap:=Nat.le_add_right _ _
  let arr:=Builtin.zeroCells zv.cells n.toNat ++ Builtin.zeroCells zv.cells (cap-n.toNat)
  have gZ: ∀m,(Builtin.zeroCells zv.cells m).size=m*te.sz:=fun m=>by simp [Builtin.zeroCells,z2]
  have yc:Builtin.nextslicecap n.toNat 0=n.toNat:=by unfold Builtin.nextslicecap;rw [if_pos (by omega)]
  have iG: ¬(n.toNat*inf.bytes>2^48):=by rw [i2];omega
  have l7: ¬((n.toNat:Int)>IntKind.i64.max):=by have:IntKind.i64.max=9223372036854775807:=rfl;omega
  have aL: ¬(n.toNat*te.sz=0):=by
   intro h0;rcases Nat.mul_eq_zero.1 h0 with h0|h0<;>omega
  have cP:(Builtin.append_ tys ty #[.slice none 0 0,.int .i64 n]).run P w= .ok (.slice (some ⟨w.heap.size,0,none⟩) n.toNat cap) (w.drew.alloc (.cells arr e)):=by
   unfold Builtin.append_;simp only [h0,h1,List.getElem?_toArray,List.getElem?_cons_zero,List.getElem?_cons_succ,Sem.run_bind,(hE _ _ ht).sl w hu,Result.andThen_ok,(hE _ _ cp).sizeOf,hd,Sem.run_pure,asInt,asIntOf];simp only [t1,if_true,if_false,Sem.run_bind,Sem.run_pure,Result.andThen_ok,i1,aw];rw [hn];have l8: ¬(n.toNat≤0):=by omega
   have kQ: ¬(Builtin.nextslicecap n.toNat 0*inf.bytes>2^48):=by rw [yc];exact iG
   simp only [Nat.zero_add];rw [if_neg l8];simp only [if_false,Sem.run_bind,Sem.run_pure,Result.andThen_ok,i1,l7,false_and,kQ,run_choose,Question.forced,World.drew_eq,oz,run_askRoom,Builtin.firstCells,aL,z1,newRow,run_newObj,World.alloc_eq,Array.empty_append,Bool.not_true,Bool.false_eq_true];rfl
  have dK:arr.size=cap*te.sz:=by
   simp only [arr,Array.size_append,gZ];rw [←Nat.add_mul];congr 1;omega
  have cI: ∀(i:Nat) (x:AV),(List.replicate n.toNat zA)[i]? =some x→x.cells.length=te.sz:=by
   intro i x hx;simp only [List.getElem?_replicate] at hx;split at hx
   ·simp only [Option.some.injEq] at hx;subst hx;exact z3
   ·simp at hx
  have jd: ∀(i:Nat) (x:AV) (j:Nat) (y:AV) (v:Value),(List.replicate n.toNat zA)[i]? =some x→x.cells[j]? =some y→arr[i*te.sz+j]? =some v→R w.drew G φ A y v∧v.oneCell' =true:=by
   intro i x j y v hx hy hv;simp only [List.getElem?_replicate] at hx;split at hx
   ·rename_i hi;simp only [Option.some.injEq] at hx;subst hx;have hj:j<te.sz:=by rw [←z3];exact (List.getElem?_eq_some_iff.1 hy).1
    have ax:i*te.sz+j<n.toNat*te.sz:=by have:=cK (n:=te.sz) hi;omega
    simp only [arr] at hv;rw [Array.getElem?_append_left (by rw [gZ];exact ax)] at hv
    have bu:zv.cells[j]? =some v:=by
     refine kN z2 hi hj ?_;rw [←hv];simp only [Builtin.zeroCells,z2]
    have:=z5 w.drew A j y v hy bu;exact ⟨.fr _ _ this.1,this.2⟩
   ·simp at hx
  obtain ⟨ak,A',bI,aV,bN⟩:=jS (arr:=arr) e dM.st hX (bp (by simp [J.new])) cI (by rw [dK];simpa using Nat.mul_le_mul_right _ fj) jd
  have hg:=hX.1 _ _ (J.ea H0 te.sz false (List.replicate n.toNat zA));exact bg.of (by simp only [Sem.run_bind,cP,Result.andThen_ok,Sem.run_pure];rfl) (jT hg (Nat.lt_of_lt_of_le (Nat.lt_succ_self _) hX.2) aV (by simp) fj (by simpa using fj) (by rw [kM,dK];exact Nat.le_refl _)) (dM.trans ae bI) bN
include hE in
theorem oB {H0 H' :J} (ae:St w G φ A) (fo:a_ H0 G) (hX:a_ H' G) (bp:H0.bs.length<H'.bs.length→ φ H0.bs.length=none) {t tx:TypeId} {tys:Array TypeId} {ty:TypeId} (h0:tys[0]? =some t) (h1:tys[1]? =some tx) {te eL:TI} (bm:cB E t=some te)
 (cG:E tx=some eL) (fR: ∀k,eL.au≠ .it k) {s x z:AV} {a b:Value} (hs:R w G φ A s a) (hx:R w G φ A x b) (hq:s= .nil∨s= .e0) (h:ek te s x H0=some (z,H')):
 bg w G φ A H0 H' ((do pure (.value (←Builtin.append_ tys ty #[a,b])):Sem Next).run P w) z:=by
 obtain ⟨ti,e,ht,hu,cp⟩:=jf bm;obtain ⟨base,rfl⟩: ∃base,a= .slice base 0 0:=by
  rcases hq with rfl|rfl
  ·exact ⟨none,hs.c8⟩
  ·obtain ⟨a0,rfl⟩:=hs.eH;exact ⟨a0,rfl⟩
 unfold ek at h;split at h
 ·simp at h
 ·rename_i xs dN;split at h
  ·simp at h
  ·rename_i aA;simp only [Bool.not_eq_true',Bool.not_eq_false] at aA;split at h
   ·simp at h
   ·rename_i hz;have hz:0<te.sz:=by omega
    obtain ⟨cs,cQ⟩:=jW (P:=P) ae fo hx dN aA hz;have qY:xs.length=0→bg w G φ A H0 H0 ((do pure (.value (←Builtin.append_ tys ty #[.slice base 0 0,b])):Sem Next).run P w) s:=by
     intro hl;refine bg.val ae ?_ hs;obtain ⟨d,hd,ov⟩:=ou (hE _ _ cG) fR w;have hc:=cQ.run 0 (by omega)
     have dg:=cQ.len;rw [hl] at dg;simp only [Nat.zero_mul,Array.extract_zero] at hc;unfold Builtin.append_;simp only [h0,h1,List.getElem?_toArray,List.getElem?_cons_zero,List.getElem?_cons_succ,Sem.run_bind,(hE _ _ ht).sl w hu,Result.andThen_ok,(hE _ _ cp).sizeOf,hd,Sem.run_pure];simp only [Bool.false_eq_true,if_false,Bool.not_false,if_true,Sem.run_bind,dg,Result.andThen_ok,Nat.add_zero,Nat.le_refl,hc];cases base with
     |none=>simp
     |some p=>simp [storeCells]
    have qZ: ∀{v:Nat},0<xs.length→roomy xs.length te.bytes=true→a_ (H0.new te.sz false xs) G→ φ H0.bs.length=none→v=xs.length→
     bg w G φ A H0 (H0.new te.sz false xs) ((do pure (.value (←Builtin.append_ tys ty #[.slice base 0 0,b])):Sem Next).run P w) (.ref H0.bs.length H0.st 0 xs.length):=by
     intro v hl hr hX yd _;have dM:=l9 ae;have hc:(Builtin.firstCells te.sz 0 (.slice base 0 0)).run P w.drew= .ok #[] w.drew:=by
      cases base with
      |none=>simp [Builtin.firstCells]
      |some p=>simp [Builtin.firstCells,loadCells,loadCellsFrom]
     obtain ⟨aW,eW⟩:=jW (P:=P) dM.st fo (hx.mono dM.bQ) dN aA hz;have dO:=eW.run xs.length (Nat.le_refl _);rw [←eW.size] at dO;simp only [Array.extract_size] at dO;obtain ⟨cap,arr,k1,k2,k3,k4⟩:=run_append_grow (P:=P) (w:=w) (hE _ _ ht) hu (hE _ _ cp) (hE _ _ cG) fR tys h0 h1 ty cQ.len hc dO (by simp) eW.size (by omega) (by simpa using hr)
     simp only [Nat.zero_add] at k1 k2 k4;have cI: ∀(i:Nat) (x:AV),xs[i]? =some x→x.cells.length=te.sz:=fun i x hi=>gY aA hi;have hle:xs.length*te.sz≤cap*te.sz:=Nat.mul_le_mul_right _ k1;obtain ⟨ak,A',bI,aV,bN⟩:=jS (arr:=arr) e dM.st hX yd cI (by rw [k3];exact hle) (fun i x j y v hi hy hv=>by
      have cg:i<xs.length:=(List.getElem?_eq_some_iff.1 hi).1;have dP:j<x.cells.length:=(List.getElem?_eq_some_iff.1 hy).1;have:=cI i x hi;have:=cK (n:=te.sz) cg;rw [k4 _ (by omega)] at hv
      simp only [Array.empty_append] at hv;exact eW.rel i x j y v hi hy hv)
     have hg:=hX.1 _ _ (J.ea H0 te.sz false xs);exact bg.of (by simp [k2]) (jT hg (Nat.lt_of_lt_of_le (Nat.lt_succ_self _) hX.2) aV (Nat.le_refl _) k1 k1 (by
      have:=kM w.drew arr e;rw [this,k3];exact Nat.le_refl _)) (dM.trans ae bI) bN
    rcases hq with rfl|rfl
    ·simp only at h;split at h
     ·rename_i hl;simp only [Option.some.injEq,Prod.mk.injEq] at h;obtain ⟨rfl,rfl⟩:=h;exact qY hl
     ·rename_i hl;split at h
      ·rename_i hr;simp only [Option.some.injEq,Prod.mk.injEq] at h;obtain ⟨rfl,rfl⟩:=h;exact qZ (by omega) hr hX (bp (by simp [J.new])) rfl
      ·simp at h
    ·simp only at h;split at h
     ·rename_i hl;simp only [Option.some.injEq,Prod.mk.injEq] at h;obtain ⟨rfl,rfl⟩:=h;exact qY hl
     ·rename_i hl;split at h
      ·rename_i hr;simp only [Option.some.injEq,Prod.mk.injEq] at h;obtain ⟨rfl,rfl⟩:=h;exact qZ (by omega) hr hX (bp (by simp [J.new])) rfl
      ·simp at h
include hE in
theorem ye {H0 H' :J} (ae:St w G φ A) (fo:a_ H0 G) (hX:a_ H' G) (bp:H0.bs.length<H'.bs.length→ φ H0.bs.length=none) {src dst:TypeId} {x z:AV} {a:Value} (hx:R w G φ A x a)
 (h:(match (generalizing:=false) E src,E dst,x with
 |some _,some td,.int _ n=>match td.au with
  | .it k=>some (AV.int k (k.wrap n),H0)
  |_=>none
 |some _,some td,.str l=>match td.au with
  | .str=>some (.str l,H0)
  | .sl e=>match E e with
   |some te=>match te.au with
    | .it .u8=>if te.sz=1∧te.bytes=1∧l.length≤2^45 then some (.ref H0.bs.length H0.st 0 l.length,H0.new 1 false (l.map fun b=> .int .u8 b.toNat)) else none
    |_=>none
   |none=>none
  |_=>none
 |some ts,some td,x=>match ts.au,td.au with
  | .sl e,.str=>match E e with
   |some te=>match te.au with
    | .it .u8=>match cN H0 x with
     |some xs=>if te.sz=1 then (match ((bytesOf xs).map AV.str) with|some v=>some (v,H0)|none=>none) else none
     |none=>none
    |_=>none
   |none=>none
  |_,_=>none
 |_,_,_=>none)=some (z,H')):bg w G φ A H0 H' ((do pure (.value (←convert src dst a)):Sem Next).run P w) z:=by
 have en:(∃s,x= .str s)∨ ∀s,x≠ .str s:=by
  by_cases h: ∃s,x= .str s
  ·exact .inl h
  ·exact .inr fun s hs=>h ⟨s,hs⟩
 split at h
 ·rename_i ts td k n h1 h2;have e1:=hx.cm;subst e1;split at h
  ·rename_i k' hu
   simp only [Option.some.injEq,Prod.mk.injEq] at h;obtain ⟨rfl,rfl⟩:=h;obtain ⟨i,d,zz,_,hd,_⟩:=(hE _ _ h1).out;refine bg.val ae ?_ (.fr _ _ (.int _ _));simp only [Sem.run_bind,convert,run_underlying hd,(hE _ _ h2).kE w hu,Result.andThen_ok];cases d<;>rfl
  ·simp at h
 ·rename_i ts td l h1 h2;obtain ⟨s,rfl,rfl⟩:=hx.eF;obtain ⟨i,d,zz,_,hd,_⟩:=(hE _ _ h1).out;split at h
  ·rename_i hu;simp only [Option.some.injEq,Prod.mk.injEq] at h;obtain ⟨rfl,rfl⟩:=h;refine bg.val ae ?_ hx;simp only [Sem.run_bind,convert,run_underlying hd,(hE _ _ h2).ja w hu,Result.andThen_ok];cases d<;>rfl
  ·rename_i e hu;split at h
   ·rename_i te h3;split at h
    ·rename_i oC;split at h
     ·rename_i hc;simp only [Option.some.injEq,Prod.mk.injEq] at h;obtain ⟨rfl,rfl⟩:=h;have hl:s.data.toList.length=s.size:=Array.length_toList;have dM:=l9 ae
      let q:Question:= .appendCap s.size 0 e
      let cap:=q.cut (w.tape w.drawn q)
      have fj:s.size≤cap:=Nat.le_add_right _ _
      let arr:Array Value:=(s.data.map fun b=>Value.int .u8 b.toNat) ++ Array.replicate (cap-s.size) (.int .u8 0)
      have dK:arr.size=cap:=by
       simp only [arr,Array.size_append,Array.size_map,Array.size_replicate];have:s.data.size=s.size:=rfl;omega
      obtain ⟨ak,A',bI,aV,bN⟩:=qO (arr:=arr) (arr.size,arr.size+1) e dM.st hX (bp (by simp [J.new])) (fun i x hi=>by
       simp only [List.getElem?_map,Option.map_eq_some_iff] at hi;obtain ⟨c,_,rfl⟩:=hi;rfl) (by rw [List.length_map,hl,dK];omega) (fun j hj h=>by have:=h.1;simp only at this;omega) (fun i x j y v hi hy hv=>by
       simp only [List.getElem?_map,Option.map_eq_some_iff] at hi;obtain ⟨c,hc,rfl⟩:=hi;cases j with
       |zero=>
        simp only [AV.cells,List.getElem?_cons_zero,Option.some.injEq] at hy;subst hy;simp only [Nat.mul_one,Nat.add_zero] at hv;have hi:i<s.data.size:=by rw [←Array.length_toList];exact (List.getElem?_eq_some_iff.1 hc).1
        simp only [arr] at hv;rw [Array.getElem?_append_left (by simpa using hi)] at hv
        simp only [Array.getElem?_map,Option.map_eq_some_iff] at hv;obtain ⟨c',gU,rfl⟩:=hv;have:s.data[i]? =some c:=by simpa using hc
        rw [this] at gU;simp only [Option.some.injEq] at gU;subst gU;exact ⟨.fr _ _ (.int _ _),rfl⟩
       |succ j=>simp [AV.cells] at hy)
      have hg:=hX.1 _ _ (J.ea H0 1 false (s.data.toList.map fun b=>AV.int .u8 b.toNat));have cP:(convert src dst (.string s)).run P w= .ok (.slice (some ⟨w.heap.size,0,none⟩) s.size cap) (w.drew.alloc (.cells arr e (arr.size,arr.size+1))):=by
       have e2:(convert src dst (.string s)).run P w=(Conv.stringToBytes e s).run P w:=by
        simp only [convert,Sem.run_bind,run_underlying hd,(hE _ _ h2).sl w hu,Result.andThen_ok];have:=(hE _ _ h3).kE w oC;cases d<;>simp [this]
       rw [e2];unfold Conv.stringToBytes;simp only [Sem.run_bind,run_choose,Question.forced,Bool.false_eq_true,if_false,World.drew_eq,Result.andThen_ok,newRow,run_newObj,World.alloc_eq,Sem.run_pure];have fp:((w.drew.alloc (.cells arr e)).shape? w.drew.heap.size)=some (e,arr.size):=by
        unfold World.shape?;rw [heap_alloc_new]
       simp only [markStringish,Sem.run_bind,run_shape,Result.andThen_ok];rw [show (w.drew.alloc (.cells ((s.data.map fun b=>Value.int .u8 b.toNat) ++ Array.replicate (q.cut (w.tape w.drawn q)-s.size) (.int .u8 0)) e))=w.drew.alloc (.cells arr e) from rfl];rw [fp];simp only [run_freeze,Result.andThen_ok];congr 1;unfold World.freeze;simp only [Nat.one_ne_zero,if_false];have: ∀(h:Array Obj) (o:Obj) (f:Obj→Obj),(h.push o).modify h.size f=h.push (f o):=by
        intro h o f;apply Array.ext
        ·simp
        ·intro i h1 h2;simp only [Array.getElem_modify,Array.getElem_push];simp at h1;by_cases hi:h.size=i
         ·subst hi;simp
         ·have:i<h.size:=by omega
          simp [hi,this]
       show ({w.drew.alloc (.cells arr e) with heap:=(w.drew.heap.push (.cells arr e)).modify w.drew.heap.size _}:World)=_;rw [this];rfl
      refine bg.of (by simp [cP];rfl) ?_ (dM.trans ae bI) bN
      rw [hl];exact jT hg (Nat.lt_of_lt_of_le (Nat.lt_succ_self _) hX.2) aV (by simp [hl]) fj (by simp [hl];exact fj) (by
       have:a8 (w.drew.alloc (.cells arr e (arr.size,arr.size+1))) w.heap.size=arr.size:=by
        unfold a8;rw [show w.heap.size=w.drew.heap.size from rfl,heap_alloc_new]
       rw [this,dK];simp)
     ·simp at h
    ·simp at h
   ·simp at h
  ·simp at h
 ·rename_i x o1 o2 x' ts td h1 h2 BP l_
  replace l_: ∀s,x≠AV.str s:=by
   rcases en with ⟨s,rfl⟩|hn
   ·exact (l_ s rfl).elim
   ·exact hn
  split at h
  ·rename_i e dx bf;split at h
   ·rename_i te h3;split at h
    ·rename_i oC;split at h
     ·rename_i xs dN;split at h
      ·split at h
       ·rename_i v hv;simp only [Option.some.injEq,Prod.mk.injEq] at h;obtain ⟨rfl,rfl⟩:=h;simp only [Option.map_eq_some_iff] at hv;obtain ⟨l,hl,rfl⟩:=hv;obtain ⟨u,hu,hr⟩:=x8 hE ae fo hx dN hl l_;refine bg.val ae ?_ hr;have ha: ∃a0 l0 c0,a= .slice a0 l0 c0:=by
         obtain ⟨ns,ma,_⟩:=qU hl;have bR:=oo ae fo hx dN (sz:=1) (by rw [ma];simp [bK,AV.cells]) l_
         rcases bR.out with ⟨_,a0,c0,rfl⟩|⟨c,o,cap,arr,T,fr,rfl,_⟩
         ·exact ⟨_,_,_,rfl⟩
         ·exact ⟨_,_,_,rfl⟩
        obtain ⟨a0,l0,c0,rfl⟩:=ha;have e3:=(hE _ _ h3).kE w oC;simp only [Sem.run_bind,convert,(hE _ _ h1).sl w dx,(hE _ _ h2).ja w bf,Result.andThen_ok];cases a0<;>simp [e3,hu]
       ·simp at h
      ·simp at h
     ·simp at h
    ·simp at h
   ·simp at h
  ·simp at h
 ·simp at h
end ops
end Go.VS
namespace Go.VS
section ops
variable {P:Program} {E:aK} (hE: ∀t ti,E t=some ti→aS P t ti)
variable {w:World} {G:J} {φ :ag} {A:ah}
theorem bg.fq {H0 H' :J} {sv:Sem Value} {x:AV} (ae:St w G φ A) (h: ∃v,sv.run P w= .ok v w∧R w G φ A x v):bg w G φ A H0 H' ((do pure (.value (←sv)):Sem Next).run P w) x:=by
 obtain ⟨v,hv,hx⟩:=h;exact bg.val ae (by simp [hv]) hx
include hE in
theorem q0 {H0 H' :J} (ae:St w G φ A) (fo:a_ H0 G) (hX:a_ H' G) (bp:H0.bs.length<H'.bs.length→ φ H0.bs.length=none) {o:Oper} {s:aj} {ρ :Operand→Value} {z:AV} (hq:dI o.op=true)
 (aT: ∀y∈o.op.operands,R w G φ A (ev s y) (ρ y)) (h:aP E o.op s H0=some (z,H')):bg w G φ A H0 H' ((execOp ρ o).run P w) z:=by
 obtain ⟨dst,op,type,pos,after,guard⟩:=o;simp only at hq aT h;cases op with
 |move x=>
  simp only [aP,Option.some.injEq,Prod.mk.injEq] at h;obtain ⟨rfl,rfl⟩:=h;exact bg.val ae rfl (aT x (by simp [Op.operands]))
 |assign x=>
  simp only [aP,Option.some.injEq,Prod.mk.injEq] at h;obtain ⟨rfl,rfl⟩:=h;exact bg.val ae rfl (aT x (by simp [Op.operands]))
 |pick c a b=>
  have hc:=aT c (by simp [Op.operands])
  have ha:=aT a (by simp [Op.operands])
  have hb:=aT b (by simp [Op.operands])
  simp only [aP] at h;split at h
  ·rename_i t ht;rw [ht] at hc;have e1:=hc.eT;simp only [Option.some.injEq,Prod.mk.injEq] at h;obtain ⟨rfl,rfl⟩:=h;refine bg.val ae (v:=if t then ρ a else ρ b) (by simp [execOp,asBool,e1]) ?_
   cases t
   ·exact hb
   ·exact ha
  ·simp at h
 |binOp op t x y ty=>
  have hx:=aT x (by simp [Op.operands])
  have hy:=aT y (by simp [Op.operands])
  simp only [aP] at h;have key: ∀z,aI E op t (ev s x) (ev s y)=some z→((∃u,y= .const u)∨ ∀e,ev s y≠ .cj e)→bg w G φ A H0 H0 ((execOp ρ {dst,op:= .binOp op t x y ty,type,pos,after,guard}).run P w) z:=
   fun z hz hc=>bg.fq ae (xA hE hx hy x y hc hz)
  split at h
  ·rename_i u;split at h
   ·rename_i v hv;simp only [Option.some.injEq,Prod.mk.injEq] at h;obtain ⟨rfl,rfl⟩:=h;exact key _ hv (.inl ⟨u,rfl⟩)
   ·simp at h
  ·split at h
   ·simp at h
   ·rename_i he;split at h
    ·rename_i v hv;simp only [Option.some.injEq,Prod.mk.injEq] at h;obtain ⟨rfl,rfl⟩:=h;exact key _ hv (.inr he)
    ·simp at h
 |unOp op t x=>
  have hx:=aT x (by simp [Op.operands])
  simp only [aP] at h;split at h
  ·rename_i v hv;simp only [Option.some.injEq,Prod.mk.injEq] at h;obtain ⟨rfl,rfl⟩:=h;exact bg.fq ae (xp P hx hv)
  ·simp at h
 |extract x i=>
  have hx:=aT x (by simp [Op.operands])
  simp only [aP] at h;split at h
  ·rename_i vs dC;rw [dC] at hx;obtain ⟨us,dx,hl,hp⟩:=hx.lR;split at h
   ·rename_i v hv;simp only [Option.some.injEq,Prod.mk.injEq] at h;obtain ⟨rfl,rfl⟩:=h;have hi:i<us.size:=by rw [←hl];exact (List.getElem?_eq_some_iff.1 hv).1
    exact bg.fq ae ⟨us[i],by simp [Instr.extract,dx,Array.getElem?_eq_getElem hi],hp i _ _ hv (Array.getElem?_eq_getElem hi)⟩
   ·simp at h
  ·simp at h
 |nilCheck x=>
  have hx:=aT x (by simp [Op.operands])
  simp only [aP] at h;split at h
  ·rename_i a b c d hv;rw [hv] at hx;split at h
   ·rename_i bl hb;simp only [Option.some.injEq,Prod.mk.injEq] at h;obtain ⟨rfl,rfl⟩:=h;obtain ⟨_,_,hp⟩:=hx.fk;obtain ⟨c0,b0,_,cr⟩:=hp _ (fo.ap hb);exact bg.val ae (by simp only [execOp,cr];rfl) (by rw [cr] at hx;exact hx)
   ·simp at h
  ·rename_i y o hv;rw [hv] at hx;simp only [Option.some.injEq,Prod.mk.injEq] at h;obtain ⟨rfl,rfl⟩:=h;obtain ⟨c,p,arr,T,fr,cr,_⟩:=eG hx.eG;exact bg.val ae (by simp only [execOp,cr];rfl) (by rw [cr] at hx;exact hx)
  ·simp at h
 |convert src dst x=>
  have hx:=aT x (by simp [Op.operands])
  simp only [aP] at h;exact ye hE ae fo hX bp hx h
 |field t x f=>
  have hx:=aT x (by simp [Op.operands])
  simp only [aP] at h;exact bg.fq ae (xH hE hx h)
 |fieldAddr t x f=>
  have hx:=aT x (by simp [Op.operands])
  simp only [aP] at h;exact bg.fq ae (xv hE fo hx h)
 |indexAddr t x i=>
  have hx:=aT x (by simp [Op.operands])
  have hi:=aT i (by simp [Op.operands])
  simp only [aP] at h;exact bg.fq ae (xG hE fo hx hi h)
 |index t x i=>
  have hx:=aT x (by simp [Op.operands])
  have hi:=aT i (by simp [Op.operands])
  simp only [aP] at h;exact bg.fq ae (xI hE hx hi h)
 |load t x=>
  have hx:=aT x (by simp [Op.operands])
  simp only [aP] at h;exact bg.fq ae (qJ hE ae fo hx h)
 |alloc t=>
  simp only [aP] at h;exact xS hE ae hX bp h
 |box t x=>
  have hx:=aT x (by simp [Op.operands])
  simp only [aP] at h;exact xT hE ae hX bp hx h
 |build t parts=>
  have hp: ∀p∈parts.toList,R w G φ A (ev s p.2) (ρ p.2):=fun p hp=>aT p.2 (by simp [Op.operands];exact ⟨p.1,by simpa using hp⟩)
  simp only [aP] at h;exact bg.fq ae (x1 hE hp h)
 |buildSlice t len parts=>
  have hp: ∀p∈parts.toList,R w G φ A (ev s p.2) (ρ p.2):=fun p hp=>aT p.2 (by simp [Op.operands];exact ⟨p.1,by simpa using hp⟩)
  simp only [aP] at h;exact x2 hE ae hX bp hp h
 |makeSlice t l c=>
  have hl:=aT l (by simp [Op.operands])
  have hc:=aT c (by simp [Op.operands])
  simp only [aP] at h;exact xV hE ae hX bp hl hc h
 |slice t x lo hi mx=>
  have hx:=aT x (by simp [Op.operands])
  have oD: ∀(q:Option Operand) (r:Option Int),(∀y,q=some y→R w G φ A (ev s y) (ρ y))→dW (q.map (ev s))=some r→eU r (q.map ρ):=by
   intro q r hq hr;refine xJ (w:=w) (G:=G) (φ := φ) (A:=A) hr ?_;cases q with
   |none=>exact .inl ⟨rfl,rfl⟩
   |some y=>exact .inr ⟨_,_,rfl,rfl,hq y rfl⟩
  simp only [aP] at h;split at h
  ·rename_i l' h' m' e1 e2 e3
   split at h
   ·rename_i v hv;simp only [Option.some.injEq,Prod.mk.injEq] at h;obtain ⟨rfl,rfl⟩:=h;refine bg.fq ae (xN hE fo hx (oD lo l' (fun y hy=>aT y ?_) e1) (oD hi h' (fun y hy=>aT y ?_) e2) (oD mx m' (fun y hy=>aT y ?_) e3) hv)<;>simp [Op.operands,hy]
   ·simp at h
  ·simp at h
 |makeFunc fn first cap=>
  cases fn with
  |func f=>
   simp only [aP] at h;split at h
   ·rename_i hf;simp only [Option.some.injEq,Prod.mk.injEq] at h;obtain ⟨rfl,rfl⟩:=h;have yf:first= #[]:=Array.eq_empty_of_size_eq_zero hf
    subst yf;refine bg.fq ae ⟨.func (.func f) #[] (cap.map ρ),by simp [Instr.makeFunc],R.fn f (cap.toList.map (ev s)) (cap.map ρ) (by simp) fun i x v hx hv=> ?_⟩
    simp only [List.getElem?_map,Option.map_eq_some_iff,Array.getElem?_map,Array.getElem?_toList] at hx hv;obtain ⟨y,hy,rfl⟩:=hx;obtain ⟨y',ep,rfl⟩:=hv;rw [hy] at ep;simp only [Option.some.injEq] at ep;subst ep;exact aT y (by simp [Op.operands];exact Array.mem_of_getElem? hy)
   ·simp at h
  |_=>simp [aP] at h
 |_=>simp [dI] at hq
end ops
end Go.VS
namespace Go.VS
structure iH (w:World) (c:Nat) (o:Obj) (w' :World):Prop where
 here:w'.heap[c]? =some o
 other: ∀k,k≠c→w'.heap[k]? =w.heap[k]?
 size:w'.heap.size=w.heap.size
 os:w'.os=w.os
 tape:w'.tape=w.tape
 output:w'.output=w.output
theorem yg {w:World} {c:Nat} {arr:Array Value} {T:TypeId} {fr:Nat×Nat} (h:w.heap[c]? =some (.cells arr T fr)) (p:Nat) (v:Value):
 iH w c (.cells (arr.setIfInBounds p v) T fr) (w.setCell ⟨c,p,none⟩ v):=by
 refine ⟨?_,fun k hk=> ?_,by simp,rfl,rfl,rfl⟩
 ·simp only [World.setCell,Array.getElem?_modify,if_true,h,Option.map_some];rfl
 ·simp only [World.setCell,Array.getElem?_modify];rw [if_neg (fun e=>hk e.symm)]
theorem mb (P:Program) (c p:Nat) (T:TypeId) (fr:Nat×Nat): ∀(vs:List Value) (i:Nat) (arr:Array Value) (w:World),w.heap[c]? =some (.cells arr T fr)→
 (∀j,j<arr.size→ ¬(fr.1≤j∧j<fr.2))→p+i+vs.length≤arr.size→(∀u∈vs,u.oneCell' =true)→
 ∃w' arr',(storeCells ⟨c,p,none⟩ vs i).run P w= .ok () w' ∧iH w c (.cells arr' T fr) w' ∧arr'.size=arr.size∧
  ∀m,arr'[m]? =if p+i≤m∧m<p+i+vs.length then vs[m-(p+i)]? else arr[m]?
 |[],i,arr,w,h,_,_,_=>⟨w,arr,by simp [storeCells],⟨h,fun _ _=>rfl,rfl,rfl,rfl,rfl⟩,rfl,fun m=>by rw [if_neg (by simp only [List.length_nil];omega)]⟩
 |v::vs,i,arr,w,h,hf,hl,ho=>by
  simp only [List.length_cons] at hl;have ax:p+i<arr.size:=by omega
  have hc:w.cell? ⟨c,p+i,none⟩=some arr[p+i]:=by rw [lU h];exact Array.getElem?_eq_getElem ax
  have jb:w.frozen? ⟨c,p+i,none⟩=false:=by
   unfold World.frozen?;simp only [h];have:=hf (p+i) ax;simp only [Bool.and_eq_false_iff,decide_eq_false_iff_not];by_cases h1:fr.1≤p+i
   ·right;exact fun h2=>this ⟨h1,h2⟩
   ·left;exact h1
  have hu:=yg h (p+i) v;obtain ⟨w',arr',e1,e2,e3,e4⟩:=mb P c p T fr vs (i+1) (arr.setIfInBounds (p+i) v) (w.setCell ⟨c,p+i,none⟩ v) hu.here (by simpa using hf) (by simp;omega) (fun u hu=>ho u (by simp [hu]))
  refine ⟨w',arr',?_,⟨e2.here,fun k hk=>(e2.other k hk).trans (hu.other k hk),e2.size.trans hu.size,e2.os.trans hu.os,e2.tape.trans hu.tape,e2.output.trans hu.output⟩,by rw [e3];simp,fun m=> ?_⟩
  ·simp only [storeCells,Sem.run_bind,gV,run_store P w ⟨c,p+i,none⟩ v .plain (ho v (by simp)),hc,jb,Bool.false_eq_true,if_false,Result.andThen_ok]
   exact e1
  ·rw [e4,Array.getElem?_setIfInBounds];simp only [List.length_cons];by_cases hm:m=p+i
   ·subst hm;rw [if_neg (by omega)]
    simp only [if_true];rw [if_pos ax,if_pos (by omega)]
    simp
   ·by_cases kL:p+(i+1)≤m∧m<p+(i+1)+vs.length
    ·rw [if_pos kL,if_pos (by omega)]
     obtain ⟨q,rfl⟩: ∃q,m=p+i+1+q:=⟨m-(p+i+1),by omega⟩
     have e1:p+i+1+q-(p+(i+1))=q:=by omega
     have e2:p+i+1+q-(p+i)=q+1:=by omega
     rw [e1,e2];rfl
    ·rw [if_neg kL,if_neg (by omega),if_neg (by omega)]
theorem J.iI {H:J} {id:Nat} {b0 b:bB} (h:H.get id=some b0) (k:Nat):(H.a7 id b).get k=if k=id then some b else H.get k:=by
 have ax:=J.gp h;unfold J.a7 J.get;simp only [List.getElem?_set];by_cases hk:id=k
 ·subst hk;simp [ax]
 ·rw [if_neg hk,if_neg (fun e=>hk e.symm)]
section ops
variable {P:Program} {E:aK}
variable {w:World} {H:J} {φ :ag} {A:ah}
def ci (w:World) (H:J) (φ :ag) (A:ah) (H' :J) (r:Result Next) (x:AV):Prop:=
 ∃n v w' ak A',r= .ok n w' ∧(n= .value v∨(n= .skip∧v=undef))∧R w' H' ak A' x v∧Out w H φ A w' H' ak A'
theorem mc (ae:St w H φ A) {id:Nat} {b b' :bB} {c b0:Nat} (hg:H.get id=some b) (aV: φ id=some (.at_ c b0)) (hv:b'.ad=b.ad) (hs:b'.sz=b.sz) (hf:b'.fix=b.fix) (hl:b'.el.length=b.el.length)
 {arr arr' :Array Value} {T:TypeId} {fr:Nat×Nat} {w' :World} (hc:w.heap[c]? =some (.cells arr T fr)) (hu:iH w c (.cells arr' T fr) w') (aA:arr'.size=arr.size)
 (eb: ∀(i:Nat) (x:AV),b'.el[i]? =some x→x.cells.length=b.sz)
 (gW: ∀(i:Nat) (x:AV) (j:Nat) (y:AV) (v:Value),b'.el[i]? =some x→x.cells[j]? =some y→arr'[b0+i*b.sz+j]? =some v→R w H φ A y v∧v.oneCell' =true):
 Out w H φ A w' (H.a7 id b') φ A:=by
 have kR: ∀k,a8 w' k=a8 w k:=by
  intro k;unfold a8;by_cases hk:k=c
  ·subst hk;rw [hu.here,hc];exact aA
  ·rw [hu.other k hk]
 have fl:fi w φ w' φ :=⟨hu.os,hu.tape,hu.output,by rw [hu.size];exact Nat.le_refl _,fun k _ hk=>hu.other k (fun e=>hk (e▸⟨id,b0,aV⟩)),fun k _=>kR k,fun k hk=> .inl hk⟩
 have aR:bH w H φ A w' (H.a7 id b') φ A:=by
  refine ⟨fun k a t r hk hn=>⟨⟨r,by rw [hu.other k (fun e=>hn (e▸ae.own c ⟨id,b0,aV⟩))];exact hk⟩,hn⟩,Nat.le_refl _,fun i bb hb _=> ?_,fun k _=>kR k⟩
  rw [J.iI hg] at hb;split at hb
  ·rename_i hi;subst hi;simp only [Option.some.injEq] at hb;subst hb;exact ⟨b,hg,hv.symm,hs,hf,hl,fun loc h=>h⟩
  ·exact ⟨bb,hb,rfl,rfl,rfl,rfl,fun loc h=>h⟩
 refine ⟨⟨ae.inj,ae.own,fun k hk=>by rw [hu.size];exact ae.bY k hk,fun i loc cZ=> ?_⟩,fl,aR,fun k hk _=>hk⟩
 obtain ⟨bb,jX,af⟩:=ae.ap i loc cZ;by_cases hi:i=id
 ·subst hi;rw [hg] at jX;simp only [Option.some.injEq] at jX;subst jX;rw [aV] at cZ;simp only [Option.some.injEq] at cZ;subst cZ;obtain ⟨a0,t0,r0,k1,k2,k3,k4⟩:=af.here c b0 rfl;rw [hc] at k1;simp only [Option.some.injEq,Obj.cells.injEq] at k1;obtain ⟨rfl,rfl,rfl⟩:=k1;refine ⟨b',by rw [J.iI hg,if_pos rfl],by rw [hv];exact af.ad,fun j x hx=>by rw [hs];exact eb j x hx,by simp,fun c' b1 he=> ?_⟩
  simp only [Loc.at_.injEq] at he;obtain ⟨rfl,rfl⟩:=he;refine ⟨arr',T,fr,hu.here,by rw [aA];exact k2,by rw [hl,hs,aA];exact k3,fun j x m y v hx hy cr=> ?_⟩
  rw [hs] at cr;obtain ⟨h1,h2⟩:=gW j x m y v hx hy cr;exact ⟨h1.mono aR,h2⟩
 ·refine ⟨bb,by rw [J.iI hg,if_neg hi];exact jX,af.ad,af.sized,af.aQ,fun c' b1 he=> ?_⟩
  subst he;have aL:c' ≠c:=by rintro rfl;exact hi (ae.inj _ _ _ _ _ cZ aV)
  obtain ⟨a0,t0,r0,k1,k2,k3,k4⟩:=af.here c' b1 rfl
  exact ⟨a0,t0,r0,by rw [hu.other c' aL];exact k1,k2,k3,fun j x m y v hx hy cr=>⟨(k4 j x m y v hx hy cr).1.mono aR,(k4 j x m y v hx hy cr).2⟩⟩
theorem q8 (ae:St w H φ A) {id:Nat} {b b' :bB} (hg:H.get id=some b) (hv:b'.ad=H.st)
 {c b0:Nat} {arr' :Array Value} {T:TypeId} {fr:Nat×Nat} {w' :World} (hc:Ow φ c∧(∃bx,φ id=some (.at_ c bx))∨w.heap.size≤c) (hu:w'.heap[c]? =some (.cells arr' T fr))
 (me: ∀k,k<w.heap.size→k≠c→w'.heap[k]? =w.heap[k]?) (mf:w.heap.size≤w'.heap.size) (yh:w'.os=w.os) (yi:w'.tape=w.tape) (bI:w'.output=w.output)
 (cw:c<w.heap.size→arr'.size=a8 w c) (jb: ∀j,j<arr'.size→ ¬(fr.1≤j∧j<fr.2)) (jY:b0+b'.el.length*b'.sz≤arr'.size)
 (eb: ∀(i:Nat) (x:AV),b'.el[i]? =some x→x.cells.length=b'.sz)
 (gW: ∀(i:Nat) (x:AV) (j:Nat) (y:AV) (v:Value),b'.el[i]? =some x→x.cells[j]? =some y→arr'[b0+i*b'.sz+j]? =some v→R w H φ A y v∧v.oneCell' =true):
 Out w H φ A w' ⟨H.st+1,H.bs.set id (some b')⟩ (fun i=>if i=id then some (.at_ c b0) else φ i) (fun k=>A k∨k=c):=by
 have bC: ∀k,(J.mk (H.st+1) (H.bs.set id (some b'))).get k=if k=id then some b' else H.get k:=fun k=>J.iI hg k
 have kR: ∀k,k<w.heap.size→a8 w' k=a8 w k:=by
  intro k hk;by_cases ec:k=c
  ·subst ec;rw [←cw hk];unfold a8;rw [hu]
  ·unfold a8;rw [me k hk ec]
 have dJ: ∀k,Ow (fun i=>if i=id then some (.at_ c b0) else φ i) k→Ow φ k∨k=c:=by
  rintro k ⟨i,bb,h⟩;try simp only at h
  split at h
  ·simp only [Option.some.injEq,Loc.at_.injEq] at h;exact .inr h.1.symm
  ·exact .inl ⟨i,bb,h⟩
 have jZ:c<w'.heap.size:=d_ hu;have fl:fi w φ w' (fun i=>if i=id then some (.at_ c b0) else φ i):=by
  refine ⟨yh,yi,bI,mf,fun k hk hn=>me k hk (fun e=> ?_),kR,fun k hk=> ?_⟩
  ·subst e;rcases hc with h|h
   ·exact hn h.1
   ·omega
  ·rcases dJ k hk with h|rfl
   ·exact .inl h
   ·rcases hc with h|h
    ·exact .inl h.1
    ·exact .inr h
 have aR:bH w H φ A w' ⟨H.st+1,H.bs.set id (some b')⟩ (fun i=>if i=id then some (.at_ c b0) else φ i) (fun k=>A k∨k=c):=by
  refine ⟨fun k a t r hk hn=> ?_,Nat.le_succ _,fun i bb hb ax=> ?_,fun k hk=>kR k (Ow.lt ae hk)⟩
  ·have ax:=d_ hk;have ec:k≠c:=by
    rintro rfl;rcases hc with h|h
    ·exact hn (ae.own _ h.1)
    ·omega
   exact ⟨⟨r,by rw [me k ax ec];exact hk⟩,fun h=>by rcases h with h|h;exact hn h;exact ec h⟩
  ·rw [bC] at hb;split at hb
   ·simp only [Option.some.injEq] at hb;subst hb;omega
   ·rename_i hi;exact ⟨bb,hb,rfl,rfl,rfl,rfl,fun loc h=>by rw [if_neg hi];exact h⟩
 refine ⟨⟨fun i i' k b1 b2 h1 h2=> ?_,fun k hk=> ?_,fun k hk=> ?_,fun i loc cZ=> ?_⟩,fl,aR,fun k hk _=> .inl hk⟩
 ·try simp only at h1 h2
  have key: ∀{i k b1},i≠id→ φ i=some (.at_ k b1)→k≠c:=by
   rintro i k b1 hi h rfl;rcases hc with ⟨_,bx,h2⟩|h2
   ·exact hi (ae.inj _ _ _ _ _ h h2)
   ·have:=Ow.lt ae ⟨i,b1,h⟩;omega
  split at h1
  ·rename_i hi;split at h2
   ·rename_i gX;omega
   ·rename_i gX;simp only [Option.some.injEq,Loc.at_.injEq] at h1;exact absurd h1.1.symm (key gX h2)
  ·rename_i hi;split at h2
   ·simp only [Option.some.injEq,Loc.at_.injEq] at h2;exact absurd h2.1.symm (key hi h1)
   ·exact ae.inj _ _ _ _ _ h1 h2
 ·rcases dJ k hk with h|h
  ·exact .inl (ae.own k h)
  ·exact .inr h
 ·rcases hk with h|rfl
  ·have:=ae.bY k h;omega
  ·exact jZ
 ·try simp only at cZ
  split at cZ
  ·rename_i hi;subst hi;simp only [Option.some.injEq] at cZ;subst cZ;refine ⟨b',by rw [bC,if_pos rfl],by rw [hv];exact Nat.lt_succ_self _,eb,by simp,fun c' b1 he=> ?_⟩
   simp only [Loc.at_.injEq] at he;obtain ⟨rfl,rfl⟩:=he;refine ⟨arr',T,fr,hu,jb,jY,fun j x m y v hx hy cr=> ?_⟩;obtain ⟨h1,h2⟩:=gW j x m y v hx hy cr;exact ⟨h1.mono aR,h2⟩
  ·rename_i hi;obtain ⟨bb,jX,af⟩:=ae.ap i loc cZ;refine ⟨bb,by rw [bC,if_neg hi];exact jX,Nat.lt_succ_of_lt af.ad,af.sized,af.aQ,fun c' b1 he=> ?_⟩
   subst he;have aL:c' ≠c:=by
    rintro rfl;rcases hc with ⟨_,bx,h2⟩|h2
    ·exact hi (ae.inj _ _ _ _ _ cZ h2)
    ·have:=Ow.lt ae ⟨i,b1,cZ⟩;omega
   obtain ⟨a0,t0,r0,k1,k2,k3,k4⟩:=af.here c' b1 rfl
   exact ⟨a0,t0,r0,by rw [me c' (d_ k1) aL];exact k1,k2,k3,fun j x m y v hx hy cr=>⟨(k4 j x m y v hx hy cr).1.mono aR,(k4 j x m y v hx hy cr).2⟩⟩
end ops
end Go.VS
namespace Go.VS
theorem yj {y v y' :AV} {off:Nat} (h:gh y off v=some y') (hv:dD v=true):off+v.cells.length≤y.cells.length∧y'.cells=splice y.cells off v.cells:=by
 cases y with
 |agg cs=>
  simp only [gh] at h;split at h
  ·rename_i hle;simp only [Option.some.injEq] at h;subst h;exact ⟨hle,rfl⟩
  ·simp at h
 |undef=>simp [gh] at h
 |_=>
  cases v<;>simp only [gh] at h<;>first
   |(simp at h;done)
   |(simp [dD,cM] at hv;done)
   |(split at h
     ·rename_i ho;simp only [Option.some.injEq] at h;subst h;subst ho;exact ⟨by simp [AV.cells],by simp [AV.cells,splice]⟩
     ·simp at h)
section ops
variable {P:Program} {E:aK} (hE: ∀t ti,E t=some ti→aS P t ti)
variable {w:World} {H:J} {φ :ag} {A:ah}
include hE in
theorem yl {H' :J} (ae:St w H φ A) {t:TypeId} {x v z:AV} {a u:Value} (hx:R w H φ A x a) (hv:R w H φ A v u)
 (h:(match (generalizing:=false) E t with
 |some ti=>match (generalizing:=false) x with
  | .ptr id ad idx off=>match H.ap id ad with
   |some b=>match b.el[idx]? with
    |some y=>if v.cells.length=ti.sz∧dD v then match gh y off v with
     |some y' =>some (AV.ay [],H.a7 id {b with el:=b.el.set idx y' })
     |none=>none
     else none
    |none=>none
   |none=>none
  |_=>none
 |none=>none)=some (z,H')):ci w H φ A H' ((do Instr.storeAt t a u;pure .skip:Sem Next).run P w) z:=by
 split at h
 ·rename_i ti h1;split at h
  ·rename_i id ad idx off;split at h
   ·rename_i b hb;split at h
    ·rename_i y hy;split at h
     ·rename_i hc;split at h
      ·rename_i y' hw
       simp only [Option.some.injEq,Prod.mk.injEq] at h;obtain ⟨rfl,rfl⟩:=h;obtain ⟨_,_,hp⟩:=hx.fk;obtain ⟨c,b0,aV,rfl⟩:=hp b hb;obtain ⟨b1,cJ,af⟩:=ae.ap id _ aV;have hg:=(J.bn hb).1;rw [hg] at cJ;simp only [Option.some.injEq] at cJ;subst cJ;obtain ⟨arr,T,fr,k1,k2,k3,k4⟩:=af.here c b0 rfl;obtain ⟨w1,w2⟩:=yj hw hc.2;obtain ⟨m1,m2⟩:=hv.cells (oc hc.2);have m3:=hv.lS hc.2;have cg:idx<b.el.length:=(List.getElem?_eq_some_iff.1 hy).1;have hle:=cK (n:=b.sz) cg;have cx:=af.sized idx y hy;obtain ⟨w',arr',e1,e2,e3,e4⟩:=mb P c (b0+idx*b.sz+off) T fr u.cells.toList 0 arr w k1 k2 (by simp;omega) (fun q hq=>by
        obtain ⟨k,hk⟩:=List.getElem?_of_mem hq;exact m3 k q (by simpa using hk))
       have ym:y'.cells.length=b.sz:=by rw [w2,jR _ _ _ w1,cx]
       have iJ: ∀(i:Nat) (q:AV),(b.el.set idx y')[i]? =some q→(i=idx∧q=y')∨(i≠idx∧b.el[i]? =some q):=by
        intro i q hq;rw [List.getElem?_set] at hq;split at hq
        ·rename_i hi;first
          |(rw [if_pos cg] at hq;simp only [Option.some.injEq] at hq;exact .inl ⟨hi.symm,hq.symm⟩)
          |(simp only [Option.some.injEq] at hq;exact .inl ⟨hi.symm,hq.symm⟩)
        ·rename_i hi;exact .inr ⟨fun e=>hi e.symm,hq⟩
       have bI:=mc (b' :={b with el:=b.el.set idx y' }) ae hg aV rfl rfl rfl (by simp) k1 e2 e3
        (fun i q hq=>by rcases iJ i q hq with ⟨rfl,rfl⟩|⟨_,hq⟩;exact ym;exact af.sized i q hq)
        (fun i q j s v' hq hs bu=>by
         rw [e4] at bu;simp only [Nat.add_zero,Array.length_toList] at bu;rcases iJ i q hq with ⟨rfl,rfl⟩|⟨aL,hq⟩
         ·rw [w2,ob _ _ _ w1] at hs;rw [m1] at hs;by_cases hj:off≤j∧j<off+u.cells.size
          ·rw [if_pos hj] at hs;rw [if_pos (by omega)] at bu
           have e5:b0+i*b.sz+j-(b0+i*b.sz+off)=j-off:=by omega
           rw [e5] at bu;exact ⟨m2 _ _ _ hs (by simpa using bu),m3 _ _ (by simpa using bu)⟩
          ·rw [if_neg hj] at hs;rw [if_neg (by omega)] at bu
           exact k4 i y j s v' hy hs bu
         ·have oE:i<b.el.length:=(List.getElem?_eq_some_iff.1 hq).1;have dP:j<q.cells.length:=(List.getElem?_eq_some_iff.1 hs).1;have q9:=af.sized i q hq;rw [if_neg (by
           intro hh;rcases Nat.lt_or_gt_of_ne aL with h1|h1
           ·have:=cK (n:=b.sz) h1;omega
           ·have:=cK (n:=b.sz) h1;omega)] at bu
          exact k4 i q j s v' hq hs bu)
       refine ⟨.skip,undef,w',φ,A,?_,.inr ⟨rfl,rfl⟩,.fr _ _ (.ay [] #[] rfl (by simp)),bI⟩
       have aA: ¬(u.cells.size≠ti.sz):=by rw [←m1];simp [hc.1]
       simp only [Instr.storeAt,Instr.sureAddr,storeVar,Sem.run_bind,Sem.run_pure,Result.andThen_ok,(hE _ _ h1).sizeOf,aA,if_false,e1]
      ·simp at h
     ·simp at h
    ·simp at h
   ·simp at h
  ·simp at h
 ·simp at h
theorem oF (ae:St w H φ A) {id ad off len:Nat} {a:Value} (hx:R w H φ A (.ref id ad off len) a) {b:bB} (hb:H.ap id ad=some b) {at_ n:Nat} (h1:at_+n≤b.el.length) (h2:off≤at_) (hn:0<n) (_hlen:0<len∨b.el.length≤off+len∨True)
 {xs:List AV} (cq:xs.length=n) {cs:Array Value} (aA:cs.size=n*b.sz) (n5: ∀u∈cs.toList,u.oneCell' =true) (eb: ∀(i:Nat) (x:AV),xs[i]? =some x→x.cells.length=b.sz)
 (cy: ∀(i:Nat) (x:AV) (j:Nat) (y:AV) (u:Value),xs[i]? =some x→x.cells[j]? =some y→cs[i*b.sz+j]? =some u→R w H φ A y u∧u.oneCell' =true):
 ∃c b0 cap w',φ id=some (.at_ c b0)∧a= .slice (some ⟨c,b0+off*b.sz,none⟩) len cap∧b.el.length≤off+cap∧(storeCells ⟨c,b0+at_*b.sz,none⟩ cs.toList).run P w= .ok () w' ∧
  Out w H φ A w' (H.a7 id {b with el:=splice b.el at_ xs}) φ A:=by
 obtain ⟨_,_,hr⟩:=hx.df;obtain ⟨loc,a0,cap,q1,rfl,q3,q4,q5,q6⟩:=(hr b hb).out;cases loc with
 |aQ=>simp only at q6;rw [q6.1] at h1;simp at h1;omega
 |at_ c b0=>
  simp only at q6;rcases q6 with q6|⟨rfl,q7⟩
  ·omega
  ·obtain ⟨b1,cJ,af⟩:=ae.ap id _ q1;have hg:=(J.bn hb).1;rw [hg] at cJ;simp only [Option.some.injEq] at cJ;subst cJ;obtain ⟨arr,T,fr,k1,k2,k3,k4⟩:=af.here c b0 rfl;have hle:at_*b.sz+n*b.sz≤b.el.length*b.sz:=by rw [←Nat.add_mul];exact Nat.mul_le_mul_right _ h1
   obtain ⟨w',arr',e1,e2,e3,e4⟩:=mb P c (b0+at_*b.sz) T fr cs.toList 0 arr w k1 k2 (by simp [aA];omega) n5
   have kS: ∀(i:Nat) (q:AV),(splice b.el at_ xs)[i]? =some q→(at_≤i∧i<at_+n∧xs[i-at_]? =some q)∨(¬(at_≤i∧i<at_+n)∧b.el[i]? =some q):=by
    intro i q hq;rw [ob _ _ _ (by omega),cq] at hq
    split at hq
    ·rename_i hi;exact .inl ⟨hi.1,hi.2,hq⟩
    ·rename_i hi;exact .inr ⟨hi,hq⟩
   refine ⟨c,b0,cap,w',q1,rfl,q5,e1,mc (b' :={b with el:=splice b.el at_ xs}) ae hg q1 rfl rfl rfl (by simp only;rw [jR _ _ _ (by omega)]) k1 e2 e3 (fun i q hq=> ?_) (fun i q j s v' hq hs bu=> ?_)⟩
   ·rcases kS i q hq with ⟨_,_,h⟩|⟨_,h⟩
    ·exact eb _ _ h
    ·exact af.sized i q h
   ·rw [e4] at bu;simp only [Nat.add_zero,Array.length_toList,aA] at bu;have dP:j<q.cells.length:=(List.getElem?_eq_some_iff.1 hs).1;rcases kS i q hq with ⟨i1,i2,h⟩|⟨hi,h⟩
    ·have q9:=eb _ _ h;have e5:i*b.sz=at_*b.sz+(i-at_)*b.sz:=by rw [←Nat.add_mul];congr 1;omega
     have e6:=cK (n:=b.sz) (show i-at_<n by omega)
     rw [if_pos (by omega)] at bu
     have e7:b0+i*b.sz+j-(b0+at_*b.sz)=(i-at_)*b.sz+j:=by omega
     rw [e7] at bu;exact cy _ q j s v' h hs (by simpa using bu)
    ·have q9:=af.sized _ _ h;rw [if_neg (by
      intro hh;rcases Nat.lt_or_ge i at_ with h1|h1
      ·have:=cK (n:=b.sz) h1;omega
      ·have h2:at_+n≤i:=by omega
       have:=Nat.mul_le_mul_right b.sz h2;rw [Nat.add_mul] at this;omega)] at bu
     exact k4 i q j s v' h hs bu
end ops
end Go.VS
namespace Go.VS
theorem oG (cs:List AV) (k:Nat) (_h:k≤cs.length):splice cs k []=cs:=by
 unfold splice;simp
section ops
variable {P:Program} {E:aK} (hE: ∀t ti,E t=some ti→aS P t ti)
variable {w:World} {H:J} {φ :ag} {A:ah}
theorem yn (ae:St w H φ A) {H' :J} (hg: ∀id,H'.get id=H.get id) (hs:H'.st=H.st):Out w H φ A w H' φ A:=by
 have aR:bH w H φ A w H' φ A:=⟨fun c a t fr hc hn=>⟨⟨fr,hc⟩,hn⟩,by rw [hs];exact Nat.le_refl _,fun id b hb _=>⟨b,by rw [←hg];exact hb,rfl,rfl,rfl,rfl,fun _ h=>h⟩,fun _ _=>rfl⟩
 refine ⟨⟨ae.inj,ae.own,ae.bY,fun id loc h=> ?_⟩,.refl _ _,aR,fun _ h _=>h⟩;obtain ⟨b,hb,af⟩:=ae.ap id loc h;refine ⟨b,by rw [hg];exact hb,by rw [hs];exact af.ad,af.sized,af.aQ,fun c b0 hl=> ?_⟩
 obtain ⟨arr,T,fr,h1,h2,h3,h4⟩:=af.here c b0 hl;exact ⟨arr,T,fr,h1,h2,h3,fun i x j y v hx hy hv=>⟨(h4 i x j y v hx hy hv).1.mono aR,(h4 i x j y v hx hy hv).2⟩⟩
theorem oH (ae:St w H φ A) {id:Nat} {b:bB} (hg:H.get id=some b):Out w H φ A w (H.a7 id b) φ A:=
 yn ae (fun k=>by
  rw [J.iI hg];split
  ·rename_i h;rw [h,hg]
  ·rfl) rfl
theorem oI {t tx e:TypeId} {ti te eL:TI} (ht:aS P t ti) (hu:ti.au= .sl e) (bm:aS P e te) (cG:aS P tx eL) (fR: ∀k,eL.au≠ .it k) (tys:Array TypeId) (h0:tys[0]? =some t) (h1:tys[1]? =some tx) (ty:TypeId)
 {base:Option Addr} {sLen sCap:Nat} {x:Value} {n:Nat} {iF:Array Value} {w' :World} (hlen:(Builtin.lenOf x).run P w= .ok n w)
 (hX:(Builtin.firstCells te.sz n x).run P w= .ok iF w) (kP:sLen+n≤sCap) (ae:match base with|some a=>(storeCells (a.add (sLen*te.sz)) iF.toList).run P w= .ok () w' |none=>w' =w):
 (Builtin.append_ tys ty #[.slice base sLen sCap,x]).run P w= .ok (.slice base (sLen+n) sCap) w' :=by
 obtain ⟨d,hd,ov⟩:=ou cG fR w;unfold Builtin.append_;simp only [h0,h1,List.getElem?_toArray,List.getElem?_cons_zero,List.getElem?_cons_succ,Sem.run_bind,ht.sl w hu,Result.andThen_ok,bm.sizeOf,hd,Sem.run_pure];simp only [Bool.false_eq_true,if_false,Bool.not_false,if_true,Sem.run_bind,hlen,Result.andThen_ok,kP,hX];cases base with
 |none=>simp only at ae;subst ae;rfl
 |some a=>simp only at ae⊢;simp only [Sem.run_bind,ae,Result.andThen_ok,Sem.run_pure]
include hE in
theorem yo {H' :J} (ae:St w H φ A) {t tx:TypeId} {tys:Array TypeId} {ty:TypeId} (h0:tys[0]? =some t) (h1:tys[1]? =some tx) {te eL:TI} (bm:cB E t=some te)
 (cG:E tx=some eL) (fR: ∀k,eL.au≠ .it k) {id ad off len:Nat} {x z:AV} {a b:Value} (hs:R w H φ A (.ref id ad off len) a) (hx:R w H φ A x b) (h:ek te (.ref id ad off len) x H=some (z,H')):
 ci w H φ A H' ((do pure (.value (←Builtin.append_ tys ty #[a,b])):Sem Next).run P w) z:=by
 obtain ⟨ti,e,ht,hu,cp⟩:=jf bm;unfold ek at h;split at h
 ·simp at h
 ·rename_i xs dN;split at h
  ·simp at h
  ·rename_i aA;simp only [Bool.not_eq_true',Bool.not_eq_false] at aA;split at h
   ·simp at h
   ·rename_i hz;have hz:0<te.sz:=by omega
    obtain ⟨cs,cQ⟩:=jW (P:=P) ae (a_.refl H) hx dN aA hz;have mg:=cQ.run xs.length (Nat.le_refl _);rw [←cQ.size,Array.extract_size] at mg;obtain ⟨hv,_,hr⟩:=hs.df;have cI: ∀(i:Nat) (x:AV),xs[i]? =some x→x.cells.length=te.sz:=fun i x hi=>gY aA hi;simp only at h;split at h
    ·simp at h
    ·rename_i bk hb;have hg:=(J.bn hb).1;split at h
     ·simp at h
     ·rename_i cw;simp only [ne_eq,Decidable.not_not] at cw;obtain ⟨loc,a0,cap,q1,rfl,q3,q4,q5,q6⟩:=(hr bk hb).out;split at h
      ·rename_i jY;simp only [Option.some.injEq,Prod.mk.injEq] at h;obtain ⟨rfl,rfl⟩:=h;by_cases hn:xs.length=0
       ·have kT:xs=[]:=List.eq_nil_of_length_eq_zero hn;subst kT;have hcs:cs= #[]:=Array.eq_empty_of_size_eq_zero (by simpa using cQ.size)
        subst hcs;have cP:=oI (P:=P) (w:=w) (w' :=w) (base:=a0) (sLen:=len) (sCap:=cap) (hE _ _ ht) hu (hE _ _ cp) (hE _ _ cG) fR tys h0 h1 ty cQ.len mg (by simpa using q4) (by cases a0<;>simp [storeCells])
        have ho:Out w H φ A w (H.a7 id {bk with el:=splice bk.el (off+len) []}) φ A:=by
         rw [oG _ _ q3];exact oH ae hg
        exact ⟨_,_,w,φ,A,by simp only [Sem.run_bind,cP,Result.andThen_ok,Sem.run_pure];rfl,.inl rfl,hs.mono ho.bQ,ho⟩
       ·obtain ⟨c,b0,eK,w',p1,p2,p3,p4,p5⟩:=oF (P:=P) ae hs hb (at_:=off+len) (n:=xs.length) jY (by omega) (by omega) (.inr (.inr trivial)) rfl (cs:=cs) (by rw [cw];exact cQ.size) cQ.one
         (fun i x hi=>by rw [cw];exact cI i x hi) (fun i x j y u hi hy hu=>cQ.rel i x j y u hi hy (by rw [←cw];exact hu))
        simp only [Value.slice.injEq,true_and] at p2;obtain ⟨rfl,rfl⟩:=p2;have cP:=oI (P:=P) (w:=w) (w' :=w') (base:=some ⟨c,b0+off*bk.sz,none⟩) (sLen:=len) (sCap:=cap) (hE _ _ ht) hu (hE _ _ cp) (hE _ _ cG) fR tys h0 h1 ty cQ.len mg (by omega) (by
         simp only [gV];have:b0+off*bk.sz+len*te.sz=b0+(off+len)*bk.sz:=by rw [←cw,Nat.add_mul];omega
         rw [this];exact p4)
        refine ⟨_,_,w',φ,A,by simp only [Sem.run_bind,cP,Result.andThen_ok,Sem.run_pure];rfl,.inl rfl,?_,p5⟩
        refine .ref _ _ _ _ _ (Nat.lt_of_lt_of_le hv p5.bQ.st) ⟨_,_,rfl⟩ fun b' aw=> ?_
        have cE:=(J.bn aw).1
        rw [J.iI hg,if_pos rfl] at cE;simp only [Option.some.injEq] at cE;subst cE;have j0:(splice bk.el (off+len) xs).length=bk.el.length:=jR _ _ _ jY;refine ⟨.at_ c b0,_,_,p1,rfl,by simp only [j0];omega,by omega,by simp only [j0];omega,?_⟩
        simp only;rw [p1] at q1;simp only [Option.some.injEq] at q1;subst q1;simp only at q6;rcases q6 with q6|⟨_,q7⟩
        ·omega
        ·right;exact ⟨by first|rfl|trivial,by rw [p5.post.a8 c (Ow.lt ae ⟨id,b0,p1⟩)];exact q7⟩
      ·rename_i jY;split at h
       ·simp at h
       ·rename_i yp;split at h
        ·rename_i hc;obtain ⟨c1,c2⟩:=hc;simp only [Option.some.injEq,Prod.mk.injEq] at h;obtain ⟨rfl,rfl⟩:=h;have hn:0<xs.length:=by
          rcases Nat.eq_zero_or_pos xs.length with h|h
          ·rw [h] at jY;omega
          ·exact h
         have kU: ∀(i:Nat) (x:AV),(aD bk.el off len ++ xs)[i]? =some x→x.cells.length=bk.sz:=by
          intro i x hi;rw [List.getElem?_append] at hi;split at hi
          ·simp only [aD,List.getElem?_take,List.getElem?_drop] at hi;split at hi
           ·obtain ⟨b1,cJ,af⟩:=ae.ap id _ q1;rw [hg] at cJ;simp only [Option.some.injEq] at cJ;subst cJ;exact af.sized _ _ hi
           ·simp at hi
          ·rw [cw];exact cI _ _ hi
         have bw:(aD bk.el off len).length=len:=by simp [aD];omega
         by_cases kP:len+xs.length≤cap
         ·
          cases loc with
          |aQ=>
           simp only at q6;have:=q6.2 (by simpa using yp)
           omega
          |at_ c b0=>
           simp only at q6;rcases q6 with q6|⟨rfl,q7⟩
           ·omega
           ·obtain ⟨b1,cJ,af⟩:=ae.ap id _ q1;rw [hg] at cJ;simp only [Option.some.injEq] at cJ;subst cJ;obtain ⟨arr,T,fr,k1,k2,k3,k4⟩:=af.here c b0 rfl;have q_:a8 w c=arr.size:=by unfold a8;rw [k1]
            rw [q_] at q7;have hle:(off+len)*bk.sz+xs.length*bk.sz≤(off+cap)*bk.sz:=by rw [←Nat.add_mul];exact Nat.mul_le_mul_right _ (by omega)
            have hcs:cs.size=xs.length*bk.sz:=by rw [cw];exact cQ.size
            obtain ⟨w',arr',e1,e2,e3,e4⟩:=mb P c (b0+(off+len)*bk.sz) T fr cs.toList 0 arr w k1 k2 (by simp [hcs];omega) cQ.one
            have cP:=oI (P:=P) (w:=w) (w' :=w') (base:=some ⟨c,b0+off*bk.sz,none⟩) (sLen:=len) (sCap:=cap) (hE _ _ ht) hu (hE _ _ cp) (hE _ _ cG) fR tys h0 h1 ty cQ.len mg kP (by
             simp only [gV];have:b0+off*bk.sz+len*te.sz=b0+(off+len)*bk.sz:=by rw [←cw,Nat.add_mul];omega
             rw [this];exact e1)
            have hmul:off*bk.sz+len*bk.sz=(off+len)*bk.sz:=(Nat.add_mul _ _ _).symm;have ho:=q8 (b' :=⟨H.st,bk.sz,false,aD bk.el off len ++ xs⟩) (c:=c) (b0:=b0+off*bk.sz) (arr' :=arr') (T:=T) (fr:=fr) (w' :=w') ae hg rfl (.inl ⟨⟨id,b0,q1⟩,b0,q1⟩) e2.here (fun k _ hk=>e2.other k hk) (by rw [e2.size];exact Nat.le_refl _) e2.os e2.tape e2.output
             (fun _=>by rw [e3,q_]) (by rw [e3];exact k2) (by
              rw [List.length_append,bw,e3];have:(len+xs.length)*bk.sz=len*bk.sz+xs.length*bk.sz:=Nat.add_mul _ _ _;show b0+off*bk.sz+(len+xs.length)*bk.sz≤arr.size;omega) kU (fun i x j y v hi hy bu=>by
              dsimp only at bu;rw [e4] at bu;simp only [Nat.add_zero,Array.length_toList,hcs] at bu;have dP:j<x.cells.length:=(List.getElem?_eq_some_iff.1 hy).1;have cq:=kU i x hi;rw [List.getElem?_append] at hi;split at hi
              ·rename_i cg;rw [bw] at cg;simp only [aD,List.getElem?_take,List.getElem?_drop] at hi;split at hi
               ·have:=cK (n:=bk.sz) cg;rw [if_neg (by omega)] at bu
                exact k4 (off+i) x j y v hi hy (by rw [←bu];congr 1;rw [Nat.add_mul];omega)
               ·first|(cases hi;done)|(exact absurd cg ‹_›)
              ·rename_i cg;rw [bw] at hi cg;have yq:i-len<xs.length:=(List.getElem?_eq_some_iff.1 hi).1;have h7:i*bk.sz=len*bk.sz+(i-len)*bk.sz:=by rw [←Nat.add_mul];congr 1;omega
               have h8:=cK (n:=bk.sz) yq;rw [if_pos (by omega)] at bu
               refine cQ.rel _ x j y v hi hy ?_;rw [←bu,←cw,Array.getElem?_toList];congr 1;omega)
            refine ⟨_,_,w',_,_,by simp only [Sem.run_bind,cP,Result.andThen_ok,Sem.run_pure];rfl,.inl rfl,?_,ho⟩
            refine .ref _ _ _ _ _ (Nat.lt_succ_self _) ⟨_,_,rfl⟩ fun b' aw=> ?_
            have cE:=(J.bn aw).1
            rw [show (J.mk (H.st+1) (H.bs.set id (some ⟨H.st,bk.sz,false,aD bk.el off len ++ xs⟩))).get id=_ from J.iI hg id,if_pos rfl] at cE;simp only [Option.some.injEq] at cE;subst cE;refine ⟨.at_ c (b0+off*bk.sz),_,_,by simp,rfl,by simp [bw],by omega,by simp [bw];omega,?_⟩
            refine Or.inr ⟨by simp,?_⟩
            dsimp only;have:a8 w' c=arr.size:=by unfold a8;rw [e2.here];exact e3
            rw [this,Nat.zero_add];have:(off+cap)*bk.sz=off*bk.sz+cap*bk.sz:=Nat.add_mul _ _ _;omega
         ·
          have dM:=l9 ae;obtain ⟨gy,t1,t2⟩: ∃gy:Array Value,(Builtin.firstCells te.sz len (.slice a0 len cap)).run P w.drew= .ok gy w.drew∧gy.size=len*te.sz∧
           ∀(i:Nat) (x:AV) (j:Nat) (y:AV) (v:Value),(aD bk.el off len)[i]? =some x→x.cells[j]? =some y→gy[i*te.sz+j]? =some v→R w.drew H φ A y v∧v.oneCell' =true:=by
           have yr:cN H (.ref id ad off len)=some (aD bk.el off len):=by simp only [cN,hb];rw [if_pos c1]
           have yt:bK te.sz (aD bk.el off len)=true:=by
            rw [bK,List.all_eq_true];intro q hq;obtain ⟨k,hk⟩:=List.getElem?_of_mem hq;have:=kU k q (by rw [List.getElem?_append_left (List.getElem?_eq_some_iff.1 hk).1];exact hk)
            simp [this,cw]
           obtain ⟨aW,eW⟩:=jW (P:=P) dM.st (a_.refl H) (hs.mono dM.bQ) yr yt hz;have dO:=eW.run len (by rw [bw];exact Nat.le_refl _)
           have ra:aW.size=len*te.sz:=by rw [eW.size,bw]
           rw [←ra,Array.extract_size] at dO;exact ⟨aW,dO,ra,eW.rel⟩
          obtain ⟨t2,t3⟩:=t2;obtain ⟨aW,eW⟩:=jW (P:=P) dM.st (a_.refl H) (hx.mono dM.bQ) dN aA hz;have dO:=eW.run xs.length (Nat.le_refl _);rw [←eW.size,Array.extract_size] at dO;obtain ⟨eK,arr,k1,k2,k3,k4⟩:=run_append_grow (P:=P) (w:=w) (hE _ _ ht) hu (hE _ _ cp) (hE _ _ cG) fR tys h0 h1 ty (base:=a0) (sLen:=len) (sCap:=cap) cQ.len t1 dO t2 eW.size (by omega) c2
          have hle:(len+xs.length)*te.sz≤eK*te.sz:=Nat.mul_le_mul_right _ k1
          have ho:=q8 (b' :=⟨H.st,bk.sz,false,aD bk.el off len ++ xs⟩) (c:=w.drew.heap.size) (b0:=0) (arr' :=arr) (T:=e) (fr:=(0,0)) (w' :=w.drew.alloc (.cells arr e)) dM.st hg rfl (.inr (Nat.le_refl _)) (heap_alloc_new _ _) (fun k hk _=>heap_alloc_old _ _ hk) (by simp) rfl rfl rfl
           (fun h=>absurd h (Nat.lt_irrefl _)) (fun j _ h=>absurd h.2 (Nat.not_lt_zero j)) (by rw [List.length_append,bw,k3,cw];omega) kU (fun i x j y v hi hy bu=>by
            have dP:j<x.cells.length:=(List.getElem?_eq_some_iff.1 hy).1;have cq:=kU i x hi;have cg:i<len+xs.length:=by have:=(List.getElem?_eq_some_iff.1 hi).1;rw [List.length_append,bw] at this;exact this
            have h9:=cK (n:=te.sz) cg;simp only [cw,Nat.zero_add] at bu cq
            rw [k4 _ (by omega)] at bu
            rw [List.getElem?_append,bw] at hi;split at hi
            ·rename_i oE;have:=cK (n:=te.sz) oE;rw [Array.getElem?_append_left (by omega)] at bu
             exact t3 i x j y v hi hy bu
            ·rename_i oE;have h7:i*te.sz=len*te.sz+(i-len)*te.sz:=by rw [←Nat.add_mul];congr 1;omega
             rw [Array.getElem?_append_right (by omega)] at bu
             exact eW.rel _ x j y v hi hy (by rw [←bu];congr 1;omega))
          have yu:=dM.trans ae ho;refine ⟨_,_,_,_,_,by simp only [Sem.run_bind,k2,Result.andThen_ok,Sem.run_pure];rfl,.inl rfl,?_,yu⟩
          refine .ref _ _ _ _ _ (Nat.lt_succ_self _) ⟨_,_,rfl⟩ fun b' aw=> ?_
          have cE:=(J.bn aw).1
          rw [show (J.mk (H.st+1) (H.bs.set id (some ⟨H.st,bk.sz,false,aD bk.el off len ++ xs⟩))).get id=_ from J.iI hg id,if_pos rfl] at cE;simp only [Option.some.injEq] at cE;subst cE;refine ⟨.at_ w.drew.heap.size 0,_,_,by simp,rfl,by simp [bw],k1,by simp [bw];omega,?_⟩
          refine Or.inr ⟨by simp,?_⟩
          dsimp only;rw [kM,k3,cw];simp
        ·simp at h
end ops
end Go.VS
namespace Go.VS
section ops
variable {P:Program} {E:aK} (hE: ∀t ti,E t=some ti→aS P t ti)
variable {w:World} {H:J} {φ :ag} {A:ah}
theorem ci.same {r:Result Next} {x:AV} {v:Value} {H' :J} (hr:r= .ok (.value v) w) (hx:R w H φ A x v) (ho:Out w H φ A w H' φ A):ci w H φ A H' r x:=
 ⟨_,v,w,φ,A,hr,.inl rfl,hx.mono ho.bQ,ho⟩
include hE in
theorem yv {H' :J} (ae:St w H φ A) {t:TypeId} {tys:Array TypeId} {ty:TypeId} (h0:tys[0]? =some t) {te:TI} (bm:cB E t=some te) {d x z:AV} {a b:Value} (hs:R w H φ A d a) (hx:R w H φ A x b)
 (h:nJ te d x H=some (z,H')):ci w H φ A H' ((do pure (.value (←Builtin.copy_ tys ty #[a,b])):Sem Next).run P w) z:=by
 obtain ⟨ti,e,ht,hu,cp⟩:=jf bm;unfold nJ at h;split at h
 ·simp at h
 ·rename_i xs dN;split at h
  ·simp at h
  ·rename_i aA;simp only [Bool.or_eq_true,Bool.not_eq_true',beq_iff_eq,not_or,Bool.not_eq_false] at aA;obtain ⟨aA,hz⟩:=aA;have hz:0<te.sz:=by omega
   obtain ⟨cs,cQ⟩:=jW (P:=P) ae (a_.refl H) hx dN aA hz;have cP: ∀(base:Option Addr) (jh rb:Nat) (w' :World),(match base with|some a=>(storeCells a ((cs.extract 0 (min xs.length jh*te.sz)).toList)).run P w= .ok () w' |none=>w' =w)→
    (Builtin.copy_ tys ty #[.slice base jh rb,b]).run P w= .ok (.int .i64 (min xs.length jh:Nat)) w' :=by
    intro base jh rb w' hw
    have hc:=cQ.run (min xs.length jh) (Nat.min_le_left _ _);unfold Builtin.copy_;simp only [h0,List.getElem?_toArray,List.getElem?_cons_zero,List.getElem?_cons_succ,Sem.run_bind,(hE _ _ ht).sl w hu,Result.andThen_ok,cQ.len,(hE _ _ cp).sizeOf];rw [show Nat.min xs.length jh=min xs.length jh from rfl,hc];simp only [Result.andThen_ok];cases base with
    |none=>simp only at hw;subst hw;rfl
    |some a=>simp only at hw;simp only [Sem.run_bind,hw,Result.andThen_ok,Sem.run_pure,goInt]
   have hzero: ∀base cap,(Builtin.copy_ tys ty #[.slice base 0 cap,b]).run P w= .ok (.int .i64 0) w:=by
    intro base cap;have:=cP base 0 cap w (by cases base<;>simp [storeCells])
    simpa using this
   split at h
   ·simp only [Option.some.injEq,Prod.mk.injEq] at h;obtain ⟨rfl,rfl⟩:=h;have:=hs.c8;subst this;exact ci.same (by simp [hzero]) (.fr _ _ (.int _ _)) (.refl ae)
   ·simp only [Option.some.injEq,Prod.mk.injEq] at h;obtain ⟨rfl,rfl⟩:=h;obtain ⟨a0,rfl⟩:=hs.eH;exact ci.same (by simp [hzero]) (.fr _ _ (.int _ _)) (.refl ae)
   ·rename_i id ad off len;split at h
    ·simp at h
    ·rename_i bk hb;have hg:=(J.bn hb).1;split at h
     ·rename_i hc;simp only [Option.some.injEq,Prod.mk.injEq] at h;obtain ⟨rfl,rfl⟩:=h;have fS:(xs.take len).length=min xs.length len:=by rw [List.length_take,Nat.min_comm]
      by_cases hn:min xs.length len=0
      ·have:xs.take len=[]:=List.eq_nil_of_length_eq_zero (by omega)
       rw [this,oG _ _ (by omega),hn]
       obtain ⟨_,⟨a0,c0,rfl⟩,hr⟩:=hs.df;have:=cP a0 len c0 w (by rw [hn];cases a0<;>simp [storeCells])
       rw [hn] at this;exact ci.same (by simp [this]) (.fr _ _ (.int _ _)) (oH ae hg)
      ·have j0:(cs.extract 0 (min xs.length len*te.sz)).size=min xs.length len*te.sz:=by
        have:=cQ.size;have h2:min xs.length len*te.sz≤xs.length*te.sz:=Nat.mul_le_mul_right _ (Nat.min_le_left _ _);simp;omega
       obtain ⟨c,b0,cap,w',p1,p2,p3,p4,p5⟩:=oF (P:=P) ae hs hb (at_:=off) (n:=min xs.length len) (by omega) (Nat.le_refl _) (by omega) (.inr (.inr trivial)) fS (cs:=cs.extract 0 (min xs.length len*te.sz))
        (by rw [hc.1];exact j0) (fun u hu=>cQ.one u (by rw [Array.toList_extract,List.extract_eq_take_drop] at hu;exact List.mem_of_mem_drop (List.mem_of_mem_take hu)))
        (fun i x hi=>by
         rw [List.getElem?_take] at hi;split at hi
         ·rw [hc.1];exact gY aA hi
         ·simp at hi)
        (fun i x j y u hi hy hu=>by
         rw [List.getElem?_take] at hi;split at hi
         ·rw [Array.getElem?_extract] at hu;split at hu
          ·rw [hc.1] at hu;exact cQ.rel i x j y u hi hy (by rw [←hu];congr 1;omega)
          ·simp at hu
         ·simp at hi)
       subst p2;have:=cP (some ⟨c,b0+off*bk.sz,none⟩) len cap w' p4
       exact ⟨_,_,w',φ,A,by simp only [Sem.run_bind,this,Result.andThen_ok,Sem.run_pure],.inl rfl,.fr _ _ (.int _ _),p5⟩
     ·simp at h
   ·simp at h
include hE in
theorem yw {H' :J} (ae:St w H φ A) {t:TypeId} {tys:Array TypeId} {ty:TypeId} (h0:tys[0]? =some t) {te:TI} (bm:cB E t=some te) {d z:AV} {a:Value} (hs:R w H φ A d a)
 (h:jI te d H=some (z,H')):ci w H φ A H' ((do pure (.value (←Builtin.clear_ tys ty #[a])):Sem Next).run P w) z:=by
 obtain ⟨ti,e,ht,hu,cp⟩:=jf bm;have hzero: ∀a0 cap,(Builtin.clear_ tys ty #[.slice a0 0 cap]).run P w= .ok (.tuple #[]) w:=by
  intro a0 cap;unfold Builtin.clear_;simp only [h0,List.getElem?_toArray,List.getElem?_cons_zero,Sem.run_bind,(hE _ _ ht).sl w hu,Result.andThen_ok];cases a0<;>rfl
 have oJ:R w H φ A (.ay []) (.tuple #[]):= .fr _ _ (.ay [] #[] rfl (by simp))
 unfold jI at h;split at h
 ·simp only [Option.some.injEq,Prod.mk.injEq] at h;obtain ⟨rfl,rfl⟩:=h;have:=hs.c8;subst this;exact ci.same (by simp [hzero]) oJ (.refl ae)
 ·simp only [Option.some.injEq,Prod.mk.injEq] at h;obtain ⟨rfl,rfl⟩:=h;obtain ⟨a0,rfl⟩:=hs.eH;exact ci.same (by simp [hzero]) oJ (.refl ae)
 ·rename_i id ad off len;split at h
  ·rename_i bk zA hb hz;have hg:=(J.bn hb).1;split at h
   ·rename_i hc;simp only [Option.some.injEq,Prod.mk.injEq] at h;obtain ⟨rfl,rfl⟩:=h;by_cases hn:len=0
    ·subst hn;obtain ⟨_,_,hr⟩:=hs.df;obtain ⟨loc,a1,cap,_,rfl,_⟩:=(hr bk hb).out;rw [List.replicate_zero,oG _ _ (by omega)]
     exact ci.same (by simp [hzero]) oJ (oH ae hg)
    ·obtain ⟨zv,z1,z2,z3,z4,_,z5⟩:=jc (hE _ _ cp) hz w;have hcs: ∀(i j:Nat) (u:Value),i<len→j<te.sz→(Builtin.zeroCells zv.cells len)[i*te.sz+j]? =some u→zv.cells[j]? =some u:=by
      intro i j u hi hj hu;refine kN z2 hi hj ?_;rw [←hu];unfold Builtin.zeroCells;rw [z2]
     have mf:(Builtin.zeroCells zv.cells len).size=len*te.sz:=by simp [Builtin.zeroCells,z2]
     have oK:0<te.sz:=by
      rcases Nat.eq_zero_or_pos te.sz with h|h
      ·rw [h] at hc;have:=hc.2.2;simp at this
      ·exact h
     obtain ⟨c,b0,cap,w',p1,p2,p3,p4,p5⟩:=oF (P:=P) ae hs hb (at_:=off) (n:=len) (by omega) (Nat.le_refl _) (by omega) (.inr (.inr trivial)) (xs:=List.replicate len zA) (by simp) (cs:=Builtin.zeroCells zv.cells len)
      (by rw [hc.1];exact mf) (fun u hu=>by
       obtain ⟨k,hk⟩:=List.getElem?_of_mem hu;rw [Array.getElem?_toList] at hk;have oq:k<len*te.sz:=by rw [←mf];exact (Array.getElem?_eq_some_iff.1 hk).1
       have jg:k/te.sz*te.sz+k % te.sz=k:=by rw [Nat.mul_comm];exact Nat.div_add_mod k te.sz
       have:=hcs (k/te.sz) (k % te.sz) u (qT oq oK) (Nat.mod_lt k oK) (by rw [jg];exact hk)
       have dP:k % te.sz<te.zero.length:=by rw [z4];exact Nat.mod_lt k oK
       exact (z5 w A _ _ u (List.getElem?_eq_getElem dP) this).2)
      (fun i x hi=>by
       rw [List.getElem?_replicate] at hi;split at hi
       ·simp only [Option.some.injEq] at hi;subst hi;rw [z3,z4,hc.1]
       ·simp at hi)
      (fun i x j y u hi hy hu=>by
       rw [List.getElem?_replicate] at hi;split at hi
       ·rename_i cg;simp only [Option.some.injEq] at hi;subst hi;rw [z3] at hy;have hj:j<te.sz:=by rw [←z4];exact (List.getElem?_eq_some_iff.1 hy).1
        rw [hc.1] at hu;have:=z5 w A j y u hy (hcs i j u cg hj hu);exact ⟨.fr _ _ this.1,this.2⟩
       ·simp at hi)
     subst p2;refine ⟨_,_,w',φ,A,?_,.inl rfl,.fr _ _ (.ay [] #[] rfl (by simp)),p5⟩
     have:(Builtin.clear_ tys ty #[.slice (some ⟨c,b0+off*bk.sz,none⟩) len cap]).run P w= .ok (.tuple #[]) w' :=by
      unfold Builtin.clear_;simp only [h0,List.getElem?_toArray,List.getElem?_cons_zero,Sem.run_bind,(hE _ _ ht).sl w hu,Result.andThen_ok];cases len with
      |zero=>exact absurd rfl hn
      |succ n=>simp only [z1,Result.andThen_ok,p4,Sem.run_pure]
     simp only [Sem.run_bind,this,Result.andThen_ok,Sem.run_pure]
   ·simp at h
  ·simp at h
 ·simp at h
include hE in
theorem rf {t:TypeId} {tys:Array TypeId} {ty:TypeId} (h0:tys[0]? =some t) {x:AV} {a:Value} (hs:R w H φ A x a) {n:Nat} {H0:J} (_hX:a_ H0 H) (h:lenOf H0 x=some n) {ti:TI} (ht:E t=some ti) (hu:(∃e,ti.au= .sl e∧ ∀s,x≠ .str s)∨(ti.au= .str∧ ∃s,x= .str s)):
 (Builtin.len_ tys ty #[a]).run P w= .ok (.int .i64 n) w:=by
 unfold Builtin.len_;simp only [h0,List.getElem?_toArray,List.getElem?_cons_zero,Sem.run_bind];rcases hu with ⟨e,hu,hn⟩|⟨hu,s,rfl⟩
 ·simp only [(hE _ _ ht).sl w hu,Result.andThen_ok];cases x with
  |nil=>simp [lenOf] at h;subst h;have:=hs.c8;subst this;rfl
  |e0=>simp [lenOf] at h;subst h;obtain ⟨a0,rfl⟩:=hs.eH;rfl
  |fz xs=>simp [lenOf] at h;subst h;have:=hs.dA;cases this<;>rfl
  |ref id ad off len=>
   simp only [lenOf,Option.some.injEq] at h;subst h;obtain ⟨_,⟨a1,cap,rfl⟩,_⟩:=hs.df;rfl
  |str s=>exact absurd rfl (hn s)
  |_=>simp [lenOf] at h
 ·obtain ⟨b,rfl,hb⟩:=hs.eF;simp only [lenOf,Option.some.injEq] at h;subst h;simp only [(hE _ _ ht).ja w hu,Result.andThen_ok,Sem.run_pure,goInt];rw [←hb];simp
end ops
end Go.VS
namespace Go.VS
theorem J.ji {H H' :J} (h:H' =H∨ ∃sz fx el,H' =H.new sz fx el):a_ H H' ∧(∀id b,H'.get id=some b→b.ad<H.st→H.get id=some b)∧H.bs.length≤H'.bs.length:=by
 rcases h with rfl|⟨sz,fx,el,rfl⟩
 ·exact ⟨a_.refl _,fun _ _ h _=>h,Nat.le_refl _⟩
 ·refine ⟨J.oa H sz fx el,fun id b hg hv=> ?_,by simp [J.new]⟩
  by_cases bN:id<H.bs.length
  ·rw [J.qM H sz fx el bN] at hg;exact hg
  ·have hl:=J.gp hg;have:id=H.bs.length:=by simp [J.new] at hl;omega
   subst this;rw [J.ea] at hg;simp only [Option.some.injEq] at hg;subst hg;exact absurd hv (Nat.lt_irrefl _)
theorem rh {E:aK} {op:Op} {s:aj} {H H' :J} {z:AV} (hq:dI op=true) (h:aP E op s H=some (z,H')):H' =H∨ ∃sz fx el,H' =H.new sz fx el:=by
 have ma: ¬ ∃t a v,op= .store t a v:=by
  rintro ⟨t,a,v,rfl⟩;have:dI (.store t a v)=false:=rfl;rw [this] at hq;simp at hq
 cases op with
 |makeFunc fn first cap=>
  cases fn<;>simp only [aP] at h
  ·split at h
   ·simp only [Option.some.injEq,Prod.mk.injEq] at h;exact .inl h.2.symm
   ·simp at h
  all_goals simp at h
 |_=>(simp only [aP] at h<;>(repeat' split at h)<;>first
  |(simp at h;done)
  |(simp only [Option.some.injEq,Prod.mk.injEq] at h;first|exact .inl h.2.symm|exact .inr ⟨_,_,_,h.2.symm⟩|exact absurd ⟨_,_,_,rfl⟩ ma)
  |exact absurd ⟨_,_,_,rfl⟩ ma)
section ops
variable {P:Program} {E:aK} (hE: ∀t ti,E t=some ti→aS P t ti)
variable {w:World} {H:J} {φ :ag} {A:ah}
theorem St.new (ae:St w H φ A) {id:Nat} (h:H.bs.length≤id): φ id=none:=by
 cases hp: φ id with
 |none=>rfl
 |some loc=>
  obtain ⟨b,hb,_⟩:=ae.ap id loc hp;have:=J.gp hb;omega
theorem jj (ae:St w H φ A) {H' :J} (hx:a_ H H') (ho: ∀id b,H'.get id=some b→b.ad<H.st→H.get id=some b):Out w H φ A w H' φ A:=by
 have aR:bH w H φ A w H' φ A:=⟨fun c a t fr hc hn=>⟨⟨fr,hc⟩,hn⟩,hx.2,fun id b hb hv=>⟨b,ho id b hb hv,rfl,rfl,rfl,rfl,fun _ h=>h⟩,fun _ _=>rfl⟩
 refine ⟨⟨ae.inj,ae.own,ae.bY,fun id loc h=> ?_⟩,.refl _ _,aR,fun _ h _=>h⟩;obtain ⟨b,hb,af⟩:=ae.ap id loc h;refine ⟨b,hx.1 _ _ hb,Nat.lt_of_lt_of_le af.ad hx.2,af.sized,af.aQ,fun c b0 hl=> ?_⟩;obtain ⟨arr,T,fr,h1,h2,h3,h4⟩:=af.here c b0 hl;exact ⟨arr,T,fr,h1,h2,h3,fun i x j y v hx hy hv=>⟨(h4 i x j y v hx hy hv).1.mono aR,(h4 i x j y v hx hy hv).2⟩⟩
theorem ci.kV (ae:St w H φ A) {H' :J} (he:H' =H∨ ∃sz fx el,H' =H.new sz fx el) {r:Result Next} {z:AV} (h:bg w H' φ A H H' r z):ci w H φ A H' r z:=by
 obtain ⟨n,v,w',ak,A',h1,h2,h3,h4,_⟩:=h;obtain ⟨e1,e2,_⟩:=J.ji he;exact ⟨n,v,w',ak,A',h1,h2,h3,(jj ae e1 e2).trans ae h4⟩
include hE in
theorem yx {H' :J} (ae:St w H φ A) {o:Oper} {s:aj} {ρ :Operand→Value} {z:AV} (aT: ∀y∈o.op.operands,R w H φ A (ev s y) (ρ y)) (h:aP E o.op s H=some (z,H')):
 ci w H φ A H' ((execOp ρ o).run P w) z:=by
 by_cases hq:dI o.op=true
 ·have he:=rh hq h;obtain ⟨e1,e2,_⟩:=J.ji he;have ho:=jj ae e1 e2;exact ci.kV ae he (q0 hE ho.st e1 (a_.refl _) (fun _=>ae.new (Nat.le_refl _)) hq (fun y hy=>(aT y hy).mono ho.bQ) h)
 ·obtain ⟨dst,op,type,pos,after,guard⟩:=o;cases op with
  |store t x v=>
   have hx:=aT x (by simp [Op.operands])
   have hv:=aT v (by simp [Op.operands])
   simp only [aP] at h;exact yl hE ae hx hv h
  |_=>first|(simp [dI] at hq;done)|(simp [aP] at h;done)
theorem kW {op:Value→Value→Sem Value} {f:AV→AV→Option AV} (bh: ∀a b x y z,R w H φ A a x→R w H φ A b y→f a b=some z→ ∃v,(op x y).run P w= .ok v w∧R w H φ A z v):
 ∀(rest:List AV) (vs:List Value) (x:AV) (v:Value) (z:AV),rest.length=vs.length→(∀(i:Nat) (a:AV) (u:Value),rest[i]? =some a→vs[i]? =some u→R w H φ A a u)→R w H φ A x v→rest.foldlM f x=some z→
 ∃u,(vs.foldlM op v).run P w= .ok u w∧R w H φ A z u
 |[],[],x,v,z,_,_,hx,h=>by simp at h;subst h;exact ⟨v,by simp,hx⟩
 |[],_::_,_,_,_,h,_,_,_=>by simp at h
 |_::_,[],_,_,_,h,_,_,_=>by simp at h
 |a::rest,b::vs,x,v,z,hl,hr,hx,h=>by
  simp only [List.foldlM_cons] at h;cases hf:f x a with
  |none=>simp [hf] at h
  |some y=>
   simp only [hf,Option.bind_eq_bind,Option.bind_some] at h;obtain ⟨u,hu,hy⟩:=bh _ _ _ _ _ hx (hr 0 a b rfl rfl) hf;obtain ⟨q,hq,hz⟩:=kW bh rest vs y u z (by simpa using hl) (fun i a u h1 h2=>hr (i+1) a u h1 h2) hy h
   exact ⟨q,by simp [hu,hq],hz⟩
include hE in
theorem yy {H' :J} (ae:St w H φ A) {b:Builtin} {tys:Array TypeId} {ty:TypeId} {consts:Array Bool} {args:List AV} {vs:Array Value} {z:AV} (hl:args.length=vs.size)
 (aT: ∀(i:Nat) (a:AV) (u:Value),args[i]? =some a→vs[i]? =some u→R w H φ A a u) (h:ct E b tys args H=some (z,H')):
 ci w H φ A H' ((builtin b tys ty consts vs).run P w) z:=by
 unfold ct at h;split at h
 ·rename_i x;obtain ⟨a,rfl⟩: ∃a,vs= #[a]:=by
   have h1:vs.size=1:=hl.symm;exact ⟨vs[0],by apply Array.ext;simp [h1];intro i h1 h2;simp at h2;subst h2;rfl⟩
  have hx:=aT 0 x a rfl rfl;split at h
  ·rename_i ti n ht hn;obtain ⟨t,h0,ht⟩:=Option.bind_eq_some_iff.1 ht;have key: ∀{q:AV×J},some q=some (z,H')→q=(AV.int .i64 n,H)→((∃e,ti.au= .sl e∧ ∀s,x≠ .str s)∨(ti.au= .str∧ ∃s,x= .str s))→ci w H φ A H' ((builtin .len tys ty consts #[a]).run P w) z:=by
    intro q hq oL hu;subst oL;simp only [Option.some.injEq,Prod.mk.injEq] at hq;obtain ⟨rfl,rfl⟩:=hq;have:=rf (tys:=tys) (ty:=ty) hE h0 hx (a_.refl H) hn ht hu;exact ci.same (by simp [builtin,this]) (.fr _ _ (.int _ _)) (.refl ae)
   split at h
   ·rename_i s hu;exact key h rfl (.inr ⟨hu,s,rfl⟩)
   ·simp at h
   ·rename_i e hu aL;exact key h rfl (.inl ⟨e,hu,fun s hs=>aL s hs⟩)
   ·simp at h
  ·simp at h
 ·rename_i s x;obtain ⟨a,b,rfl⟩: ∃a b,vs= #[a,b]:=by
   have h1:vs.size=2:=hl.symm;exact ⟨vs[0],vs[1],by apply Array.ext;simp [h1];intro i h1 h2;simp at h2;rcases i with _|_|i;rfl;rfl;omega⟩
  have hs:=aT 0 s a rfl rfl;have hx:=aT 1 x b rfl rfl;split at h
  ·rename_i t h0;split at h
   ·rename_i te tx bm cG;obtain ⟨t2,h1,cG⟩:=Option.bind_eq_some_iff.1 cG;by_cases hit: ∃k,tx.au= .it k
    ·obtain ⟨k,hit⟩:=hit;rw [hit] at h;simp only at h;split at h
     ·rename_i n;have he:H' =H∨ ∃sz fx el,H' =H.new sz fx el:=by
       unfold jH at h;repeat' split at h
       all_goals first
        |(simp at h;done)
        |(simp only [Option.some.injEq,Prod.mk.injEq] at h;first|exact .inl h.2.symm|exact .inr ⟨_,_,_,h.2.symm⟩)
      obtain ⟨e1,e2,_⟩:=J.ji he;have ho:=jj ae e1 e2;exact ci.kV ae he (qX hE ho.st (a_.refl _) (fun _=>ae.new (Nat.le_refl _)) h0 h1 bm cG hit (hs.mono ho.bQ) (hx.mono ho.bQ) h)
     ·simp at h
    have mh: ∀k,tx.au≠ .it k:=fun k hk=>hit ⟨k,hk⟩;replace h:ek te s x H=some (z,H'):=by
     split at h
     ·rename_i k hk;exact absurd hk (mh k)
     ·exact h
    cases s with
    |ref id ad off len=>exact yo hE ae h0 h1 bm cG mh hs hx h
    |nil=>
     have he:H' =H∨ ∃sz fx el,H' =H.new sz fx el:=by
      simp only [ek] at h;repeat' split at h
      all_goals first
       |(simp at h;done)
       |(simp only [Option.some.injEq,Prod.mk.injEq] at h;first|exact .inl h.2.symm|exact .inr ⟨_,_,_,h.2.symm⟩)
     obtain ⟨e1,e2,_⟩:=J.ji he;have ho:=jj ae e1 e2;exact ci.kV ae he (oB hE ho.st e1 (a_.refl _) (fun _=>ae.new (Nat.le_refl _)) h0 h1 bm cG mh (hs.mono ho.bQ) (hx.mono ho.bQ) (.inl rfl) h)
    |e0=>
     have he:H' =H∨ ∃sz fx el,H' =H.new sz fx el:=by
      simp only [ek] at h;repeat' split at h
      all_goals first
       |(simp at h;done)
       |(simp only [Option.some.injEq,Prod.mk.injEq] at h;first|exact .inl h.2.symm|exact .inr ⟨_,_,_,h.2.symm⟩)
     obtain ⟨e1,e2,_⟩:=J.ji he;have ho:=jj ae e1 e2;exact ci.kV ae he (oB hE ho.st e1 (a_.refl _) (fun _=>ae.new (Nat.le_refl _)) h0 h1 bm cG mh (hs.mono ho.bQ) (hx.mono ho.bQ) (.inr rfl) h)
    |_=>(simp only [ek] at h;(repeat' split at h)<;>simp at h)
   ·simp at h
  ·simp at h
 ·rename_i d x;obtain ⟨a,b,rfl⟩: ∃a b,vs= #[a,b]:=by
   have h1:vs.size=2:=hl.symm;exact ⟨vs[0],vs[1],by apply Array.ext;simp [h1];intro i h1 h2;simp at h2;rcases i with _|_|i;rfl;rfl;omega⟩
  split at h
  ·rename_i te bm;obtain ⟨t,h0,bm⟩:=Option.bind_eq_some_iff.1 bm;exact yv hE ae h0 bm (aT 0 d a rfl rfl) (aT 1 x b rfl rfl) h
  ·simp at h
 ·rename_i d;obtain ⟨a,rfl⟩: ∃a,vs= #[a]:=by
   have h1:vs.size=1:=hl.symm;exact ⟨vs[0],by apply Array.ext;simp [h1];intro i h1 h2;simp at h2;subst h2;rfl⟩
  split at h
  ·rename_i te bm;obtain ⟨t,h0,bm⟩:=Option.bind_eq_some_iff.1 bm;exact yw hE ae h0 bm (aT 0 d a rfl rfl) h
  ·simp at h
 ·split at h
  ·rename_i v hv;simp only [Option.some.injEq,Prod.mk.injEq] at h;obtain ⟨rfl,rfl⟩:=h;cases args with
   |nil=>simp [jJ] at hv
   |cons x rest=>
    obtain ⟨a,us,dx⟩: ∃a us,vs.toList=a::us:=by
     cases eX:vs.toList with
     |nil=>have:=congrArg List.length eX;simp at this;simp [this] at hl
     |cons a us=>exact ⟨a,us,rfl⟩
    have hlen:rest.length=us.length:=by have:=congrArg List.length dx;simp at this;simp at hl;omega
    have bC: ∀(i:Nat) (u:Value),(a::us)[i]? =some u→vs[i]? =some u:=fun i u hu=>by rw [←dx] at hu;simpa using hu
    obtain ⟨u,hu,hz⟩:=kW (P:=P) (op:=Builtin.min2) (f:=fun a b=>match a,b with| .int k x,.int _ y=>some (.int k (if y<x then y else x))|_,_=>none) (fun a b x y z ha hb hf=>by
     split at hf
     ·have e1:=ha.cm;have e2:=hb.cm;subst e1;subst e2;simp only [Option.some.injEq] at hf;subst hf;exact ⟨_,by simp [Builtin.min2],.fr _ _ (.int _ _)⟩
     ·simp at hf) rest us x a v hlen (fun i p q hp hq=>aT (i+1) p q hp (bC (i+1) q hq)) (aT 0 x a rfl (bC 0 a rfl)) hv
    exact ci.same (by simp [builtin,Builtin.min_,dx,hu]) hz (.refl ae)
  ·simp at h
 ·split at h
  ·rename_i v hv;simp only [Option.some.injEq,Prod.mk.injEq] at h;obtain ⟨rfl,rfl⟩:=h;cases args with
   |nil=>simp [jK] at hv
   |cons x rest=>
    obtain ⟨a,us,dx⟩: ∃a us,vs.toList=a::us:=by
     cases eX:vs.toList with
     |nil=>have:=congrArg List.length eX;simp at this;simp [this] at hl
     |cons a us=>exact ⟨a,us,rfl⟩
    have hlen:rest.length=us.length:=by have:=congrArg List.length dx;simp at this;simp at hl;omega
    have bC: ∀(i:Nat) (u:Value),(a::us)[i]? =some u→vs[i]? =some u:=fun i u hu=>by rw [←dx] at hu;simpa using hu
    obtain ⟨u,hu,hz⟩:=kW (P:=P) (op:=Builtin.max2) (f:=fun a b=>match a,b with| .int k x,.int _ y=>some (.int k (if y>x then y else x))|_,_=>none) (fun a b x y z ha hb hf=>by
     split at hf
     ·have e1:=ha.cm;have e2:=hb.cm;subst e1;subst e2;simp only [Option.some.injEq] at hf;subst hf;exact ⟨_,by simp [Builtin.max2],.fr _ _ (.int _ _)⟩
     ·simp at hf) rest us x a v hlen (fun i p q hp hq=>aT (i+1) p q hp (bC (i+1) q hq)) (aT 0 x a rfl (bC 0 a rfl)) hv
    exact ci.same (by simp [builtin,Builtin.max_,dx,hu]) hz (.refl ae)
  ·simp at h
 ·obtain ⟨a,rfl⟩: ∃a,vs= #[a]:=by
   have h1:vs.size=1:=hl.symm;exact ⟨vs[0],by apply Array.ext;simp [h1];intro i h1 h2;simp at h2;subst h2;rfl⟩
  have hx:=(aT 0 .nil a rfl rfl).c8;subst hx;split at h
  ·rename_i ti ht;obtain ⟨t,h0,ht⟩:=Option.bind_eq_some_iff.1 ht;split at h
   ·rename_i e hu;simp only [Option.some.injEq,Prod.mk.injEq] at h;obtain ⟨rfl,rfl⟩:=h;have hc:(Builtin.cap_ tys ty #[.slice none 0 0]).run P w= .ok (.int .i64 0) w:=by
     unfold Builtin.cap_;simp only [h0,List.getElem?_toArray,List.getElem?_cons_zero,Sem.run_bind,(hE _ _ ht).sl w hu,Result.andThen_ok];rfl
    exact ci.same (by simp [builtin,hc]) (.fr _ _ (.int _ _)) (.refl ae)
   ·simp at h
  ·simp at h
 ·simp at h
end ops
end Go.VS
namespace Go.VS
def aE (φ :ag) (L:J):ag:=fun id=>if (L.get id).isSome then φ id else none
theorem J.iK (H:J) (id k:Nat):(H.del id).get k=if k=id then none else H.get k:=by
 unfold J.del J.get;simp only [List.getElem?_set];by_cases hk:id=k
 ·subst hk;simp only [if_true];split<;>rfl
 ·rw [if_neg hk,if_neg (fun e=>hk e.symm)]
structure bD (L L1:J):Prop where
 get: ∀id b,L1.get id=some b→L.get id=some b
 st:L1.st=L.st
 len:L1.bs.length=L.bs.length
theorem bD.refl (L:J):bD L L:=⟨fun _ _ h=>h,rfl,rfl⟩
theorem bD.trans {L L1 L2:J} (h:bD L L1) (k:bD L1 L2):bD L L2:=⟨fun id b hb=>h.get id b (k.get id b hb),k.st.trans h.st,k.len.trans h.len⟩
theorem bD.del (L:J) (id:Nat):bD L (L.del id):=⟨fun k b h=>by rw [J.iK] at h;split at h;simp at h;exact h,rfl,by simp [J.del]⟩
theorem dh {φ :ag} {L:J} {id:Nat} {loc:Loc} (h:aE φ L id=some loc): φ id=some loc∧ ∃b,L.get id=some b:=by
 unfold aE at h;split at h
 ·rename_i hs;exact ⟨h,Option.isSome_iff_exists.1 hs⟩
 ·simp at h
theorem fT {φ :ag} {L L1:J} (h:bD L L1):aE (aE φ L) L1=aE φ L1:=by
 funext id
 unfold aE;cases h1:L1.get id with
 |none=>simp
 |some b=>simp [h.get id b h1]
theorem bJ {φ :ag} {L:J} {c:Nat} (h:Ow (aE φ L) c):Ow φ c:=by
 obtain ⟨id,b,h⟩:=h;exact ⟨id,b,(dh h).1⟩
section bz
variable {w:World}
theorem c5 {L L1:J} {φ :ag} {A:ah} (hl:bD L L1):bH w L φ A w L1 (aE φ L1) A:=by
 refine ⟨fun c a t fr hc hn=>⟨⟨fr,hc⟩,hn⟩,by rw [hl.st];exact Nat.le_refl _,fun id b hb _=>⟨b,hl.get id b hb,rfl,rfl,rfl,rfl,fun loc h=> ?_⟩,fun _ _=>rfl⟩
 unfold aE;rw [hb];simpa using h
theorem ef {L L1:J} {φ :ag} {A:ah} (ae:St w L φ A) (hl:bD L L1):St w L1 (aE φ L1) A:=by
 refine ⟨fun i i' c b b' h h' =>ae.inj _ _ _ _ _ (dh h).1 (dh h').1,fun c hc=>ae.own c (bJ hc),ae.bY,fun id loc h=> ?_⟩
 obtain ⟨h1,b,hb⟩:=dh h;obtain ⟨b',aw,af⟩:=ae.ap id loc h1;rw [hl.get id b hb] at aw;simp only [Option.some.injEq] at aw;subst aw;refine ⟨b,hb,by rw [hl.st];exact af.ad,af.sized,af.aQ,fun c b0 he=> ?_⟩
 obtain ⟨arr,T,fr,k1,k2,k3,k4⟩:=af.here c b0 he;exact ⟨arr,T,fr,k1,k2,k3,fun i x j y v hx hy hv=>⟨(k4 i x j y v hx hy hv).1.mono (c5 hl),(k4 i x j y v hx hy hv).2⟩⟩
structure bZ (w:World) (L:J) (φL:ag) (AL:ah) (H:J) (φ :ag) (AH:ah):Prop where
 sl:St w L φL AL
 sh:St w H φ AH
 b_: ∀c,Ow φL c→ ¬Ow φ c
 er: ∀c,Ow φL c→AH c
structure ca (w:World) (L:J) (φL:ag) (AL:ah) (H:J) (φ :ag) (AH:ah) (L1:J) (H1:J) (φ1:ag):Prop where
 less:bD L L1
 bz:bZ w L1 (aE φL L1) AL H1 φ1 AH
 eh:bH w H φ AH w H1 φ1 AH
 oh: ∀c,Ow φ1 c→Ow φ c∨(Ow φL c∧ ¬Ow (aE φL L1) c)
 g_: ∀c,Ow φ c→Ow φ1 c
 hlen:H.bs.length≤H1.bs.length
 bC: ∀id b,H.get id=some b→H1.get id=some b
 b4: ∀id loc,φ id=some loc→ φ1 id=some loc
theorem ca.refl {L:J} {φL:ag} {AL:ah} {H:J} {φ :ag} {AH:ah} (h:bZ w L φL AL H φ AH):ca w L φL AL H φ AH L H φ :=by
 refine ⟨.refl _,⟨ef h.sl (.refl _),h.sh,fun c hc=>h.b_ c (bJ hc),fun c hc=>h.er c (bJ hc)⟩,.refl _ _ _ _,fun c hc=> .inl hc,fun c hc=>hc,Nat.le_refl _,fun _ _ h=>h,fun _ _ h=>h⟩
theorem ca.trans {L L1 L2:J} {φL:ag} {AL:ah} {H H1 H2:J} {φ φ1 bd:ag} {AH:ah} (h:ca w L φL AL H φ AH L1 H1 φ1) (k:ca w L1 (aE φL L1) AL H1 φ1 AH L2 H2 bd):ca w L φL AL H φ AH L2 H2 bd:=by
 have hr:=fT (φ := φL) k.less;refine ⟨h.less.trans k.less,by rw [←hr];exact k.bz,h.eh.trans k.eh (fun _ _=>rfl),fun c hc=> ?_,fun c hc=>k.g_ c (h.g_ c hc),Nat.le_trans h.hlen k.hlen,fun id b hb=>k.bC id b (h.bC id b hb),fun id loc hl=>k.b4 id loc (h.b4 id loc hl)⟩
 rcases k.oh c hc with h1|⟨h1,h2⟩
 ·rcases h.oh c h1 with h3|⟨h3,h4⟩
  ·exact .inl h3
  ·refine .inr ⟨h3,fun h5=>h4 ?_⟩;rw [←hr] at h5;exact bJ h5
 ·rw [hr] at h2;exact .inr ⟨bJ h1,h2⟩
theorem newAt {L L1:J} {φL:ag} {AL:ah} {H H1:J} {φ φ1:ag} {AH:ah} (m:ca w L φL AL H φ AH L1 H1 φ1) {sz:Nat} {fx:Bool} {el:List AV} {loc:Loc}
 (eb: ∀(i:Nat) (x:AV),el[i]? =some x→x.cells.length=sz) (hv:loc= .aQ→el=[])
 (et: ∀c b0,loc= .at_ c b0→Ow φL c∧ ¬Ow (aE φL L1) c∧ ¬Ow φ1 c∧AH c∧ ∃arr T fr,w.heap[c]? =some (.cells arr T fr)∧(∀j,j<arr.size→ ¬(fr.1≤j∧j<fr.2))∧b0+el.length*sz≤arr.size∧
  ∀(i:Nat) (x:AV) (j:Nat) (y:AV) (v:Value),el[i]? =some x→x.cells[j]? =some y→arr[b0+i*sz+j]? =some v→R w H1 φ1 AH y v∧v.oneCell' =true):
 ca w L φL AL H φ AH L1 (H1.new sz fx el) (fun i=>if i=H1.bs.length then some loc else φ1 i):=by
 have fp:=m.bz.sh;have bp:=St.new fp (Nat.le_refl H1.bs.length);have hx:=J.oa H1 sz fx el;have hold: ∀id b,(H1.new sz fx el).get id=some b→b.ad<H1.st→H1.get id=some b:=(J.ji (.inr ⟨sz,fx,el,rfl⟩)).2.1;have aR:bH w H1 φ1 AH w (H1.new sz fx el) (fun i=>if i=H1.bs.length then some loc else φ1 i) AH:=by
  refine ⟨fun c a t fr hc hn=>⟨⟨fr,hc⟩,hn⟩,hx.2,fun id b hb ax=>⟨b,hold id b hb ax,rfl,rfl,rfl,rfl,fun l hl=> ?_⟩,fun _ _=>rfl⟩;rw [if_neg (by rintro rfl;rw [bp] at hl;simp at hl)];exact hl
 have dJ: ∀c,Ow (fun i=>if i=H1.bs.length then some loc else φ1 i) c→Ow φ1 c∨ ∃b0,loc= .at_ c b0:=by
  rintro c ⟨i,b,h⟩;try simp only at h
  split at h
  ·simp only [Option.some.injEq] at h;exact .inr ⟨b,h⟩
  ·exact .inl ⟨i,b,h⟩
 refine ⟨m.less,⟨m.bz.sl,⟨fun i i' c b b' h1 h2=> ?_,fun c hc=> ?_,fp.bY,fun i l hl=> ?_⟩,fun c hc ho=> ?_,m.bz.er⟩,m.eh.trans aR (fun _ _=>rfl),fun c hc=> ?_,fun c hc=> ?_,?_,fun id b hb=>hx.1 _ _ (m.bC id b hb),fun id l hl=> ?_⟩
 ·try simp only at h1 h2
  split at h1
  ·rename_i hi;split at h2
   ·rename_i gX;omega
   ·simp only [Option.some.injEq] at h1;exact absurd ⟨i',b',h2⟩ (et c b h1).2.2.1
  ·split at h2
   ·simp only [Option.some.injEq] at h2;exact absurd ⟨i,b,h1⟩ (et c b' h2).2.2.1
   ·exact fp.inj _ _ _ _ _ h1 h2
 ·rcases dJ c hc with h|⟨b0,h⟩
  ·exact fp.own c h
  ·exact (et c b0 h).2.2.2.1
 ·try simp only at hl
  split at hl
  ·rename_i hi;subst hi;simp only [Option.some.injEq] at hl;subst hl;refine ⟨_,J.ea _ _ _ _,Nat.lt_succ_self _,eb,hv,fun c b0 he=> ?_⟩;obtain ⟨_,_,_,_,arr,T,fr,k1,k2,k3,k4⟩:=et c b0 he;exact ⟨arr,T,fr,k1,k2,k3,fun j x q y v bF hy cr=>⟨(k4 j x q y v bF hy cr).1.mono aR,(k4 j x q y v bF hy cr).2⟩⟩
  ·obtain ⟨bb,hb,af⟩:=fp.ap i l hl;refine ⟨bb,hx.1 _ _ hb,Nat.lt_of_lt_of_le af.ad hx.2,af.sized,af.aQ,fun c b0 he=> ?_⟩;obtain ⟨arr,T,fr,k1,k2,k3,k4⟩:=af.here c b0 he;exact ⟨arr,T,fr,k1,k2,k3,fun j x q y v bF hy cr=>⟨(k4 j x q y v bF hy cr).1.mono aR,(k4 j x q y v bF hy cr).2⟩⟩
 ·rcases dJ c ho with h|⟨b0,h⟩
  ·exact m.bz.b_ c hc h
  ·exact (et c b0 h).2.1 hc
 ·rcases dJ c hc with h|⟨b0,h⟩
  ·exact m.oh c h
  ·exact .inr ⟨(et c b0 h).1,(et c b0 h).2.1⟩
 ·obtain ⟨i,b,h⟩:=m.g_ c hc
  exact ⟨i,b,by show (if i=H1.bs.length then some loc else φ1 i)=_;rw [if_neg (by rintro rfl;rw [bp] at h;simp at h)];exact h⟩
 ·simp only [J.new,List.length_append,List.length_singleton];exact Nat.le_succ_of_le m.hlen
 ·have:=m.b4 id l hl;rw [if_neg (by rintro rfl;rw [bp] at this;simp at this)];exact this
end bz
end Go.VS
namespace Go.VS
section bz
variable {w:World}
theorem ri {L H:J} {φL φ :ag} {AL AH:ah} {x:AV} {v:Value} (hp:dp x=true) (h:R w L φL AL x v):R w H φ AH x v:=by
 cases x with
 |undef=>exact .fr _ _ (.undef _)
 |int k n=>have:=h.cm;subst this;exact .fr _ _ (.int _ _)
 |bool b=>have:=h.eT;subst this;exact .fr _ _ (.bool _)
 |str s=>obtain ⟨b,rfl,rfl⟩:=h.eF;exact .fr _ _ (.str _)
 |cj b=>rcases h.jP with ⟨rfl,rfl⟩|⟨rfl,t,u,rfl⟩;exact .fr _ _ .jO;exact .fr _ _ (.err _ _)
 |dy=>cases h with|fr _ _ h=>cases h;exact .fr _ _ .dy
 |_=>simp [dp] at hp
theorem rj {x:AV} (hp:dp x=true) (H:J):aF x H=(x,H):=by
 cases x<;>first|rfl|simp [dp] at hp
def fU (AL AH:ah) (y:AV):Prop:=(∀c,AH c→AL c)∨cf y=true
def dQ (AL AH:ah) (ys:List AV):Prop:=(∀c,AH c→AL c)∨dY ys=true
theorem dQ.cons {AL AH:ah} {y:AV} {ys:List AV} (h:dQ AL AH (y::ys)):fU AL AH y∧dQ AL AH ys:=by
 rcases h with h|h
 ·exact ⟨.inl h,.inl h⟩
 ·simp only [dY,Bool.and_eq_true] at h;exact ⟨.inr h.1,.inr h.2⟩
theorem oM {es:List Sh} (hE: ∀(x:AV) (vs:List Value) (L:J) (φL:ag) (AL:ah) (H:J) (φ :ag) (AH:ah) (y:AV) (L1:J) (a:AV) (H1:J),bZ w L φL AL H φ AH→x.cells.length=vs.length→
 (∀(j:Nat) (c:AV) (u:Value),x.cells[j]? =some c→vs[j]? =some u→R w L φL AL c u)→aY es x L=some (y,L1)→aF y H=(a,H1)→fU AL AH y→
 ∃ φ1,ca w L φL AL H φ AH L1 H1 φ1∧a.cells.length=x.cells.length∧ ∀(j:Nat) (c:AV) (u:Value),a.cells[j]? =some c→vs[j]? =some u→R w H1 φ1 AH c u):
 ∀(xs:List AV) (g:Nat→Nat→Value) (L:J) (φL:ag) (AL:ah) (H:J) (φ :ag) (AH:ah) (ys:List AV) (L1:J) (as:List AV) (H1:J),bZ w L φL AL H φ AH→
  (∀(i:Nat) (x:AV) (j:Nat) (c:AV),xs[i]? =some x→x.cells[j]? =some c→R w L φL AL c (g i j))→dn (aY es) xs L=some (ys,L1)→aH ys H=(as,H1)→dQ AL AH ys→
  ∃ φ1,ca w L φL AL H φ AH L1 H1 φ1∧as.length=xs.length∧(∀(i:Nat) (x a:AV),xs[i]? =some x→as[i]? =some a→a.cells.length=x.cells.length)∧
   ∀(i:Nat) (a:AV) (j:Nat) (c:AV),as[i]? =some a→a.cells[j]? =some c→R w H1 φ1 AH c (g i j)
 |[],g,L,φL,AL,H,φ,AH,ys,L1,as,H1,hd,_,ht,hw,_=>by
  simp only [dn,Option.some.injEq,Prod.mk.injEq] at ht;obtain ⟨rfl,rfl⟩:=ht;simp only [aH,Prod.mk.injEq] at hw;obtain ⟨rfl,rfl⟩:=hw;exact ⟨φ,.refl hd,rfl,by simp,by simp⟩
 |x::xs,g,L,φL,AL,H,φ,AH,ys,L1,as,H1,hd,hr,ht,hw,hk=>by
  simp only [dn] at ht;split at ht
  ·rename_i y L' h1
   split at ht
   ·rename_i aU c9 h2
    simp only [Option.some.injEq,Prod.mk.injEq] at ht;obtain ⟨rfl,rfl⟩:=ht;obtain ⟨k1,k2⟩:=hk.cons;simp only [aH,Prod.mk.injEq] at hw;obtain ⟨rfl,rfl⟩:=hw
    let vs:List Value:=(List.range x.cells.length).map (g 0)
    obtain ⟨φ1,m1,l1,r1⟩:=hE x vs L φL AL H φ AH y L' _ _ hd (by simp [vs]) (fun j c u hj hu=>by
     have dP:j<x.cells.length:=(List.getElem?_eq_some_iff.1 hj).1;have:vs[j]? =some (g 0 j):=by simp [vs,dP]
     rw [this] at hu;simp only [Option.some.injEq] at hu;subst hu;exact hr 0 x j c rfl hj) h1 rfl k1
    obtain ⟨bd,m2,l2,s2,r2⟩:=oM hE xs (fun i j=>g (i+1) j) L' (aE φL L') AL _ φ1 AH aU c9 _ _ m1.bz (fun i x' j c hi hj=>(hr (i+1) x' j c hi hj).mono (c5 m1.less)) h2 rfl k2
    refine ⟨bd,m1.trans m2,by simp [l2],fun i x' a hx ha=> ?_,fun i a j c ha hc=> ?_⟩
    ·cases i with
     |zero=>simp at hx ha;subst hx;subst ha;exact l1
     |succ i=>exact s2 i x' a hx ha
    ·cases i with
     |zero=>
      simp only [List.getElem?_cons_zero,Option.some.injEq] at ha;subst ha;have hj:j<x.cells.length:=by rw [←l1];exact (List.getElem?_eq_some_iff.1 hc).1
      exact (r1 j c (g 0 j) hc (by simp [vs,hj])).mono m2.eh
     |succ i=>exact r2 i a j c ha hc
   ·simp at ht
  ·simp at ht
theorem mj {L:J} {φL:ag} {AL:ah} {H:J} {φ :ag} {AH:ah} (hd:bZ w L φL AL H φ AH) {id ad:Nat} {b:bB} (hb:L.ap id ad=some b) {off n:Nat} (hle:off+n≤b.el.length) {sz:Nat} (hs:b.sz=sz) {loc:Loc} (aV: φL id=some loc)
 {L1:J} {as:List AV} {H1:J} {g:Nat→Nat→Value} {φ1:ag} (hg: ∀c b0 arr T fr,loc= .at_ c b0→w.heap[c]? =some (.cells arr T fr)→ ∀(i j:Nat) (v:Value),i<n→j<sz→arr[b0+(off+i)*sz+j]? =some v→g i j=v)
 (m:ca w (L.del id) (aE φL (L.del id)) AL H φ AH L1 H1 φ1) (hl:as.length=n) (eb: ∀(i:Nat) (a:AV),as[i]? =some a→a.cells.length=sz)
 (hr: ∀(i:Nat) (a:AV) (j:Nat) (c:AV),as[i]? =some a→a.cells[j]? =some c→R w H1 φ1 AH c (g i j)) (fx:Bool) (loc' :Loc) (hG:loc' = .aQ∧n=0∨ ∃c b0,loc= .at_ c b0∧loc' = .at_ c (b0+off*sz)):
 ca w L φL AL H φ AH L1 (H1.new sz fx as) (fun i=>if i=H1.bs.length then some loc' else φ1 i):=by
 have oN:=(J.bn hb).1;have oO:=(bD.del L id).trans m.less;have hI:aE (aE φL (L.del id)) L1=aE φL L1:=fT m.less;have m' :ca w L φL AL H φ AH L1 H1 φ1:=by
  refine ⟨oO,by have:=m.bz;rwa [hI] at this,m.eh,fun c hc=> ?_,m.g_,m.hlen,m.bC,m.b4⟩
  rcases m.oh c hc with h|⟨h1,h2⟩
  ·exact .inl h
  ·rw [hI] at h2;exact .inr ⟨bJ h1,h2⟩
 refine newAt m' eb (fun hv=> ?_) (fun c b1 he=> ?_)
 ·rcases hG with ⟨_,h0⟩|⟨c,b0,_,h2⟩
  ·exact List.eq_nil_of_length_eq_zero (by omega)
  ·rw [h2] at hv;simp at hv
 ·rcases hG with ⟨h1,_⟩|⟨c',b0,h1,h2⟩
  ·rw [h1] at he;simp at he
  ·rw [h2] at he;simp only [Loc.at_.injEq] at he;obtain ⟨rfl,rfl⟩:=he;subst h1;have jk:Ow φL c' :=⟨id,b0,aV⟩
   have oP: ¬Ow (aE φL L1) c' :=by
    rintro ⟨i,bb,hi⟩;obtain ⟨fu,bk,aX⟩:=dh hi;have:=hd.sl.inj _ _ _ _ _ fu aV;subst this;have:=m.less.get _ _ aX;rw [J.iK,if_pos rfl] at this;simp at this
   refine ⟨jk,oP,fun ho=> ?_,hd.er _ jk,?_⟩
   ·rcases m.oh c' ho with h|⟨⟨i,bb,hi⟩,_⟩
    ·exact hd.b_ c' jk h
    ·obtain ⟨fu,bk,aX⟩:=dh hi;have:=hd.sl.inj _ _ _ _ _ fu aV;subst this;rw [J.iK,if_pos rfl] at aX;simp at aX
   ·obtain ⟨bk,aX,af⟩:=hd.sl.ap id _ aV;rw [oN] at aX;simp only [Option.some.injEq] at aX;subst aX;obtain ⟨arr,T,fr,k1,k2,k3,k4⟩:=af.here c' b0 rfl
    have hmul:off*sz+n*sz≤b.el.length*sz:=by rw [←Nat.add_mul];exact Nat.mul_le_mul_right _ hle
    refine ⟨arr,T,fr,k1,k2,by rw [hl];rw [hs] at k3;omega,fun i a j c v ha hc hv=> ?_⟩
    have hi:i<n:=by rw [←hl];exact (List.getElem?_eq_some_iff.1 ha).1
    have hj:j<sz:=by rw [←eb i a ha];exact (List.getElem?_eq_some_iff.1 hc).1
    have e:b0+off*sz+i*sz+j=b0+(off+i)*sz+j:=by rw [Nat.add_mul];omega
    rw [e] at hv;have oQ:=hg c' b0 arr T fr rfl k1 i j v hi hj hv
    refine ⟨by rw [←oQ];exact hr i a j c ha hc,?_⟩
    have bR:off+i<b.el.length:=by omega
    have hx:=List.getElem?_eq_getElem bR;have cq:=af.sized _ _ hx;exact (k4 (off+i) _ j _ v hx (List.getElem?_eq_getElem (by omega)) (by rw [hs];exact hv)).2
end bz
end Go.VS
namespace Go.VS
section bz
variable {w:World}
theorem cells_one {x:AV} (h1:x≠ .undef) (h2: ∀cs,x≠ .agg cs):x.cells=[x]:=by
 cases x<;>first|rfl|exact absurd rfl h1|exact absurd rfl (h2 _)
theorem j6 {H:J} {id ad:Nat} {b b' :bB} (h:H.get id=some b) (h' :H.ap id ad=some b'):b' =b:=by
 have:=(J.bn h').1;rw [h] at this;simp only [Option.some.injEq] at this;exact this.symm
mutual
theorem ml (sh:Sh) (x:AV) (v:Value) (L:J) (φL:ag) (AL:ah) (H:J) (φ :ag) (AH:ah) (y:AV) (L1:J) (a:AV) (H1:J) (hd:bZ w L φL AL H φ AH) (hx:R w L φL AL x v)
 (ht:aN sh x L=some (y,L1)) (hw:aF y H=(a,H1)) (hk:fU AL AH y): ∃ φ1,ca w L φL AL H φ AH L1 H1 φ1∧R w H1 φ1 AH a v∧(x≠ .undef→a.cells=[a])∧(x= .undef→a= .undef):=by
 cases sh with
 |sc=>
  simp only [aN] at ht;split at ht
  ·rename_i hp;simp only [Option.some.injEq,Prod.mk.injEq] at ht;obtain ⟨rfl,rfl⟩:=ht;rw [rj hp] at hw;simp only [Prod.mk.injEq] at hw;obtain ⟨rfl,rfl⟩:=hw;exact ⟨φ,.refl hd,ri hp hx,fun hu=>cells_one hu (by rintro cs rfl;simp [dp] at hp),fun h=>h⟩
  ·simp at ht
 |sl es=>
  have kX: ∀{v0:Option Addr},v= .slice v0 0 0→aF (.own es.length []) H=(a,H1)→L1=L→ ∃ φ1,ca w L φL AL H φ AH L1 H1 φ1∧R w H1 φ1 AH a v∧a.cells=[a]:=by
   intro v0 hv hw hL;subst hL;simp only [aF,aH,Prod.mk.injEq] at hw;obtain ⟨rfl,rfl⟩:=hw;have m:=newAt (ca.refl hd) (sz:=es.length) (fx:=false) (el:=[]) (loc:= .aQ) (by simp) (fun _=>rfl) (by simp)
   refine ⟨_,m,?_,rfl⟩;refine .ref _ _ _ _ _ (Nat.lt_succ_self _) ⟨_,_,hv⟩ fun b hb=> ?_;have:=j6 (J.ea H es.length false []) hb;subst this;exact ⟨.aQ,v0,0,by simp,hv,by simp,Nat.le_refl _,by simp,rfl,fun _=>rfl⟩
  cases x with
  |nil=>
   simp only [aN,Option.some.injEq,Prod.mk.injEq] at ht;obtain ⟨rfl,rfl⟩:=ht;obtain ⟨φ1,h1,h2,h3⟩:=kX hx.c8 hw rfl;exact ⟨φ1,h1,h2,fun _=>h3,fun h=>by simp at h⟩
  |e0=>
   simp only [aN,Option.some.injEq,Prod.mk.injEq] at ht;obtain ⟨rfl,rfl⟩:=ht;obtain ⟨a0,kY⟩:=hx.eH;obtain ⟨φ1,h1,h2,h3⟩:=kX kY hw rfl;exact ⟨φ1,h1,h2,fun _=>h3,fun h=>by simp at h⟩
  |fz xs=>
   simp only [aN,Option.some.injEq,Prod.mk.injEq] at ht;obtain ⟨rfl,rfl⟩:=ht;simp only [aF,Prod.mk.injEq] at hw;obtain ⟨rfl,rfl⟩:=hw;rcases hk with hk|hk
   ·exact ⟨φ,.refl hd,.fr _ _ (hx.dA.shrink hk),fun _=>rfl,fun h=>by simp at h⟩
   ·simp [cf] at hk
  |ref id ad off len=>
   simp only [aN] at ht;split at ht
   ·rename_i b hb;split at ht
    ·rename_i hc;obtain ⟨c1,c2,c3⟩:=hc;split at ht
     ·rename_i ys L' hm
      simp only [Option.some.injEq,Prod.mk.injEq] at ht;obtain ⟨rfl,rfl⟩:=ht;simp only [aF,Prod.mk.injEq] at hw;obtain ⟨rfl,rfl⟩:=hw;have hg:=(J.bn hb).1;obtain ⟨bE,_,hr⟩:=hx.df;obtain ⟨loc,a0,cap,q1,rfl,q3,q4,q5,q6⟩:=(hr b hb).out;obtain ⟨bk,aX,af⟩:=hd.sl.ap id _ q1;rw [hg] at aX;simp only [Option.some.injEq] at aX;subst aX;have bG:dQ AL AH ys:=by
       rcases hk with h|h
       ·exact .inl h
       ·exact .inr (by simpa [cf] using h)
      have cR:=bD.del L id;have b5:bZ w (L.del id) (aE φL (L.del id)) AL H φ AH:=⟨ef hd.sl cR,hd.sh,fun c hc=>hd.b_ c (bJ hc),fun c hc=>hd.er c (bJ hc)⟩
      have bw:(aD b.el off len).length=len:=by simp [aD];omega
      have fV: ∀(i:Nat) (x:AV),(aD b.el off len)[i]? =some x→b.el[off+i]? =some x:=by
       intro i x hi;simp only [aD,List.getElem?_take,List.getElem?_drop] at hi;split at hi
       ·exact hi
       ·simp at hi
      let g:Nat→Nat→Value:=match loc with
       | .aQ=>fun _ _=>undef
       | .at_ c b0=>fun i j=>match w.heap[c]? with
        |some (.cells arr _ _)=>arr.getD (b0+(off+i)*es.length+j) undef
        |_=>undef
      have cy: ∀(i:Nat) (x:AV) (j:Nat) (c:AV),(aD b.el off len)[i]? =some x→x.cells[j]? =some c→R w (L.del id) (aE φL (L.del id)) AL c (g i j):=by
       intro i x j c hi hj;have bF:=fV i x hi
       have cg:i<len:=by rw [←bw];exact (List.getElem?_eq_some_iff.1 hi).1
       cases loc with
       |aQ=>have:=af.aQ rfl;rw [this] at bF;simp at bF
       |at_ c0 b0=>
        obtain ⟨arr,T,fr,k1,k2,k3,k4⟩:=af.here c0 b0 rfl;have dP:j<b.sz:=by rw [←af.sized _ _ bF];exact (List.getElem?_eq_some_iff.1 hj).1
        have hle:=cK (n:=b.sz) (show off+i<b.el.length by omega)
        have ax:b0+(off+i)*b.sz+j<arr.size:=by omega
        have:g i j=arr[b0+(off+i)*b.sz+j]:=by
         simp only [g,k1,←c1,Array.getD_eq_getD_getElem?,Array.getElem?_eq_getElem ax,Option.getD_some]
        rw [this];exact ((k4 _ _ _ _ _ bF hj (Array.getElem?_eq_getElem ax)).1).mono (c5 cR)
      obtain ⟨φ1,m,l1,s1,r1⟩:=oM (w:=w) (es:=es) (fun x vs L φL AL H φ AH y L1 a H1=>mm es x vs L φL AL H φ AH y L1 a H1) _ g _ _ _ _ _ _ _ _ _ _ b5 cy hm rfl bG
      rw [bw] at l1;have kZ: ∀(i:Nat) (a:AV),(aH ys H).1[i]? =some a→a.cells.length=b.sz:=by
       intro i a ha;have cg:i<(aD b.el off len).length:=by rw [bw,←l1];exact (List.getElem?_eq_some_iff.1 ha).1
       have iL:=List.getElem?_eq_getElem cg;rw [s1 i _ a iL ha];exact af.sized _ _ (fV i _ iL)
      have oR: ∀c b0 arr T fr,loc= .at_ c b0→w.heap[c]? =some (.cells arr T fr)→ ∀(i j:Nat) (v:Value),i<len→j<b.sz→arr[b0+(off+i)*b.sz+j]? =some v→g i j=v:=by
       intro c b0 arr T fr hl hh i j v _ _ hv;subst hl;simp only [g,hh,←c1,Array.getD_eq_getD_getElem?,hv,Option.getD_some]
      let loc' :Loc:=match loc with
       | .aQ=> .aQ
       | .at_ c b0=>if cap=0 then .aQ else .at_ c (b0+off*b.sz)
      have hG:loc' = .aQ∧len=0∨ ∃c b0,loc= .at_ c b0∧loc' = .at_ c (b0+off*b.sz):=by
       cases loc with
       |aQ=>left;refine ⟨rfl,?_⟩;have:=af.aQ rfl;rw [this] at q3;simp at q3;omega
       |at_ c b0=>
        by_cases eu:cap=0
        ·left;exact ⟨by simp [loc',eu],by omega⟩
        ·right;exact ⟨c,b0,rfl,by simp [loc',eu]⟩
      have M:=mj hd hb c2 rfl q1 oR m l1 kZ r1 false loc' hG
      rw [c1] at M;refine ⟨_,M,?_,fun _=>rfl,fun h=>by simp at h⟩
      refine .ref _ _ _ _ _ (Nat.lt_succ_self _) ⟨a0,cap,by rw [l1]⟩ fun b' aw=> ?_
      have:=j6 (J.ea (aH ys H).2 es.length false (aH ys H).1) aw;subst this;refine ⟨loc',a0,cap,by simp,by rw [l1],by simp,by omega,by simp only;omega,?_⟩
      cases loc with
      |aQ=>
       simp only at q6;have cv:len=0:=by have:=af.aQ rfl;rw [this] at q3;simp at q3;omega
       refine ⟨List.eq_nil_of_length_eq_zero (by rw [l1,cv]),fun _=> ?_⟩
       rcases c3 with c3|c3
       ·exact q6.2 c3
       ·omega
      |at_ c b0=>
       simp only at q6;by_cases eu:cap=0
       ·simp only [loc',eu,if_true];exact ⟨List.eq_nil_of_length_eq_zero (by omega),fun _=>by first|trivial|omega|rfl⟩
       ·simp only [loc',eu,if_false];rcases q6 with q6|⟨h1,h2⟩
        ·exact absurd q6 eu
        ·refine Or.inr ⟨by rw [h1];simp,?_⟩
         rw [c1] at h2⊢;have:(off+cap)*es.length=off*es.length+cap*es.length:=Nat.add_mul _ _ _;simp only [Nat.zero_add];omega
     ·simp at ht
    ·simp at ht
   ·simp at ht
  |_=>simp [aN] at ht
 |pt es=>
  cases x with
  |fe z o=>
   simp only [aN,Option.some.injEq,Prod.mk.injEq] at ht;obtain ⟨rfl,rfl⟩:=ht;simp only [aF,Prod.mk.injEq] at hw;obtain ⟨rfl,rfl⟩:=hw;rcases hk with hk|hk
   ·exact ⟨φ,.refl hd,.fr _ _ (hx.eG.shrink hk),fun _=>rfl,fun h=>by simp at h⟩
   ·simp [cf] at hk
  |ptr id ad idx off=>
   rcases idx with _|idx
   rotate_left
   ·simp [aN] at ht
   rcases off with _|off
   rotate_left
   ·simp [aN] at ht
   simp only [aN] at ht;split at ht
   ·rename_i oS sz oT z hb;split at ht
    ·rename_i y' L' hm
     simp only [Option.some.injEq,Prod.mk.injEq] at ht;obtain ⟨rfl,rfl⟩:=ht;simp only [aF,Prod.mk.injEq] at hw;obtain ⟨rfl,rfl⟩:=hw;have hg:=(J.bn hb).1;obtain ⟨bE,_,hr⟩:=hx.fk;obtain ⟨c,b0,q1,rfl⟩:=hr _ hb;obtain ⟨bk,aX,af⟩:=hd.sl.ap id _ q1;rw [hg] at aX;simp only [Option.some.injEq] at aX;subst aX;obtain ⟨arr,T,fr,k1,k2,k3,k4⟩:=af.here c b0 rfl;have bG:fU AL AH y' :=by
      rcases hk with h|h
      ·exact .inl h
      ·exact .inr (by simpa [cf] using h)
     have cR:=bD.del L id;have b5:bZ w (L.del id) (aE φL (L.del id)) AL H φ AH:=⟨ef hd.sl cR,hd.sh,fun c hc=>hd.b_ c (bJ hc),fun c hc=>hd.er c (bJ hc)⟩
     have cu:z.cells.length=sz:=af.sized 0 z rfl;simp only [List.length_singleton,Nat.one_mul] at k3
     let vs:List Value:=(arr.extract b0 (b0+sz)).toList
     have dC:vs.length=sz:=by simp [vs];omega
     have fW: ∀j u,vs[j]? =some u→arr[b0+j]? =some u:=by
      intro j u hu;simp only [vs,Array.getElem?_toList,Array.getElem?_extract] at hu;split at hu
      ·exact hu
      ·simp at hu
     obtain ⟨φ1,m,l1,r1⟩:=mm es z vs _ _ _ _ _ _ _ _ _ _ b5 (by rw [dC,cu]) (fun j c' u hj hu=>((k4 0 z j c' u rfl hj (by simpa using fW j u hu)).1).mono (c5 cR)) hm rfl bG
     have M:=mj (as:=[(aF y' H).1]) (n:=1) (off:=0) (sz:=sz) (loc' := .at_ c b0) (g:=fun i j=>vs.getD j undef) hd hb (by simp) rfl q1 (fun c' oU arr' T' eS hl hh i j v hi hj hv=>by
      simp only [Loc.at_.injEq] at hl;obtain ⟨rfl,rfl⟩:=hl;rw [k1] at hh;simp only [Option.some.injEq,Obj.cells.injEq] at hh;obtain ⟨rfl,_,_⟩:=hh;have jl:i=0:=by omega
      subst jl;simp only [Nat.zero_mul,Nat.add_zero] at hv;have:vs[j]? =some v:=by
       simp only [vs,Array.getElem?_toList,Array.getElem?_extract];rw [if_pos (by omega)];exact hv
      simp [List.getD,this]) m rfl (fun i a ha=>by
      cases i with
      |zero=>simp at ha;subst ha;rw [l1,cu]
      |succ i=>simp at ha) (fun i a j c' ha hc=>by
      cases i with
      |zero=>
       simp at ha;subst ha;have hj:j<vs.length:=by rw [dC,←cu,←l1];exact (List.getElem?_eq_some_iff.1 hc).1
       have:=r1 j c' vs[j] hc (List.getElem?_eq_getElem hj)
       simpa [List.getD,hj] using this
      |succ i=>simp at ha) false (.inr ⟨c,b0,rfl,by simp⟩)
     refine ⟨_,M,?_,fun _=>rfl,fun h=>by simp at h⟩
     refine .ptr _ _ _ _ _ (Nat.lt_succ_self _) ⟨_,rfl⟩ fun b' aw=>⟨c,b0,by simp,?_⟩
     simp
    ·simp at ht
   ·simp at ht
  |_=>simp [aN] at ht
 termination_by (SizeOf.sizeOf sh,0)
theorem mm (es:List Sh) (x:AV) (vs:List Value) (L:J) (φL:ag) (AL:ah) (H:J) (φ :ag) (AH:ah) (y:AV) (L1:J) (a:AV) (H1:J) (hd:bZ w L φL AL H φ AH) (hl:x.cells.length=vs.length)
 (hx: ∀(j:Nat) (c:AV) (u:Value),x.cells[j]? =some c→vs[j]? =some u→R w L φL AL c u) (ht:aY es x L=some (y,L1)) (hw:aF y H=(a,H1)) (hk:fU AL AH y):
 ∃ φ1,ca w L φL AL H φ AH L1 H1 φ1∧a.cells.length=x.cells.length∧ ∀(j:Nat) (c:AV) (u:Value),a.cells[j]? =some c→vs[j]? =some u→R w H1 φ1 AH c u:=by
 by_cases bX: ∃cs,x= .agg cs
 ·obtain ⟨cs,rfl⟩:=bX;have cz: ∃aW,ck es cs L=some (aW,L1)∧y= .agg aW:=by
   match es,ht with
   |[],ht=>
    simp only [aY] at ht;split at ht
    ·rename_i aW L' hc
     simp only [Option.some.injEq,Prod.mk.injEq] at ht;obtain ⟨rfl,rfl⟩:=ht;exact ⟨aW,hc,rfl⟩
    ·simp at ht
   |[e],ht=>
    simp only [aY] at ht;split at ht
    ·rename_i aW L' hc
     simp only [Option.some.injEq,Prod.mk.injEq] at ht;obtain ⟨rfl,rfl⟩:=ht;exact ⟨aW,hc,rfl⟩
    ·simp at ht
   |e::e' ::es,ht=>
    simp only [aY] at ht;split at ht
    ·rename_i aW L' hc
     simp only [Option.some.injEq,Prod.mk.injEq] at ht;obtain ⟨rfl,rfl⟩:=ht;exact ⟨aW,hc,rfl⟩
    ·simp at ht
  obtain ⟨aW,hc,rfl⟩:=cz;simp only [aF,Prod.mk.injEq] at hw;obtain ⟨rfl,rfl⟩:=hw;have bG:dQ AL AH aW:=by
   rcases hk with h|h
   ·exact .inl h
   ·exact .inr (by simpa [cf] using h)
  exact oV es cs vs L φL AL H φ AH aW L1 _ _ hd hl hx hc rfl bG
 ·have dw: ∀cs,x≠ .agg cs:=fun cs h=>bX ⟨cs,h⟩
  match es,ht with
  |[e],ht=>
   have cz:aN e x L=some (y,L1):=by
    cases x<;>first|(simpa only [aY] using ht)|exact absurd rfl (dw _)
   by_cases hu:x= .undef
   ·subst hu;have fL:vs=[]:=List.eq_nil_of_length_eq_zero (by simpa [AV.cells] using hl.symm)
    subst fL;obtain ⟨φ1,m,_,_,h4⟩:=ml e .undef undef L φL AL H φ AH y L1 a H1 hd (.fr _ _ (.undef _)) cz hw hk
    exact ⟨φ1,m,by rw [h4 rfl],by simp⟩
   ·have di:=cells_one hu dw;rw [di] at hl;obtain ⟨v,rfl⟩: ∃v,vs=[v]:=by
     match vs,hl with
     |[v],_=>exact ⟨v,rfl⟩
    obtain ⟨φ1,m,h2,h3,_⟩:=ml e x v L φL AL H φ AH y L1 a H1 hd (hx 0 x v (by rw [di];rfl) rfl) cz hw hk
    refine ⟨φ1,m,by rw [h3 hu,di];rfl,fun j c u hj aM=> ?_⟩
    rw [h3 hu] at hj;cases j with
    |zero=>simp at hj aM;subst hj;subst aM;exact h2
    |succ j=>simp at hj
  |[],ht=>cases x<;>first|(simp [aY] at ht;done)|exact absurd rfl (dw _)
  |_::_::_,ht=>cases x<;>first|(simp [aY] at ht;done)|exact absurd rfl (dw _)
 termination_by (SizeOf.sizeOf es,1)
theorem oV (es:List Sh) (cs:List AV) (vs:List Value) (L:J) (φL:ag) (AL:ah) (H:J) (φ :ag) (AH:ah) (ys:List AV) (L1:J) (as:List AV) (H1:J) (hd:bZ w L φL AL H φ AH) (hl:cs.length=vs.length)
 (hx: ∀(j:Nat) (c:AV) (u:Value),cs[j]? =some c→vs[j]? =some u→R w L φL AL c u) (ht:ck es cs L=some (ys,L1)) (hw:aH ys H=(as,H1)) (hk:dQ AL AH ys):
 ∃ φ1,ca w L φL AL H φ AH L1 H1 φ1∧as.length=cs.length∧ ∀(j:Nat) (c:AV) (u:Value),as[j]? =some c→vs[j]? =some u→R w H1 φ1 AH c u:=by
 match es,cs,ht with
 |[],[],ht=>
  simp only [ck,Option.some.injEq,Prod.mk.injEq] at ht;obtain ⟨rfl,rfl⟩:=ht;simp only [aH,Prod.mk.injEq] at hw;obtain ⟨rfl,rfl⟩:=hw;exact ⟨φ,.refl hd,rfl,by simp⟩
 |e::es,x::cs,ht=>
  simp only [ck] at ht;split at ht
  ·rename_i y L' h1
   split at ht
   ·rename_i aU c9 h2
    simp only [Option.some.injEq,Prod.mk.injEq] at ht;obtain ⟨rfl,rfl⟩:=ht;simp only [aH,Prod.mk.injEq] at hw;obtain ⟨rfl,rfl⟩:=hw;obtain ⟨k1,k2⟩:=hk.cons
    match vs,hl with
    |v::vs,hl=>
     obtain ⟨φ1,m1,r1,_,_⟩:=ml e x v L φL AL H φ AH y L' _ _ hd (hx 0 x v rfl rfl) h1 rfl k1
     obtain ⟨bd,m2,l2,r2⟩:=oV es cs vs L' (aE φL L') AL _ φ1 AH aU c9 _ _ m1.bz (by simpa using hl) (fun j c u hj hu=>(hx (j+1) c u hj hu).mono (c5 m1.less)) h2 rfl k2
     refine ⟨bd,m1.trans m2,by simp [l2],fun j c u hj hu=> ?_⟩
     cases j with
     |zero=>simp at hj hu;subst hj;subst hu;exact r1.mono m2.eh
     |succ j=>exact r2 j c u hj hu
   ·simp at ht
  ·simp at ht
 |[],_::_,ht=>simp [ck] at ht
 |_::_,[],ht=>simp [ck] at ht
 termination_by (SizeOf.sizeOf es,0)
end
end bz
end Go.VS
namespace Go.VS
section bz
variable {w:World}
theorem R.mn {H:J} {φ :ag} {A A' :ah} (hA: ∀c,A' c→A c) {x:AV} {v:Value} (h:R w H φ A x v):R w H φ A' x v:=
 h.mono ⟨fun c _arr _T fr hc hn=>⟨⟨fr,hc⟩,fun h=>hn (hA c h)⟩,Nat.le_refl _,fun _id b h _=>⟨b,h,rfl,rfl,rfl,rfl,fun _ h=>h⟩,fun _ _=>rfl⟩
theorem k9 {es:List Sh} {cs:List AV} {L L1:J} {y:AV} (ht:aY es (.agg cs) L=some (y,L1)): ∃aW,ck es cs L=some (aW,L1)∧y= .agg aW:=by
 match es,ht with
 |[],ht=>
  simp only [aY] at ht;split at ht
  ·rename_i aW L' hc
   simp only [Option.some.injEq,Prod.mk.injEq] at ht;obtain ⟨rfl,rfl⟩:=ht;exact ⟨aW,hc,rfl⟩
  ·simp at ht
 |[e],ht=>
  simp only [aY] at ht;split at ht
  ·rename_i aW L' hc
   simp only [Option.some.injEq,Prod.mk.injEq] at ht;obtain ⟨rfl,rfl⟩:=ht;exact ⟨aW,hc,rfl⟩
  ·simp at ht
 |e::e' ::es,ht=>
  simp only [aY] at ht;split at ht
  ·rename_i aW L' hc
   simp only [Option.some.injEq,Prod.mk.injEq] at ht;obtain ⟨rfl,rfl⟩:=ht;exact ⟨aW,hc,rfl⟩
  ·simp at ht
theorem jm {es:List Sh} {x:AV} (hx: ∀cs,x≠ .agg cs) {L L1:J} {y:AV} (ht:aY es x L=some (y,L1)): ∃e,es=[e]∧aN e x L=some (y,L1):=by
 match es,ht with
 |[e],ht=>
  refine ⟨e,rfl,?_⟩;cases x<;>first|(simpa only [aY] using ht)|exact absurd rfl (hx _)
 |[],ht=>cases x<;>first|(simp [aY] at ht;done)|exact absurd rfl (hx _)
 |_::_::_,ht=>cases x<;>first|(simp [aY] at ht;done)|exact absurd rfl (hx _)
theorem rk {es:List Sh} {x:AV} {v:Value} {L:J} {φL:ag} {AL:ah} {H:J} {φ :ag} {AH:ah} {y:AV} {L1:J} {a:AV} {H1:J} (hd:bZ w L φL AL H φ AH) (hx:R w L φL AL x v)
 (ht:aY es x L=some (y,L1)) (hw:aF y H=(a,H1)) (hk:fU AL AH y): ∃ φ1,ca w L φL AL H φ AH L1 H1 φ1∧R w H1 φ1 AH a v:=by
 by_cases bX: ∃cs,x= .agg cs
 ·obtain ⟨cs,rfl⟩:=bX;obtain ⟨aW,hc,rfl⟩:=k9 ht;simp only [aF,Prod.mk.injEq] at hw;obtain ⟨rfl,rfl⟩:=hw;have bG:dQ AL AH aW:=by
   rcases hk with h|h
   ·exact .inl h
   ·exact .inr (by simpa [cf] using h)
  obtain ⟨vs,rfl,hl,ho,hp⟩:=hx.fM;obtain ⟨φ1,m,l1,r1⟩:=oV es cs vs.toList L φL AL H φ AH aW L1 _ _ hd (by simpa using hl) (fun j c u hj hu=>hp j c u hj (by simpa using hu)) hc rfl bG
  exact ⟨φ1,m,.agg _ _ (by rw [l1,hl]) ho fun i x v hx hv=>r1 i x v hx (by simpa using hv)⟩
 ·obtain ⟨e,rfl,cz⟩:=jm (fun cs h=>bX ⟨cs,h⟩) ht;obtain ⟨φ1,m,r,_⟩:=ml e x v L φL AL H φ AH y L1 a H1 hd hx cz hw hk
  exact ⟨φ1,m,r⟩
def gone (φ :ag) (A:ah) (L1:J):ah:=fun c=>A c∧(Ow φ c→Ow (aE φ L1) c)
theorem oW {φ :ag} {A:ah} {L L1:J} (h:bD L L1) {c:Nat} (hc:gone φ A L1 c):gone φ A L c:=
 ⟨hc.1,fun ho=>by
  obtain ⟨i,b,hi⟩:=hc.2 ho;obtain ⟨h1,bk,h2⟩:=dh hi;exact ⟨i,b,by simp [aE,h.get _ _ h2,h1]⟩⟩
theorem rl {w:World} {L L1:J} {φ :ag} {A:ah} (ae:St w L φ A) {id c b0:Nat} (h: φ id=some (.at_ c b0)) (hn:L1.get id=none): ¬gone φ A L1 c:=by
 rintro ⟨_,h2⟩;obtain ⟨i,b,hi⟩:=h2 ⟨id,b0,h⟩;obtain ⟨h1,bk,h3⟩:=dh hi;have:=ae.inj _ _ _ _ _ h1 h;subst this;rw [hn] at h3;simp at h3
theorem yz {x:AV} (hp:dp x=true):br x=x:=by
 cases x<;>first|rfl|simp [dp] at hp
theorem yA {L:J} {φL:ag} {AL A' :ah} {x:AV} {v:Value} (hp:dp x=true) (h:R w L φL AL x v):FR w A' x v:=by
 cases x with
 |undef=>exact .undef _
 |int k n=>have:=h.cm;subst this;exact .int _ _
 |bool b=>have:=h.eT;subst this;exact .bool _
 |str s=>obtain ⟨b,rfl,rfl⟩:=h.eF;exact .str _
 |cj b=>rcases h.jP with ⟨rfl,rfl⟩|⟨rfl,t,u,rfl⟩;exact .jO;exact .err _ _
 |dy=>cases h with|fr _ _ h=>cases h;exact .dy
 |_=>simp [dp] at hp
theorem mo {f:AV→J→Option (AV×J)} (hf: ∀x L y L1,f x L=some (y,L1)→bD L L1): ∀(xs:List AV) (L:J) (ys:List AV) (L1:J),dn f xs L=some (ys,L1)→bD L L1
 |[],L,ys,L1,h=>by simp [dn] at h;obtain ⟨_,rfl⟩:=h;exact .refl _
 |x::xs,L,ys,L1,h=>by
  simp only [dn] at h;split at h
  ·rename_i y L' h1
   split at h
   ·rename_i aU c9 h2
    simp only [Option.some.injEq,Prod.mk.injEq] at h;obtain ⟨_,rfl⟩:=h;exact (hf _ _ _ _ h1).trans (mo hf xs L' aU _ h2)
   ·simp at h
  ·simp at h
mutual
theorem oX: ∀(sh:Sh) (x:AV) (L:J) (y:AV) (L1:J),aN sh x L=some (y,L1)→bD L L1
 | .sc,x,L,y,L1,ht=>by
  simp only [aN] at ht;split at ht
  ·simp only [Option.some.injEq,Prod.mk.injEq] at ht;obtain ⟨_,rfl⟩:=ht;exact .refl _
  ·simp at ht
 | .sl es,x,L,y,L1,ht=>by
  cases x with
  |ref id ad off len=>
   simp only [aN] at ht;split at ht
   ·split at ht
    ·split at ht
     ·rename_i ys L' hm
      simp only [Option.some.injEq,Prod.mk.injEq] at ht;obtain ⟨_,rfl⟩:=ht;exact (bD.del L id).trans (mo (fun x L y L1 h=>fw es x L y L1 h) _ _ _ _ hm)
     ·simp at ht
    ·simp at ht
   ·simp at ht
  |_=>first
   |(simp [aN] at ht;done)
   |(simp only [aN,Option.some.injEq,Prod.mk.injEq] at ht;obtain ⟨_,rfl⟩:=ht;exact .refl _)
 | .pt es,x,L,y,L1,ht=>by
  cases x with
  |fe z o=>simp only [aN,Option.some.injEq,Prod.mk.injEq] at ht;obtain ⟨_,rfl⟩:=ht;exact .refl _
  |ptr id ad idx off=>
   rcases idx with _|idx
   rotate_left
   ·simp [aN] at ht
   rcases off with _|off
   rotate_left
   ·simp [aN] at ht
   simp only [aN] at ht;split at ht
   ·split at ht
    ·rename_i y' L' hm
     simp only [Option.some.injEq,Prod.mk.injEq] at ht;obtain ⟨_,rfl⟩:=ht;exact (bD.del L id).trans (fw es _ _ _ _ hm)
    ·simp at ht
   ·simp at ht
  |_=>simp [aN] at ht
 termination_by sh=>(SizeOf.sizeOf sh,0)
theorem fw: ∀(es:List Sh) (x:AV) (L:J) (y:AV) (L1:J),aY es x L=some (y,L1)→bD L L1
 |es,x,L,y,L1,ht=>by
  by_cases bX: ∃cs,x= .agg cs
  ·obtain ⟨cs,rfl⟩:=bX;obtain ⟨aW,hc,_⟩:=k9 ht;exact oY es cs L aW L1 hc
  ·obtain ⟨e,rfl,cz⟩:=jm (fun cs h=>bX ⟨cs,h⟩) ht;exact oX e x L y L1 cz
 termination_by es=>(SizeOf.sizeOf es,1)
theorem oY: ∀(es:List Sh) (cs:List AV) (L:J) (ys:List AV) (L1:J),ck es cs L=some (ys,L1)→bD L L1
 |[],[],L,ys,L1,ht=>by simp [ck] at ht;obtain ⟨_,rfl⟩:=ht;exact .refl _
 |e::es,x::cs,L,ys,L1,ht=>by
  simp only [ck] at ht;split at ht
  ·rename_i y L' h1
   split at ht
   ·rename_i aU c9 h2
    simp only [Option.some.injEq,Prod.mk.injEq] at ht;obtain ⟨_,rfl⟩:=ht;exact (oX e x L y L' h1).trans (oY es cs L' aU _ h2)
   ·simp at ht
  ·simp at ht
 |[],_::_,_,_,_,ht=>by simp [ck] at ht
 |_::_,[],_,_,_,ht=>by simp [ck] at ht
 termination_by es=>(SizeOf.sizeOf es,0)
end
theorem rm {es:List Sh} {A' :ah} (hE: ∀(x:AV) (vs:List Value) (L:J) (φL:ag) (AL:ah) (y:AV) (L1:J),St w L φL AL→x.cells.length=vs.length→
 (∀(j:Nat) (c:AV) (u:Value),x.cells[j]? =some c→vs[j]? =some u→R w L φL AL c u)→aY es x L=some (y,L1)→(∀c,A' c→gone φL AL L1 c)→
 (br y).cells.length=x.cells.length∧ ∀(j:Nat) (c:AV) (u:Value),(br y).cells[j]? =some c→vs[j]? =some u→FR w A' c u):
 ∀(xs:List AV) (g:Nat→Nat→Value) (L:J) (φL:ag) (AL:ah) (ys:List AV) (L1:J),St w L φL AL→
  (∀(i:Nat) (x:AV) (j:Nat) (c:AV),xs[i]? =some x→x.cells[j]? =some c→R w L φL AL c (g i j))→dn (aY es) xs L=some (ys,L1)→(∀c,A' c→gone φL AL L1 c)→
  (bU ys).length=xs.length∧(∀(i:Nat) (x a:AV),xs[i]? =some x→(bU ys)[i]? =some a→a.cells.length=x.cells.length)∧
   ∀(i:Nat) (a:AV) (j:Nat) (c:AV),(bU ys)[i]? =some a→a.cells[j]? =some c→FR w A' c (g i j)
 |[],g,L,φL,AL,ys,L1,hd,_,ht,hk=>by
  simp only [dn,Option.some.injEq,Prod.mk.injEq] at ht;obtain ⟨rfl,rfl⟩:=ht;exact ⟨rfl,by simp,by simp [bU]⟩
 |x::xs,g,L,φL,AL,ys,L1,hd,hr,ht,hk=>by
  simp only [dn] at ht;split at ht
  ·rename_i y L' h1
   split at ht
   ·rename_i aU c9 h2
    simp only [Option.some.injEq,Prod.mk.injEq] at ht;obtain ⟨rfl,rfl⟩:=ht
    let vs:List Value:=(List.range x.cells.length).map (g 0)
    have da:=fw es x L y L' h1
    have dg:=mo (fun x L y L1 h=>fw es x L y L1 h) _ _ _ _ h2;obtain ⟨l1,r1⟩:=hE x vs L φL AL y L' hd (by simp [vs]) (fun j c u hj hu=>by
     have dP:j<x.cells.length:=(List.getElem?_eq_some_iff.1 hj).1;have:vs[j]? =some (g 0 j):=by simp [vs,dP]
     rw [this] at hu;simp only [Option.some.injEq] at hu;subst hu;exact hr 0 x j c rfl hj) h1 (fun c hc=>oW dg (hk c hc))
    obtain ⟨l2,s2,r2⟩:=rm hE xs (fun i j=>g (i+1) j) L' (aE φL L') AL aU c9 (ef hd da) (fun i x' j c hi hj=>(hr (i+1) x' j c hi hj).mono (c5 da)) h2 (fun c hc=>by
     obtain ⟨k1,k2⟩:=hk c hc;exact ⟨k1,fun ho=>by rw [fT dg];exact k2 (bJ ho)⟩)
    refine ⟨by simp [bU,l2],fun i x' a hx ha=> ?_,fun i a j c ha hc=> ?_⟩
    ·cases i with
     |zero=>simp [bU] at hx ha;subst hx;subst ha;exact l1
     |succ i=>simp [bU] at hx ha;exact s2 i x' a hx ha
    ·cases i with
     |zero=>
      simp only [bU,List.getElem?_cons_zero,Option.some.injEq] at ha;subst ha;have hj:j<x.cells.length:=by rw [←l1];exact (List.getElem?_eq_some_iff.1 hc).1
      exact r1 j c (g 0 j) hc (by simp [vs,hj])
     |succ i=>exact r2 i a j c (by simpa [bU] using ha) hc
   ·simp at ht
  ·simp at ht
mutual
theorem mq (sh:Sh) (x:AV) (v:Value) (L:J) (φL:ag) (AL A' :ah) (y:AV) (L1:J) (ae:St w L φL AL) (hx:R w L φL AL x v)
 (ht:aN sh x L=some (y,L1)) (hk: ∀c,A' c→gone φL AL L1 c):FR w A' (br y) v∧(x≠ .undef→(br y).cells=[br y])∧(x= .undef→br y= .undef):=by
 cases sh with
 |sc=>
  simp only [aN] at ht;split at ht
  ·rename_i hp;simp only [Option.some.injEq,Prod.mk.injEq] at ht;obtain ⟨rfl,rfl⟩:=ht;rw [yz hp];exact ⟨yA hp hx,fun hu=>cells_one hu (by rintro cs rfl;simp [dp] at hp),fun h=>h⟩
  ·simp at ht
 |sl es=>
  cases x with
  |nil=>
   simp only [aN,Option.some.injEq,Prod.mk.injEq] at ht;obtain ⟨rfl,rfl⟩:=ht;have:=hx.c8;subst this;exact ⟨.cH _ _,fun _=>rfl,fun h=>by simp at h⟩
  |e0=>
   simp only [aN,Option.some.injEq,Prod.mk.injEq] at ht;obtain ⟨rfl,rfl⟩:=ht;obtain ⟨a0,rfl⟩:=hx.eH;exact ⟨.cH _ _,fun _=>rfl,fun h=>by simp at h⟩
  |fz xs=>
   simp only [aN,Option.some.injEq,Prod.mk.injEq] at ht;obtain ⟨rfl,rfl⟩:=ht;exact ⟨hx.dA.shrink fun c hc=>(hk c hc).1,fun _=>rfl,fun h=>by simp at h⟩
  |ref id ad off len=>
   simp only [aN] at ht;split at ht
   ·rename_i b hb;split at ht
    ·rename_i hc;obtain ⟨c1,c2,c3⟩:=hc;split at ht
     ·rename_i ys L' hm
      simp only [Option.some.injEq,Prod.mk.injEq] at ht;obtain ⟨rfl,rfl⟩:=ht;have hg:=(J.bn hb).1;obtain ⟨bE,_,hr⟩:=hx.df;obtain ⟨loc,a0,cap,q1,rfl,q3,q4,q5,q6⟩:=(hr b hb).out;obtain ⟨bk,aX,af⟩:=ae.ap id _ q1;rw [hg] at aX;simp only [Option.some.injEq] at aX;subst aX;have cR:=bD.del L id;have dg:=mo (fun x L y L1 h=>fw es x L y L1 h) _ _ _ _ hm;have hJ:L'.get id=none:=by
       cases hq:L'.get id with
       |none=>rfl
       |some b=>have:=dg.get _ _ hq;rw [J.iK,if_pos rfl] at this;simp at this
      have bw:(aD b.el off len).length=len:=by simp [aD];omega
      have fV: ∀(i:Nat) (x:AV),(aD b.el off len)[i]? =some x→b.el[off+i]? =some x:=by
       intro i x hi;simp only [aD,List.getElem?_take,List.getElem?_drop] at hi;split at hi
       ·exact hi
       ·simp at hi
      refine ⟨?_,fun _=>rfl,fun h=>by simp at h⟩
      simp only [br];rcases Nat.eq_zero_or_pos len with cv|yB
      ·subst cv;have:ys=[]:=by
        have h0:aD b.el off 0=[]:=by simp [aD]
        rw [h0] at hm;simp [dn] at hm;exact hm.1
       subst this;exact .cH _ _
      ·cases loc with
       |aQ=>have:=af.aQ rfl;rw [this] at q3;simp at q3;omega
       |at_ c b0=>
        simp only at q6;rcases q6 with q6|⟨h1,h2⟩
        ·omega
        obtain ⟨arr,T,fr,k1,k2,k3,k4⟩:=af.here c b0 rfl
        let g:Nat→Nat→Value:=fun i j=>arr.getD (b0+(off+i)*b.sz+j) undef
        have cA: ∀(i:Nat) (x:AV) (j:Nat),(aD b.el off len)[i]? =some x→j<x.cells.length→b0+(off+i)*b.sz+j<arr.size:=by
         intro i x j hi hj;have bF:=fV i x hi
         have cg:i<len:=by rw [←bw];exact (List.getElem?_eq_some_iff.1 hi).1
         rw [af.sized _ _ bF] at hj;have hle:=cK (n:=b.sz) (show off+i<b.el.length by omega)
         omega
        have cy: ∀(i:Nat) (x:AV) (j:Nat) (c:AV),(aD b.el off len)[i]? =some x→x.cells[j]? =some c→R w (L.del id) (aE φL (L.del id)) AL c (g i j):=by
         intro i x j c' hi hj
         have ax:=cA i x j hi (List.getElem?_eq_some_iff.1 hj).1;have:g i j=arr[b0+(off+i)*b.sz+j]:=by
          simp only [g,Array.getD_eq_getD_getElem?,Array.getElem?_eq_getElem ax,Option.getD_some]
         rw [this];exact ((k4 _ _ _ _ _ (fV i x hi) hj (Array.getElem?_eq_getElem ax)).1).mono (c5 cR)
        obtain ⟨l1,s1,r1⟩:=rm (A' :=A') (es:=es) (fun x vs L φL AL y L1=>rn es x vs L φL AL A' y L1) _ g _ _ _ _ _ (ef ae cR) cy hm (fun c hc=>by
         obtain ⟨k1,k2⟩:=hk c hc;exact ⟨k1,fun ho=>by rw [fT dg];exact k2 (bJ ho)⟩)
        rw [bw] at l1;have hmul:(off+len)*b.sz≤b.el.length*b.sz:=Nat.mul_le_mul_right _ q3;have yC:(off+len)*b.sz=off*b.sz+len*b.sz:=Nat.add_mul _ _ _;have hM:=FR.fz (A:=A') (bU ys) c (b0+off*b.sz) cap b.sz arr T fr k1 (fun hA=>rl ae q1 hJ (hk c hA)) (by rw [l1];exact q4) (by rw [l1];omega)
         (fun i a ha=>by
          have hi:i<(aD b.el off len).length:=by rw [bw,←l1];exact (List.getElem?_eq_some_iff.1 ha).1
          rw [s1 i _ a (List.getElem?_eq_getElem hi) ha];exact af.sized _ _ (fV i _ (List.getElem?_eq_getElem hi)))
         (fun j v hj hv=>by
          rw [l1] at hj;have en:0<b.sz:=by
           rcases Nat.eq_zero_or_pos b.sz with h|h
           ·rw [h] at hj;simp at hj
           ·exact h
          have yD:j/b.sz<len:=Nat.div_lt_of_lt_mul (by rw [Nat.mul_comm];exact hj)
          have oZ:j % b.sz<b.sz:=Nat.mod_lt _ en;have yE:j=(j/b.sz)*b.sz+j % b.sz:=by rw [Nat.mul_comm];exact (Nat.div_add_mod j b.sz).symm
          have bR:off+j/b.sz<b.el.length:=by omega
          have hx:=List.getElem?_eq_getElem bR;have cq:=af.sized _ _ hx;have e:b0+off*b.sz+j=b0+(off+j/b.sz)*b.sz+j % b.sz:=by rw [Nat.add_mul];omega
          rw [e] at hv;exact (k4 _ _ _ _ v hx (List.getElem?_eq_getElem (show j % b.sz<_ by rw [cq];exact oZ)) hv).2)
         (fun i a j c' v ha hc hv=>by
          have e:b0+off*b.sz+i*b.sz+j=b0+(off+i)*b.sz+j:=by rw [Nat.add_mul];omega
          rw [e] at hv;have:g i j=v:=by simp only [g,Array.getD_eq_getD_getElem?,hv,Option.getD_some]
          rw [←this];exact r1 i a j c' ha hc)
        rw [l1] at hM;rw [h1];exact hM
     ·simp at ht
    ·simp at ht
   ·simp at ht
  |_=>simp [aN] at ht
 |pt es=>
  cases x with
  |fe z o=>
   simp only [aN,Option.some.injEq,Prod.mk.injEq] at ht;obtain ⟨rfl,rfl⟩:=ht;exact ⟨hx.eG.shrink fun c hc=>(hk c hc).1,fun _=>rfl,fun h=>by simp at h⟩
  |ptr id ad idx off=>
   rcases idx with _|idx
   rotate_left
   ·simp [aN] at ht
   rcases off with _|off
   rotate_left
   ·simp [aN] at ht
   simp only [aN] at ht;split at ht
   ·rename_i oS sz oT z hb;split at ht
    ·rename_i y' L' hm
     simp only [Option.some.injEq,Prod.mk.injEq] at ht;obtain ⟨rfl,rfl⟩:=ht;refine ⟨?_,fun _=>rfl,fun h=>by simp at h⟩
     have hg:=(J.bn hb).1;obtain ⟨bE,_,hr⟩:=hx.fk;obtain ⟨c,b0,q1,rfl⟩:=hr _ hb;obtain ⟨bk,aX,af⟩:=ae.ap id _ q1;rw [hg] at aX;simp only [Option.some.injEq] at aX;subst aX;obtain ⟨arr,T,fr,k1,k2,k3,k4⟩:=af.here c b0 rfl;have cR:=bD.del L id;have dg:=fw es _ _ _ _ hm;have hJ:L'.get id=none:=by
      cases hq:L'.get id with
      |none=>rfl
      |some b=>have:=dg.get _ _ hq;rw [J.iK,if_pos rfl] at this;simp at this
     have cu:z.cells.length=sz:=af.sized 0 z rfl;simp only [List.length_singleton,Nat.one_mul] at k3
     let vs:List Value:=(arr.extract b0 (b0+sz)).toList
     have dC:vs.length=sz:=by simp [vs];omega
     have fW: ∀j u,vs[j]? =some u→arr[b0+j]? =some u:=by
      intro j u hu;simp only [vs,Array.getElem?_toList,Array.getElem?_extract] at hu;split at hu
      ·exact hu
      ·simp at hu
     obtain ⟨l1,r1⟩:=rn es z vs _ _ _ A' _ _ (ef ae cR) (by rw [dC,cu]) (fun j c' u hj hu=>((k4 0 z j c' u rfl hj (by simpa using fW j u hu)).1).mono (c5 cR)) hm (fun c hc=>by
      obtain ⟨k1,k2⟩:=hk c hc;exact ⟨k1,fun ho=>by rw [fT dg];exact k2 (bJ ho)⟩)
     have:=FR.fe (A:=A') (br y') 0 c b0 arr T fr k1 (fun hA=>rl ae q1 hJ (hk c hA)) (by rw [l1,cu];exact k3)
      (fun j v hj hv=>by
       rw [l1] at hj;exact (k4 0 z j _ v rfl (List.getElem?_eq_getElem hj) (by simpa using hv)).2)
      (fun j c' v hc hv=>by
       have hj:j<sz:=by rw [←cu,←l1];exact (List.getElem?_eq_some_iff.1 hc).1
       exact r1 j c' v hc (by simp only [vs,Array.getElem?_toList,Array.getElem?_extract];rw [if_pos (by omega)];exact hv))
     simpa [br] using this
    ·simp at ht
   ·simp at ht
  |_=>simp [aN] at ht
 termination_by (SizeOf.sizeOf sh,0)
theorem rn (es:List Sh) (x:AV) (vs:List Value) (L:J) (φL:ag) (AL A' :ah) (y:AV) (L1:J) (ae:St w L φL AL) (hl:x.cells.length=vs.length)
 (hx: ∀(j:Nat) (c:AV) (u:Value),x.cells[j]? =some c→vs[j]? =some u→R w L φL AL c u) (ht:aY es x L=some (y,L1)) (hk: ∀c,A' c→gone φL AL L1 c):
 (br y).cells.length=x.cells.length∧ ∀(j:Nat) (c:AV) (u:Value),(br y).cells[j]? =some c→vs[j]? =some u→FR w A' c u:=by
 by_cases bX: ∃cs,x= .agg cs
 ·obtain ⟨cs,rfl⟩:=bX;obtain ⟨aW,hc,rfl⟩:=k9 ht;exact o0 es cs vs L φL AL A' aW L1 ae hl hx hc hk
 ·have dw: ∀cs,x≠ .agg cs:=fun cs h=>bX ⟨cs,h⟩;obtain ⟨e,rfl,cz⟩:=jm dw ht;by_cases hu:x= .undef
  ·subst hu;have fL:vs=[]:=List.eq_nil_of_length_eq_zero (by simpa [AV.cells] using hl.symm)
   subst fL;obtain ⟨_,_,h4⟩:=mq e .undef undef L φL AL A' y L1 ae (.fr _ _ (.undef _)) cz hk
   exact ⟨by rw [h4 rfl],by simp⟩
  ·have di:=cells_one hu dw;rw [di] at hl;obtain ⟨v,rfl⟩: ∃v,vs=[v]:=by
    match vs,hl with
    |[v],_=>exact ⟨v,rfl⟩
   obtain ⟨h2,h3,_⟩:=mq e x v L φL AL A' y L1 ae (hx 0 x v (by rw [di];rfl) rfl) cz hk
   refine ⟨by rw [h3 hu,di];rfl,fun j c u hj aM=> ?_⟩
   rw [h3 hu] at hj;cases j with
   |zero=>simp at hj aM;subst hj;subst aM;exact h2
   |succ j=>simp at hj
 termination_by (SizeOf.sizeOf es,1)
theorem o0 (es:List Sh) (cs:List AV) (vs:List Value) (L:J) (φL:ag) (AL A' :ah) (ys:List AV) (L1:J) (ae:St w L φL AL) (hl:cs.length=vs.length)
 (hx: ∀(j:Nat) (c:AV) (u:Value),cs[j]? =some c→vs[j]? =some u→R w L φL AL c u) (ht:ck es cs L=some (ys,L1)) (hk: ∀c,A' c→gone φL AL L1 c):
 (bU ys).length=cs.length∧ ∀(j:Nat) (c:AV) (u:Value),(bU ys)[j]? =some c→vs[j]? =some u→FR w A' c u:=by
 match es,cs,ht with
 |[],[],ht=>
  simp only [ck,Option.some.injEq,Prod.mk.injEq] at ht;obtain ⟨rfl,rfl⟩:=ht;exact ⟨rfl,by simp [bU]⟩
 |e::es,x::cs,ht=>
  simp only [ck] at ht;split at ht
  ·rename_i y L' h1
   split at ht
   ·rename_i aU c9 h2
    simp only [Option.some.injEq,Prod.mk.injEq] at ht;obtain ⟨rfl,rfl⟩:=ht;have da:=oX e x L y L' h1
    have dg:=oY es cs L' aU c9 h2
    match vs,hl with
    |v::vs,hl=>
     obtain ⟨r1,_,_⟩:=mq e x v L φL AL A' y L' ae (hx 0 x v rfl rfl) h1 (fun c hc=>oW dg (hk c hc))
     obtain ⟨l2,r2⟩:=o0 es cs vs L' (aE φL L') AL A' aU c9 (ef ae da) (by simpa using hl) (fun j c u hj hu=>(hx (j+1) c u hj hu).mono (c5 da)) h2 (fun c hc=>by
      obtain ⟨k1,k2⟩:=hk c hc;exact ⟨k1,fun ho=>by rw [fT dg];exact k2 (bJ ho)⟩)
     refine ⟨by simp [bU,l2],fun j c u hj hu=> ?_⟩
     cases j with
     |zero=>simp [bU] at hj hu;subst hj;subst hu;exact r1
     |succ j=>exact r2 j c u (by simpa [bU] using hj) hu
   ·simp at ht
  ·simp at ht
 |[],_::_,ht=>simp [ck] at ht
 |_::_,[],ht=>simp [ck] at ht
 termination_by (SizeOf.sizeOf es,0)
end
end bz
end Go.VS
namespace Go.VS
section yF
variable {w:World} {H:J} {φ :ag} {A:ah}
theorem mapM_some {α β :Type} {f: α →Option β}: ∀{xs:List α} {ys:List β},xs.mapM f=some ys→ys.length=xs.length∧ ∀(i:Nat) (x: α) (y: β),xs[i]? =some x→ys[i]? =some y→f x=some y
 |[],ys,h=>by simp at h;subst h;simp
 |x::xs,ys,h=>by
  simp only [List.mapM_cons,Option.bind_eq_bind,Option.bind_eq_some_iff,Option.pure_def,Option.some.injEq] at h;obtain ⟨y,h1,aU,h2,rfl⟩:=h;obtain ⟨hl,hp⟩:=mapM_some h2;refine ⟨by simp [hl],fun i a b ha hb=> ?_⟩
  cases i with
  |zero=>simp at ha hb;subst ha;subst hb;exact h1
  |succ i=>exact hp i a b ha hb
def fy (φ :ag) (A:ah):ah:=fun c=>A c∧ ¬Ow φ c
def k_ (w:World) (H:J) (φ :ag) (A:ah) (n:Nat):Prop:= ∀(x:AV) (v:Value) (y:AV),R w H φ A x v→aO n H x=some y→
 FR w (fy φ A) y v∧(eQ x=false→FR w A y v)∧((∀cs,x≠ .agg cs)→x≠ .undef→y.cells=[y])∧(x= .undef→y= .undef)
def rq (w:World) (H:J) (φ :ag) (A:ah) (n:Nat):Prop:= ∀(x:AV) (vs:List Value) (y:AV),x.cells.length=vs.length→
 (∀(j:Nat) (c:AV) (u:Value),x.cells[j]? =some c→vs[j]? =some u→R w H φ A c u)→aO n H x=some y→
 y.cells.length=x.cells.length∧ ∀(j:Nat) (c:AV) (u:Value),y.cells[j]? =some c→vs[j]? =some u→FR w (fy φ A) c u
theorem o7: ∀{xs:List AV},lQ xs=false→ ∀(i:Nat) (x:AV),xs[i]? =some x→eQ x=false
 |[],_,i,x,h=>by simp at h
 |y::ys,hl,i,x,h=>by
  simp only [lQ,Bool.or_eq_false_iff] at hl;cases i with
  |zero=>simp at h;subst h;exact hl.1
  |succ i=>exact o7 hl.2 i x h
theorem rr {n:Nat} (hV:k_ w H φ A n) (yG: ∀m,n=m+1→k_ w H φ A m):rq w H φ A n:=by
 intro x vs y hl hx hs;by_cases bX: ∃cs,x= .agg cs
 ·obtain ⟨cs,rfl⟩:=bX;cases n with
  |zero=>simp [aO] at hs
  |succ n=>
   simp only [aO,Option.map_eq_some_iff] at hs;obtain ⟨ys,hm,rfl⟩:=hs;obtain ⟨l1,p1⟩:=mapM_some hm;refine ⟨l1,fun j c u hj hu=> ?_⟩;have dP:j<cs.length:=by rw [←l1];exact (List.getElem?_eq_some_iff.1 hj).1
   have hc:=List.getElem?_eq_getElem dP;exact (yG n rfl _ _ _ (hx j _ u hc hu) (p1 j _ c hc hj)).1
 ·have dw: ∀cs,x≠ .agg cs:=fun cs h=>bX ⟨cs,h⟩;by_cases hu:x= .undef
  ·subst hu;have fL:vs=[]:=List.eq_nil_of_length_eq_zero (by simpa [AV.cells] using hl.symm)
   subst fL;have:=(hV .undef undef y (.fr _ _ (.undef _)) hs).2.2.2 rfl;subst this;exact ⟨rfl,by simp⟩
  ·have di:=cells_one hu dw;rw [di] at hl;obtain ⟨v,rfl⟩: ∃v,vs=[v]:=by
    match vs,hl with
    |[v],_=>exact ⟨v,rfl⟩
   obtain ⟨h1,_,h3,_⟩:=hV x v y (hx 0 x v (by rw [di];rfl) rfl) hs
   have h3:=h3 dw hu;refine ⟨by rw [h3,di];rfl,fun j c u hj aM=> ?_⟩
   rw [h3] at hj;cases j with
   |zero=>simp at hj aM;subst hj;subst aM;exact h1
   |succ j=>simp at hj
theorem ru (ae:St w H φ A): ∀n,k_ w H φ A n∧rq w H φ A n
 |0=>by
  have h0:k_ w H φ A 0:=fun x v y _ hs=>by simp [aO] at hs
  exact ⟨h0,rr h0 (fun m h=>by omega)⟩
 |n+1=>by
  obtain ⟨hV,hE⟩:=ru ae n;have key:k_ w H φ A (n+1):=by
   have bw: ∀c,fy φ A c→A c:=fun c h=>h.1;have rv: ∀c,Ow φ c→ ¬fy φ A c:=fun c h hl=>hl.2 h;have same: ∀{x:AV} {v:Value},FR w A x v→x.cells=[x]→FR w (fy φ A) x v∧(eQ x=false→FR w A x v)∧((∀cs,x≠ .agg cs)→x≠ .undef→x.cells=[x])∧(x= .undef→x= .undef):=
    fun h hc=>⟨h.shrink bw,fun _=>h,fun _ _=>hc,fun h=>h⟩
   intro x v y hx hs;cases x with
   |undef=>simp only [aO,Option.some.injEq] at hs;subst hs;exact ⟨.undef _,fun _=> .undef _,fun _ h=>absurd rfl h,fun h=>h⟩
   |int k n=>simp only [aO,Option.some.injEq] at hs;subst hs;cases hx with|fr _ _ h=>exact same h rfl
   |bool b=>simp only [aO,Option.some.injEq] at hs;subst hs;cases hx with|fr _ _ h=>exact same h rfl
   |str s=>simp only [aO,Option.some.injEq] at hs;subst hs;cases hx with|fr _ _ h=>exact same h rfl
   |cj b=>simp only [aO,Option.some.injEq] at hs;subst hs;cases hx with|fr _ _ h=>exact same h rfl
   |dy=>simp only [aO,Option.some.injEq] at hs;subst hs;cases hx with|fr _ _ h=>exact same h rfl
   |fz xs=>simp only [aO,Option.some.injEq] at hs;subst hs;cases hx with|fr _ _ h=>exact same h rfl
   |fe x o=>simp only [aO,Option.some.injEq] at hs;subst hs;cases hx with|fr _ _ h=>exact same h rfl
   |own sz xs=>simp [aO] at hs
   |dm sz x=>simp [aO] at hs
   |ay xs=>simp [aO] at hs
   |nil=>
    simp only [aO,Option.some.injEq] at hs;subst hs;have:=hx.c8;subst this;exact ⟨.cH _ _,fun _=> .cH _ _,fun _ _=>rfl,fun h=>by simp at h⟩
   |e0=>
    simp only [aO,Option.some.injEq] at hs;subst hs;obtain ⟨a,rfl⟩:=hx.eH;exact ⟨.cH _ _,fun _=> .cH _ _,fun _ _=>rfl,fun h=>by simp at h⟩
   |agg cs=>
    simp only [aO,Option.map_eq_some_iff] at hs;obtain ⟨ys,hm,rfl⟩:=hs;obtain ⟨l1,p1⟩:=mapM_some hm;obtain ⟨vs,rfl,hl,ho,hp⟩:=hx.fM;have hc: ∀(i:Nat) (z:AV) (u:Value),ys[i]? =some z→vs[i]? =some u→ ∃c,cs[i]? =some c∧R w H φ A c u∧aO n H c=some z:=by
     intro i z u hz hu;have cg:i<cs.length:=by rw [←l1];exact (List.getElem?_eq_some_iff.1 hz).1
     have hc:=List.getElem?_eq_getElem cg;exact ⟨_,hc,hp i _ u hc hu,p1 i _ z hc hz⟩
    refine ⟨.agg _ _ (by rw [l1,hl]) ho fun i z u hz hu=> ?_,fun hlen=> .agg _ _ (by rw [l1,hl]) ho fun i z u hz hu=> ?_,fun h _=>absurd rfl (h cs),fun h=>by simp at h⟩
    ·obtain ⟨c,h1,h2,h3⟩:=hc i z u hz hu;exact (hV c u z h2 h3).1
    ·obtain ⟨c,h1,h2,h3⟩:=hc i z u hz hu;exact (hV c u z h2 h3).2.1 (o7 (by simpa [eQ] using hlen) i c h1)
   |fn f cs=>
    simp only [aO,Option.map_eq_some_iff] at hs;obtain ⟨ys,hm,rfl⟩:=hs;obtain ⟨l1,p1⟩:=mapM_some hm;obtain ⟨vs,rfl,hl,hp⟩:=hx.kD;have hc: ∀(i:Nat) (z:AV) (u:Value),ys[i]? =some z→vs[i]? =some u→ ∃c,cs[i]? =some c∧R w H φ A c u∧aO n H c=some z:=by
     intro i z u hz hu;have cg:i<cs.length:=by rw [←l1];exact (List.getElem?_eq_some_iff.1 hz).1
     have hc:=List.getElem?_eq_getElem cg;exact ⟨_,hc,hp i _ u hc hu,p1 i _ z hc hz⟩
    refine ⟨.fn _ _ _ (by rw [l1,hl]) fun i z u hz hu=> ?_,fun hlen=> .fn _ _ _ (by rw [l1,hl]) fun i z u hz hu=> ?_,fun _ _=>rfl,fun h=>by simp at h⟩
    ·obtain ⟨c,h1,h2,h3⟩:=hc i z u hz hu;exact (hV c u z h2 h3).1
    ·obtain ⟨c,h1,h2,h3⟩:=hc i z u hz hu;exact (hV c u z h2 h3).2.1 (o7 (by simpa [eQ] using hlen) i c h1)
   |ptr id ad idx off=>
    simp only [aO] at hs;split at hs
    ·rename_i b hb;split at hs
     ·rename_i x' bF
      simp only [Option.map_eq_some_iff] at hs;obtain ⟨y',hy,rfl⟩:=hs;have hg:=(J.bn hb).1;obtain ⟨bE,_,hr⟩:=hx.fk;obtain ⟨c,b0,q1,rfl⟩:=hr _ hb;obtain ⟨bk,aX,af⟩:=ae.ap id _ q1;rw [hg] at aX;simp only [Option.some.injEq] at aX;subst aX;obtain ⟨arr,T,fr,k1,k2,k3,k4⟩:=af.here c b0 rfl;have yH:idx<b.el.length:=(List.getElem?_eq_some_iff.1 bF).1;have hle:=cK (n:=b.sz) yH;have cq:=af.sized _ _ bF
      let o:=b0+idx*b.sz
      let vs:List Value:=(arr.extract o (o+b.sz)).toList
      have dC:vs.length=b.sz:=by simp [vs,o];omega
      have fW: ∀j u,vs[j]? =some u→arr[o+j]? =some u:=by
       intro j u hu;simp only [vs,Array.getElem?_toList,Array.getElem?_extract] at hu;split at hu
       ·exact hu
       ·simp at hu
      obtain ⟨l1,r1⟩:=hE x' vs y' (by rw [dC,cq]) (fun j c' u hj hu=>(k4 idx x' j c' u bF hj (fW j u hu)).1) hy
      refine ⟨?_,fun h=>by simp [eQ] at h,fun _ _=>rfl,fun h=>by simp at h⟩
      refine FR.fe y' off c o arr T fr k1 (rv c ⟨id,b0,q1⟩) (by rw [l1,cq];omega) (fun j v hj hv=> ?_) (fun j c' v hc hv=> ?_)
      ·rw [l1] at hj;exact (k4 idx x' j _ v bF (List.getElem?_eq_getElem hj) hv).2
      ·have hj:j<b.sz:=by rw [←cq,←l1];exact (List.getElem?_eq_some_iff.1 hc).1
       exact r1 j c' v hc (by simp only [vs,Array.getElem?_toList,Array.getElem?_extract];rw [if_pos (by omega)];exact hv)
     ·simp at hs
    ·simp at hs
   |ref id ad off len=>
    simp only [aO] at hs;split at hs
    ·rename_i b hb;split at hs
     ·rename_i BQ;simp only [Option.map_eq_some_iff] at hs;obtain ⟨ys,hm,rfl⟩:=hs;obtain ⟨l1,p1⟩:=mapM_some hm;have hg:=(J.bn hb).1;obtain ⟨bE,_,hr⟩:=hx.df;obtain ⟨loc,a0,cap,q1,rfl,q3,q4,q5,q6⟩:=(hr b hb).out;obtain ⟨bk,aX,af⟩:=ae.ap id _ q1;rw [hg] at aX;simp only [Option.some.injEq] at aX;subst aX;have bw:(aD b.el off len).length=len:=by simp [aD];omega
      have fV: ∀(i:Nat) (x:AV),(aD b.el off len)[i]? =some x→b.el[off+i]? =some x:=by
       intro i x hi;simp only [aD,List.getElem?_take,List.getElem?_drop] at hi;split at hi
       ·exact hi
       ·simp at hi
      rw [bw] at l1;refine ⟨?_,fun h=>by simp [eQ] at h,fun _ _=>rfl,fun h=>by simp at h⟩
      rcases Nat.eq_zero_or_pos len with cv|yB
      ·subst cv;have:=List.eq_nil_of_length_eq_zero l1;subst this;exact .cH _ _
      ·cases loc with
       |aQ=>have:=af.aQ rfl;rw [this] at q3;simp at q3;omega
       |at_ c b0=>
        simp only at q6;rcases q6 with q6|⟨h1,h2⟩
        ·omega
        obtain ⟨arr,T,fr,k1,k2,k3,k4⟩:=af.here c b0 rfl;have hmul:(off+len)*b.sz≤b.el.length*b.sz:=Nat.mul_le_mul_right _ q3;have yC:(off+len)*b.sz=off*b.sz+len*b.sz:=Nat.add_mul _ _ _;have ry: ∀(i:Nat) (a:AV),ys[i]? =some a→a.cells.length=b.sz∧ ∀(j:Nat) (c' :AV) (v:Value),a.cells[j]? =some c' →arr[b0+(off+i)*b.sz+j]? =some v→FR w (fy φ A) c' v:=by
         intro i a ha;have hi:i<len:=by rw [←l1];exact (List.getElem?_eq_some_iff.1 ha).1
         have hx:=List.getElem?_eq_getElem (l:=aD b.el off len) (by rw [bw];exact hi)
         have bF:=fV i _ hx
         have cq:=af.sized _ _ bF;have hle:=cK (n:=b.sz) (show off+i<b.el.length by omega)
         let o:=b0+(off+i)*b.sz
         let vs:List Value:=(arr.extract o (o+b.sz)).toList
         have dC:vs.length=b.sz:=by simp [vs,o];omega
         have fW: ∀j u,vs[j]? =some u→arr[o+j]? =some u:=by
          intro j u hu;simp only [vs,Array.getElem?_toList,Array.getElem?_extract] at hu;split at hu
          ·exact hu
          ·simp at hu
         obtain ⟨l2,r2⟩:=hE _ vs a (by rw [dC,cq]) (fun j c' u hj hu=>(k4 _ _ j c' u bF hj (fW j u hu)).1) (p1 i _ a hx ha)
         refine ⟨by rw [l2,cq],fun j c' v hc hv=>r2 j c' v hc ?_⟩
         have hj:j<b.sz:=by rw [←cq,←l2];exact (List.getElem?_eq_some_iff.1 hc).1
         simp only [vs,Array.getElem?_toList,Array.getElem?_extract];rw [if_pos (by omega)];exact hv
        have hM:=FR.fz (A:=fy φ A) ys c (b0+off*b.sz) cap b.sz arr T fr k1 (rv c ⟨id,b0,q1⟩) (by rw [l1];exact q4) (by rw [l1];omega)
         (fun i a ha=>(ry i a ha).1)
         (fun j v hj hv=>by
          rw [l1] at hj;have en:0<b.sz:=by
           rcases Nat.eq_zero_or_pos b.sz with h|h
           ·rw [h] at hj;simp at hj
           ·exact h
          have yD:j/b.sz<len:=Nat.div_lt_of_lt_mul (by rw [Nat.mul_comm];exact hj)
          have oZ:j % b.sz<b.sz:=Nat.mod_lt _ en;have yE:j=(j/b.sz)*b.sz+j % b.sz:=by rw [Nat.mul_comm];exact (Nat.div_add_mod j b.sz).symm
          have bR:off+j/b.sz<b.el.length:=by omega
          have hx:=List.getElem?_eq_getElem bR;have cq:=af.sized _ _ hx;have e:b0+off*b.sz+j=b0+(off+j/b.sz)*b.sz+j % b.sz:=by rw [Nat.add_mul];omega
          rw [e] at hv;exact (k4 _ _ _ _ v hx (List.getElem?_eq_getElem (show j % b.sz<_ by rw [cq];exact oZ)) hv).2)
         (fun i a j c' v ha hc hv=>by
          have e:b0+off*b.sz+i*b.sz+j=b0+(off+i)*b.sz+j:=by rw [Nat.add_mul];omega
          rw [e] at hv;exact (ry i a ha).2 j c' v hc hv)
        rw [l1] at hM;rw [h1];exact hM
     ·simp at hs
    ·simp at hs
  exact ⟨key,rr key (fun m h=>by have:m=n:=by omega
                                 subst this;exact hV)⟩
end yF
end Go.VS
namespace Go.VS
theorem rz: ∀(ys:List AV) (L:J),(∀(i:Nat) (z:AV),ys[i]? =some z→ ∀L,aF z L=(z,L))→aH ys L=(ys,L)
 |[],L,_=>rfl
 |y::ys,L,h=>by
  have h1:=h 0 y rfl L;have h2:=rz ys L (fun i z hz=>h (i+1) z hz);simp only [aH,h1,h2]
theorem mr (H:J): ∀(n:Nat) (x y:AV),aO n H x=some y→ ∀L,aF y L=(y,L)
 |0,x,y,h,L=>by simp [aO] at h
 |n+1,x,y,h,L=>by
  cases x with
  |agg cs=>
   simp only [aO,Option.map_eq_some_iff] at h;obtain ⟨ys,hm,rfl⟩:=h;obtain ⟨l1,p1⟩:=mapM_some hm;have:=rz ys L (fun i z hz=>by
    have cg:i<cs.length:=by rw [←l1];exact (List.getElem?_eq_some_iff.1 hz).1
    exact mr H n _ z (p1 i _ z (List.getElem?_eq_getElem cg) hz))
   simp only [aF,this]
  |fn f cs=>simp only [aO,Option.map_eq_some_iff] at h;obtain ⟨ys,_,rfl⟩:=h;rfl
  |ref id ad off len=>
   simp only [aO] at h;split at h
   ·split at h
    ·simp only [Option.map_eq_some_iff] at h;obtain ⟨ys,_,rfl⟩:=h;rfl
    ·simp at h
   ·simp at h
  |ptr id ad idx off=>
   simp only [aO] at h;split at h
   ·split at h
    ·simp only [Option.map_eq_some_iff] at h;obtain ⟨ys,_,rfl⟩:=h;rfl
    ·simp at h
   ·simp at h
  |own sz xs=>simp [aO] at h
  |dm sz xs=>simp [aO] at h
  |ay xs=>simp [aO] at h
  |_=>simp only [aO,Option.some.injEq] at h;subst h;rfl
def hN (H:J) (φ :ag) (L0:J) (aC:ag) (a x:AV):Prop:=
 ∃k kv bk,kB x=some (k,kv)∧L0.ap k kv=some bk∧(∃loc,aC k=some loc)∧(dH a=none→bk.el=[])∧
  ∀id ad,dH a=some (id,ad)→ ∃b c b0,H.ap id ad=some b∧bk.sz=b.sz∧bk.el.length=b.el.length∧ φ id=some (.at_ c b0)∧aC k=some (.at_ c b0)
def b8 (H:J) (φ :ag) (L0:J) (aC:ag):List Mode→List AV→List AV→Prop
 | .io::ms,a::as,x::xs=>hN H φ L0 aC a x∧b8 H φ L0 aC ms as xs
 |_::ms,_::as,_::xs=>b8 H φ L0 aC ms as xs
 |_,_,_=>True
theorem J.rA {L L1:J} (h:bD L L1) {id ad:Nat} {b:bB} (hb:L1.ap id ad=some b):L.ap id ad=some b:=by
 obtain ⟨h1,h2⟩:=J.bn hb;have:=J.gn (h.get id b h1)
 rwa [h2] at this
theorem o8 {L L1:J} (h: ∀id b,L.get id=some b→L1.get id=some b) {id ad:Nat} {b:bB} (hb:L.ap id ad=some b):L1.ap id ad=some b:=by
 obtain ⟨h1,h2⟩:=J.bn hb;have:=J.gn (h id b h1)
 rwa [h2] at this
theorem hN.mono {H H' :J} {φ :ag} {L0 L1:J} {aC φ1:ag} {a x:AV} (hl:bD H H') (bC: ∀id b,L0.get id=some b→L1.get id=some b) (b4: ∀id loc,aC id=some loc→ φ1 id=some loc)
 (h:hN H' (aE φ H') L0 aC a x):hN H φ L1 φ1 a x:=by
 obtain ⟨k,kv,bk,h1,h2,⟨loc,la⟩,h3,h4⟩:=h;refine ⟨k,kv,bk,h1,o8 bC h2,⟨loc,b4 _ _ la⟩,h3,fun id ad hr=> ?_⟩;obtain ⟨b,c,b0,q1,q2,q3,q4,q5⟩:=h4 id ad hr;exact ⟨b,c,b0,J.rA hl q1,q2,q3,(dh q4).1,b4 _ _ q5⟩
theorem b8.mono {H H' :J} {φ :ag} {L0 L1:J} {aC φ1:ag} (hl:bD H H') (bC: ∀id b,L0.get id=some b→L1.get id=some b) (b4: ∀id loc,aC id=some loc→ φ1 id=some loc):
 ∀{ms:List Mode} {as xs:List AV},b8 H' (aE φ H') L0 aC ms as xs→b8 H φ L1 φ1 ms as xs
 |[],_,_,_=>by simp [b8]
 | .io::ms,a::as,x::xs,h=>by
  simp only [b8] at h⊢;exact ⟨h.1.mono hl bC b4,b8.mono hl bC b4 h.2⟩
 | .val::ms,a::as,x::xs,h=>by
  simp only [b8] at h⊢;exact b8.mono hl bC b4 h
 | .eP::ms,a::as,x::xs,h=>by
  simp only [b8] at h⊢;exact b8.mono hl bC b4 h
 |m::ms,[],_,_=>by cases m<;>simp [b8]
 |m::ms,_::_,[],_=>by cases m<;>simp [b8]
section bz
variable {w:World} {A:ah}
theorem o9 {H:J} {φ :ag} {L:J} {φL:ag} (hd:bZ w H φ A L φL A) (sz:Nat) {a:AV} {u:Value} (hv: ∃p cap,u= .slice p 0 cap) (hr:dH a=none):
 ∃ φ1,ca w H φ A L φL A H (L.new sz true []) φ1∧R w (L.new sz true []) φ1 A (.ref L.bs.length L.st 0 0) u∧hN H φ (L.new sz true []) φ1 a (.ref L.bs.length L.st 0 0):=by
 obtain ⟨p,cap,rfl⟩:=hv;have m:=newAt (ca.refl hd) (sz:=sz) (fx:=true) (el:=[]) (loc:= .aQ) (by simp) (fun _=>rfl) (by simp)
 have hg:=J.ea L sz true [];refine ⟨_,m,.ref _ _ _ _ _ (Nat.lt_succ_self _) ⟨_,_,rfl⟩ fun b hb=> ?_,_,_,_,rfl,J.gn hg,⟨.aQ,by simp⟩,fun _=>rfl,fun id ad h=>by rw [hr] at h;simp at h⟩
 have:=j6 hg hb;subst this;exact ⟨.aQ,p,cap,by simp,rfl,by simp,Nat.zero_le _,by simp,rfl,fun h=>by simp at h⟩
theorem yI {H:J} {φ :ag} {L:J} {φL:ag} (hd:bZ w H φ A L φL A) {sh:List Sh} {a:AV} {u:Value} (ha:R w H φ A a u) {z:AV} {H1:J} (hz:e9 .io sh a H=some (z,H1)):
 (∃sz xs φ1,z= .own sz xs∧ca w H φ A L φL A H1 ((aH xs L).2.new sz true (aH xs L).1) φ1∧
  R w ((aH xs L).2.new sz true (aH xs L).1) φ1 A (.ref (aH xs L).2.bs.length (aH xs L).2.st 0 (aH xs L).1.length) u∧
  hN H φ ((aH xs L).2.new sz true (aH xs L).1) φ1 a (.ref (aH xs L).2.bs.length (aH xs L).2.st 0 (aH xs L).1.length))∨
 (∃sz x φ1,z= .dm sz x∧ca w H φ A L φL A H1 (aF z L).2 φ1∧R w (aF z L).2 φ1 A (aF z L).1 u∧hN H φ (aF z L).2 φ1 a (aF z L).1):=by
 cases a with
 |nil=>
  simp only [e9,Option.some.injEq,Prod.mk.injEq] at hz;obtain ⟨rfl,rfl⟩:=hz;obtain ⟨φ1,h1,h2,h3⟩:=o9 hd (iB sh).length (a:= .nil) ⟨none,0,ha.c8⟩ rfl;exact .inl ⟨_,_,φ1,rfl,h1,h2,h3⟩
 |e0=>
  simp only [e9,Option.some.injEq,Prod.mk.injEq] at hz;obtain ⟨rfl,rfl⟩:=hz;obtain ⟨a0,kY⟩:=ha.eH;obtain ⟨φ1,h1,h2,h3⟩:=o9 hd (iB sh).length (a:= .e0) ⟨a0,0,kY⟩ rfl;exact .inl ⟨_,_,φ1,rfl,h1,h2,h3⟩
 |ref id ad off len=>
  simp only [e9] at hz;split at hz
  ·rename_i b hb;obtain ⟨bE,_,hr⟩:=ha.df;obtain ⟨loc,a0,cap,q1,rfl,q3,q4,q5,q6⟩:=(hr b hb).out;split at hz
   ·rename_i cv;subst cv;simp only [Option.some.injEq,Prod.mk.injEq] at hz;obtain ⟨rfl,rfl⟩:=hz;obtain ⟨φ1,h1,h2,h3⟩:=o9 hd (iB sh).length (a:= .ref id ad off 0) ⟨a0,cap,rfl⟩ (by simp [dH])
    exact .inl ⟨_,_,φ1,rfl,h1,h2,h3⟩
   ·rename_i cv;split at hz
    ·rename_i yJ;obtain ⟨rfl,hlen⟩:=yJ;obtain ⟨e,rfl,ht⟩:=jm (by simp) hz
     cases e with
     |sc=>simp [aN,dp] at ht
     |pt es=>simp [aN] at ht
     |sl es=>
      simp only [aN,hb] at ht;split at ht
      ·rename_i hc;obtain ⟨c1,c2,c3⟩:=hc;split at ht
       ·rename_i ys L' hm
        simp only [Option.some.injEq,Prod.mk.injEq] at ht;obtain ⟨rfl,rfl⟩:=ht;left;have hg:=(J.bn hb).1;obtain ⟨bk,aX,af⟩:=hd.sl.ap id _ q1;rw [hg] at aX;simp only [Option.some.injEq] at aX;subst aX;have cR:=bD.del H id;have b5:bZ w (H.del id) (aE φ (H.del id)) A L φL A:=⟨ef hd.sl cR,hd.sh,fun c hc=>hd.b_ c (bJ hc),fun c hc=>hd.er c (bJ hc)⟩
        have bw:aD b.el 0 len=b.el:=by simp [aD,hlen]
        rw [bw] at hm;cases loc with
        |aQ=>have:=af.aQ rfl;rw [this] at hlen;simp at hlen;omega
        |at_ c b0=>
        simp only at q6;rcases q6 with q6|⟨h1,h2⟩
        ·omega
        obtain ⟨arr,T,fr,k1,k2,k3,k4⟩:=af.here c b0 rfl
        let g:Nat→Nat→Value:=fun i j=>arr.getD (b0+i*b.sz+j) undef
        have cy: ∀(i:Nat) (x:AV) (j:Nat) (y:AV),b.el[i]? =some x→x.cells[j]? =some y→R w (H.del id) (aE φ (H.del id)) A y (g i j):=by
         intro i x j y hi hj;have dP:j<b.sz:=by rw [←af.sized _ _ hi];exact (List.getElem?_eq_some_iff.1 hj).1
         have hle:=cK (n:=b.sz) (List.getElem?_eq_some_iff.1 hi).1;have ax:b0+i*b.sz+j<arr.size:=by omega
         have:g i j=arr[b0+i*b.sz+j]:=by
          simp only [g,Array.getD_eq_getD_getElem?,Array.getElem?_eq_getElem ax,Option.getD_some]
         rw [this];exact ((k4 _ _ _ _ _ hi hj (Array.getElem?_eq_getElem ax)).1).mono (c5 cR)
        obtain ⟨φ1,m,l1,s1,r1⟩:=oM (w:=w) (es:=es) (fun x vs L φL AL H φ AH y L1 a H1=>mm es x vs L φL AL H φ AH y L1 a H1) _ g _ _ _ _ _ _ _ _ _ _ b5 cy hm rfl (.inl fun _ h=>h)
        have kZ: ∀(i:Nat) (a:AV),(aH ys L).1[i]? =some a→a.cells.length=b.sz:=by
         intro i a ha;have cg:i<b.el.length:=by rw [←l1];exact (List.getElem?_eq_some_iff.1 ha).1
         have iL:=List.getElem?_eq_getElem cg;rw [s1 i _ a iL ha];exact af.sized _ _ iL
        have M:=mj (off:=0) (n:=len) hd hb c2 rfl q1 (fun c' oU arr' T' eS hl hh i j v hi hj hv=>by
         simp only [Loc.at_.injEq] at hl;obtain ⟨rfl,rfl⟩:=hl;rw [k1] at hh;simp only [Option.some.injEq,Obj.cells.injEq] at hh;obtain ⟨rfl,_,_⟩:=hh;simp only [Nat.zero_add] at hv;simp only [g,Array.getD_eq_getD_getElem?,hv,Option.getD_some]) m (by rw [l1,hlen]) kZ r1 true (.at_ c b0) (.inr ⟨c,b0,rfl,by simp⟩)
        rw [c1] at M;have mu:=J.ea (aH ys L).2 es.length true (aH ys L).1;refine ⟨_,_,_,rfl,M,?_,_,_,_,rfl,J.gn mu,⟨.at_ c b0,by simp⟩,fun h=>by simp [dH,cv] at h,fun fh fX h=> ?_⟩
        ·refine .ref _ _ _ _ _ (Nat.lt_succ_self _) ⟨a0,cap,by rw [l1,hlen]⟩ fun b' aw=> ?_
         have:=j6 mu aw;subst this;refine ⟨.at_ c b0,a0,cap,by simp,by rw [l1,hlen],by simp,by omega,by simp only;omega,?_⟩
         refine Or.inr ⟨by rw [h1];simp,?_⟩
         rw [c1] at h2;simpa using h2
        ·simp only [dH,cv,if_false,Option.some.injEq,Prod.mk.injEq] at h;obtain ⟨rfl,rfl⟩:=h;exact ⟨b,c,b0,hb,c1.symm,l1,q1,by simp⟩
       ·simp at ht
      ·simp at ht
    ·simp at hz
  ·simp at hz
 |ptr id ad idx off=>
  simp only [e9] at hz;obtain ⟨e,rfl,ht⟩:=jm (by simp) hz
  cases e with
  |sc=>simp [aN,dp] at ht
  |sl es=>simp [aN] at ht
  |pt es=>
   rcases idx with _|idx
   rotate_left
   ·simp [aN] at ht
   rcases off with _|off
   rotate_left
   ·simp [aN] at ht
   simp only [aN] at ht;split at ht
   ·rename_i oS sz oT z' hb
    split at ht
    ·rename_i y' L' hm
     simp only [Option.some.injEq,Prod.mk.injEq] at ht;obtain ⟨rfl,rfl⟩:=ht;right;have hg:=(J.bn hb).1;obtain ⟨bE,_,hr⟩:=ha.fk;obtain ⟨c,b0,q1,rfl⟩:=hr _ hb;obtain ⟨bk,aX,af⟩:=hd.sl.ap id _ q1;rw [hg] at aX;simp only [Option.some.injEq] at aX;subst aX;obtain ⟨arr,T,fr,k1,k2,k3,k4⟩:=af.here c b0 rfl;have cR:=bD.del H id;have b5:bZ w (H.del id) (aE φ (H.del id)) A L φL A:=⟨ef hd.sl cR,hd.sh,fun c hc=>hd.b_ c (bJ hc),fun c hc=>hd.er c (bJ hc)⟩
     have cu:z'.cells.length=sz:=af.sized 0 z' rfl
     simp only [List.length_singleton,Nat.one_mul] at k3
     let vs:List Value:=(arr.extract b0 (b0+sz)).toList
     have dC:vs.length=sz:=by simp [vs];omega
     have fW: ∀j u,vs[j]? =some u→arr[b0+j]? =some u:=by
      intro j u hu;simp only [vs,Array.getElem?_toList,Array.getElem?_extract] at hu;split at hu
      ·exact hu
      ·simp at hu
     obtain ⟨φ1,m,l1,r1⟩:=mm es z' vs _ _ _ _ _ _ _ _ _ _ b5 (by rw [dC,cu]) (fun j c' u hj hu=>((k4 0 z' j c' u rfl hj (by simpa using fW j u hu)).1).mono (c5 cR)) hm rfl (.inl fun _ h=>h)
     have M:=mj (as:=[(aF y' L).1]) (n:=1) (off:=0) (sz:=sz) (loc' := .at_ c b0) (g:=fun i j=>vs.getD j undef) hd hb (by simp) rfl q1 (fun c' oU arr' T' eS hl hh i j v hi hj hv=>by
      simp only [Loc.at_.injEq] at hl;obtain ⟨rfl,rfl⟩:=hl;rw [k1] at hh;simp only [Option.some.injEq,Obj.cells.injEq] at hh;obtain ⟨rfl,_,_⟩:=hh;have jl:i=0:=by omega
      subst jl;simp only [Nat.zero_mul,Nat.add_zero] at hv;have:vs[j]? =some v:=by
       simp only [vs,Array.getElem?_toList,Array.getElem?_extract];rw [if_pos (by omega)];exact hv
      simp [List.getD,this]) m rfl (fun i a ha=>by
      cases i with
      |zero=>simp at ha;subst ha;rw [l1,cu]
      |succ i=>simp at ha) (fun i a j c' ha hc=>by
      cases i with
      |zero=>
       simp at ha;subst ha;have hj:j<vs.length:=by rw [dC,←cu,←l1];exact (List.getElem?_eq_some_iff.1 hc).1
       have:=r1 j c' vs[j] hc (List.getElem?_eq_getElem hj)
       simpa [List.getD,hj] using this
      |succ i=>simp at ha) false (.inr ⟨c,b0,rfl,by simp⟩)
     have mu:=J.ea (aF y' L).2 sz false [(aF y' L).1]
     refine ⟨_,_,_,rfl,M,?_,_,_,_,rfl,J.gn mu,⟨.at_ c b0,by simp⟩,fun h=>by simp [dH] at h,fun fh fX h=> ?_⟩
     ·refine .ptr _ _ _ _ _ (Nat.lt_succ_self _) ⟨_,rfl⟩ fun b' aw=>⟨c,b0,by simp,?_⟩
      simp
     ·simp only [dH,Option.some.injEq,Prod.mk.injEq] at h;obtain ⟨rfl,rfl⟩:=h;exact ⟨_,c,b0,hb,rfl,rfl,q1,by simp⟩
    ·simp at ht
   ·simp at ht
 |_=>simp [e9] at hz
end bz
end Go.VS
