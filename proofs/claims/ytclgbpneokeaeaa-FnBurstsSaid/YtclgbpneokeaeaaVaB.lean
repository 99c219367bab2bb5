import Derived.Test.YtclgbpneokeaeaaVaA
namespace Go.VS
theorem xK (jI cap:Nat) (h:cap<jI):Builtin.nextslicecap jI cap≤2*jI+512:=by
 have g: ∀(r c:Nat),c≤2*jI+512→Builtin.growBy jI r c≤2*jI+512:=by
  intro r;induction r with
  |zero=>intro c hc;exact hc
  |succ r ih=>
   intro c hc;simp only [Builtin.growBy];split
   ·exact hc
   ·exact ih _ (by omega)
 unfold Builtin.nextslicecap;split
 ·omega
 ·split
  ·omega
  ·exact g _ _ (by omega)
section ops
variable {P:Program} {E:aL} (hE: ∀t ti,E t=some ti→aQ P t ti)
variable {w:World} {G:J} {φ :af} {A:ah}
theorem n5 {t:TypeId} {ti:TI} (h:aQ P t ti) (hn: ∀k,ti.aq≠ .it k) (w:World): ∃d,(underlying t).run P w= .ok d w∧(∀k,d≠ .int k):=by
 obtain ⟨i,d,z,_,hd,_,_,_,_,_,_,_,_,bd,_⟩:=h.out;exact ⟨d,run_underlying hd w,fun k hk=>hn k (by rw [←bd,hk];rfl)⟩
structure xL (P:Program) (w:World) (G:J) (φ :af) (A:ah) (xs:List AV) (v:Value) (sz:Nat) (cs:Array Value):Prop where
 len:(Builtin.lenOf v).run P w= .ok xs.length w
 run: ∀m,m≤xs.length→(Builtin.firstCells sz m v).run P w= .ok (cs.extract 0 (m*sz)) w
 size:cs.size=xs.length*sz
 rel: ∀(i:Nat) (x:AV) (j:Nat) (y:AV) (u:Value),xs[i]? =some x→x.cells[j]? =some y→cs[i*sz+j]? =some u→R w G φ A y u∧u.oneCell' =true
 one: ∀u∈cs.toList,u.oneCell' =true
theorem jJ {H0:J} (ae:St w G φ A) (hX:a7 H0 G) {x:AV} {v:Value} {xs:List AV} {sz:Nat} (hx:R w G φ A x v) (h:cA H0 x=some xs) (hs:bQ sz xs=true) (hz:0<sz):
 ∃cs,xL P w G φ A xs v sz cs:=by
 by_cases qF: ∃s,x= .str s
 ·obtain ⟨s,rfl⟩:=qF;obtain ⟨b,rfl,rfl⟩:=hx.et;simp only [cA,Option.some.injEq] at h;have cj:xs.length=b.size:=by rw [←h,List.length_map];exact Array.length_toList
  refine ⟨b.data.map fun c=> .int .u8 c.toNat,by simp [Builtin.lenOf,cj],fun m hm=> ?_,?_,fun i x j y u hi hy hu=> ?_,fun u hu=> ?_⟩
  ·have az:sz=1∨xs=[]:=by
    rcases xs with _|⟨y,ys⟩
    ·exact .inr rfl
    ·left;have:=gM (i:=0) hs rfl;have hy:(b.data.toList.map fun c:UInt8=>AV.int .u8 c.toNat)[0]? =some y:=by rw [h];rfl
     simp only [List.getElem?_map,Option.map_eq_some_iff] at hy;obtain ⟨c,_,rfl⟩:=hy;exact this.symm
   simp only [Builtin.firstCells,Sem.run_pure];congr 1;rcases az with rfl|rfl
   ·rw [ByteArray.data_extract,Nat.mul_one];apply Array.ext';simp
   ·simp at hm;subst hm;rw [ByteArray.data_extract];apply Array.ext';simp
  ·rcases xs with _|⟨y,ys⟩
   ·rw [Array.size_map,List.length_nil,Nat.zero_mul];exact cj.symm
   ·have:=gM (i:=0) hs rfl;have hy:(b.data.toList.map fun c:UInt8=>AV.int .u8 c.toNat)[0]? =some y:=by rw [h];rfl
    simp only [List.getElem?_map,Option.map_eq_some_iff] at hy;obtain ⟨c,_,rfl⟩:=hy;have h1:sz=1:=this.symm;subst h1;rw [Nat.mul_one,cj,Array.size_map];rfl
  ·rw [←h] at hi;simp only [List.getElem?_map,Option.map_eq_some_iff] at hi;obtain ⟨c,hc,rfl⟩:=hi;have h1:=gM hs (i:=i) (x:= .int .u8 c.toNat) (by rw [←h];simp [hc])
   have h1:sz=1:=h1.symm;subst h1;cases j with
   |zero=>
    simp only [AV.cells,List.getElem?_cons_zero,Option.some.injEq] at hy;subst hy;simp only [Nat.mul_one,Nat.add_zero,Array.getElem?_map,Option.map_eq_some_iff] at hu;obtain ⟨c',gI,rfl⟩:=hu;have:b.data[i]? =some c:=by simpa using hc
    rw [this] at gI;simp only [Option.some.injEq] at gI;subst gI;exact ⟨.fr _ _ (.int _ _),rfl⟩
   |succ j=>simp [AV.cells] at hy
  ·simp only [Array.toList_map,List.mem_map] at hu;obtain ⟨c,_,rfl⟩:=hu;rfl
 ·have bO:=n3 ae hX hx h hs (fun s hs=>qF ⟨s,hs⟩);obtain ⟨cs,c1,c2,c3,c4⟩:=bO.cells (P:=P) hz;refine ⟨cs,?_,fun m hm=> ?_,c2,c3,c4⟩
  ·rcases bO.out with ⟨rfl,a,cap,rfl⟩|⟨c,o,cap,arr,T,fr,rfl,_⟩<;>simp [Builtin.lenOf]
  ·rcases bO.out with ⟨rfl,a,cap,rfl⟩|⟨c,o,cap,arr,T,fr,rfl,h1,h2,_⟩
   ·simp at hm;subst hm;have:cs= #[]:=Array.eq_empty_of_size_eq_zero (by simpa using c2)
    subst this;cases a with
    |none=>simp [Builtin.firstCells]
    |some a=>simp [Builtin.firstCells,loadCells,loadCellsFrom]
   ·simp only [Builtin.firstCells] at c1⊢;have hle:m*sz≤xs.length*sz:=Nat.mul_le_mul_right _ hm;rw [kl P h1 o (xs.length*sz) h2] at c1;rw [kl P h1 o (m*sz) (by omega)]
    simp only [Result.ok.injEq,and_true] at c1;congr 1;rw [←c1];simp only [Array.extract_extract];congr 1<;>omega
theorem run_append_grow {t tx e:TypeId} {ti te eB:TI} (ht:aQ P t ti) (hu:ti.aq= .sl e) (bh:aQ P e te) (cC:aQ P tx eB) (fC: ∀k,eB.aq≠ .it k) (tys:Array TypeId) (h0:tys[0]? =some t) (h1:tys[1]? =some tx) (ty:TypeId)
 {base:Option Addr} {sLen sCap:Nat} {x:Value} {n:Nat} {gb iq:Array Value} (hlen:(Builtin.lenOf x).run P w= .ok n w) (hS:(Builtin.firstCells te.sz sLen (.slice base sLen sCap)).run P w.drew= .ok gb w.drew)
 (hX:(Builtin.firstCells te.sz n x).run P w.drew= .ok iq w.drew) (sS:gb.size=sLen*te.sz) (sX:iq.size=n*te.sz) (kz:sCap<sLen+n) (lP:roomy (sLen+n) te.bytes=true):
 ∃cap arr,sLen+n≤cap∧(Builtin.append_ tys ty #[.slice base sLen sCap,x]).run P w= .ok (.slice (some ⟨w.heap.size,0,none⟩) (sLen+n) cap) (w.drew.alloc (.cells arr e))∧arr.size=cap*te.sz∧
  ∀j,j<(sLen+n)*te.sz→arr[j]? =(gb ++ iq)[j]? :=by
 obtain ⟨d,hd,n9⟩:=n5 cC fC w;obtain ⟨inf,i1,i2,_⟩:=bh.typeInfo w;obtain ⟨zv,z1,z2,_⟩:=bh.zeroValue w.drew;simp only [roomy,Bool.and_eq_true,decide_eq_true_eq] at lP;obtain ⟨r1,r2⟩:=lP;have qG:(match d with| .int _=>true|_=>false)=false:=by cases d<;>first|rfl|exact absurd rfl (n9 _)
 have hb: ¬(Builtin.nextslicecap (sLen+n) sCap*inf.bytes>2^48):=by
  rw [i2];have h2:=xK (sLen+n) sCap kz;have h3:Builtin.nextslicecap (sLen+n) sCap*te.bytes≤(2*(sLen+n)+512)*te.bytes:=Nat.mul_le_mul_right _ h2;have h4:(2*(sLen+n)+512)*te.bytes≤2*((sLen+n+512)*te.bytes):=by
   rw [←Nat.mul_assoc];exact Nat.mul_le_mul_right _ (by omega)
  omega
 have lQ: ¬(((sLen+n:Nat):Int)>IntKind.i64.max):=by have:IntKind.i64.max=9223372036854775807:=rfl;omega
 let q:Question:= .appendCap (sLen+n) sCap e
 let cap:=q.cut (w.tape w.drawn q)
 have eX:sLen+n≤cap:=Nat.le_add_right _ _
 let arr:=gb ++ iq ++ Builtin.zeroCells zv.cells (cap-(sLen+n))
 have gN:(Builtin.zeroCells zv.cells (cap-(sLen+n))).size=(cap-(sLen+n))*te.sz:=by simp [Builtin.zeroCells,z2]
 refine ⟨cap,arr,eX,?_,?_,fun j hj=> ?_⟩
 ·unfold Builtin.append_;simp only [h0,h1,List.getElem?_toArray,List.getElem?_cons_zero,List.getElem?_cons_succ,Sem.run_bind,ht.sl w hu,Result.andThen_ok,bh.sizeOf,hd,Sem.run_pure];have lR: ¬(sLen+n≤sCap):=by omega
  obtain ⟨xM,n_,xN,_⟩:=bh.typeInfo w.drew;simp only [Bool.false_eq_true,if_false,Bool.not_false,if_true,Sem.run_bind,hlen,Result.andThen_ok,lR,i1,lQ,false_and,hb,run_choose,Question.forced,World.drew_eq,n_,run_askRoom];show ((Builtin.firstCells te.sz sLen (.slice base sLen sCap)).run P w.drew).andThen _=_;simp only [hS,hX,Result.andThen_ok,z1,Sem.run_bind,newRow,run_newObj,Sem.run_pure,World.alloc_eq];rfl
 ·simp only [arr,Array.size_append,sS,sX,gN];rw [←Nat.add_mul,←Nat.add_mul];congr 1;omega
 ·have:j<(gb ++ iq).size:=by simp only [Array.size_append,sS,sX];rw [←Nat.add_mul];exact hj
  simp only [arr];rw [Array.getElem?_append_left this]
end ops
end Go.VS
namespace Go.VS
section ops
variable {P:Program} {E:aL} (hE: ∀t ti,E t=some ti→aQ P t ti)
variable {w:World} {G:J} {φ :af} {A:ah}
theorem lS (ae:St w G φ A):Out w G φ A w.drew G φ A:=
 have aP:bF w G φ A w.drew G φ A:=⟨fun c a t fr hc hn=>⟨⟨fr,hc⟩,hn⟩,Nat.le_refl _,fun i b' aw _=>⟨b',aw,rfl,rfl,rfl,rfl,fun loc hl=>hl⟩,fun c _=>rfl⟩
 ⟨⟨ae.inj,ae.own,ae.bV,fun id loc h=>by
  obtain ⟨b,hb,ag⟩:=ae.ap id loc h;refine ⟨b,hb,ag.ad,ag.sized,ag.aN,fun c b0 hl=> ?_⟩;obtain ⟨arr,T,fr,h1,h2,h3,h4⟩:=ag.here c b0 hl;exact ⟨arr,T,fr,h1,h2,h3,fun i x j y v hx hy hv=>⟨(h4 i x j y v hx hy hv).1.mono aP,(h4 i x j y v hx hy hv).2⟩⟩⟩,
  ⟨rfl,rfl,rfl,Nat.le_refl _,fun _ _ _=>rfl,fun _ _=>rfl,fun _ h=> .inl h⟩,aP,fun _ h _=>h⟩
theorem bf.of {H0 H' :J} {r:Result Next} {x:AV} {v:Value} {w' :World} {aj:af} {A' :ah} (hr:r= .ok (.value v) w') (hx:R w' G aj A' x v) (ho:Out w G φ A w' G aj A')
 (bN: ∀id loc,aj id=some loc→ φ id=some loc∨(H0.bs.length≤id∧id<H'.bs.length)):bf w G φ A H0 H' r x:=⟨_,v,w',aj,A',hr,.inl rfl,hx,ho,bN⟩
include hE in
theorem qH {H0 H' :J} (ae:St w G φ A) (hX:a7 H' G) (bm:H0.bs.length<H'.bs.length→ φ H0.bs.length=none) {t tx:TypeId} {tys:Array TypeId} {ty:TypeId} (h0:tys[0]? =some t) (h1:tys[1]? =some tx) {te eB:TI} (bh:cD E t=some te)
 (cC:E tx=some eB) {k:IntKind} (hit:eB.aq= .it k) {n:Int} {z:AV} {a b:Value} (hs:R w G φ A .nil a) (hx:R w G φ A (.int .i64 n) b) (h:kb te n H0=some (z,H')):
 bf w G φ A H0 H' ((do pure (.value (←Builtin.append_ tys ty #[a,b])):Sem Next).run P w) z:=by
 obtain ⟨ti,e,ht,hu,ci⟩:=iV bh;have e1:=hs.cX;have e2:=hx.cg;subst e1;subst e2;unfold kb at h;split at h
 rotate_left
 ·simp at h
 rename_i zA hz;split at h
 rotate_left
 ·simp at h
 rename_i hcnd;obtain ⟨c0,c2,c3⟩:=hcnd;obtain ⟨inf,i1,i2,_⟩:=(hE _ _ ci).typeInfo w;simp only [roomy,Bool.and_eq_true,decide_eq_true_eq] at c2;obtain ⟨r1,r2⟩:=c2;have hn:IntKind.i64.wrap n=n:=IntWalk.i64_in n (by omega)
 have e1:(n.toNat+512)*te.bytes=n.toNat*te.bytes+512*te.bytes:=Nat.add_mul _ _ _;have hb: ¬(n*(inf.bytes:Int)>2^48):=by
  rw [i2];have e2:n*((te.bytes:Int))=((n.toNat*te.bytes:Nat):Int):=by
   rw [Int.natCast_mul,Int.toNat_of_nonneg (by omega)]
  rw [e2];omega
 have hd:=(hE _ _ cC).kg (w:=w) hit;have t1: ¬(IntKind.i64.wrap n<0):=by rw [hn];omega
 have aw: ¬(IntKind.i64.wrap n*(inf.bytes:Int)>2^48):=by rw [hn];exact hb
 by_cases oa:n=0
 ·rw [if_pos oa] at h;simp only [Option.some.injEq,Prod.mk.injEq] at h;obtain ⟨rfl,rfl⟩:=h;subst oa;refine bf.val ae ?_ (.fr _ _ .nil);unfold Builtin.append_;simp only [h0,h1,List.getElem?_toArray,List.getElem?_cons_zero,List.getElem?_cons_succ,Sem.run_bind,(hE _ _ ht).sl w hu,Result.andThen_ok,(hE _ _ ci).sizeOf,hd,Sem.run_pure,asInt,asIntOf];simp only [t1,if_true,if_false,Sem.run_bind,Sem.run_pure,Result.andThen_ok,i1,aw];rw [hn];simp
 ·rw [if_neg oa] at h;simp only [Option.some.injEq,Prod.mk.injEq] at h;obtain ⟨rfl,rfl⟩:=h;have dG:=lS ae;obtain ⟨zv,z1,z2,z3,z5⟩:=qz (hE _ _ ci) hz w.drew;obtain ⟨xM,n_,xN,_⟩:=(hE _ _ ci).typeInfo w.drew
  let q:Question:= .appendCap n.toNat 0 e
  let cap:=q.cut (w.tape w.drawn q)
  have eX:n.toNat≤cap:=Nat.le_add_right _ _
  let arr:=Builtin.zeroCells zv.cells n.toNat ++ Builtin.zeroCells zv.cells (cap-n.toNat)
  have gN: ∀m,(Builtin.zeroCells zv.cells m).size=m*te.sz:=fun m=>by simp [Builtin.zeroCells,z2]
  have xO:Builtin.nextslicecap n.toNat 0=n.toNat:=by unfold Builtin.nextslicecap;rw [if_pos (by omega)]
  have iu: ¬(n.toNat*inf.bytes>2^48):=by rw [i2];omega
  have lQ: ¬((n.toNat:Int)>IntKind.i64.max):=by have:IntKind.i64.max=9223372036854775807:=rfl;omega
  have aM: ¬(n.toNat*te.sz=0):=by
   intro h0;rcases Nat.mul_eq_zero.1 h0 with h0|h0<;>omega
  have cK:(Builtin.append_ tys ty #[.slice none 0 0,.int .i64 n]).run P w= .ok (.slice (some ⟨w.heap.size,0,none⟩) n.toNat cap) (w.drew.alloc (.cells arr e)):=by
   unfold Builtin.append_;simp only [h0,h1,List.getElem?_toArray,List.getElem?_cons_zero,List.getElem?_cons_succ,Sem.run_bind,(hE _ _ ht).sl w hu,Result.andThen_ok,(hE _ _ ci).sizeOf,hd,Sem.run_pure,asInt,asIntOf];simp only [t1,if_true,if_false,Sem.run_bind,Sem.run_pure,Result.andThen_ok,i1,aw];rw [hn];have lR: ¬(n.toNat≤0):=by omega
   have kA: ¬(Builtin.nextslicecap n.toNat 0*inf.bytes>2^48):=by rw [xO];exact iu
   simp only [Nat.zero_add];rw [if_neg lR];simp only [if_false,Sem.run_bind,Sem.run_pure,Result.andThen_ok,i1,lQ,false_and,kA,run_choose,Question.forced,World.drew_eq,n_,run_askRoom,Builtin.firstCells,aM,z1,newRow,run_newObj,World.alloc_eq,Array.empty_append,Bool.not_true,Bool.false_eq_true];rfl
  have dE:arr.size=cap*te.sz:=by
   simp only [arr,Array.size_append,gN];rw [←Nat.add_mul];congr 1;omega
  have cF: ∀(i:Nat) (x:AV),(List.replicate n.toNat zA)[i]? =some x→x.cells.length=te.sz:=by
   intro i x hx;simp only [List.getElem?_replicate] at hx;split at hx
   ·simp only [Option.some.injEq] at hx;subst hx;exact z3
   ·simp at hx
  have iT: ∀(i:Nat) (x:AV) (j:Nat) (y:AV) (v:Value),(List.replicate n.toNat zA)[i]? =some x→x.cells[j]? =some y→arr[i*te.sz+j]? =some v→R w.drew G φ A y v∧v.oneCell' =true:=by
   intro i x j y v hx hy hv;simp only [List.getElem?_replicate] at hx;split at hx
   ·rename_i hi;simp only [Option.some.injEq] at hx;subst hx;have hj:j<te.sz:=by rw [←z3];exact (List.getElem?_eq_some_iff.1 hy).1
    have ax:i*te.sz+j<n.toNat*te.sz:=by have:=cH (n:=te.sz) hi;omega
    simp only [arr] at hv;rw [Array.getElem?_append_left (by rw [gN];exact ax)] at hv
    have bC:zv.cells[j]? =some v:=by
     refine kx z2 hi hj ?_;rw [←hv];simp only [Builtin.zeroCells,z2]
    have:=z5 w.drew A j y v hy bC;exact ⟨.fr _ _ this.1,this.2⟩
   ·simp at hx
  obtain ⟨aj,A',bG,aU,bN⟩:=jF (arr:=arr) e dG.st hX (bm (by simp [J.new])) cF (by rw [dE];simpa using Nat.mul_le_mul_right _ eX) iT
  have hg:=hX.1 _ _ (J.dP H0 te.sz false (List.replicate n.toNat zA));exact bf.of (by simp only [Sem.run_bind,cK,Result.andThen_ok,Sem.run_pure];rfl) (jG hg (Nat.lt_of_lt_of_le (Nat.lt_succ_self _) hX.2) aU (by simp) eX (by simpa using eX) (by rw [ku,dE];exact Nat.le_refl _)) (dG.trans ae bG) bN
include hE in
theorem ob {H0 H' :J} (ae:St w G φ A) (e8:a7 H0 G) (hX:a7 H' G) (bm:H0.bs.length<H'.bs.length→ φ H0.bs.length=none) {t tx:TypeId} {tys:Array TypeId} {ty:TypeId} (h0:tys[0]? =some t) (h1:tys[1]? =some tx) {te eB:TI} (bh:cD E t=some te)
 (cC:E tx=some eB) (fC: ∀k,eB.aq≠ .it k) {s x z:AV} {a b:Value} (hs:R w G φ A s a) (hx:R w G φ A x b) (hq:s= .nil∨s= .e0) (h:dW te s x H0=some (z,H')):
 bf w G φ A H0 H' ((do pure (.value (←Builtin.append_ tys ty #[a,b])):Sem Next).run P w) z:=by
 obtain ⟨ti,e,ht,hu,ci⟩:=iV bh;obtain ⟨base,rfl⟩: ∃base,a= .slice base 0 0:=by
  rcases hq with rfl|rfl
  ·exact ⟨none,hs.cX⟩
  ·obtain ⟨a0,rfl⟩:=hs.ew;exact ⟨a0,rfl⟩
 unfold dW at h;split at h
 ·simp at h
 ·rename_i xs dH;split at h
  ·simp at h
  ·rename_i az;simp only [Bool.not_eq_true',Bool.not_eq_false] at az;split at h
   ·simp at h
   ·rename_i hz;have hz:0<te.sz:=by omega
    obtain ⟨cs,cL⟩:=jJ (P:=P) ae e8 hx dH az hz;have qI:xs.length=0→bf w G φ A H0 H0 ((do pure (.value (←Builtin.append_ tys ty #[.slice base 0 0,b])):Sem Next).run P w) s:=by
     intro hl;refine bf.val ae ?_ hs;obtain ⟨d,hd,n9⟩:=n5 (hE _ _ cC) fC w;have hc:=cL.run 0 (by omega)
     have da:=cL.len;rw [hl] at da;simp only [Nat.zero_mul,Array.extract_zero] at hc;unfold Builtin.append_;simp only [h0,h1,List.getElem?_toArray,List.getElem?_cons_zero,List.getElem?_cons_succ,Sem.run_bind,(hE _ _ ht).sl w hu,Result.andThen_ok,(hE _ _ ci).sizeOf,hd,Sem.run_pure];simp only [Bool.false_eq_true,if_false,Bool.not_false,if_true,Sem.run_bind,da,Result.andThen_ok,Nat.add_zero,Nat.le_refl,hc];cases base with
     |none=>simp
     |some p=>simp [storeCells]
    have qJ: ∀{v:Nat},0<xs.length→roomy xs.length te.bytes=true→a7 (H0.new te.sz false xs) G→ φ H0.bs.length=none→v=xs.length→
     bf w G φ A H0 (H0.new te.sz false xs) ((do pure (.value (←Builtin.append_ tys ty #[.slice base 0 0,b])):Sem Next).run P w) (.ref H0.bs.length H0.st 0 xs.length):=by
     intro v hl hr hX xP _;have dG:=lS ae;have hc:(Builtin.firstCells te.sz 0 (.slice base 0 0)).run P w.drew= .ok #[] w.drew:=by
      cases base with
      |none=>simp [Builtin.firstCells]
      |some p=>simp [Builtin.firstCells,loadCells,loadCellsFrom]
     obtain ⟨aV,eJ⟩:=jJ (P:=P) dG.st e8 (hx.mono dG.bM) dH az hz;have gO:=eJ.run xs.length (Nat.le_refl _);rw [←eJ.size] at gO;simp only [Array.extract_size] at gO;obtain ⟨cap,arr,k1,k2,k3,k4⟩:=run_append_grow (P:=P) (w:=w) (hE _ _ ht) hu (hE _ _ ci) (hE _ _ cC) fC tys h0 h1 ty cL.len hc gO (by simp) eJ.size (by omega) (by simpa using hr)
     simp only [Nat.zero_add] at k1 k2 k4;have cF: ∀(i:Nat) (x:AV),xs[i]? =some x→x.cells.length=te.sz:=fun i x hi=>gM az hi;have hle:xs.length*te.sz≤cap*te.sz:=Nat.mul_le_mul_right _ k1;obtain ⟨aj,A',bG,aU,bN⟩:=jF (arr:=arr) e dG.st hX xP cF (by rw [k3];exact hle) (fun i x j y v hi hy hv=>by
      have cc:i<xs.length:=(List.getElem?_eq_some_iff.1 hi).1;have dI:j<x.cells.length:=(List.getElem?_eq_some_iff.1 hy).1;have:=cF i x hi;have:=cH (n:=te.sz) cc;rw [k4 _ (by omega)] at hv
      simp only [Array.empty_append] at hv;exact eJ.rel i x j y v hi hy hv)
     have hg:=hX.1 _ _ (J.dP H0 te.sz false xs);exact bf.of (by simp [k2]) (jG hg (Nat.lt_of_lt_of_le (Nat.lt_succ_self _) hX.2) aU (Nat.le_refl _) k1 k1 (by
      have:=ku w.drew arr e;rw [this,k3];exact Nat.le_refl _)) (dG.trans ae bG) bN
    rcases hq with rfl|rfl
    ·simp only at h;split at h
     ·rename_i hl;simp only [Option.some.injEq,Prod.mk.injEq] at h;obtain ⟨rfl,rfl⟩:=h;exact qI hl
     ·rename_i hl;split at h
      ·rename_i hr;simp only [Option.some.injEq,Prod.mk.injEq] at h;obtain ⟨rfl,rfl⟩:=h;exact qJ (by omega) hr hX (bm (by simp [J.new])) rfl
      ·simp at h
    ·simp only at h;split at h
     ·rename_i hl;simp only [Option.some.injEq,Prod.mk.injEq] at h;obtain ⟨rfl,rfl⟩:=h;exact qI hl
     ·rename_i hl;split at h
      ·rename_i hr;simp only [Option.some.injEq,Prod.mk.injEq] at h;obtain ⟨rfl,rfl⟩:=h;exact qJ (by omega) hr hX (bm (by simp [J.new])) rfl
      ·simp at h
include hE in
theorem xQ {H0 H' :J} (ae:St w G φ A) (e8:a7 H0 G) (hX:a7 H' G) (bm:H0.bs.length<H'.bs.length→ φ H0.bs.length=none) {src dst:TypeId} {x z:AV} {a:Value} (hx:R w G φ A x a)
 (h:(match (generalizing:=false) E src,E dst,x with
 |some _,some td,.int _ n=>match td.aq with
  | .it k=>some (AV.int k (k.wrap n),H0)
  |_=>none
 |some _,some td,.str l=>match td.aq with
  | .str=>some (.str l,H0)
  | .sl e=>match E e with
   |some te=>match te.aq with
    | .it .u8=>if te.sz=1∧te.bytes=1∧l.length≤2^45 then some (.ref H0.bs.length H0.st 0 l.length,H0.new 1 false (l.map fun b=> .int .u8 b.toNat)) else none
    |_=>none
   |none=>none
  |_=>none
 |some ts,some td,x=>match ts.aq,td.aq with
  | .sl e,.str=>match E e with
   |some te=>match te.aq with
    | .it .u8=>match cA H0 x with
     |some xs=>if te.sz=1 then (match ((bytesOf xs).map AV.str) with|some v=>some (v,H0)|none=>none) else none
     |none=>none
    |_=>none
   |none=>none
  |_,_=>none
 |_,_,_=>none)=some (z,H')):bf w G φ A H0 H' ((do pure (.value (←convert src dst a)):Sem Next).run P w) z:=by
 have dX:(∃s,x= .str s)∨ ∀s,x≠ .str s:=by
  by_cases h: ∃s,x= .str s
  ·exact .inl h
  ·exact .inr fun s hs=>h ⟨s,hs⟩
 split at h
 ·rename_i ts td k n h1 h2;have e1:=hx.cg;subst e1;split at h
  ·rename_i k' hu
   simp only [Option.some.injEq,Prod.mk.injEq] at h;obtain ⟨rfl,rfl⟩:=h;obtain ⟨i,d,zz,_,hd,_⟩:=(hE _ _ h1).out;refine bf.val ae ?_ (.fr _ _ (.int _ _));simp only [Sem.run_bind,convert,run_underlying hd,(hE _ _ h2).kg w hu,Result.andThen_ok];cases d<;>rfl
  ·simp at h
 ·rename_i ts td l h1 h2;obtain ⟨s,rfl,rfl⟩:=hx.et;obtain ⟨i,d,zz,_,hd,_⟩:=(hE _ _ h1).out;split at h
  ·rename_i hu;simp only [Option.some.injEq,Prod.mk.injEq] at h;obtain ⟨rfl,rfl⟩:=h;refine bf.val ae ?_ hx;simp only [Sem.run_bind,convert,run_underlying hd,(hE _ _ h2).iP w hu,Result.andThen_ok];cases d<;>rfl
  ·rename_i e hu;split at h
   ·rename_i te h3;split at h
    ·rename_i oc;split at h
     ·rename_i hc;simp only [Option.some.injEq,Prod.mk.injEq] at h;obtain ⟨rfl,rfl⟩:=h;have hl:s.data.toList.length=s.size:=Array.length_toList;have dG:=lS ae
      let q:Question:= .appendCap s.size 0 e
      let cap:=q.cut (w.tape w.drawn q)
      have eX:s.size≤cap:=Nat.le_add_right _ _
      let arr:Array Value:=(s.data.map fun b=>Value.int .u8 b.toNat) ++ Array.replicate (cap-s.size) (.int .u8 0)
      have dE:arr.size=cap:=by
       simp only [arr,Array.size_append,Array.size_map,Array.size_replicate];have:s.data.size=s.size:=rfl;omega
      obtain ⟨aj,A',bG,aU,bN⟩:=qy (arr:=arr) (arr.size,arr.size+1) e dG.st hX (bm (by simp [J.new])) (fun i x hi=>by
       simp only [List.getElem?_map,Option.map_eq_some_iff] at hi;obtain ⟨c,_,rfl⟩:=hi;rfl) (by rw [List.length_map,hl,dE];omega) (fun j hj h=>by have:=h.1;simp only at this;omega) (fun i x j y v hi hy hv=>by
       simp only [List.getElem?_map,Option.map_eq_some_iff] at hi;obtain ⟨c,hc,rfl⟩:=hi;cases j with
       |zero=>
        simp only [AV.cells,List.getElem?_cons_zero,Option.some.injEq] at hy;subst hy;simp only [Nat.mul_one,Nat.add_zero] at hv;have hi:i<s.data.size:=by rw [←Array.length_toList];exact (List.getElem?_eq_some_iff.1 hc).1
        simp only [arr] at hv;rw [Array.getElem?_append_left (by simpa using hi)] at hv
        simp only [Array.getElem?_map,Option.map_eq_some_iff] at hv;obtain ⟨c',gI,rfl⟩:=hv;have:s.data[i]? =some c:=by simpa using hc
        rw [this] at gI;simp only [Option.some.injEq] at gI;subst gI;exact ⟨.fr _ _ (.int _ _),rfl⟩
       |succ j=>simp [AV.cells] at hy)
      have hg:=hX.1 _ _ (J.dP H0 1 false (s.data.toList.map fun b=>AV.int .u8 b.toNat));have cK:(convert src dst (.string s)).run P w= .ok (.slice (some ⟨w.heap.size,0,none⟩) s.size cap) (w.drew.alloc (.cells arr e (arr.size,arr.size+1))):=by
       have e2:(convert src dst (.string s)).run P w=(Conv.stringToBytes e s).run P w:=by
        simp only [convert,Sem.run_bind,run_underlying hd,(hE _ _ h2).sl w hu,Result.andThen_ok];have:=(hE _ _ h3).kg w oc;cases d<;>simp [this]
       rw [e2];unfold Conv.stringToBytes;simp only [Sem.run_bind,run_choose,Question.forced,Bool.false_eq_true,if_false,World.drew_eq,Result.andThen_ok,newRow,run_newObj,World.alloc_eq,Sem.run_pure];have e9:((w.drew.alloc (.cells arr e)).shape? w.drew.heap.size)=some (e,arr.size):=by
        unfold World.shape?;rw [heap_alloc_new]
       simp only [markStringish,Sem.run_bind,run_shape,Result.andThen_ok];rw [show (w.drew.alloc (.cells ((s.data.map fun b=>Value.int .u8 b.toNat) ++ Array.replicate (q.cut (w.tape w.drawn q)-s.size) (.int .u8 0)) e))=w.drew.alloc (.cells arr e) from rfl];rw [e9];simp only [run_freeze,Result.andThen_ok];congr 1;unfold World.freeze;simp only [Nat.one_ne_zero,if_false];have: ∀(h:Array Obj) (o:Obj) (f:Obj→Obj),(h.push o).modify h.size f=h.push (f o):=by
        intro h o f;apply Array.ext
        ·simp
        ·intro i h1 h2;simp only [Array.getElem_modify,Array.getElem_push];simp at h1;by_cases hi:h.size=i
         ·subst hi;simp
         ·have:i<h.size:=by omega
          simp [hi,this]
       show ({w.drew.alloc (.cells arr e) with heap:=(w.drew.heap.push (.cells arr e)).modify w.drew.heap.size _}:World)=_;rw [this];rfl
      refine bf.of (by simp [cK];rfl) ?_ (dG.trans ae bG) bN
      rw [hl];exact jG hg (Nat.lt_of_lt_of_le (Nat.lt_succ_self _) hX.2) aU (by simp [hl]) eX (by simp [hl];exact eX) (by
       have:aY (w.drew.alloc (.cells arr e (arr.size,arr.size+1))) w.heap.size=arr.size:=by
        unfold aY;rw [show w.heap.size=w.drew.heap.size from rfl,heap_alloc_new]
       rw [this,dE];simp)
     ·simp at h
    ·simp at h
   ·simp at h
  ·simp at h
 ·rename_i x o1 o2 x' ts td h1 h2 Bq lT
  replace lT: ∀s,x≠AV.str s:=by
   rcases dX with ⟨s,rfl⟩|hn
   ·exact (lT s rfl).elim
   ·exact hn
  split at h
  ·rename_i e dp bd;split at h
   ·rename_i te h3;split at h
    ·rename_i oc;split at h
     ·rename_i xs dH;split at h
      ·split at h
       ·rename_i v hv;simp only [Option.some.injEq,Prod.mk.injEq] at h;obtain ⟨rfl,rfl⟩:=h;simp only [Option.map_eq_some_iff] at hv;obtain ⟨l,hl,rfl⟩:=hv;obtain ⟨u,hu,hr⟩:=xJ hE ae e8 hx dH hl lT;refine bf.val ae ?_ hr;have ha: ∃a0 l0 c0,a= .slice a0 l0 c0:=by
         obtain ⟨ns,lU,_⟩:=qE hl;have bO:=n3 ae e8 hx dH (sz:=1) (by rw [lU];simp [bQ,AV.cells]) lT
         rcases bO.out with ⟨_,a0,c0,rfl⟩|⟨c,o,cap,arr,T,fr,rfl,_⟩
         ·exact ⟨_,_,_,rfl⟩
         ·exact ⟨_,_,_,rfl⟩
        obtain ⟨a0,l0,c0,rfl⟩:=ha;have e3:=(hE _ _ h3).kg w oc;simp only [Sem.run_bind,convert,(hE _ _ h1).sl w dp,(hE _ _ h2).iP w bd,Result.andThen_ok];cases a0<;>simp [e3,hu]
       ·simp at h
      ·simp at h
     ·simp at h
    ·simp at h
   ·simp at h
  ·simp at h
 ·simp at h
end ops
end Go.VS
namespace Go.VS
section ops
variable {P:Program} {E:aL} (hE: ∀t ti,E t=some ti→aQ P t ti)
variable {w:World} {G:J} {φ :af} {A:ah}
theorem bf.fb {H0 H' :J} {sv:Sem Value} {x:AV} (ae:St w G φ A) (h: ∃v,sv.run P w= .ok v w∧R w G φ A x v):bf w G φ A H0 H' ((do pure (.value (←sv)):Sem Next).run P w) x:=by
 obtain ⟨v,hv,hx⟩:=h;exact bf.val ae (by simp [hv]) hx
include hE in
theorem qK {H0 H' :J} (ae:St w G φ A) (e8:a7 H0 G) (hX:a7 H' G) (bm:H0.bs.length<H'.bs.length→ φ H0.bs.length=none) {o:Oper} {s:ak} {ρ :Operand→Value} {z:AV} (hq:dC o.op=true)
 (aR: ∀y∈o.op.operands,R w G φ A (ev s y) (ρ y)) (h:aO E o.op s H0=some (z,H')):bf w G φ A H0 H' ((execOp ρ o).run P w) z:=by
 obtain ⟨dst,op,type,pos,after,guard⟩:=o;simp only at hq aR h;cases op with
 |move x=>
  simp only [aO,Option.some.injEq,Prod.mk.injEq] at h;obtain ⟨rfl,rfl⟩:=h;exact bf.val ae rfl (aR x (by simp [Op.operands]))
 |assign x=>
  simp only [aO,Option.some.injEq,Prod.mk.injEq] at h;obtain ⟨rfl,rfl⟩:=h;exact bf.val ae rfl (aR x (by simp [Op.operands]))
 |pick c a b=>
  have hc:=aR c (by simp [Op.operands])
  have ha:=aR a (by simp [Op.operands])
  have hb:=aR b (by simp [Op.operands])
  simp only [aO] at h;split at h
  ·rename_i t ht;rw [ht] at hc;have e1:=hc.eG;simp only [Option.some.injEq,Prod.mk.injEq] at h;obtain ⟨rfl,rfl⟩:=h;refine bf.val ae (v:=if t then ρ a else ρ b) (by simp [execOp,asBool,e1]) ?_
   cases t
   ·exact hb
   ·exact ha
  ·simp at h
 |binOp op t x y ty=>
  have hx:=aR x (by simp [Op.operands])
  have hy:=aR y (by simp [Op.operands])
  simp only [aO] at h;have key: ∀z,aF E op t (ev s x) (ev s y)=some z→((∃u,y= .const u)∨ ∀e,ev s y≠ .cf e)→bf w G φ A H0 H0 ((execOp ρ {dst,op:= .binOp op t x y ty,type,pos,after,guard}).run P w) z:=
   fun z hz hc=>bf.fb ae (xc hE hx hy x y hc hz)
  split at h
  ·rename_i u;split at h
   ·rename_i v hv;simp only [Option.some.injEq,Prod.mk.injEq] at h;obtain ⟨rfl,rfl⟩:=h;exact key _ hv (.inl ⟨u,rfl⟩)
   ·simp at h
  ·split at h
   ·simp at h
   ·rename_i he;split at h
    ·rename_i v hv;simp only [Option.some.injEq,Prod.mk.injEq] at h;obtain ⟨rfl,rfl⟩:=h;exact key _ hv (.inr he)
    ·simp at h
 |unOp op t x=>
  have hx:=aR x (by simp [Op.operands])
  simp only [aO] at h;split at h
  ·rename_i v hv;simp only [Option.some.injEq,Prod.mk.injEq] at h;obtain ⟨rfl,rfl⟩:=h;exact bf.fb ae (wX P hx hv)
  ·simp at h
 |extract x i=>
  have hx:=aR x (by simp [Op.operands])
  simp only [aO] at h;split at h
  ·rename_i vs dx;rw [dx] at hx;obtain ⟨us,dp,hl,hp⟩:=hx.lD;split at h
   ·rename_i v hv;simp only [Option.some.injEq,Prod.mk.injEq] at h;obtain ⟨rfl,rfl⟩:=h;have hi:i<us.size:=by rw [←hl];exact (List.getElem?_eq_some_iff.1 hv).1
    exact bf.fb ae ⟨us[i],by simp [Instr.extract,dp,Array.getElem?_eq_getElem hi],hp i _ _ hv (Array.getElem?_eq_getElem hi)⟩
   ·simp at h
  ·simp at h
 |nilCheck x=>
  have hx:=aR x (by simp [Op.operands])
  simp only [aO] at h;split at h
  ·rename_i a b c d hv;rw [hv] at hx;split at h
   ·rename_i bl hb;simp only [Option.some.injEq,Prod.mk.injEq] at h;obtain ⟨rfl,rfl⟩:=h;obtain ⟨_,_,hp⟩:=hx.eY;obtain ⟨c0,b0,_,ck⟩:=hp _ (e8.ap hb);exact bf.val ae (by simp only [execOp,ck];rfl) (by rw [ck] at hx;exact hx)
   ·simp at h
  ·rename_i y o hv;rw [hv] at hx;simp only [Option.some.injEq,Prod.mk.injEq] at h;obtain ⟨rfl,rfl⟩:=h;obtain ⟨c,p,arr,T,fr,ck,_⟩:=eu hx.eu;exact bf.val ae (by simp only [execOp,ck];rfl) (by rw [ck] at hx;exact hx)
  ·simp at h
 |convert src dst x=>
  have hx:=aR x (by simp [Op.operands])
  simp only [aO] at h;exact xQ hE ae e8 hX bm hx h
 |field t x f=>
  have hx:=aR x (by simp [Op.operands])
  simp only [aO] at h;exact bf.fb ae (xj hE hx h)
 |fieldAddr t x f=>
  have hx:=aR x (by simp [Op.operands])
  simp only [aO] at h;exact bf.fb ae (w9 hE e8 hx h)
 |indexAddr t x i=>
  have hx:=aR x (by simp [Op.operands])
  have hi:=aR i (by simp [Op.operands])
  simp only [aO] at h;exact bf.fb ae (xi hE e8 hx hi h)
 |index t x i=>
  have hx:=aR x (by simp [Op.operands])
  have hi:=aR i (by simp [Op.operands])
  simp only [aO] at h;exact bf.fb ae (xk hE hx hi h)
 |load t x=>
  have hx:=aR x (by simp [Op.operands])
  simp only [aO] at h;exact bf.fb ae (qq hE ae e8 hx h)
 |alloc t=>
  simp only [aO] at h;exact xu hE ae hX bm h
 |box t x=>
  have hx:=aR x (by simp [Op.operands])
  simp only [aO] at h;exact xv hE ae hX bm hx h
 |build t parts=>
  have hp: ∀p∈parts.toList,R w G φ A (ev s p.2) (ρ p.2):=fun p hp=>aR p.2 (by simp [Op.operands];exact ⟨p.1,by simpa using hp⟩)
  simp only [aO] at h;exact bf.fb ae (xD hE hp h)
 |buildSlice t len parts=>
  have hp: ∀p∈parts.toList,R w G φ A (ev s p.2) (ρ p.2):=fun p hp=>aR p.2 (by simp [Op.operands];exact ⟨p.1,by simpa using hp⟩)
  simp only [aO] at h;exact xE hE ae hX bm hp h
 |makeSlice t l c=>
  have hl:=aR l (by simp [Op.operands])
  have hc:=aR c (by simp [Op.operands])
  simp only [aO] at h;exact xx hE ae hX bm hl hc h
 |slice t x lo hi mx=>
  have hx:=aR x (by simp [Op.operands])
  have od: ∀(q:Option Operand) (r:Option Int),(∀y,q=some y→R w G φ A (ev s y) (ρ y))→dN (q.map (ev s))=some r→eH r (q.map ρ):=by
   intro q r hq hr;refine xl (w:=w) (G:=G) (φ := φ) (A:=A) hr ?_;cases q with
   |none=>exact .inl ⟨rfl,rfl⟩
   |some y=>exact .inr ⟨_,_,rfl,rfl,hq y rfl⟩
  simp only [aO] at h;split at h
  ·rename_i l' h' m' e1 e2 e3
   split at h
   ·rename_i v hv;simp only [Option.some.injEq,Prod.mk.injEq] at h;obtain ⟨rfl,rfl⟩:=h;refine bf.fb ae (xo hE e8 hx (od lo l' (fun y hy=>aR y ?_) e1) (od hi h' (fun y hy=>aR y ?_) e2) (od mx m' (fun y hy=>aR y ?_) e3) hv)<;>simp [Op.operands,hy]
   ·simp at h
  ·simp at h
 |makeFunc fn first cap=>
  cases fn with
  |func f=>
   simp only [aO] at h;split at h
   ·rename_i hf;simp only [Option.some.injEq,Prod.mk.injEq] at h;obtain ⟨rfl,rfl⟩:=h;have xR:first= #[]:=Array.eq_empty_of_size_eq_zero hf
    subst xR;refine bf.fb ae ⟨.func (.func f) #[] (cap.map ρ),by simp [Instr.makeFunc],R.fn f (cap.toList.map (ev s)) (cap.map ρ) (by simp) fun i x v hx hv=> ?_⟩
    simp only [List.getElem?_map,Option.map_eq_some_iff,Array.getElem?_map,Array.getElem?_toList] at hx hv;obtain ⟨y,hy,rfl⟩:=hx;obtain ⟨y',dZ,rfl⟩:=hv;rw [hy] at dZ;simp only [Option.some.injEq] at dZ;subst dZ;exact aR y (by simp [Op.operands];exact Array.mem_of_getElem? hy)
   ·simp at h
  |_=>simp [aO] at h
 |_=>simp [dC] at hq
end ops
end Go.VS
namespace Go.VS
structure iv (w:World) (c:Nat) (o:Obj) (w' :World):Prop where
 here:w'.heap[c]? =some o
 other: ∀k,k≠c→w'.heap[k]? =w.heap[k]?
 size:w'.heap.size=w.heap.size
 os:w'.os=w.os
 tape:w'.tape=w.tape
 output:w'.output=w.output
theorem xS {w:World} {c:Nat} {arr:Array Value} {T:TypeId} {fr:Nat×Nat} (h:w.heap[c]? =some (.cells arr T fr)) (p:Nat) (v:Value):
 iv w c (.cells (arr.setIfInBounds p v) T fr) (w.setCell ⟨c,p,none⟩ v):=by
 refine ⟨?_,fun k hk=> ?_,by simp,rfl,rfl,rfl⟩
 ·simp only [World.setCell,Array.getElem?_modify,if_true,h,Option.map_some];rfl
 ·simp only [World.setCell,Array.getElem?_modify];rw [if_neg (fun e=>hk e.symm)]
theorem lV (P:Program) (c p:Nat) (T:TypeId) (fr:Nat×Nat): ∀(vs:List Value) (i:Nat) (arr:Array Value) (w:World),w.heap[c]? =some (.cells arr T fr)→
 (∀j,j<arr.size→ ¬(fr.1≤j∧j<fr.2))→p+i+vs.length≤arr.size→(∀u∈vs,u.oneCell' =true)→
 ∃w' arr',(storeCells ⟨c,p,none⟩ vs i).run P w= .ok () w' ∧iv w c (.cells arr' T fr) w' ∧arr'.size=arr.size∧
  ∀m,arr'[m]? =if p+i≤m∧m<p+i+vs.length then vs[m-(p+i)]? else arr[m]?
 |[],i,arr,w,h,_,_,_=>⟨w,arr,by simp [storeCells],⟨h,fun _ _=>rfl,rfl,rfl,rfl,rfl⟩,rfl,fun m=>by rw [if_neg (by simp only [List.length_nil];omega)]⟩
 |v::vs,i,arr,w,h,hf,hl,ho=>by
  simp only [List.length_cons] at hl;have ax:p+i<arr.size:=by omega
  have hc:w.cell? ⟨c,p+i,none⟩=some arr[p+i]:=by rw [lG h];exact Array.getElem?_eq_getElem ax
  have iQ:w.frozen? ⟨c,p+i,none⟩=false:=by
   unfold World.frozen?;simp only [h];have:=hf (p+i) ax;simp only [Bool.and_eq_false_iff,decide_eq_false_iff_not];by_cases h1:fr.1≤p+i
   ·right;exact fun h2=>this ⟨h1,h2⟩
   ·left;exact h1
  have hu:=xS h (p+i) v;obtain ⟨w',arr',e1,e2,e3,e4⟩:=lV P c p T fr vs (i+1) (arr.setIfInBounds (p+i) v) (w.setCell ⟨c,p+i,none⟩ v) hu.here (by simpa using hf) (by simp;omega) (fun u hu=>ho u (by simp [hu]))
  refine ⟨w',arr',?_,⟨e2.here,fun k hk=>(e2.other k hk).trans (hu.other k hk),e2.size.trans hu.size,e2.os.trans hu.os,e2.tape.trans hu.tape,e2.output.trans hu.output⟩,by rw [e3];simp,fun m=> ?_⟩
  ·simp only [storeCells,Sem.run_bind,gJ,run_store P w ⟨c,p+i,none⟩ v .plain (ho v (by simp)),hc,iQ,Bool.false_eq_true,if_false,Result.andThen_ok]
   exact e1
  ·rw [e4,Array.getElem?_setIfInBounds];simp only [List.length_cons];by_cases hm:m=p+i
   ·subst hm;rw [if_neg (by omega)]
    simp only [if_true];rw [if_pos ax,if_pos (by omega)]
    simp
   ·by_cases kr:p+(i+1)≤m∧m<p+(i+1)+vs.length
    ·rw [if_pos kr,if_pos (by omega)]
     obtain ⟨q,rfl⟩: ∃q,m=p+i+1+q:=⟨m-(p+i+1),by omega⟩
     have e1:p+i+1+q-(p+(i+1))=q:=by omega
     have e2:p+i+1+q-(p+i)=q+1:=by omega
     rw [e1,e2];rfl
    ·rw [if_neg kr,if_neg (by omega),if_neg (by omega)]
theorem J.iw {H:J} {id:Nat} {b0 b:bw} (h:H.get id=some b0) (k:Nat):(H.aZ id b).get k=if k=id then some b else H.get k:=by
 have ax:=J.fW h;unfold J.aZ J.get;simp only [List.getElem?_set];by_cases hk:id=k
 ·subst hk;simp [ax]
 ·rw [if_neg hk,if_neg (fun e=>hk e.symm)]
section ops
variable {P:Program} {E:aL}
variable {w:World} {H:J} {φ :af} {A:ah}
def cd (w:World) (H:J) (φ :af) (A:ah) (H' :J) (r:Result Next) (x:AV):Prop:=
 ∃n v w' aj A',r= .ok n w' ∧(n= .value v∨(n= .skip∧v=undef))∧R w' H' aj A' x v∧Out w H φ A w' H' aj A'
theorem lW (ae:St w H φ A) {id:Nat} {b b' :bw} {c b0:Nat} (hg:H.get id=some b) (aU: φ id=some (.at_ c b0)) (hv:b'.ad=b.ad) (hs:b'.sz=b.sz) (hf:b'.fix=b.fix) (hl:b'.el.length=b.el.length)
 {arr arr' :Array Value} {T:TypeId} {fr:Nat×Nat} {w' :World} (hc:w.heap[c]? =some (.cells arr T fr)) (hu:iv w c (.cells arr' T fr) w') (az:arr'.size=arr.size)
 (dQ: ∀(i:Nat) (x:AV),b'.el[i]? =some x→x.cells.length=b.sz)
 (gK: ∀(i:Nat) (x:AV) (j:Nat) (y:AV) (v:Value),b'.el[i]? =some x→x.cells[j]? =some y→arr'[b0+i*b.sz+j]? =some v→R w H φ A y v∧v.oneCell' =true):
 Out w H φ A w' (H.aZ id b') φ A:=by
 have kB: ∀k,aY w' k=aY w k:=by
  intro k;unfold aY;by_cases hk:k=c
  ·subst hk;rw [hu.here,hc];exact az
  ·rw [hu.other k hk]
 have eZ:eW w φ w' φ :=⟨hu.os,hu.tape,hu.output,by rw [hu.size];exact Nat.le_refl _,fun k _ hk=>hu.other k (fun e=>hk (e▸⟨id,b0,aU⟩)),fun k _=>kB k,fun k hk=> .inl hk⟩
 have aP:bF w H φ A w' (H.aZ id b') φ A:=by
  refine ⟨fun k a t r hk hn=>⟨⟨r,by rw [hu.other k (fun e=>hn (e▸ae.own c ⟨id,b0,aU⟩))];exact hk⟩,hn⟩,Nat.le_refl _,fun i bb hb _=> ?_,fun k _=>kB k⟩
  rw [J.iw hg] at hb;split at hb
  ·rename_i hi;subst hi;simp only [Option.some.injEq] at hb;subst hb;exact ⟨b,hg,hv.symm,hs,hf,hl,fun loc h=>h⟩
  ·exact ⟨bb,hb,rfl,rfl,rfl,rfl,fun loc h=>h⟩
 refine ⟨⟨ae.inj,ae.own,fun k hk=>by rw [hu.size];exact ae.bV k hk,fun i loc c8=> ?_⟩,eZ,aP,fun k hk _=>hk⟩
 obtain ⟨bb,jK,ag⟩:=ae.ap i loc c8;by_cases hi:i=id
 ·subst hi;rw [hg] at jK;simp only [Option.some.injEq] at jK;subst jK;rw [aU] at c8;simp only [Option.some.injEq] at c8;subst c8;obtain ⟨a0,t0,r0,k1,k2,k3,k4⟩:=ag.here c b0 rfl;rw [hc] at k1;simp only [Option.some.injEq,Obj.cells.injEq] at k1;obtain ⟨rfl,rfl,rfl⟩:=k1;refine ⟨b',by rw [J.iw hg,if_pos rfl],by rw [hv];exact ag.ad,fun j x hx=>by rw [hs];exact dQ j x hx,by simp,fun c' b1 he=> ?_⟩
  simp only [Loc.at_.injEq] at he;obtain ⟨rfl,rfl⟩:=he;refine ⟨arr',T,fr,hu.here,by rw [az];exact k2,by rw [hl,hs,az];exact k3,fun j x m y v hx hy ck=> ?_⟩
  rw [hs] at ck;obtain ⟨h1,h2⟩:=gK j x m y v hx hy ck;exact ⟨h1.mono aP,h2⟩
 ·refine ⟨bb,by rw [J.iw hg,if_neg hi];exact jK,ag.ad,ag.sized,ag.aN,fun c' b1 he=> ?_⟩
  subst he;have aM:c' ≠c:=by rintro rfl;exact hi (ae.inj _ _ _ _ _ c8 aU)
  obtain ⟨a0,t0,r0,k1,k2,k3,k4⟩:=ag.here c' b1 rfl
  exact ⟨a0,t0,r0,by rw [hu.other c' aM];exact k1,k2,k3,fun j x m y v hx hy ck=>⟨(k4 j x m y v hx hy ck).1.mono aP,(k4 j x m y v hx hy ck).2⟩⟩
theorem qL (ae:St w H φ A) {id:Nat} {b b' :bw} (hg:H.get id=some b) (hv:b'.ad=H.st)
 {c b0:Nat} {arr' :Array Value} {T:TypeId} {fr:Nat×Nat} {w' :World} (hc:Ow φ c∧(∃bx,φ id=some (.at_ c bx))∨w.heap.size≤c) (hu:w'.heap[c]? =some (.cells arr' T fr))
 (lX: ∀k,k<w.heap.size→k≠c→w'.heap[k]? =w.heap[k]?) (lY:w.heap.size≤w'.heap.size) (xT:w'.os=w.os) (xU:w'.tape=w.tape) (bG:w'.output=w.output)
 (cp:c<w.heap.size→arr'.size=aY w c) (iQ: ∀j,j<arr'.size→ ¬(fr.1≤j∧j<fr.2)) (jL:b0+b'.el.length*b'.sz≤arr'.size)
 (dQ: ∀(i:Nat) (x:AV),b'.el[i]? =some x→x.cells.length=b'.sz)
 (gK: ∀(i:Nat) (x:AV) (j:Nat) (y:AV) (v:Value),b'.el[i]? =some x→x.cells[j]? =some y→arr'[b0+i*b'.sz+j]? =some v→R w H φ A y v∧v.oneCell' =true):
 Out w H φ A w' ⟨H.st+1,H.bs.set id (some b')⟩ (fun i=>if i=id then some (.at_ c b0) else φ i) (fun k=>A k∨k=c):=by
 have bz: ∀k,(J.mk (H.st+1) (H.bs.set id (some b'))).get k=if k=id then some b' else H.get k:=fun k=>J.iw hg k
 have kB: ∀k,k<w.heap.size→aY w' k=aY w k:=by
  intro k hk;by_cases dR:k=c
  ·subst dR;rw [←cp hk];unfold aY;rw [hu]
  ·unfold aY;rw [lX k hk dR]
 have dD: ∀k,Ow (fun i=>if i=id then some (.at_ c b0) else φ i) k→Ow φ k∨k=c:=by
  rintro k ⟨i,bb,h⟩;try simp only at h
  split at h
  ·simp only [Option.some.injEq,Loc.at_.injEq] at h;exact .inr h.1.symm
  ·exact .inl ⟨i,bb,h⟩
 have oe:c<w'.heap.size:=dO hu;have eZ:eW w φ w' (fun i=>if i=id then some (.at_ c b0) else φ i):=by
  refine ⟨xT,xU,bG,lY,fun k hk hn=>lX k hk (fun e=> ?_),kB,fun k hk=> ?_⟩
  ·subst e;rcases hc with h|h
   ·exact hn h.1
   ·omega
  ·rcases dD k hk with h|rfl
   ·exact .inl h
   ·rcases hc with h|h
    ·exact .inl h.1
    ·exact .inr h
 have aP:bF w H φ A w' ⟨H.st+1,H.bs.set id (some b')⟩ (fun i=>if i=id then some (.at_ c b0) else φ i) (fun k=>A k∨k=c):=by
  refine ⟨fun k a t r hk hn=> ?_,Nat.le_succ _,fun i bb hb ax=> ?_,fun k hk=>kB k (Ow.lt ae hk)⟩
  ·have ax:=dO hk;have dR:k≠c:=by
    rintro rfl;rcases hc with h|h
    ·exact hn (ae.own _ h.1)
    ·omega
   exact ⟨⟨r,by rw [lX k ax dR];exact hk⟩,fun h=>by rcases h with h|h;exact hn h;exact dR h⟩
  ·rw [bz] at hb;split at hb
   ·simp only [Option.some.injEq] at hb;subst hb;omega
   ·rename_i hi;exact ⟨bb,hb,rfl,rfl,rfl,rfl,fun loc h=>by rw [if_neg hi];exact h⟩
 refine ⟨⟨fun i i' k b1 b2 h1 h2=> ?_,fun k hk=> ?_,fun k hk=> ?_,fun i loc c8=> ?_⟩,eZ,aP,fun k hk _=> .inl hk⟩
 ·try simp only at h1 h2
  have key: ∀{i k b1},i≠id→ φ i=some (.at_ k b1)→k≠c:=by
   rintro i k b1 hi h rfl;rcases hc with ⟨_,bx,h2⟩|h2
   ·exact hi (ae.inj _ _ _ _ _ h h2)
   ·have:=Ow.lt ae ⟨i,b1,h⟩;omega
  split at h1
  ·rename_i hi;split at h2
   ·rename_i gL;omega
   ·rename_i gL;simp only [Option.some.injEq,Loc.at_.injEq] at h1;exact absurd h1.1.symm (key gL h2)
  ·rename_i hi;split at h2
   ·simp only [Option.some.injEq,Loc.at_.injEq] at h2;exact absurd h2.1.symm (key hi h1)
   ·exact ae.inj _ _ _ _ _ h1 h2
 ·rcases dD k hk with h|h
  ·exact .inl (ae.own k h)
  ·exact .inr h
 ·rcases hk with h|rfl
  ·have:=ae.bV k h;omega
  ·exact oe
 ·try simp only at c8
  split at c8
  ·rename_i hi;subst hi;simp only [Option.some.injEq] at c8;subst c8;refine ⟨b',by rw [bz,if_pos rfl],by rw [hv];exact Nat.lt_succ_self _,dQ,by simp,fun c' b1 he=> ?_⟩
   simp only [Loc.at_.injEq] at he;obtain ⟨rfl,rfl⟩:=he;refine ⟨arr',T,fr,hu,iQ,jL,fun j x m y v hx hy ck=> ?_⟩;obtain ⟨h1,h2⟩:=gK j x m y v hx hy ck;exact ⟨h1.mono aP,h2⟩
  ·rename_i hi;obtain ⟨bb,jK,ag⟩:=ae.ap i loc c8;refine ⟨bb,by rw [bz,if_neg hi];exact jK,Nat.lt_succ_of_lt ag.ad,ag.sized,ag.aN,fun c' b1 he=> ?_⟩
   subst he;have aM:c' ≠c:=by
    rintro rfl;rcases hc with ⟨_,bx,h2⟩|h2
    ·exact hi (ae.inj _ _ _ _ _ c8 h2)
    ·have:=Ow.lt ae ⟨i,b1,c8⟩;omega
   obtain ⟨a0,t0,r0,k1,k2,k3,k4⟩:=ag.here c' b1 rfl
   exact ⟨a0,t0,r0,by rw [lX c' (dO k1) aM];exact k1,k2,k3,fun j x m y v hx hy ck=>⟨(k4 j x m y v hx hy ck).1.mono aP,(k4 j x m y v hx hy ck).2⟩⟩
end ops
end Go.VS
namespace Go.VS
theorem xV {y v y' :AV} {off:Nat} (h:fQ y off v=some y') (hv:dM v=true):off+v.cells.length≤y.cells.length∧y'.cells=splice y.cells off v.cells:=by
 cases y with
 |agg cs=>
  simp only [fQ] at h;split at h
  ·rename_i hle;simp only [Option.some.injEq] at h;subst h;exact ⟨hle,rfl⟩
  ·simp at h
 |undef=>simp [fQ] at h
 |_=>
  cases v<;>simp only [fQ] at h<;>first
   |(simp at h;done)
   |(simp [dM,cI] at hv;done)
   |(split at h
     ·rename_i ho;simp only [Option.some.injEq] at h;subst h;subst ho;exact ⟨by simp [AV.cells],by simp [AV.cells,splice]⟩
     ·simp at h)
section ops
variable {P:Program} {E:aL} (hE: ∀t ti,E t=some ti→aQ P t ti)
variable {w:World} {H:J} {φ :af} {A:ah}
include hE in
theorem xW {H' :J} (ae:St w H φ A) {t:TypeId} {x v z:AV} {a u:Value} (hx:R w H φ A x a) (hv:R w H φ A v u)
 (h:(match (generalizing:=false) E t with
 |some ti=>match (generalizing:=false) x with
  | .ptr id ad idx off=>match H.ap id ad with
   |some b=>match b.el[idx]? with
    |some y=>if v.cells.length=ti.sz∧dM v then match fQ y off v with
     |some y' =>some (AV.ay [],H.aZ id {b with el:=b.el.set idx y' })
     |none=>none
     else none
    |none=>none
   |none=>none
  |_=>none
 |none=>none)=some (z,H')):cd w H φ A H' ((do Instr.storeAt t a u;pure .skip:Sem Next).run P w) z:=by
 split at h
 ·rename_i ti h1;split at h
  ·rename_i id ad idx off;split at h
   ·rename_i b hb;split at h
    ·rename_i y hy;split at h
     ·rename_i hc;split at h
      ·rename_i y' hw
       simp only [Option.some.injEq,Prod.mk.injEq] at h;obtain ⟨rfl,rfl⟩:=h;obtain ⟨_,_,hp⟩:=hx.eY;obtain ⟨c,b0,aU,rfl⟩:=hp b hb;obtain ⟨b1,cG,ag⟩:=ae.ap id _ aU;have hg:=(J.bp hb).1;rw [hg] at cG;simp only [Option.some.injEq] at cG;subst cG;obtain ⟨arr,T,fr,k1,k2,k3,k4⟩:=ag.here c b0 rfl;obtain ⟨w1,w2⟩:=xV hw hc.2;obtain ⟨m1,m2⟩:=hv.cells (nU hc.2);have m3:=hv.lE hc.2;have cc:idx<b.el.length:=(List.getElem?_eq_some_iff.1 hy).1;have hle:=cH (n:=b.sz) cc;have cq:=ag.sized idx y hy;obtain ⟨w',arr',e1,e2,e3,e4⟩:=lV P c (b0+idx*b.sz+off) T fr u.cells.toList 0 arr w k1 k2 (by simp;omega) (fun q hq=>by
        obtain ⟨k,hk⟩:=List.getElem?_of_mem hq;exact m3 k q (by simpa using hk))
       have xX:y'.cells.length=b.sz:=by rw [w2,kt _ _ _ w1,cq]
       have kC: ∀(i:Nat) (q:AV),(b.el.set idx y')[i]? =some q→(i=idx∧q=y')∨(i≠idx∧b.el[i]? =some q):=by
        intro i q hq;rw [List.getElem?_set] at hq;split at hq
        ·rename_i hi;first
          |(rw [if_pos cc] at hq;simp only [Option.some.injEq] at hq;exact .inl ⟨hi.symm,hq.symm⟩)
          |(simp only [Option.some.injEq] at hq;exact .inl ⟨hi.symm,hq.symm⟩)
        ·rename_i hi;exact .inr ⟨fun e=>hi e.symm,hq⟩
       have bG:=lW (b' :={b with el:=b.el.set idx y' }) ae hg aU rfl rfl rfl (by simp) k1 e2 e3
        (fun i q hq=>by rcases kC i q hq with ⟨rfl,rfl⟩|⟨_,hq⟩;exact xX;exact ag.sized i q hq)
        (fun i q j s v' hq hs bC=>by
         rw [e4] at bC;simp only [Nat.add_zero,Array.length_toList] at bC;rcases kC i q hq with ⟨rfl,rfl⟩|⟨aM,hq⟩
         ·rw [w2,nT _ _ _ w1] at hs;rw [m1] at hs;by_cases hj:off≤j∧j<off+u.cells.size
          ·rw [if_pos hj] at hs;rw [if_pos (by omega)] at bC
           have e5:b0+i*b.sz+j-(b0+i*b.sz+off)=j-off:=by omega
           rw [e5] at bC;exact ⟨m2 _ _ _ hs (by simpa using bC),m3 _ _ (by simpa using bC)⟩
          ·rw [if_neg hj] at hs;rw [if_neg (by omega)] at bC
           exact k4 i y j s v' hy hs bC
         ·have og:i<b.el.length:=(List.getElem?_eq_some_iff.1 hq).1;have dI:j<q.cells.length:=(List.getElem?_eq_some_iff.1 hs).1;have qM:=ag.sized i q hq;rw [if_neg (by
           intro hh;rcases Nat.lt_or_gt_of_ne aM with h1|h1
           ·have:=cH (n:=b.sz) h1;omega
           ·have:=cH (n:=b.sz) h1;omega)] at bC
          exact k4 i q j s v' hq hs bC)
       refine ⟨.skip,undef,w',φ,A,?_,.inr ⟨rfl,rfl⟩,.fr _ _ (.ay [] #[] rfl (by simp)),bG⟩
       have az: ¬(u.cells.size≠ti.sz):=by rw [←m1];simp [hc.1]
       simp only [Instr.storeAt,Instr.sureAddr,storeVar,Sem.run_bind,Sem.run_pure,Result.andThen_ok,(hE _ _ h1).sizeOf,az,if_false,e1]
      ·simp at h
     ·simp at h
    ·simp at h
   ·simp at h
  ·simp at h
 ·simp at h
theorem oi (ae:St w H φ A) {id ad off len:Nat} {a:Value} (hx:R w H φ A (.ref id ad off len) a) {b:bw} (hb:H.ap id ad=some b) {at_ n:Nat} (h1:at_+n≤b.el.length) (h2:off≤at_) (hn:0<n) (_hlen:0<len∨b.el.length≤off+len∨True)
 {xs:List AV} (cj:xs.length=n) {cs:Array Value} (az:cs.size=n*b.sz) (nP: ∀u∈cs.toList,u.oneCell' =true) (dQ: ∀(i:Nat) (x:AV),xs[i]? =some x→x.cells.length=b.sz)
 (cr: ∀(i:Nat) (x:AV) (j:Nat) (y:AV) (u:Value),xs[i]? =some x→x.cells[j]? =some y→cs[i*b.sz+j]? =some u→R w H φ A y u∧u.oneCell' =true):
 ∃c b0 cap w',φ id=some (.at_ c b0)∧a= .slice (some ⟨c,b0+off*b.sz,none⟩) len cap∧b.el.length≤off+cap∧(storeCells ⟨c,b0+at_*b.sz,none⟩ cs.toList).run P w= .ok () w' ∧
  Out w H φ A w' (H.aZ id {b with el:=splice b.el at_ xs}) φ A:=by
 obtain ⟨_,_,hr⟩:=hx.c7;obtain ⟨loc,a0,cap,q1,rfl,q3,q4,q5,q6⟩:=(hr b hb).out;cases loc with
 |aN=>simp only at q6;rw [q6.1] at h1;simp at h1;omega
 |at_ c b0=>
  simp only at q6;rcases q6 with q6|⟨rfl,q7⟩
  ·omega
  ·obtain ⟨b1,cG,ag⟩:=ae.ap id _ q1;have hg:=(J.bp hb).1;rw [hg] at cG;simp only [Option.some.injEq] at cG;subst cG;obtain ⟨arr,T,fr,k1,k2,k3,k4⟩:=ag.here c b0 rfl;have hle:at_*b.sz+n*b.sz≤b.el.length*b.sz:=by rw [←Nat.add_mul];exact Nat.mul_le_mul_right _ h1
   obtain ⟨w',arr',e1,e2,e3,e4⟩:=lV P c (b0+at_*b.sz) T fr cs.toList 0 arr w k1 k2 (by simp [az];omega) nP
   have kD: ∀(i:Nat) (q:AV),(splice b.el at_ xs)[i]? =some q→(at_≤i∧i<at_+n∧xs[i-at_]? =some q)∨(¬(at_≤i∧i<at_+n)∧b.el[i]? =some q):=by
    intro i q hq;rw [nT _ _ _ (by omega),cj] at hq
    split at hq
    ·rename_i hi;exact .inl ⟨hi.1,hi.2,hq⟩
    ·rename_i hi;exact .inr ⟨hi,hq⟩
   refine ⟨c,b0,cap,w',q1,rfl,q5,e1,lW (b' :={b with el:=splice b.el at_ xs}) ae hg q1 rfl rfl rfl (by simp only;rw [kt _ _ _ (by omega)]) k1 e2 e3 (fun i q hq=> ?_) (fun i q j s v' hq hs bC=> ?_)⟩
   ·rcases kD i q hq with ⟨_,_,h⟩|⟨_,h⟩
    ·exact dQ _ _ h
    ·exact ag.sized i q h
   ·rw [e4] at bC;simp only [Nat.add_zero,Array.length_toList,az] at bC;have dI:j<q.cells.length:=(List.getElem?_eq_some_iff.1 hs).1;rcases kD i q hq with ⟨i1,i2,h⟩|⟨hi,h⟩
    ·have qM:=dQ _ _ h;have e5:i*b.sz=at_*b.sz+(i-at_)*b.sz:=by rw [←Nat.add_mul];congr 1;omega
     have e6:=cH (n:=b.sz) (show i-at_<n by omega)
     rw [if_pos (by omega)] at bC
     have e7:b0+i*b.sz+j-(b0+at_*b.sz)=(i-at_)*b.sz+j:=by omega
     rw [e7] at bC;exact cr _ q j s v' h hs (by simpa using bC)
    ·have qM:=ag.sized _ _ h;rw [if_neg (by
      intro hh;rcases Nat.lt_or_ge i at_ with h1|h1
      ·have:=cH (n:=b.sz) h1;omega
      ·have h2:at_+n≤i:=by omega
       have:=Nat.mul_le_mul_right b.sz h2;rw [Nat.add_mul] at this;omega)] at bC
     exact k4 i q j s v' h hs bC
end ops
end Go.VS
namespace Go.VS
theorem oj (cs:List AV) (k:Nat) (_h:k≤cs.length):splice cs k []=cs:=by
 unfold splice;simp
section ops
variable {P:Program} {E:aL} (hE: ∀t ti,E t=some ti→aQ P t ti)
variable {w:World} {H:J} {φ :af} {A:ah}
theorem xY (ae:St w H φ A) {H' :J} (hg: ∀id,H'.get id=H.get id) (hs:H'.st=H.st):Out w H φ A w H' φ A:=by
 have aP:bF w H φ A w H' φ A:=⟨fun c a t fr hc hn=>⟨⟨fr,hc⟩,hn⟩,by rw [hs];exact Nat.le_refl _,fun id b hb _=>⟨b,by rw [←hg];exact hb,rfl,rfl,rfl,rfl,fun _ h=>h⟩,fun _ _=>rfl⟩
 refine ⟨⟨ae.inj,ae.own,ae.bV,fun id loc h=> ?_⟩,.refl _ _,aP,fun _ h _=>h⟩;obtain ⟨b,hb,ag⟩:=ae.ap id loc h;refine ⟨b,by rw [hg];exact hb,by rw [hs];exact ag.ad,ag.sized,ag.aN,fun c b0 hl=> ?_⟩
 obtain ⟨arr,T,fr,h1,h2,h3,h4⟩:=ag.here c b0 hl;exact ⟨arr,T,fr,h1,h2,h3,fun i x j y v hx hy hv=>⟨(h4 i x j y v hx hy hv).1.mono aP,(h4 i x j y v hx hy hv).2⟩⟩
theorem ol (ae:St w H φ A) {id:Nat} {b:bw} (hg:H.get id=some b):Out w H φ A w (H.aZ id b) φ A:=
 xY ae (fun k=>by
  rw [J.iw hg];split
  ·rename_i h;rw [h,hg]
  ·rfl) rfl
theorem om {t tx e:TypeId} {ti te eB:TI} (ht:aQ P t ti) (hu:ti.aq= .sl e) (bh:aQ P e te) (cC:aQ P tx eB) (fC: ∀k,eB.aq≠ .it k) (tys:Array TypeId) (h0:tys[0]? =some t) (h1:tys[1]? =some tx) (ty:TypeId)
 {base:Option Addr} {sLen sCap:Nat} {x:Value} {n:Nat} {iq:Array Value} {w' :World} (hlen:(Builtin.lenOf x).run P w= .ok n w)
 (hX:(Builtin.firstCells te.sz n x).run P w= .ok iq w) (kz:sLen+n≤sCap) (ae:match base with|some a=>(storeCells (a.add (sLen*te.sz)) iq.toList).run P w= .ok () w' |none=>w' =w):
 (Builtin.append_ tys ty #[.slice base sLen sCap,x]).run P w= .ok (.slice base (sLen+n) sCap) w' :=by
 obtain ⟨d,hd,n9⟩:=n5 cC fC w;unfold Builtin.append_;simp only [h0,h1,List.getElem?_toArray,List.getElem?_cons_zero,List.getElem?_cons_succ,Sem.run_bind,ht.sl w hu,Result.andThen_ok,bh.sizeOf,hd,Sem.run_pure];simp only [Bool.false_eq_true,if_false,Bool.not_false,if_true,Sem.run_bind,hlen,Result.andThen_ok,kz,hX];cases base with
 |none=>simp only at ae;subst ae;rfl
 |some a=>simp only at ae⊢;simp only [Sem.run_bind,ae,Result.andThen_ok,Sem.run_pure]
include hE in
theorem xZ {H' :J} (ae:St w H φ A) {t tx:TypeId} {tys:Array TypeId} {ty:TypeId} (h0:tys[0]? =some t) (h1:tys[1]? =some tx) {te eB:TI} (bh:cD E t=some te)
 (cC:E tx=some eB) (fC: ∀k,eB.aq≠ .it k) {id ad off len:Nat} {x z:AV} {a b:Value} (hs:R w H φ A (.ref id ad off len) a) (hx:R w H φ A x b) (h:dW te (.ref id ad off len) x H=some (z,H')):
 cd w H φ A H' ((do pure (.value (←Builtin.append_ tys ty #[a,b])):Sem Next).run P w) z:=by
 obtain ⟨ti,e,ht,hu,ci⟩:=iV bh;unfold dW at h;split at h
 ·simp at h
 ·rename_i xs dH;split at h
  ·simp at h
  ·rename_i az;simp only [Bool.not_eq_true',Bool.not_eq_false] at az;split at h
   ·simp at h
   ·rename_i hz;have hz:0<te.sz:=by omega
    obtain ⟨cs,cL⟩:=jJ (P:=P) ae (a7.refl H) hx dH az hz;have lZ:=cL.run xs.length (Nat.le_refl _);rw [←cL.size,Array.extract_size] at lZ;obtain ⟨hv,_,hr⟩:=hs.c7;have cF: ∀(i:Nat) (x:AV),xs[i]? =some x→x.cells.length=te.sz:=fun i x hi=>gM az hi;simp only at h;split at h
    ·simp at h
    ·rename_i bk hb;have hg:=(J.bp hb).1;split at h
     ·simp at h
     ·rename_i cp;simp only [ne_eq,Decidable.not_not] at cp;obtain ⟨loc,a0,cap,q1,rfl,q3,q4,q5,q6⟩:=(hr bk hb).out;split at h
      ·rename_i jL;simp only [Option.some.injEq,Prod.mk.injEq] at h;obtain ⟨rfl,rfl⟩:=h;by_cases hn:xs.length=0
       ·have kE:xs=[]:=List.eq_nil_of_length_eq_zero hn;subst kE;have hcs:cs= #[]:=Array.eq_empty_of_size_eq_zero (by simpa using cL.size)
        subst hcs;have cK:=om (P:=P) (w:=w) (w' :=w) (base:=a0) (sLen:=len) (sCap:=cap) (hE _ _ ht) hu (hE _ _ ci) (hE _ _ cC) fC tys h0 h1 ty cL.len lZ (by simpa using q4) (by cases a0<;>simp [storeCells])
        have ho:Out w H φ A w (H.aZ id {bk with el:=splice bk.el (off+len) []}) φ A:=by
         rw [oj _ _ q3];exact ol ae hg
        exact ⟨_,_,w,φ,A,by simp only [Sem.run_bind,cK,Result.andThen_ok,Sem.run_pure];rfl,.inl rfl,hs.mono ho.bM,ho⟩
       ·obtain ⟨c,b0,eA,w',p1,p2,p3,p4,p5⟩:=oi (P:=P) ae hs hb (at_:=off+len) (n:=xs.length) jL (by omega) (by omega) (.inr (.inr trivial)) rfl (cs:=cs) (by rw [cp];exact cL.size) cL.one
         (fun i x hi=>by rw [cp];exact cF i x hi) (fun i x j y u hi hy hu=>cL.rel i x j y u hi hy (by rw [←cp];exact hu))
        simp only [Value.slice.injEq,true_and] at p2;obtain ⟨rfl,rfl⟩:=p2;have cK:=om (P:=P) (w:=w) (w' :=w') (base:=some ⟨c,b0+off*bk.sz,none⟩) (sLen:=len) (sCap:=cap) (hE _ _ ht) hu (hE _ _ ci) (hE _ _ cC) fC tys h0 h1 ty cL.len lZ (by omega) (by
         simp only [gJ];have:b0+off*bk.sz+len*te.sz=b0+(off+len)*bk.sz:=by rw [←cp,Nat.add_mul];omega
         rw [this];exact p4)
        refine ⟨_,_,w',φ,A,by simp only [Sem.run_bind,cK,Result.andThen_ok,Sem.run_pure];rfl,.inl rfl,?_,p5⟩
        refine .ref _ _ _ _ _ (Nat.lt_of_lt_of_le hv p5.bM.st) ⟨_,_,rfl⟩ fun b' aw=> ?_
        have cy:=(J.bp aw).1
        rw [J.iw hg,if_pos rfl] at cy;simp only [Option.some.injEq] at cy;subst cy;have l4:(splice bk.el (off+len) xs).length=bk.el.length:=kt _ _ _ jL;refine ⟨.at_ c b0,_,_,p1,rfl,by simp only [l4];omega,by omega,by simp only [l4];omega,?_⟩
        simp only;rw [p1] at q1;simp only [Option.some.injEq] at q1;subst q1;simp only at q6;rcases q6 with q6|⟨_,q7⟩
        ·omega
        ·right;exact ⟨by first|rfl|trivial,by rw [p5.post.aY c (Ow.lt ae ⟨id,b0,p1⟩)];exact q7⟩
      ·rename_i jL;split at h
       ·simp at h
       ·rename_i x1;split at h
        ·rename_i hc;obtain ⟨c1,c2⟩:=hc;simp only [Option.some.injEq,Prod.mk.injEq] at h;obtain ⟨rfl,rfl⟩:=h;have hn:0<xs.length:=by
          rcases Nat.eq_zero_or_pos xs.length with h|h
          ·rw [h] at jL;omega
          ·exact h
         have kF: ∀(i:Nat) (x:AV),(aD bk.el off len ++ xs)[i]? =some x→x.cells.length=bk.sz:=by
          intro i x hi;rw [List.getElem?_append] at hi;split at hi
          ·simp only [aD,List.getElem?_take,List.getElem?_drop] at hi;split at hi
           ·obtain ⟨b1,cG,ag⟩:=ae.ap id _ q1;rw [hg] at cG;simp only [Option.some.injEq] at cG;subst cG;exact ag.sized _ _ hi
           ·simp at hi
          ·rw [cp];exact cF _ _ hi
         have br:(aD bk.el off len).length=len:=by simp [aD];omega
         by_cases kz:len+xs.length≤cap
         ·
          cases loc with
          |aN=>
           simp only at q6;have:=q6.2 (by simpa using x1)
           omega
          |at_ c b0=>
           simp only at q6;rcases q6 with q6|⟨rfl,q7⟩
           ·omega
           ·obtain ⟨b1,cG,ag⟩:=ae.ap id _ q1;rw [hg] at cG;simp only [Option.some.injEq] at cG;subst cG;obtain ⟨arr,T,fr,k1,k2,k3,k4⟩:=ag.here c b0 rfl;have qN:aY w c=arr.size:=by unfold aY;rw [k1]
            rw [qN] at q7;have hle:(off+len)*bk.sz+xs.length*bk.sz≤(off+cap)*bk.sz:=by rw [←Nat.add_mul];exact Nat.mul_le_mul_right _ (by omega)
            have hcs:cs.size=xs.length*bk.sz:=by rw [cp];exact cL.size
            obtain ⟨w',arr',e1,e2,e3,e4⟩:=lV P c (b0+(off+len)*bk.sz) T fr cs.toList 0 arr w k1 k2 (by simp [hcs];omega) cL.one
            have cK:=om (P:=P) (w:=w) (w' :=w') (base:=some ⟨c,b0+off*bk.sz,none⟩) (sLen:=len) (sCap:=cap) (hE _ _ ht) hu (hE _ _ ci) (hE _ _ cC) fC tys h0 h1 ty cL.len lZ kz (by
             simp only [gJ];have:b0+off*bk.sz+len*te.sz=b0+(off+len)*bk.sz:=by rw [←cp,Nat.add_mul];omega
             rw [this];exact e1)
            have hmul:off*bk.sz+len*bk.sz=(off+len)*bk.sz:=(Nat.add_mul _ _ _).symm;have ho:=qL (b' :=⟨H.st,bk.sz,false,aD bk.el off len ++ xs⟩) (c:=c) (b0:=b0+off*bk.sz) (arr' :=arr') (T:=T) (fr:=fr) (w' :=w') ae hg rfl (.inl ⟨⟨id,b0,q1⟩,b0,q1⟩) e2.here (fun k _ hk=>e2.other k hk) (by rw [e2.size];exact Nat.le_refl _) e2.os e2.tape e2.output
             (fun _=>by rw [e3,qN]) (by rw [e3];exact k2) (by
              rw [List.length_append,br,e3];have:(len+xs.length)*bk.sz=len*bk.sz+xs.length*bk.sz:=Nat.add_mul _ _ _;show b0+off*bk.sz+(len+xs.length)*bk.sz≤arr.size;omega) kF (fun i x j y v hi hy bC=>by
              dsimp only at bC;rw [e4] at bC;simp only [Nat.add_zero,Array.length_toList,hcs] at bC;have dI:j<x.cells.length:=(List.getElem?_eq_some_iff.1 hy).1;have cj:=kF i x hi;rw [List.getElem?_append] at hi;split at hi
              ·rename_i cc;rw [br] at cc;simp only [aD,List.getElem?_take,List.getElem?_drop] at hi;split at hi
               ·have:=cH (n:=bk.sz) cc;rw [if_neg (by omega)] at bC
                exact k4 (off+i) x j y v hi hy (by rw [←bC];congr 1;rw [Nat.add_mul];omega)
               ·first|(cases hi;done)|(exact absurd cc ‹_›)
              ·rename_i cc;rw [br] at hi cc;have x2:i-len<xs.length:=(List.getElem?_eq_some_iff.1 hi).1;have h7:i*bk.sz=len*bk.sz+(i-len)*bk.sz:=by rw [←Nat.add_mul];congr 1;omega
               have h8:=cH (n:=bk.sz) x2;rw [if_pos (by omega)] at bC
               refine cL.rel _ x j y v hi hy ?_;rw [←bC,←cp,Array.getElem?_toList];congr 1;omega)
            refine ⟨_,_,w',_,_,by simp only [Sem.run_bind,cK,Result.andThen_ok,Sem.run_pure];rfl,.inl rfl,?_,ho⟩
            refine .ref _ _ _ _ _ (Nat.lt_succ_self _) ⟨_,_,rfl⟩ fun b' aw=> ?_
            have cy:=(J.bp aw).1
            rw [show (J.mk (H.st+1) (H.bs.set id (some ⟨H.st,bk.sz,false,aD bk.el off len ++ xs⟩))).get id=_ from J.iw hg id,if_pos rfl] at cy;simp only [Option.some.injEq] at cy;subst cy;refine ⟨.at_ c (b0+off*bk.sz),_,_,by simp,rfl,by simp [br],by omega,by simp [br];omega,?_⟩
            refine Or.inr ⟨by simp,?_⟩
            dsimp only;have:aY w' c=arr.size:=by unfold aY;rw [e2.here];exact e3
            rw [this,Nat.zero_add];have:(off+cap)*bk.sz=off*bk.sz+cap*bk.sz:=Nat.add_mul _ _ _;omega
         ·
          have dG:=lS ae;obtain ⟨gb,t1,t2⟩: ∃gb:Array Value,(Builtin.firstCells te.sz len (.slice a0 len cap)).run P w.drew= .ok gb w.drew∧gb.size=len*te.sz∧
           ∀(i:Nat) (x:AV) (j:Nat) (y:AV) (v:Value),(aD bk.el off len)[i]? =some x→x.cells[j]? =some y→gb[i*te.sz+j]? =some v→R w.drew H φ A y v∧v.oneCell' =true:=by
           have x4:cA H (.ref id ad off len)=some (aD bk.el off len):=by simp only [cA,hb];rw [if_pos c1]
           have x5:bQ te.sz (aD bk.el off len)=true:=by
            rw [bQ,List.all_eq_true];intro q hq;obtain ⟨k,hk⟩:=List.getElem?_of_mem hq;have:=kF k q (by rw [List.getElem?_append_left (List.getElem?_eq_some_iff.1 hk).1];exact hk)
            simp [this,cp]
           obtain ⟨aV,eJ⟩:=jJ (P:=P) dG.st (a7.refl H) (hs.mono dG.bM) x4 x5 hz;have gO:=eJ.run len (by rw [br];exact Nat.le_refl _)
           have qO:aV.size=len*te.sz:=by rw [eJ.size,br]
           rw [←qO,Array.extract_size] at gO;exact ⟨aV,gO,qO,eJ.rel⟩
          obtain ⟨t2,t3⟩:=t2;obtain ⟨aV,eJ⟩:=jJ (P:=P) dG.st (a7.refl H) (hx.mono dG.bM) dH az hz;have gO:=eJ.run xs.length (Nat.le_refl _);rw [←eJ.size,Array.extract_size] at gO;obtain ⟨eA,arr,k1,k2,k3,k4⟩:=run_append_grow (P:=P) (w:=w) (hE _ _ ht) hu (hE _ _ ci) (hE _ _ cC) fC tys h0 h1 ty (base:=a0) (sLen:=len) (sCap:=cap) cL.len t1 gO t2 eJ.size (by omega) c2
          have hle:(len+xs.length)*te.sz≤eA*te.sz:=Nat.mul_le_mul_right _ k1
          have ho:=qL (b' :=⟨H.st,bk.sz,false,aD bk.el off len ++ xs⟩) (c:=w.drew.heap.size) (b0:=0) (arr' :=arr) (T:=e) (fr:=(0,0)) (w' :=w.drew.alloc (.cells arr e)) dG.st hg rfl (.inr (Nat.le_refl _)) (heap_alloc_new _ _) (fun k hk _=>heap_alloc_old _ _ hk) (by simp) rfl rfl rfl
           (fun h=>absurd h (Nat.lt_irrefl _)) (fun j _ h=>absurd h.2 (Nat.not_lt_zero j)) (by rw [List.length_append,br,k3,cp];omega) kF (fun i x j y v hi hy bC=>by
            have dI:j<x.cells.length:=(List.getElem?_eq_some_iff.1 hy).1;have cj:=kF i x hi;have cc:i<len+xs.length:=by have:=(List.getElem?_eq_some_iff.1 hi).1;rw [List.length_append,br] at this;exact this
            have h9:=cH (n:=te.sz) cc;simp only [cp,Nat.zero_add] at bC cj
            rw [k4 _ (by omega)] at bC
            rw [List.getElem?_append,br] at hi;split at hi
            ·rename_i og;have:=cH (n:=te.sz) og;rw [Array.getElem?_append_left (by omega)] at bC
             exact t3 i x j y v hi hy bC
            ·rename_i og;have h7:i*te.sz=len*te.sz+(i-len)*te.sz:=by rw [←Nat.add_mul];congr 1;omega
             rw [Array.getElem?_append_right (by omega)] at bC
             exact eJ.rel _ x j y v hi hy (by rw [←bC];congr 1;omega))
          have x6:=dG.trans ae ho;refine ⟨_,_,_,_,_,by simp only [Sem.run_bind,k2,Result.andThen_ok,Sem.run_pure];rfl,.inl rfl,?_,x6⟩
          refine .ref _ _ _ _ _ (Nat.lt_succ_self _) ⟨_,_,rfl⟩ fun b' aw=> ?_
          have cy:=(J.bp aw).1
          rw [show (J.mk (H.st+1) (H.bs.set id (some ⟨H.st,bk.sz,false,aD bk.el off len ++ xs⟩))).get id=_ from J.iw hg id,if_pos rfl] at cy;simp only [Option.some.injEq] at cy;subst cy;refine ⟨.at_ w.drew.heap.size 0,_,_,by simp,rfl,by simp [br],k1,by simp [br];omega,?_⟩
          refine Or.inr ⟨by simp,?_⟩
          dsimp only;rw [ku,k3,cp];simp
        ·simp at h
end ops
end Go.VS
namespace Go.VS
section ops
variable {P:Program} {E:aL} (hE: ∀t ti,E t=some ti→aQ P t ti)
variable {w:World} {H:J} {φ :af} {A:ah}
theorem cd.same {r:Result Next} {x:AV} {v:Value} {H' :J} (hr:r= .ok (.value v) w) (hx:R w H φ A x v) (ho:Out w H φ A w H' φ A):cd w H φ A H' r x:=
 ⟨_,v,w,φ,A,hr,.inl rfl,hx.mono ho.bM,ho⟩
include hE in
theorem x7 {H' :J} (ae:St w H φ A) {t:TypeId} {tys:Array TypeId} {ty:TypeId} (h0:tys[0]? =some t) {te:TI} (bh:cD E t=some te) {d x z:AV} {a b:Value} (hs:R w H φ A d a) (hx:R w H φ A x b)
 (h:nt te d x H=some (z,H')):cd w H φ A H' ((do pure (.value (←Builtin.copy_ tys ty #[a,b])):Sem Next).run P w) z:=by
 obtain ⟨ti,e,ht,hu,ci⟩:=iV bh;unfold nt at h;split at h
 ·simp at h
 ·rename_i xs dH;split at h
  ·simp at h
  ·rename_i az;simp only [Bool.or_eq_true,Bool.not_eq_true',beq_iff_eq,not_or,Bool.not_eq_false] at az;obtain ⟨az,hz⟩:=az;have hz:0<te.sz:=by omega
   obtain ⟨cs,cL⟩:=jJ (P:=P) ae (a7.refl H) hx dH az hz;have cK: ∀(base:Option Addr) (iW qP:Nat) (w' :World),(match base with|some a=>(storeCells a ((cs.extract 0 (min xs.length iW*te.sz)).toList)).run P w= .ok () w' |none=>w' =w)→
    (Builtin.copy_ tys ty #[.slice base iW qP,b]).run P w= .ok (.int .i64 (min xs.length iW:Nat)) w' :=by
    intro base iW qP w' hw
    have hc:=cL.run (min xs.length iW) (Nat.min_le_left _ _);unfold Builtin.copy_;simp only [h0,List.getElem?_toArray,List.getElem?_cons_zero,List.getElem?_cons_succ,Sem.run_bind,(hE _ _ ht).sl w hu,Result.andThen_ok,cL.len,(hE _ _ ci).sizeOf];rw [show Nat.min xs.length iW=min xs.length iW from rfl,hc];simp only [Result.andThen_ok];cases base with
    |none=>simp only at hw;subst hw;rfl
    |some a=>simp only at hw;simp only [Sem.run_bind,hw,Result.andThen_ok,Sem.run_pure,goInt]
   have hzero: ∀base cap,(Builtin.copy_ tys ty #[.slice base 0 cap,b]).run P w= .ok (.int .i64 0) w:=by
    intro base cap;have:=cK base 0 cap w (by cases base<;>simp [storeCells])
    simpa using this
   split at h
   ·simp only [Option.some.injEq,Prod.mk.injEq] at h;obtain ⟨rfl,rfl⟩:=h;have:=hs.cX;subst this;exact cd.same (by simp [hzero]) (.fr _ _ (.int _ _)) (.refl ae)
   ·simp only [Option.some.injEq,Prod.mk.injEq] at h;obtain ⟨rfl,rfl⟩:=h;obtain ⟨a0,rfl⟩:=hs.ew;exact cd.same (by simp [hzero]) (.fr _ _ (.int _ _)) (.refl ae)
   ·rename_i id ad off len;split at h
    ·simp at h
    ·rename_i bk hb;have hg:=(J.bp hb).1;split at h
     ·rename_i hc;simp only [Option.some.injEq,Prod.mk.injEq] at h;obtain ⟨rfl,rfl⟩:=h;have fD:(xs.take len).length=min xs.length len:=by rw [List.length_take,Nat.min_comm]
      by_cases hn:min xs.length len=0
      ·have:xs.take len=[]:=List.eq_nil_of_length_eq_zero (by omega)
       rw [this,oj _ _ (by omega),hn]
       obtain ⟨_,⟨a0,c0,rfl⟩,hr⟩:=hs.c7;have:=cK a0 len c0 w (by rw [hn];cases a0<;>simp [storeCells])
       rw [hn] at this;exact cd.same (by simp [this]) (.fr _ _ (.int _ _)) (ol ae hg)
      ·have l4:(cs.extract 0 (min xs.length len*te.sz)).size=min xs.length len*te.sz:=by
        have:=cL.size;have h2:min xs.length len*te.sz≤xs.length*te.sz:=Nat.mul_le_mul_right _ (Nat.min_le_left _ _);simp;omega
       obtain ⟨c,b0,cap,w',p1,p2,p3,p4,p5⟩:=oi (P:=P) ae hs hb (at_:=off) (n:=min xs.length len) (by omega) (Nat.le_refl _) (by omega) (.inr (.inr trivial)) fD (cs:=cs.extract 0 (min xs.length len*te.sz))
        (by rw [hc.1];exact l4) (fun u hu=>cL.one u (by rw [Array.toList_extract,List.extract_eq_take_drop] at hu;exact List.mem_of_mem_drop (List.mem_of_mem_take hu)))
        (fun i x hi=>by
         rw [List.getElem?_take] at hi;split at hi
         ·rw [hc.1];exact gM az hi
         ·simp at hi)
        (fun i x j y u hi hy hu=>by
         rw [List.getElem?_take] at hi;split at hi
         ·rw [Array.getElem?_extract] at hu;split at hu
          ·rw [hc.1] at hu;exact cL.rel i x j y u hi hy (by rw [←hu];congr 1;omega)
          ·simp at hu
         ·simp at hi)
       subst p2;have:=cK (some ⟨c,b0+off*bk.sz,none⟩) len cap w' p4
       exact ⟨_,_,w',φ,A,by simp only [Sem.run_bind,this,Result.andThen_ok,Sem.run_pure],.inl rfl,.fr _ _ (.int _ _),p5⟩
     ·simp at h
   ·simp at h
include hE in
theorem x8 {H' :J} (ae:St w H φ A) {t:TypeId} {tys:Array TypeId} {ty:TypeId} (h0:tys[0]? =some t) {te:TI} (bh:cD E t=some te) {d z:AV} {a:Value} (hs:R w H φ A d a)
 (h:nu te d H=some (z,H')):cd w H φ A H' ((do pure (.value (←Builtin.clear_ tys ty #[a])):Sem Next).run P w) z:=by
 obtain ⟨ti,e,ht,hu,ci⟩:=iV bh;have hzero: ∀a0 cap,(Builtin.clear_ tys ty #[.slice a0 0 cap]).run P w= .ok (.tuple #[]) w:=by
  intro a0 cap;unfold Builtin.clear_;simp only [h0,List.getElem?_toArray,List.getElem?_cons_zero,Sem.run_bind,(hE _ _ ht).sl w hu,Result.andThen_ok];cases a0<;>rfl
 have oo:R w H φ A (.ay []) (.tuple #[]):= .fr _ _ (.ay [] #[] rfl (by simp))
 unfold nu at h;split at h
 ·simp only [Option.some.injEq,Prod.mk.injEq] at h;obtain ⟨rfl,rfl⟩:=h;have:=hs.cX;subst this;exact cd.same (by simp [hzero]) oo (.refl ae)
 ·simp only [Option.some.injEq,Prod.mk.injEq] at h;obtain ⟨rfl,rfl⟩:=h;obtain ⟨a0,rfl⟩:=hs.ew;exact cd.same (by simp [hzero]) oo (.refl ae)
 ·rename_i id ad off len;split at h
  ·rename_i bk zA hb hz;have hg:=(J.bp hb).1;split at h
   ·rename_i hc;simp only [Option.some.injEq,Prod.mk.injEq] at h;obtain ⟨rfl,rfl⟩:=h;by_cases hn:len=0
    ·subst hn;obtain ⟨_,_,hr⟩:=hs.c7;obtain ⟨loc,a1,cap,_,rfl,_⟩:=(hr bk hb).out;rw [List.replicate_zero,oj _ _ (by omega)]
     exact cd.same (by simp [hzero]) oo (ol ae hg)
    ·obtain ⟨zv,z1,z2,z3,z4,_,z5⟩:=iR (hE _ _ ci) hz w;have hcs: ∀(i j:Nat) (u:Value),i<len→j<te.sz→(Builtin.zeroCells zv.cells len)[i*te.sz+j]? =some u→zv.cells[j]? =some u:=by
      intro i j u hi hj hu;refine kx z2 hi hj ?_;rw [←hu];unfold Builtin.zeroCells;rw [z2]
     have lY:(Builtin.zeroCells zv.cells len).size=len*te.sz:=by simp [Builtin.zeroCells,z2]
     have oq:0<te.sz:=by
      rcases Nat.eq_zero_or_pos te.sz with h|h
      ·rw [h] at hc;have:=hc.2.2;simp at this
      ·exact h
     obtain ⟨c,b0,cap,w',p1,p2,p3,p4,p5⟩:=oi (P:=P) ae hs hb (at_:=off) (n:=len) (by omega) (Nat.le_refl _) (by omega) (.inr (.inr trivial)) (xs:=List.replicate len zA) (by simp) (cs:=Builtin.zeroCells zv.cells len)
      (by rw [hc.1];exact lY) (fun u hu=>by
       obtain ⟨k,hk⟩:=List.getElem?_of_mem hu;rw [Array.getElem?_toList] at hk;have n4:k<len*te.sz:=by rw [←lY];exact (Array.getElem?_eq_some_iff.1 hk).1
       have lO:k/te.sz*te.sz+k % te.sz=k:=by rw [Nat.mul_comm];exact Nat.div_add_mod k te.sz
       have:=hcs (k/te.sz) (k % te.sz) u (qD n4 oq) (Nat.mod_lt k oq) (by rw [lO];exact hk)
       have dI:k % te.sz<te.zero.length:=by rw [z4];exact Nat.mod_lt k oq
       exact (z5 w A _ _ u (List.getElem?_eq_getElem dI) this).2)
      (fun i x hi=>by
       rw [List.getElem?_replicate] at hi;split at hi
       ·simp only [Option.some.injEq] at hi;subst hi;rw [z3,z4,hc.1]
       ·simp at hi)
      (fun i x j y u hi hy hu=>by
       rw [List.getElem?_replicate] at hi;split at hi
       ·rename_i cc;simp only [Option.some.injEq] at hi;subst hi;rw [z3] at hy;have hj:j<te.sz:=by rw [←z4];exact (List.getElem?_eq_some_iff.1 hy).1
        rw [hc.1] at hu;have:=z5 w A j y u hy (hcs i j u cc hj hu);exact ⟨.fr _ _ this.1,this.2⟩
       ·simp at hi)
     subst p2;refine ⟨_,_,w',φ,A,?_,.inl rfl,.fr _ _ (.ay [] #[] rfl (by simp)),p5⟩
     have:(Builtin.clear_ tys ty #[.slice (some ⟨c,b0+off*bk.sz,none⟩) len cap]).run P w= .ok (.tuple #[]) w' :=by
      unfold Builtin.clear_;simp only [h0,List.getElem?_toArray,List.getElem?_cons_zero,Sem.run_bind,(hE _ _ ht).sl w hu,Result.andThen_ok];cases len with
      |zero=>exact absurd rfl hn
      |succ n=>simp only [z1,Result.andThen_ok,p4,Sem.run_pure]
     simp only [Sem.run_bind,this,Result.andThen_ok,Sem.run_pure]
   ·simp at h
  ·simp at h
 ·simp at h
include hE in
theorem qQ {t:TypeId} {tys:Array TypeId} {ty:TypeId} (h0:tys[0]? =some t) {x:AV} {a:Value} (hs:R w H φ A x a) {n:Nat} {H0:J} (_hX:a7 H0 H) (h:lenOf H0 x=some n) {ti:TI} (ht:E t=some ti) (hu:(∃e,ti.aq= .sl e∧ ∀s,x≠ .str s)∨(ti.aq= .str∧ ∃s,x= .str s)):
 (Builtin.len_ tys ty #[a]).run P w= .ok (.int .i64 n) w:=by
 unfold Builtin.len_;simp only [h0,List.getElem?_toArray,List.getElem?_cons_zero,Sem.run_bind];rcases hu with ⟨e,hu,hn⟩|⟨hu,s,rfl⟩
 ·simp only [(hE _ _ ht).sl w hu,Result.andThen_ok];cases x with
  |nil=>simp [lenOf] at h;subst h;have:=hs.cX;subst this;rfl
  |e0=>simp [lenOf] at h;subst h;obtain ⟨a0,rfl⟩:=hs.ew;rfl
  |fz xs=>simp [lenOf] at h;subst h;have:=hs.du;cases this<;>rfl
  |ref id ad off len=>
   simp only [lenOf,Option.some.injEq] at h;subst h;obtain ⟨_,⟨a1,cap,rfl⟩,_⟩:=hs.c7;rfl
  |str s=>exact absurd rfl (hn s)
  |_=>simp [lenOf] at h
 ·obtain ⟨b,rfl,hb⟩:=hs.et;simp only [lenOf,Option.some.injEq] at h;subst h;simp only [(hE _ _ ht).iP w hu,Result.andThen_ok,Sem.run_pure,goInt];rw [←hb];simp
end ops
end Go.VS
namespace Go.VS
theorem J.iX {H H' :J} (h:H' =H∨ ∃sz fx el,H' =H.new sz fx el):a7 H H' ∧(∀id b,H'.get id=some b→b.ad<H.st→H.get id=some b)∧H.bs.length≤H'.bs.length:=by
 rcases h with rfl|⟨sz,fx,el,rfl⟩
 ·exact ⟨a7.refl _,fun _ _ h _=>h,Nat.le_refl _⟩
 ·refine ⟨J.nS H sz fx el,fun id b hg hv=> ?_,by simp [J.new]⟩
  by_cases bN:id<H.bs.length
  ·rw [J.qw H sz fx el bN] at hg;exact hg
  ·have hl:=J.fW hg;have:id=H.bs.length:=by simp [J.new] at hl;omega
   subst this;rw [J.dP] at hg;simp only [Option.some.injEq] at hg;subst hg;exact absurd hv (Nat.lt_irrefl _)
theorem qR {E:aL} {op:Op} {s:ak} {H H' :J} {z:AV} (hq:dC op=true) (h:aO E op s H=some (z,H')):H' =H∨ ∃sz fx el,H' =H.new sz fx el:=by
 have lU: ¬ ∃t a v,op= .store t a v:=by
  rintro ⟨t,a,v,rfl⟩;have:dC (.store t a v)=false:=rfl;rw [this] at hq;simp at hq
 cases op with
 |makeFunc fn first cap=>
  cases fn<;>simp only [aO] at h
  ·split at h
   ·simp only [Option.some.injEq,Prod.mk.injEq] at h;exact .inl h.2.symm
   ·simp at h
  all_goals simp at h
 |_=>(simp only [aO] at h<;>(repeat' split at h)<;>first
  |(simp at h;done)
  |(simp only [Option.some.injEq,Prod.mk.injEq] at h;first|exact .inl h.2.symm|exact .inr ⟨_,_,_,h.2.symm⟩|exact absurd ⟨_,_,_,rfl⟩ lU)
  |exact absurd ⟨_,_,_,rfl⟩ lU)
section ops
variable {P:Program} {E:aL} (hE: ∀t ti,E t=some ti→aQ P t ti)
variable {w:World} {H:J} {φ :af} {A:ah}
theorem St.new (ae:St w H φ A) {id:Nat} (h:H.bs.length≤id): φ id=none:=by
 cases hp: φ id with
 |none=>rfl
 |some loc=>
  obtain ⟨b,hb,_⟩:=ae.ap id loc hp;have:=J.fW hb;omega
theorem iY (ae:St w H φ A) {H' :J} (hx:a7 H H') (ho: ∀id b,H'.get id=some b→b.ad<H.st→H.get id=some b):Out w H φ A w H' φ A:=by
 have aP:bF w H φ A w H' φ A:=⟨fun c a t fr hc hn=>⟨⟨fr,hc⟩,hn⟩,hx.2,fun id b hb hv=>⟨b,ho id b hb hv,rfl,rfl,rfl,rfl,fun _ h=>h⟩,fun _ _=>rfl⟩
 refine ⟨⟨ae.inj,ae.own,ae.bV,fun id loc h=> ?_⟩,.refl _ _,aP,fun _ h _=>h⟩;obtain ⟨b,hb,ag⟩:=ae.ap id loc h;refine ⟨b,hx.1 _ _ hb,Nat.lt_of_lt_of_le ag.ad hx.2,ag.sized,ag.aN,fun c b0 hl=> ?_⟩;obtain ⟨arr,T,fr,h1,h2,h3,h4⟩:=ag.here c b0 hl;exact ⟨arr,T,fr,h1,h2,h3,fun i x j y v hx hy hv=>⟨(h4 i x j y v hx hy hv).1.mono aP,(h4 i x j y v hx hy hv).2⟩⟩
theorem cd.kG (ae:St w H φ A) {H' :J} (he:H' =H∨ ∃sz fx el,H' =H.new sz fx el) {r:Result Next} {z:AV} (h:bf w H' φ A H H' r z):cd w H φ A H' r z:=by
 obtain ⟨n,v,w',aj,A',h1,h2,h3,h4,_⟩:=h;obtain ⟨e1,e2,_⟩:=J.iX he;exact ⟨n,v,w',aj,A',h1,h2,h3,(iY ae e1 e2).trans ae h4⟩
include hE in
theorem x9 {H' :J} (ae:St w H φ A) {o:Oper} {s:ak} {ρ :Operand→Value} {z:AV} (aR: ∀y∈o.op.operands,R w H φ A (ev s y) (ρ y)) (h:aO E o.op s H=some (z,H')):
 cd w H φ A H' ((execOp ρ o).run P w) z:=by
 by_cases hq:dC o.op=true
 ·have he:=qR hq h;obtain ⟨e1,e2,_⟩:=J.iX he;have ho:=iY ae e1 e2;exact cd.kG ae he (qK hE ho.st e1 (a7.refl _) (fun _=>ae.new (Nat.le_refl _)) hq (fun y hy=>(aR y hy).mono ho.bM) h)
 ·obtain ⟨dst,op,type,pos,after,guard⟩:=o;cases op with
  |store t x v=>
   have hx:=aR x (by simp [Op.operands])
   have hv:=aR v (by simp [Op.operands])
   simp only [aO] at h;exact xW hE ae hx hv h
  |_=>first|(simp [dC] at hq;done)|(simp [aO] at h;done)
theorem kH {op:Value→Value→Sem Value} {f:AV→AV→Option AV} (bn: ∀a b x y z,R w H φ A a x→R w H φ A b y→f a b=some z→ ∃v,(op x y).run P w= .ok v w∧R w H φ A z v):
 ∀(rest:List AV) (vs:List Value) (x:AV) (v:Value) (z:AV),rest.length=vs.length→(∀(i:Nat) (a:AV) (u:Value),rest[i]? =some a→vs[i]? =some u→R w H φ A a u)→R w H φ A x v→rest.foldlM f x=some z→
 ∃u,(vs.foldlM op v).run P w= .ok u w∧R w H φ A z u
 |[],[],x,v,z,_,_,hx,h=>by simp at h;subst h;exact ⟨v,by simp,hx⟩
 |[],_::_,_,_,_,h,_,_,_=>by simp at h
 |_::_,[],_,_,_,h,_,_,_=>by simp at h
 |a::rest,b::vs,x,v,z,hl,hr,hx,h=>by
  simp only [List.foldlM_cons] at h;cases hf:f x a with
  |none=>simp [hf] at h
  |some y=>
   simp only [hf,Option.bind_eq_bind,Option.bind_some] at h;obtain ⟨u,hu,hy⟩:=bn _ _ _ _ _ hx (hr 0 a b rfl rfl) hf;obtain ⟨q,hq,hz⟩:=kH bn rest vs y u z (by simpa using hl) (fun i a u h1 h2=>hr (i+1) a u h1 h2) hy h
   exact ⟨q,by simp [hu,hq],hz⟩
include hE in
theorem x_ {H' :J} (ae:St w H φ A) {b:Builtin} {tys:Array TypeId} {ty:TypeId} {consts:Array Bool} {args:List AV} {vs:Array Value} {z:AV} (hl:args.length=vs.size)
 (aR: ∀(i:Nat) (a:AV) (u:Value),args[i]? =some a→vs[i]? =some u→R w H φ A a u) (h:df E b tys args H=some (z,H')):
 cd w H φ A H' ((builtin b tys ty consts vs).run P w) z:=by
 unfold df at h;split at h
 ·rename_i x;obtain ⟨a,rfl⟩: ∃a,vs= #[a]:=by
   have h1:vs.size=1:=hl.symm;exact ⟨vs[0],by apply Array.ext;simp [h1];intro i h1 h2;simp at h2;subst h2;rfl⟩
  have hx:=aR 0 x a rfl rfl;split at h
  ·rename_i ti n ht hn;obtain ⟨t,h0,ht⟩:=Option.bind_eq_some_iff.1 ht;have key: ∀{q:AV×J},some q=some (z,H')→q=(AV.int .i64 n,H)→((∃e,ti.aq= .sl e∧ ∀s,x≠ .str s)∨(ti.aq= .str∧ ∃s,x= .str s))→cd w H φ A H' ((builtin .len tys ty consts #[a]).run P w) z:=by
    intro q hq ou hu;subst ou;simp only [Option.some.injEq,Prod.mk.injEq] at hq;obtain ⟨rfl,rfl⟩:=hq;have:=qQ (tys:=tys) (ty:=ty) hE h0 hx (a7.refl H) hn ht hu;exact cd.same (by simp [builtin,this]) (.fr _ _ (.int _ _)) (.refl ae)
   split at h
   ·rename_i s hu;exact key h rfl (.inr ⟨hu,s,rfl⟩)
   ·simp at h
   ·rename_i e hu aM;exact key h rfl (.inl ⟨e,hu,fun s hs=>aM s hs⟩)
   ·simp at h
  ·simp at h
 ·rename_i s x;obtain ⟨a,b,rfl⟩: ∃a b,vs= #[a,b]:=by
   have h1:vs.size=2:=hl.symm;exact ⟨vs[0],vs[1],by apply Array.ext;simp [h1];intro i h1 h2;simp at h2;rcases i with _|_|i;rfl;rfl;omega⟩
  have hs:=aR 0 s a rfl rfl;have hx:=aR 1 x b rfl rfl;split at h
  ·rename_i t h0;split at h
   ·rename_i te tx bh cC;obtain ⟨t2,h1,cC⟩:=Option.bind_eq_some_iff.1 cC;by_cases hit: ∃k,tx.aq= .it k
    ·obtain ⟨k,hit⟩:=hit;rw [hit] at h;simp only at h;split at h
     ·rename_i n;have he:H' =H∨ ∃sz fx el,H' =H.new sz fx el:=by
       unfold kb at h;repeat' split at h
       all_goals first
        |(simp at h;done)
        |(simp only [Option.some.injEq,Prod.mk.injEq] at h;first|exact .inl h.2.symm|exact .inr ⟨_,_,_,h.2.symm⟩)
      obtain ⟨e1,e2,_⟩:=J.iX he;have ho:=iY ae e1 e2;exact cd.kG ae he (qH hE ho.st (a7.refl _) (fun _=>ae.new (Nat.le_refl _)) h0 h1 bh cC hit (hs.mono ho.bM) (hx.mono ho.bM) h)
     ·simp at h
    have l5: ∀k,tx.aq≠ .it k:=fun k hk=>hit ⟨k,hk⟩;replace h:dW te s x H=some (z,H'):=by
     split at h
     ·rename_i k hk;exact absurd hk (l5 k)
     ·exact h
    cases s with
    |ref id ad off len=>exact xZ hE ae h0 h1 bh cC l5 hs hx h
    |nil=>
     have he:H' =H∨ ∃sz fx el,H' =H.new sz fx el:=by
      simp only [dW] at h;repeat' split at h
      all_goals first
       |(simp at h;done)
       |(simp only [Option.some.injEq,Prod.mk.injEq] at h;first|exact .inl h.2.symm|exact .inr ⟨_,_,_,h.2.symm⟩)
     obtain ⟨e1,e2,_⟩:=J.iX he;have ho:=iY ae e1 e2;exact cd.kG ae he (ob hE ho.st e1 (a7.refl _) (fun _=>ae.new (Nat.le_refl _)) h0 h1 bh cC l5 (hs.mono ho.bM) (hx.mono ho.bM) (.inl rfl) h)
    |e0=>
     have he:H' =H∨ ∃sz fx el,H' =H.new sz fx el:=by
      simp only [dW] at h;repeat' split at h
      all_goals first
       |(simp at h;done)
       |(simp only [Option.some.injEq,Prod.mk.injEq] at h;first|exact .inl h.2.symm|exact .inr ⟨_,_,_,h.2.symm⟩)
     obtain ⟨e1,e2,_⟩:=J.iX he;have ho:=iY ae e1 e2;exact cd.kG ae he (ob hE ho.st e1 (a7.refl _) (fun _=>ae.new (Nat.le_refl _)) h0 h1 bh cC l5 (hs.mono ho.bM) (hx.mono ho.bM) (.inr rfl) h)
    |_=>(simp only [dW] at h;(repeat' split at h)<;>simp at h)
   ·simp at h
  ·simp at h
 ·rename_i d x;obtain ⟨a,b,rfl⟩: ∃a b,vs= #[a,b]:=by
   have h1:vs.size=2:=hl.symm;exact ⟨vs[0],vs[1],by apply Array.ext;simp [h1];intro i h1 h2;simp at h2;rcases i with _|_|i;rfl;rfl;omega⟩
  split at h
  ·rename_i te bh;obtain ⟨t,h0,bh⟩:=Option.bind_eq_some_iff.1 bh;exact x7 hE ae h0 bh (aR 0 d a rfl rfl) (aR 1 x b rfl rfl) h
  ·simp at h
 ·rename_i d;obtain ⟨a,rfl⟩: ∃a,vs= #[a]:=by
   have h1:vs.size=1:=hl.symm;exact ⟨vs[0],by apply Array.ext;simp [h1];intro i h1 h2;simp at h2;subst h2;rfl⟩
  split at h
  ·rename_i te bh;obtain ⟨t,h0,bh⟩:=Option.bind_eq_some_iff.1 bh;exact x8 hE ae h0 bh (aR 0 d a rfl rfl) h
  ·simp at h
 ·split at h
  ·rename_i v hv;simp only [Option.some.injEq,Prod.mk.injEq] at h;obtain ⟨rfl,rfl⟩:=h;cases args with
   |nil=>simp [jw] at hv
   |cons x rest=>
    obtain ⟨a,us,dp⟩: ∃a us,vs.toList=a::us:=by
     cases eK:vs.toList with
     |nil=>have:=congrArg List.length eK;simp at this;simp [this] at hl
     |cons a us=>exact ⟨a,us,rfl⟩
    have hlen:rest.length=us.length:=by have:=congrArg List.length dp;simp at this;simp at hl;omega
    have bz: ∀(i:Nat) (u:Value),(a::us)[i]? =some u→vs[i]? =some u:=fun i u hu=>by rw [←dp] at hu;simpa using hu
    obtain ⟨u,hu,hz⟩:=kH (P:=P) (op:=Builtin.min2) (f:=fun a b=>match a,b with| .int k x,.int _ y=>some (.int k (if y<x then y else x))|_,_=>none) (fun a b x y z ha hb hf=>by
     split at hf
     ·have e1:=ha.cg;have e2:=hb.cg;subst e1;subst e2;simp only [Option.some.injEq] at hf;subst hf;exact ⟨_,by simp [Builtin.min2],.fr _ _ (.int _ _)⟩
     ·simp at hf) rest us x a v hlen (fun i p q hp hq=>aR (i+1) p q hp (bz (i+1) q hq)) (aR 0 x a rfl (bz 0 a rfl)) hv
    exact cd.same (by simp [builtin,Builtin.min_,dp,hu]) hz (.refl ae)
  ·simp at h
 ·split at h
  ·rename_i v hv;simp only [Option.some.injEq,Prod.mk.injEq] at h;obtain ⟨rfl,rfl⟩:=h;cases args with
   |nil=>simp [jx] at hv
   |cons x rest=>
    obtain ⟨a,us,dp⟩: ∃a us,vs.toList=a::us:=by
     cases eK:vs.toList with
     |nil=>have:=congrArg List.length eK;simp at this;simp [this] at hl
     |cons a us=>exact ⟨a,us,rfl⟩
    have hlen:rest.length=us.length:=by have:=congrArg List.length dp;simp at this;simp at hl;omega
    have bz: ∀(i:Nat) (u:Value),(a::us)[i]? =some u→vs[i]? =some u:=fun i u hu=>by rw [←dp] at hu;simpa using hu
    obtain ⟨u,hu,hz⟩:=kH (P:=P) (op:=Builtin.max2) (f:=fun a b=>match a,b with| .int k x,.int _ y=>some (.int k (if y>x then y else x))|_,_=>none) (fun a b x y z ha hb hf=>by
     split at hf
     ·have e1:=ha.cg;have e2:=hb.cg;subst e1;subst e2;simp only [Option.some.injEq] at hf;subst hf;exact ⟨_,by simp [Builtin.max2],.fr _ _ (.int _ _)⟩
     ·simp at hf) rest us x a v hlen (fun i p q hp hq=>aR (i+1) p q hp (bz (i+1) q hq)) (aR 0 x a rfl (bz 0 a rfl)) hv
    exact cd.same (by simp [builtin,Builtin.max_,dp,hu]) hz (.refl ae)
  ·simp at h
 ·obtain ⟨a,rfl⟩: ∃a,vs= #[a]:=by
   have h1:vs.size=1:=hl.symm;exact ⟨vs[0],by apply Array.ext;simp [h1];intro i h1 h2;simp at h2;subst h2;rfl⟩
  have hx:=(aR 0 .nil a rfl rfl).cX;subst hx;split at h
  ·rename_i ti ht;obtain ⟨t,h0,ht⟩:=Option.bind_eq_some_iff.1 ht;split at h
   ·rename_i e hu;simp only [Option.some.injEq,Prod.mk.injEq] at h;obtain ⟨rfl,rfl⟩:=h;have hc:(Builtin.cap_ tys ty #[.slice none 0 0]).run P w= .ok (.int .i64 0) w:=by
     unfold Builtin.cap_;simp only [h0,List.getElem?_toArray,List.getElem?_cons_zero,Sem.run_bind,(hE _ _ ht).sl w hu,Result.andThen_ok];rfl
    exact cd.same (by simp [builtin,hc]) (.fr _ _ (.int _ _)) (.refl ae)
   ·simp at h
  ·simp at h
 ·simp at h
end ops
end Go.VS
namespace Go.VS
def aC (φ :af) (L:J):af:=fun id=>if (L.get id).isSome then φ id else none
theorem J.iy (H:J) (id k:Nat):(H.del id).get k=if k=id then none else H.get k:=by
 unfold J.del J.get;simp only [List.getElem?_set];by_cases hk:id=k
 ·subst hk;simp only [if_true];split<;>rfl
 ·rw [if_neg hk,if_neg (fun e=>hk e.symm)]
structure bB (L L1:J):Prop where
 get: ∀id b,L1.get id=some b→L.get id=some b
 st:L1.st=L.st
 len:L1.bs.length=L.bs.length
theorem bB.refl (L:J):bB L L:=⟨fun _ _ h=>h,rfl,rfl⟩
theorem bB.trans {L L1 L2:J} (h:bB L L1) (k:bB L1 L2):bB L L2:=⟨fun id b hb=>h.get id b (k.get id b hb),k.st.trans h.st,k.len.trans h.len⟩
theorem bB.del (L:J) (id:Nat):bB L (L.del id):=⟨fun k b h=>by rw [J.iy] at h;split at h;simp at h;exact h,rfl,by simp [J.del]⟩
theorem db {φ :af} {L:J} {id:Nat} {loc:Loc} (h:aC φ L id=some loc): φ id=some loc∧ ∃b,L.get id=some b:=by
 unfold aC at h;split at h
 ·rename_i hs;exact ⟨h,Option.isSome_iff_exists.1 hs⟩
 ·simp at h
theorem fE {φ :af} {L L1:J} (h:bB L L1):aC (aC φ L) L1=aC φ L1:=by
 funext id
 unfold aC;cases h1:L1.get id with
 |none=>simp
 |some b=>simp [h.get id b h1]
theorem bH {φ :af} {L:J} {c:Nat} (h:Ow (aC φ L) c):Ow φ c:=by
 obtain ⟨id,b,h⟩:=h;exact ⟨id,b,(db h).1⟩
section bu
variable {w:World}
theorem cV {L L1:J} {φ :af} {A:ah} (hl:bB L L1):bF w L φ A w L1 (aC φ L1) A:=by
 refine ⟨fun c a t fr hc hn=>⟨⟨fr,hc⟩,hn⟩,by rw [hl.st];exact Nat.le_refl _,fun id b hb _=>⟨b,hl.get id b hb,rfl,rfl,rfl,rfl,fun loc h=> ?_⟩,fun _ _=>rfl⟩
 unfold aC;rw [hb];simpa using h
theorem dS {L L1:J} {φ :af} {A:ah} (ae:St w L φ A) (hl:bB L L1):St w L1 (aC φ L1) A:=by
 refine ⟨fun i i' c b b' h h' =>ae.inj _ _ _ _ _ (db h).1 (db h').1,fun c hc=>ae.own c (bH hc),ae.bV,fun id loc h=> ?_⟩
 obtain ⟨h1,b,hb⟩:=db h;obtain ⟨b',aw,ag⟩:=ae.ap id loc h1;rw [hl.get id b hb] at aw;simp only [Option.some.injEq] at aw;subst aw;refine ⟨b,hb,by rw [hl.st];exact ag.ad,ag.sized,ag.aN,fun c b0 he=> ?_⟩
 obtain ⟨arr,T,fr,k1,k2,k3,k4⟩:=ag.here c b0 he;exact ⟨arr,T,fr,k1,k2,k3,fun i x j y v hx hy hv=>⟨(k4 i x j y v hx hy hv).1.mono (cV hl),(k4 i x j y v hx hy hv).2⟩⟩
structure bW (w:World) (L:J) (φL:af) (AL:ah) (H:J) (φ :af) (AH:ah):Prop where
 sl:St w L φL AL
 sh:St w H φ AH
 b8: ∀c,Ow φL c→ ¬Ow φ c
 d_: ∀c,Ow φL c→AH c
structure b9 (w:World) (L:J) (φL:af) (AL:ah) (H:J) (φ :af) (AH:ah) (L1:J) (H1:J) (φ1:af):Prop where
 less:bB L L1
 bu:bW w L1 (aC φL L1) AL H1 φ1 AH
 eh:bF w H φ AH w H1 φ1 AH
 oh: ∀c,Ow φ1 c→Ow φ c∨(Ow φL c∧ ¬Ow (aC φL L1) c)
 gP: ∀c,Ow φ c→Ow φ1 c
 hlen:H.bs.length≤H1.bs.length
 bz: ∀id b,H.get id=some b→H1.get id=some b
 bX: ∀id loc,φ id=some loc→ φ1 id=some loc
theorem b9.refl {L:J} {φL:af} {AL:ah} {H:J} {φ :af} {AH:ah} (h:bW w L φL AL H φ AH):b9 w L φL AL H φ AH L H φ :=by
 refine ⟨.refl _,⟨dS h.sl (.refl _),h.sh,fun c hc=>h.b8 c (bH hc),fun c hc=>h.d_ c (bH hc)⟩,.refl _ _ _ _,fun c hc=> .inl hc,fun c hc=>hc,Nat.le_refl _,fun _ _ h=>h,fun _ _ h=>h⟩
theorem b9.trans {L L1 L2:J} {φL:af} {AL:ah} {H H1 H2:J} {φ φ1 a_:af} {AH:ah} (h:b9 w L φL AL H φ AH L1 H1 φ1) (k:b9 w L1 (aC φL L1) AL H1 φ1 AH L2 H2 a_):b9 w L φL AL H φ AH L2 H2 a_:=by
 have hr:=fE (φ := φL) k.less;refine ⟨h.less.trans k.less,by rw [←hr];exact k.bu,h.eh.trans k.eh (fun _ _=>rfl),fun c hc=> ?_,fun c hc=>k.gP c (h.gP c hc),Nat.le_trans h.hlen k.hlen,fun id b hb=>k.bz id b (h.bz id b hb),fun id loc hl=>k.bX id loc (h.bX id loc hl)⟩
 rcases k.oh c hc with h1|⟨h1,h2⟩
 ·rcases h.oh c h1 with h3|⟨h3,h4⟩
  ·exact .inl h3
  ·refine .inr ⟨h3,fun h5=>h4 ?_⟩;rw [←hr] at h5;exact bH h5
 ·rw [hr] at h2;exact .inr ⟨bH h1,h2⟩
theorem newAt {L L1:J} {φL:af} {AL:ah} {H H1:J} {φ φ1:af} {AH:ah} (m:b9 w L φL AL H φ AH L1 H1 φ1) {sz:Nat} {fx:Bool} {el:List AV} {loc:Loc}
 (dQ: ∀(i:Nat) (x:AV),el[i]? =some x→x.cells.length=sz) (hv:loc= .aN→el=[])
 (ea: ∀c b0,loc= .at_ c b0→Ow φL c∧ ¬Ow (aC φL L1) c∧ ¬Ow φ1 c∧AH c∧ ∃arr T fr,w.heap[c]? =some (.cells arr T fr)∧(∀j,j<arr.size→ ¬(fr.1≤j∧j<fr.2))∧b0+el.length*sz≤arr.size∧
  ∀(i:Nat) (x:AV) (j:Nat) (y:AV) (v:Value),el[i]? =some x→x.cells[j]? =some y→arr[b0+i*sz+j]? =some v→R w H1 φ1 AH y v∧v.oneCell' =true):
 b9 w L φL AL H φ AH L1 (H1.new sz fx el) (fun i=>if i=H1.bs.length then some loc else φ1 i):=by
 have e9:=m.bu.sh;have bm:=St.new e9 (Nat.le_refl H1.bs.length);have hx:=J.nS H1 sz fx el;have hold: ∀id b,(H1.new sz fx el).get id=some b→b.ad<H1.st→H1.get id=some b:=(J.iX (.inr ⟨sz,fx,el,rfl⟩)).2.1;have aP:bF w H1 φ1 AH w (H1.new sz fx el) (fun i=>if i=H1.bs.length then some loc else φ1 i) AH:=by
  refine ⟨fun c a t fr hc hn=>⟨⟨fr,hc⟩,hn⟩,hx.2,fun id b hb ax=>⟨b,hold id b hb ax,rfl,rfl,rfl,rfl,fun l hl=> ?_⟩,fun _ _=>rfl⟩;rw [if_neg (by rintro rfl;rw [bm] at hl;simp at hl)];exact hl
 have dD: ∀c,Ow (fun i=>if i=H1.bs.length then some loc else φ1 i) c→Ow φ1 c∨ ∃b0,loc= .at_ c b0:=by
  rintro c ⟨i,b,h⟩;try simp only at h
  split at h
  ·simp only [Option.some.injEq] at h;exact .inr ⟨b,h⟩
  ·exact .inl ⟨i,b,h⟩
 refine ⟨m.less,⟨m.bu.sl,⟨fun i i' c b b' h1 h2=> ?_,fun c hc=> ?_,e9.bV,fun i l hl=> ?_⟩,fun c hc ho=> ?_,m.bu.d_⟩,m.eh.trans aP (fun _ _=>rfl),fun c hc=> ?_,fun c hc=> ?_,?_,fun id b hb=>hx.1 _ _ (m.bz id b hb),fun id l hl=> ?_⟩
 ·try simp only at h1 h2
  split at h1
  ·rename_i hi;split at h2
   ·rename_i gL;omega
   ·simp only [Option.some.injEq] at h1;exact absurd ⟨i',b',h2⟩ (ea c b h1).2.2.1
  ·split at h2
   ·simp only [Option.some.injEq] at h2;exact absurd ⟨i,b,h1⟩ (ea c b' h2).2.2.1
   ·exact e9.inj _ _ _ _ _ h1 h2
 ·rcases dD c hc with h|⟨b0,h⟩
  ·exact e9.own c h
  ·exact (ea c b0 h).2.2.2.1
 ·try simp only at hl
  split at hl
  ·rename_i hi;subst hi;simp only [Option.some.injEq] at hl;subst hl;refine ⟨_,J.dP _ _ _ _,Nat.lt_succ_self _,dQ,hv,fun c b0 he=> ?_⟩;obtain ⟨_,_,_,_,arr,T,fr,k1,k2,k3,k4⟩:=ea c b0 he;exact ⟨arr,T,fr,k1,k2,k3,fun j x q y v bD hy ck=>⟨(k4 j x q y v bD hy ck).1.mono aP,(k4 j x q y v bD hy ck).2⟩⟩
  ·obtain ⟨bb,hb,ag⟩:=e9.ap i l hl;refine ⟨bb,hx.1 _ _ hb,Nat.lt_of_lt_of_le ag.ad hx.2,ag.sized,ag.aN,fun c b0 he=> ?_⟩;obtain ⟨arr,T,fr,k1,k2,k3,k4⟩:=ag.here c b0 he;exact ⟨arr,T,fr,k1,k2,k3,fun j x q y v bD hy ck=>⟨(k4 j x q y v bD hy ck).1.mono aP,(k4 j x q y v bD hy ck).2⟩⟩
 ·rcases dD c ho with h|⟨b0,h⟩
  ·exact m.bu.b8 c hc h
  ·exact (ea c b0 h).2.1 hc
 ·rcases dD c hc with h|⟨b0,h⟩
  ·exact m.oh c h
  ·exact .inr ⟨(ea c b0 h).1,(ea c b0 h).2.1⟩
 ·obtain ⟨i,b,h⟩:=m.gP c hc
  exact ⟨i,b,by show (if i=H1.bs.length then some loc else φ1 i)=_;rw [if_neg (by rintro rfl;rw [bm] at h;simp at h)];exact h⟩
 ·simp only [J.new,List.length_append,List.length_singleton];exact Nat.le_succ_of_le m.hlen
 ·have:=m.bX id l hl;rw [if_neg (by rintro rfl;rw [bm] at this;simp at this)];exact this
end bu
end Go.VS
namespace Go.VS
section bu
variable {w:World}
theorem qS {L H:J} {φL φ :af} {AL AH:ah} {x:AV} {v:Value} (hp:dr x=true) (h:R w L φL AL x v):R w H φ AH x v:=by
 cases x with
 |undef=>exact .fr _ _ (.undef _)
 |int k n=>have:=h.cg;subst this;exact .fr _ _ (.int _ _)
 |bool b=>have:=h.eG;subst this;exact .fr _ _ (.bool _)
 |str s=>obtain ⟨b,rfl,rfl⟩:=h.et;exact .fr _ _ (.str _)
 |cf b=>rcases h.jD with ⟨rfl,rfl⟩|⟨rfl,t,u,rfl⟩;exact .fr _ _ .jC;exact .fr _ _ (.err _ _)
 |dq=>cases h with|fr _ _ h=>cases h;exact .fr _ _ .dq
 |_=>simp [dr] at hp
theorem qT {x:AV} (hp:dr x=true) (H:J):aI x H=(x,H):=by
 cases x<;>first|rfl|simp [dr] at hp
def fF (AL AH:ah) (y:AV):Prop:=(∀c,AH c→AL c)∨dh y=true
def dJ (AL AH:ah) (ys:List AV):Prop:=(∀c,AH c→AL c)∨ic ys=true
theorem dJ.cons {AL AH:ah} {y:AV} {ys:List AV} (h:dJ AL AH (y::ys)):fF AL AH y∧dJ AL AH ys:=by
 rcases h with h|h
 ·exact ⟨.inl h,.inl h⟩
 ·simp only [ic,Bool.and_eq_true] at h;exact ⟨.inr h.1,.inr h.2⟩
theorem ov {es:List Sh} (hE: ∀(x:AV) (vs:List Value) (L:J) (φL:af) (AL:ah) (H:J) (φ :af) (AH:ah) (y:AV) (L1:J) (a:AV) (H1:J),bW w L φL AL H φ AH→x.cells.length=vs.length→
 (∀(j:Nat) (c:AV) (u:Value),x.cells[j]? =some c→vs[j]? =some u→R w L φL AL c u)→a8 es x L=some (y,L1)→aI y H=(a,H1)→fF AL AH y→
 ∃ φ1,b9 w L φL AL H φ AH L1 H1 φ1∧a.cells.length=x.cells.length∧ ∀(j:Nat) (c:AV) (u:Value),a.cells[j]? =some c→vs[j]? =some u→R w H1 φ1 AH c u):
 ∀(xs:List AV) (g:Nat→Nat→Value) (L:J) (φL:af) (AL:ah) (H:J) (φ :af) (AH:ah) (ys:List AV) (L1:J) (as:List AV) (H1:J),bW w L φL AL H φ AH→
  (∀(i:Nat) (x:AV) (j:Nat) (c:AV),xs[i]? =some x→x.cells[j]? =some c→R w L φL AL c (g i j))→dg (a8 es) xs L=some (ys,L1)→aG ys H=(as,H1)→dJ AL AH ys→
  ∃ φ1,b9 w L φL AL H φ AH L1 H1 φ1∧as.length=xs.length∧(∀(i:Nat) (x a:AV),xs[i]? =some x→as[i]? =some a→a.cells.length=x.cells.length)∧
   ∀(i:Nat) (a:AV) (j:Nat) (c:AV),as[i]? =some a→a.cells[j]? =some c→R w H1 φ1 AH c (g i j)
 |[],g,L,φL,AL,H,φ,AH,ys,L1,as,H1,hd,_,ht,hw,_=>by
  simp only [dg,Option.some.injEq,Prod.mk.injEq] at ht;obtain ⟨rfl,rfl⟩:=ht;simp only [aG,Prod.mk.injEq] at hw;obtain ⟨rfl,rfl⟩:=hw;exact ⟨φ,.refl hd,rfl,by simp,by simp⟩
 |x::xs,g,L,φL,AL,H,φ,AH,ys,L1,as,H1,hd,hr,ht,hw,hk=>by
  simp only [dg] at ht;split at ht
  ·rename_i y L' h1
   split at ht
   ·rename_i aS cY h2
    simp only [Option.some.injEq,Prod.mk.injEq] at ht;obtain ⟨rfl,rfl⟩:=ht;obtain ⟨k1,k2⟩:=hk.cons;simp only [aG,Prod.mk.injEq] at hw;obtain ⟨rfl,rfl⟩:=hw
    let vs:List Value:=(List.range x.cells.length).map (g 0)
    obtain ⟨φ1,m1,l1,r1⟩:=hE x vs L φL AL H φ AH y L' _ _ hd (by simp [vs]) (fun j c u hj hu=>by
     have dI:j<x.cells.length:=(List.getElem?_eq_some_iff.1 hj).1;have:vs[j]? =some (g 0 j):=by simp [vs,dI]
     rw [this] at hu;simp only [Option.some.injEq] at hu;subst hu;exact hr 0 x j c rfl hj) h1 rfl k1
    obtain ⟨a_,m2,l2,s2,r2⟩:=ov hE xs (fun i j=>g (i+1) j) L' (aC φL L') AL _ φ1 AH aS cY _ _ m1.bu (fun i x' j c hi hj=>(hr (i+1) x' j c hi hj).mono (cV m1.less)) h2 rfl k2
    refine ⟨a_,m1.trans m2,by simp [l2],fun i x' a hx ha=> ?_,fun i a j c ha hc=> ?_⟩
    ·cases i with
     |zero=>simp at hx ha;subst hx;subst ha;exact l1
     |succ i=>exact s2 i x' a hx ha
    ·cases i with
     |zero=>
      simp only [List.getElem?_cons_zero,Option.some.injEq] at ha;subst ha;have hj:j<x.cells.length:=by rw [←l1];exact (List.getElem?_eq_some_iff.1 hc).1
      exact (r1 j c (g 0 j) hc (by simp [vs,hj])).mono m2.eh
     |succ i=>exact r2 i a j c ha hc
   ·simp at ht
  ·simp at ht
theorem l6 {L:J} {φL:af} {AL:ah} {H:J} {φ :af} {AH:ah} (hd:bW w L φL AL H φ AH) {id ad:Nat} {b:bw} (hb:L.ap id ad=some b) {off n:Nat} (hle:off+n≤b.el.length) {sz:Nat} (hs:b.sz=sz) {loc:Loc} (aU: φL id=some loc)
 {L1:J} {as:List AV} {H1:J} {g:Nat→Nat→Value} {φ1:af} (hg: ∀c b0 arr T fr,loc= .at_ c b0→w.heap[c]? =some (.cells arr T fr)→ ∀(i j:Nat) (v:Value),i<n→j<sz→arr[b0+(off+i)*sz+j]? =some v→g i j=v)
 (m:b9 w (L.del id) (aC φL (L.del id)) AL H φ AH L1 H1 φ1) (hl:as.length=n) (dQ: ∀(i:Nat) (a:AV),as[i]? =some a→a.cells.length=sz)
 (hr: ∀(i:Nat) (a:AV) (j:Nat) (c:AV),as[i]? =some a→a.cells[j]? =some c→R w H1 φ1 AH c (g i j)) (fx:Bool) (loc' :Loc) (gQ:loc' = .aN∧n=0∨ ∃c b0,loc= .at_ c b0∧loc' = .at_ c (b0+off*sz)):
 b9 w L φL AL H φ AH L1 (H1.new sz fx as) (fun i=>if i=H1.bs.length then some loc' else φ1 i):=by
 have oz:=(J.bp hb).1;have oA:=(bB.del L id).trans m.less;have gR:aC (aC φL (L.del id)) L1=aC φL L1:=fE m.less;have m' :b9 w L φL AL H φ AH L1 H1 φ1:=by
  refine ⟨oA,by have:=m.bu;rwa [gR] at this,m.eh,fun c hc=> ?_,m.gP,m.hlen,m.bz,m.bX⟩
  rcases m.oh c hc with h|⟨h1,h2⟩
  ·exact .inl h
  ·rw [gR] at h2;exact .inr ⟨bH h1,h2⟩
 refine newAt m' dQ (fun hv=> ?_) (fun c b1 he=> ?_)
 ·rcases gQ with ⟨_,h0⟩|⟨c,b0,_,h2⟩
  ·exact List.eq_nil_of_length_eq_zero (by omega)
  ·rw [h2] at hv;simp at hv
 ·rcases gQ with ⟨h1,_⟩|⟨c',b0,h1,h2⟩
  ·rw [h1] at he;simp at he
  ·rw [h2] at he;simp only [Loc.at_.injEq] at he;obtain ⟨rfl,rfl⟩:=he;subst h1;have iZ:Ow φL c' :=⟨id,b0,aU⟩
   have oB: ¬Ow (aC φL L1) c' :=by
    rintro ⟨i,bb,hi⟩;obtain ⟨fc,bk,aW⟩:=db hi;have:=hd.sl.inj _ _ _ _ _ fc aU;subst this;have:=m.less.get _ _ aW;rw [J.iy,if_pos rfl] at this;simp at this
   refine ⟨iZ,oB,fun ho=> ?_,hd.d_ _ iZ,?_⟩
   ·rcases m.oh c' ho with h|⟨⟨i,bb,hi⟩,_⟩
    ·exact hd.b8 c' iZ h
    ·obtain ⟨fc,bk,aW⟩:=db hi;have:=hd.sl.inj _ _ _ _ _ fc aU;subst this;rw [J.iy,if_pos rfl] at aW;simp at aW
   ·obtain ⟨bk,aW,ag⟩:=hd.sl.ap id _ aU;rw [oz] at aW;simp only [Option.some.injEq] at aW;subst aW;obtain ⟨arr,T,fr,k1,k2,k3,k4⟩:=ag.here c' b0 rfl
    have hmul:off*sz+n*sz≤b.el.length*sz:=by rw [←Nat.add_mul];exact Nat.mul_le_mul_right _ hle
    refine ⟨arr,T,fr,k1,k2,by rw [hl];rw [hs] at k3;omega,fun i a j c v ha hc hv=> ?_⟩
    have hi:i<n:=by rw [←hl];exact (List.getElem?_eq_some_iff.1 ha).1
    have hj:j<sz:=by rw [←dQ i a ha];exact (List.getElem?_eq_some_iff.1 hc).1
    have e:b0+off*sz+i*sz+j=b0+(off+i)*sz+j:=by rw [Nat.add_mul];omega
    rw [e] at hv;have oC:=hg c' b0 arr T fr rfl k1 i j v hi hj hv
    refine ⟨by rw [←oC];exact hr i a j c ha hc,?_⟩
    have bO:off+i<b.el.length:=by omega
    have hx:=List.getElem?_eq_getElem bO;have cj:=ag.sized _ _ hx;exact (k4 (off+i) _ j _ v hx (List.getElem?_eq_getElem (by omega)) (by rw [hs];exact hv)).2
end bu
end Go.VS
namespace Go.VS
section bu
variable {w:World}
theorem cells_one {x:AV} (h1:x≠ .undef) (h2: ∀cs,x≠ .agg cs):x.cells=[x]:=by
 cases x<;>first|rfl|exact absurd rfl h1|exact absurd rfl (h2 _)
theorem jM {H:J} {id ad:Nat} {b b' :bw} (h:H.get id=some b) (h' :H.ap id ad=some b'):b' =b:=by
 have:=(J.bp h').1;rw [h] at this;simp only [Option.some.injEq] at this;exact this.symm
mutual
theorem l7 (sh:Sh) (x:AV) (v:Value) (L:J) (φL:af) (AL:ah) (H:J) (φ :af) (AH:ah) (y:AV) (L1:J) (a:AV) (H1:J) (hd:bW w L φL AL H φ AH) (hx:R w L φL AL x v)
 (ht:aT sh x L=some (y,L1)) (hw:aI y H=(a,H1)) (hk:fF AL AH y): ∃ φ1,b9 w L φL AL H φ AH L1 H1 φ1∧R w H1 φ1 AH a v∧(x≠ .undef→a.cells=[a])∧(x= .undef→a= .undef):=by
 cases sh with
 |sc=>
  simp only [aT] at ht;split at ht
  ·rename_i hp;simp only [Option.some.injEq,Prod.mk.injEq] at ht;obtain ⟨rfl,rfl⟩:=ht;rw [qT hp] at hw;simp only [Prod.mk.injEq] at hw;obtain ⟨rfl,rfl⟩:=hw;exact ⟨φ,.refl hd,qS hp hx,fun hu=>cells_one hu (by rintro cs rfl;simp [dr] at hp),fun h=>h⟩
  ·simp at ht
 |sl es=>
  have kI: ∀{v0:Option Addr},v= .slice v0 0 0→aI (.own es.length []) H=(a,H1)→L1=L→ ∃ φ1,b9 w L φL AL H φ AH L1 H1 φ1∧R w H1 φ1 AH a v∧a.cells=[a]:=by
   intro v0 hv hw hL;subst hL;simp only [aI,aG,Prod.mk.injEq] at hw;obtain ⟨rfl,rfl⟩:=hw;have m:=newAt (b9.refl hd) (sz:=es.length) (fx:=false) (el:=[]) (loc:= .aN) (by simp) (fun _=>rfl) (by simp)
   refine ⟨_,m,?_,rfl⟩;refine .ref _ _ _ _ _ (Nat.lt_succ_self _) ⟨_,_,hv⟩ fun b hb=> ?_;have:=jM (J.dP H es.length false []) hb;subst this;exact ⟨.aN,v0,0,by simp,hv,by simp,Nat.le_refl _,by simp,rfl,fun _=>rfl⟩
  cases x with
  |nil=>
   simp only [aT,Option.some.injEq,Prod.mk.injEq] at ht;obtain ⟨rfl,rfl⟩:=ht;obtain ⟨φ1,h1,h2,h3⟩:=kI hx.cX hw rfl;exact ⟨φ1,h1,h2,fun _=>h3,fun h=>by simp at h⟩
  |e0=>
   simp only [aT,Option.some.injEq,Prod.mk.injEq] at ht;obtain ⟨rfl,rfl⟩:=ht;obtain ⟨a0,kJ⟩:=hx.ew;obtain ⟨φ1,h1,h2,h3⟩:=kI kJ hw rfl;exact ⟨φ1,h1,h2,fun _=>h3,fun h=>by simp at h⟩
  |fz xs=>
   simp only [aT,Option.some.injEq,Prod.mk.injEq] at ht;obtain ⟨rfl,rfl⟩:=ht;simp only [aI,Prod.mk.injEq] at hw;obtain ⟨rfl,rfl⟩:=hw;rcases hk with hk|hk
   ·exact ⟨φ,.refl hd,.fr _ _ (hx.du.shrink hk),fun _=>rfl,fun h=>by simp at h⟩
   ·simp [dh] at hk
  |ref id ad off len=>
   simp only [aT] at ht;split at ht
   ·rename_i b hb;split at ht
    ·rename_i hc;obtain ⟨c1,c2,c3⟩:=hc;split at ht
     ·rename_i ys L' hm
      simp only [Option.some.injEq,Prod.mk.injEq] at ht;obtain ⟨rfl,rfl⟩:=ht;simp only [aI,Prod.mk.injEq] at hw;obtain ⟨rfl,rfl⟩:=hw;have hg:=(J.bp hb).1;obtain ⟨bI,_,hr⟩:=hx.c7;obtain ⟨loc,a0,cap,q1,rfl,q3,q4,q5,q6⟩:=(hr b hb).out;obtain ⟨bk,aW,ag⟩:=hd.sl.ap id _ q1;rw [hg] at aW;simp only [Option.some.injEq] at aW;subst aW;have bE:dJ AL AH ys:=by
       rcases hk with h|h
       ·exact .inl h
       ·exact .inr (by simpa [dh] using h)
      have cM:=bB.del L id;have bY:bW w (L.del id) (aC φL (L.del id)) AL H φ AH:=⟨dS hd.sl cM,hd.sh,fun c hc=>hd.b8 c (bH hc),fun c hc=>hd.d_ c (bH hc)⟩
      have br:(aD b.el off len).length=len:=by simp [aD];omega
      have fG: ∀(i:Nat) (x:AV),(aD b.el off len)[i]? =some x→b.el[off+i]? =some x:=by
       intro i x hi;simp only [aD,List.getElem?_take,List.getElem?_drop] at hi;split at hi
       ·exact hi
       ·simp at hi
      let g:Nat→Nat→Value:=match loc with
       | .aN=>fun _ _=>undef
       | .at_ c b0=>fun i j=>match w.heap[c]? with
        |some (.cells arr _ _)=>arr.getD (b0+(off+i)*es.length+j) undef
        |_=>undef
      have cr: ∀(i:Nat) (x:AV) (j:Nat) (c:AV),(aD b.el off len)[i]? =some x→x.cells[j]? =some c→R w (L.del id) (aC φL (L.del id)) AL c (g i j):=by
       intro i x j c hi hj;have bD:=fG i x hi
       have cc:i<len:=by rw [←br];exact (List.getElem?_eq_some_iff.1 hi).1
       cases loc with
       |aN=>have:=ag.aN rfl;rw [this] at bD;simp at bD
       |at_ c0 b0=>
        obtain ⟨arr,T,fr,k1,k2,k3,k4⟩:=ag.here c0 b0 rfl;have dI:j<b.sz:=by rw [←ag.sized _ _ bD];exact (List.getElem?_eq_some_iff.1 hj).1
        have hle:=cH (n:=b.sz) (show off+i<b.el.length by omega)
        have ax:b0+(off+i)*b.sz+j<arr.size:=by omega
        have:g i j=arr[b0+(off+i)*b.sz+j]:=by
         simp only [g,k1,←c1,Array.getD_eq_getD_getElem?,Array.getElem?_eq_getElem ax,Option.getD_some]
        rw [this];exact ((k4 _ _ _ _ _ bD hj (Array.getElem?_eq_getElem ax)).1).mono (cV cM)
      obtain ⟨φ1,m,l1,s1,r1⟩:=ov (w:=w) (es:=es) (fun x vs L φL AL H φ AH y L1 a H1=>l8 es x vs L φL AL H φ AH y L1 a H1) _ g _ _ _ _ _ _ _ _ _ _ bY cr hm rfl bE
      rw [br] at l1;have kK: ∀(i:Nat) (a:AV),(aG ys H).1[i]? =some a→a.cells.length=b.sz:=by
       intro i a ha;have cc:i<(aD b.el off len).length:=by rw [br,←l1];exact (List.getElem?_eq_some_iff.1 ha).1
       have iz:=List.getElem?_eq_getElem cc;rw [s1 i _ a iz ha];exact ag.sized _ _ (fG i _ iz)
      have oD: ∀c b0 arr T fr,loc= .at_ c b0→w.heap[c]? =some (.cells arr T fr)→ ∀(i j:Nat) (v:Value),i<len→j<b.sz→arr[b0+(off+i)*b.sz+j]? =some v→g i j=v:=by
       intro c b0 arr T fr hl hh i j v _ _ hv;subst hl;simp only [g,hh,←c1,Array.getD_eq_getD_getElem?,hv,Option.getD_some]
      let loc' :Loc:=match loc with
       | .aN=> .aN
       | .at_ c b0=>if cap=0 then .aN else .at_ c (b0+off*b.sz)
      have gQ:loc' = .aN∧len=0∨ ∃c b0,loc= .at_ c b0∧loc' = .at_ c (b0+off*b.sz):=by
       cases loc with
       |aN=>left;refine ⟨rfl,?_⟩;have:=ag.aN rfl;rw [this] at q3;simp at q3;omega
       |at_ c b0=>
        by_cases eb:cap=0
        ·left;exact ⟨by simp [loc',eb],by omega⟩
        ·right;exact ⟨c,b0,rfl,by simp [loc',eb]⟩
      have M:=l6 hd hb c2 rfl q1 oD m l1 kK r1 false loc' gQ
      rw [c1] at M;refine ⟨_,M,?_,fun _=>rfl,fun h=>by simp at h⟩
      refine .ref _ _ _ _ _ (Nat.lt_succ_self _) ⟨a0,cap,by rw [l1]⟩ fun b' aw=> ?_
      have:=jM (J.dP (aG ys H).2 es.length false (aG ys H).1) aw;subst this;refine ⟨loc',a0,cap,by simp,by rw [l1],by simp,by omega,by simp only;omega,?_⟩
      cases loc with
      |aN=>
       simp only at q6;have cm:len=0:=by have:=ag.aN rfl;rw [this] at q3;simp at q3;omega
       refine ⟨List.eq_nil_of_length_eq_zero (by rw [l1,cm]),fun _=> ?_⟩
       rcases c3 with c3|c3
       ·exact q6.2 c3
       ·omega
      |at_ c b0=>
       simp only at q6;by_cases eb:cap=0
       ·simp only [loc',eb,if_true];exact ⟨List.eq_nil_of_length_eq_zero (by omega),fun _=>by first|trivial|omega|rfl⟩
       ·simp only [loc',eb,if_false];rcases q6 with q6|⟨h1,h2⟩
        ·exact absurd q6 eb
        ·refine Or.inr ⟨by rw [h1];simp,?_⟩
         rw [c1] at h2⊢;have:(off+cap)*es.length=off*es.length+cap*es.length:=Nat.add_mul _ _ _;simp only [Nat.zero_add];omega
     ·simp at ht
    ·simp at ht
   ·simp at ht
  |_=>simp [aT] at ht
 |pt es=>
  cases x with
  |fe z o=>
   simp only [aT,Option.some.injEq,Prod.mk.injEq] at ht;obtain ⟨rfl,rfl⟩:=ht;simp only [aI,Prod.mk.injEq] at hw;obtain ⟨rfl,rfl⟩:=hw;rcases hk with hk|hk
   ·exact ⟨φ,.refl hd,.fr _ _ (hx.eu.shrink hk),fun _=>rfl,fun h=>by simp at h⟩
   ·simp [dh] at hk
  |ptr id ad idx off=>
   rcases idx with _|idx
   rotate_left
   ·simp [aT] at ht
   rcases off with _|off
   rotate_left
   ·simp [aT] at ht
   simp only [aT] at ht;split at ht
   ·rename_i oE sz oF z hb;split at ht
    ·rename_i y' L' hm
     simp only [Option.some.injEq,Prod.mk.injEq] at ht;obtain ⟨rfl,rfl⟩:=ht;simp only [aI,Prod.mk.injEq] at hw;obtain ⟨rfl,rfl⟩:=hw;have hg:=(J.bp hb).1;obtain ⟨bI,_,hr⟩:=hx.eY;obtain ⟨c,b0,q1,rfl⟩:=hr _ hb;obtain ⟨bk,aW,ag⟩:=hd.sl.ap id _ q1;rw [hg] at aW;simp only [Option.some.injEq] at aW;subst aW;obtain ⟨arr,T,fr,k1,k2,k3,k4⟩:=ag.here c b0 rfl;have bE:fF AL AH y' :=by
      rcases hk with h|h
      ·exact .inl h
      ·exact .inr (by simpa [dh] using h)
     have cM:=bB.del L id;have bY:bW w (L.del id) (aC φL (L.del id)) AL H φ AH:=⟨dS hd.sl cM,hd.sh,fun c hc=>hd.b8 c (bH hc),fun c hc=>hd.d_ c (bH hc)⟩
     have c9:z.cells.length=sz:=ag.sized 0 z rfl;simp only [List.length_singleton,Nat.one_mul] at k3
     let vs:List Value:=(arr.extract b0 (b0+sz)).toList
     have dx:vs.length=sz:=by simp [vs];omega
     have fH: ∀j u,vs[j]? =some u→arr[b0+j]? =some u:=by
      intro j u hu;simp only [vs,Array.getElem?_toList,Array.getElem?_extract] at hu;split at hu
      ·exact hu
      ·simp at hu
     obtain ⟨φ1,m,l1,r1⟩:=l8 es z vs _ _ _ _ _ _ _ _ _ _ bY (by rw [dx,c9]) (fun j c' u hj hu=>((k4 0 z j c' u rfl hj (by simpa using fH j u hu)).1).mono (cV cM)) hm rfl bE
     have M:=l6 (as:=[(aI y' H).1]) (n:=1) (off:=0) (sz:=sz) (loc' := .at_ c b0) (g:=fun i j=>vs.getD j undef) hd hb (by simp) rfl q1 (fun c' oG arr' T' eF hl hh i j v hi hj hv=>by
      simp only [Loc.at_.injEq] at hl;obtain ⟨rfl,rfl⟩:=hl;rw [k1] at hh;simp only [Option.some.injEq,Obj.cells.injEq] at hh;obtain ⟨rfl,_,_⟩:=hh;have i_:i=0:=by omega
      subst i_;simp only [Nat.zero_mul,Nat.add_zero] at hv;have:vs[j]? =some v:=by
       simp only [vs,Array.getElem?_toList,Array.getElem?_extract];rw [if_pos (by omega)];exact hv
      simp [List.getD,this]) m rfl (fun i a ha=>by
      cases i with
      |zero=>simp at ha;subst ha;rw [l1,c9]
      |succ i=>simp at ha) (fun i a j c' ha hc=>by
      cases i with
      |zero=>
       simp at ha;subst ha;have hj:j<vs.length:=by rw [dx,←c9,←l1];exact (List.getElem?_eq_some_iff.1 hc).1
       have:=r1 j c' vs[j] hc (List.getElem?_eq_getElem hj)
       simpa [List.getD,hj] using this
      |succ i=>simp at ha) false (.inr ⟨c,b0,rfl,by simp⟩)
     refine ⟨_,M,?_,fun _=>rfl,fun h=>by simp at h⟩
     refine .ptr _ _ _ _ _ (Nat.lt_succ_self _) ⟨_,rfl⟩ fun b' aw=>⟨c,b0,by simp,?_⟩
     simp
    ·simp at ht
   ·simp at ht
  |_=>simp [aT] at ht
 termination_by (SizeOf.sizeOf sh,0)
theorem l8 (es:List Sh) (x:AV) (vs:List Value) (L:J) (φL:af) (AL:ah) (H:J) (φ :af) (AH:ah) (y:AV) (L1:J) (a:AV) (H1:J) (hd:bW w L φL AL H φ AH) (hl:x.cells.length=vs.length)
 (hx: ∀(j:Nat) (c:AV) (u:Value),x.cells[j]? =some c→vs[j]? =some u→R w L φL AL c u) (ht:a8 es x L=some (y,L1)) (hw:aI y H=(a,H1)) (hk:fF AL AH y):
 ∃ φ1,b9 w L φL AL H φ AH L1 H1 φ1∧a.cells.length=x.cells.length∧ ∀(j:Nat) (c:AV) (u:Value),a.cells[j]? =some c→vs[j]? =some u→R w H1 φ1 AH c u:=by
 by_cases bT: ∃cs,x= .agg cs
 ·obtain ⟨cs,rfl⟩:=bT;have ct: ∃aV,cv es cs L=some (aV,L1)∧y= .agg aV:=by
   match es,ht with
   |[],ht=>
    simp only [a8] at ht;split at ht
    ·rename_i aV L' hc
     simp only [Option.some.injEq,Prod.mk.injEq] at ht;obtain ⟨rfl,rfl⟩:=ht;exact ⟨aV,hc,rfl⟩
    ·simp at ht
   |[e],ht=>
    simp only [a8] at ht;split at ht
    ·rename_i aV L' hc
     simp only [Option.some.injEq,Prod.mk.injEq] at ht;obtain ⟨rfl,rfl⟩:=ht;exact ⟨aV,hc,rfl⟩
    ·simp at ht
   |e::e' ::es,ht=>
    simp only [a8] at ht;split at ht
    ·rename_i aV L' hc
     simp only [Option.some.injEq,Prod.mk.injEq] at ht;obtain ⟨rfl,rfl⟩:=ht;exact ⟨aV,hc,rfl⟩
    ·simp at ht
  obtain ⟨aV,hc,rfl⟩:=ct;simp only [aI,Prod.mk.injEq] at hw;obtain ⟨rfl,rfl⟩:=hw;have bE:dJ AL AH aV:=by
   rcases hk with h|h
   ·exact .inl h
   ·exact .inr (by simpa [dh] using h)
  exact oH es cs vs L φL AL H φ AH aV L1 _ _ hd hl hx hc rfl bE
 ·have dn: ∀cs,x≠ .agg cs:=fun cs h=>bT ⟨cs,h⟩
  match es,ht with
  |[e],ht=>
   have ct:aT e x L=some (y,L1):=by
    cases x<;>first|(simpa only [a8] using ht)|exact absurd rfl (dn _)
   by_cases hu:x= .undef
   ·subst hu;have fq:vs=[]:=List.eq_nil_of_length_eq_zero (by simpa [AV.cells] using hl.symm)
    subst fq;obtain ⟨φ1,m,_,_,h4⟩:=l7 e .undef undef L φL AL H φ AH y L1 a H1 hd (.fr _ _ (.undef _)) ct hw hk
    exact ⟨φ1,m,by rw [h4 rfl],by simp⟩
   ·have ec:=cells_one hu dn;rw [ec] at hl;obtain ⟨v,rfl⟩: ∃v,vs=[v]:=by
     match vs,hl with
     |[v],_=>exact ⟨v,rfl⟩
    obtain ⟨φ1,m,h2,h3,_⟩:=l7 e x v L φL AL H φ AH y L1 a H1 hd (hx 0 x v (by rw [ec];rfl) rfl) ct hw hk
    refine ⟨φ1,m,by rw [h3 hu,ec];rfl,fun j c u hj aK=> ?_⟩
    rw [h3 hu] at hj;cases j with
    |zero=>simp at hj aK;subst hj;subst aK;exact h2
    |succ j=>simp at hj
  |[],ht=>cases x<;>first|(simp [a8] at ht;done)|exact absurd rfl (dn _)
  |_::_::_,ht=>cases x<;>first|(simp [a8] at ht;done)|exact absurd rfl (dn _)
 termination_by (SizeOf.sizeOf es,1)
theorem oH (es:List Sh) (cs:List AV) (vs:List Value) (L:J) (φL:af) (AL:ah) (H:J) (φ :af) (AH:ah) (ys:List AV) (L1:J) (as:List AV) (H1:J) (hd:bW w L φL AL H φ AH) (hl:cs.length=vs.length)
 (hx: ∀(j:Nat) (c:AV) (u:Value),cs[j]? =some c→vs[j]? =some u→R w L φL AL c u) (ht:cv es cs L=some (ys,L1)) (hw:aG ys H=(as,H1)) (hk:dJ AL AH ys):
 ∃ φ1,b9 w L φL AL H φ AH L1 H1 φ1∧as.length=cs.length∧ ∀(j:Nat) (c:AV) (u:Value),as[j]? =some c→vs[j]? =some u→R w H1 φ1 AH c u:=by
 match es,cs,ht with
 |[],[],ht=>
  simp only [cv,Option.some.injEq,Prod.mk.injEq] at ht;obtain ⟨rfl,rfl⟩:=ht;simp only [aG,Prod.mk.injEq] at hw;obtain ⟨rfl,rfl⟩:=hw;exact ⟨φ,.refl hd,rfl,by simp⟩
 |e::es,x::cs,ht=>
  simp only [cv] at ht;split at ht
  ·rename_i y L' h1
   split at ht
   ·rename_i aS cY h2
    simp only [Option.some.injEq,Prod.mk.injEq] at ht;obtain ⟨rfl,rfl⟩:=ht;simp only [aG,Prod.mk.injEq] at hw;obtain ⟨rfl,rfl⟩:=hw;obtain ⟨k1,k2⟩:=hk.cons
    match vs,hl with
    |v::vs,hl=>
     obtain ⟨φ1,m1,r1,_,_⟩:=l7 e x v L φL AL H φ AH y L' _ _ hd (hx 0 x v rfl rfl) h1 rfl k1
     obtain ⟨a_,m2,l2,r2⟩:=oH es cs vs L' (aC φL L') AL _ φ1 AH aS cY _ _ m1.bu (by simpa using hl) (fun j c u hj hu=>(hx (j+1) c u hj hu).mono (cV m1.less)) h2 rfl k2
     refine ⟨a_,m1.trans m2,by simp [l2],fun j c u hj hu=> ?_⟩
     cases j with
     |zero=>simp at hj hu;subst hj;subst hu;exact r1.mono m2.eh
     |succ j=>exact r2 j c u hj hu
   ·simp at ht
  ·simp at ht
 |[],_::_,ht=>simp [cv] at ht
 |_::_,[],ht=>simp [cv] at ht
 termination_by (SizeOf.sizeOf es,0)
end
end bu
end Go.VS
namespace Go.VS
section bu
variable {w:World}
theorem R.l9 {H:J} {φ :af} {A A' :ah} (hA: ∀c,A' c→A c) {x:AV} {v:Value} (h:R w H φ A x v):R w H φ A' x v:=
 h.mono ⟨fun c _arr _T fr hc hn=>⟨⟨fr,hc⟩,fun h=>hn (hA c h)⟩,Nat.le_refl _,fun _id b h _=>⟨b,h,rfl,rfl,rfl,rfl,fun _ h=>h⟩,fun _ _=>rfl⟩
theorem kL {es:List Sh} {cs:List AV} {L L1:J} {y:AV} (ht:a8 es (.agg cs) L=some (y,L1)): ∃aV,cv es cs L=some (aV,L1)∧y= .agg aV:=by
 match es,ht with
 |[],ht=>
  simp only [a8] at ht;split at ht
  ·rename_i aV L' hc
   simp only [Option.some.injEq,Prod.mk.injEq] at ht;obtain ⟨rfl,rfl⟩:=ht;exact ⟨aV,hc,rfl⟩
  ·simp at ht
 |[e],ht=>
  simp only [a8] at ht;split at ht
  ·rename_i aV L' hc
   simp only [Option.some.injEq,Prod.mk.injEq] at ht;obtain ⟨rfl,rfl⟩:=ht;exact ⟨aV,hc,rfl⟩
  ·simp at ht
 |e::e' ::es,ht=>
  simp only [a8] at ht;split at ht
  ·rename_i aV L' hc
   simp only [Option.some.injEq,Prod.mk.injEq] at ht;obtain ⟨rfl,rfl⟩:=ht;exact ⟨aV,hc,rfl⟩
  ·simp at ht
theorem ja {es:List Sh} {x:AV} (hx: ∀cs,x≠ .agg cs) {L L1:J} {y:AV} (ht:a8 es x L=some (y,L1)): ∃e,es=[e]∧aT e x L=some (y,L1):=by
 match es,ht with
 |[e],ht=>
  refine ⟨e,rfl,?_⟩;cases x<;>first|(simpa only [a8] using ht)|exact absurd rfl (hx _)
 |[],ht=>cases x<;>first|(simp [a8] at ht;done)|exact absurd rfl (hx _)
 |_::_::_,ht=>cases x<;>first|(simp [a8] at ht;done)|exact absurd rfl (hx _)
theorem qU {es:List Sh} {x:AV} {v:Value} {L:J} {φL:af} {AL:ah} {H:J} {φ :af} {AH:ah} {y:AV} {L1:J} {a:AV} {H1:J} (hd:bW w L φL AL H φ AH) (hx:R w L φL AL x v)
 (ht:a8 es x L=some (y,L1)) (hw:aI y H=(a,H1)) (hk:fF AL AH y): ∃ φ1,b9 w L φL AL H φ AH L1 H1 φ1∧R w H1 φ1 AH a v:=by
 by_cases bT: ∃cs,x= .agg cs
 ·obtain ⟨cs,rfl⟩:=bT;obtain ⟨aV,hc,rfl⟩:=kL ht;simp only [aI,Prod.mk.injEq] at hw;obtain ⟨rfl,rfl⟩:=hw;have bE:dJ AL AH aV:=by
   rcases hk with h|h
   ·exact .inl h
   ·exact .inr (by simpa [dh] using h)
  obtain ⟨vs,rfl,hl,ho,hp⟩:=hx.fu;obtain ⟨φ1,m,l1,r1⟩:=oH es cs vs.toList L φL AL H φ AH aV L1 _ _ hd (by simpa using hl) (fun j c u hj hu=>hp j c u hj (by simpa using hu)) hc rfl bE
  exact ⟨φ1,m,.agg _ _ (by rw [l1,hl]) ho fun i x v hx hv=>r1 i x v hx (by simpa using hv)⟩
 ·obtain ⟨e,rfl,ct⟩:=ja (fun cs h=>bT ⟨cs,h⟩) ht;obtain ⟨φ1,m,r,_⟩:=l7 e x v L φL AL H φ AH y L1 a H1 hd hx ct hw hk
  exact ⟨φ1,m,r⟩
def gone (φ :af) (A:ah) (L1:J):ah:=fun c=>A c∧(Ow φ c→Ow (aC φ L1) c)
theorem oI {φ :af} {A:ah} {L L1:J} (h:bB L L1) {c:Nat} (hc:gone φ A L1 c):gone φ A L c:=
 ⟨hc.1,fun ho=>by
  obtain ⟨i,b,hi⟩:=hc.2 ho;obtain ⟨h1,bk,h2⟩:=db hi;exact ⟨i,b,by simp [aC,h.get _ _ h2,h1]⟩⟩
theorem qV {w:World} {L L1:J} {φ :af} {A:ah} (ae:St w L φ A) {id c b0:Nat} (h: φ id=some (.at_ c b0)) (hn:L1.get id=none): ¬gone φ A L1 c:=by
 rintro ⟨_,h2⟩;obtain ⟨i,b,hi⟩:=h2 ⟨id,b0,h⟩;obtain ⟨h1,bk,h3⟩:=db hi;have:=ae.inj _ _ _ _ _ h1 h;subst this;rw [hn] at h3;simp at h3
theorem ya {x:AV} (hp:dr x=true):bA x=x:=by
 cases x<;>first|rfl|simp [dr] at hp
theorem yb {L:J} {φL:af} {AL A' :ah} {x:AV} {v:Value} (hp:dr x=true) (h:R w L φL AL x v):FR w A' x v:=by
 cases x with
 |undef=>exact .undef _
 |int k n=>have:=h.cg;subst this;exact .int _ _
 |bool b=>have:=h.eG;subst this;exact .bool _
 |str s=>obtain ⟨b,rfl,rfl⟩:=h.et;exact .str _
 |cf b=>rcases h.jD with ⟨rfl,rfl⟩|⟨rfl,t,u,rfl⟩;exact .jC;exact .err _ _
 |dq=>cases h with|fr _ _ h=>cases h;exact .dq
 |_=>simp [dr] at hp
theorem l_ {f:AV→J→Option (AV×J)} (hf: ∀x L y L1,f x L=some (y,L1)→bB L L1): ∀(xs:List AV) (L:J) (ys:List AV) (L1:J),dg f xs L=some (ys,L1)→bB L L1
 |[],L,ys,L1,h=>by simp [dg] at h;obtain ⟨_,rfl⟩:=h;exact .refl _
 |x::xs,L,ys,L1,h=>by
  simp only [dg] at h;split at h
  ·rename_i y L' h1
   split at h
   ·rename_i aS cY h2
    simp only [Option.some.injEq,Prod.mk.injEq] at h;obtain ⟨_,rfl⟩:=h;exact (hf _ _ _ _ h1).trans (l_ hf xs L' aS _ h2)
   ·simp at h
  ·simp at h
mutual
theorem oJ: ∀(sh:Sh) (x:AV) (L:J) (y:AV) (L1:J),aT sh x L=some (y,L1)→bB L L1
 | .sc,x,L,y,L1,ht=>by
  simp only [aT] at ht;split at ht
  ·simp only [Option.some.injEq,Prod.mk.injEq] at ht;obtain ⟨_,rfl⟩:=ht;exact .refl _
  ·simp at ht
 | .sl es,x,L,y,L1,ht=>by
  cases x with
  |ref id ad off len=>
   simp only [aT] at ht;split at ht
   ·split at ht
    ·split at ht
     ·rename_i ys L' hm
      simp only [Option.some.injEq,Prod.mk.injEq] at ht;obtain ⟨_,rfl⟩:=ht;exact (bB.del L id).trans (l_ (fun x L y L1 h=>ff es x L y L1 h) _ _ _ _ hm)
     ·simp at ht
    ·simp at ht
   ·simp at ht
  |_=>first
   |(simp [aT] at ht;done)
   |(simp only [aT,Option.some.injEq,Prod.mk.injEq] at ht;obtain ⟨_,rfl⟩:=ht;exact .refl _)
 | .pt es,x,L,y,L1,ht=>by
  cases x with
  |fe z o=>simp only [aT,Option.some.injEq,Prod.mk.injEq] at ht;obtain ⟨_,rfl⟩:=ht;exact .refl _
  |ptr id ad idx off=>
   rcases idx with _|idx
   rotate_left
   ·simp [aT] at ht
   rcases off with _|off
   rotate_left
   ·simp [aT] at ht
   simp only [aT] at ht;split at ht
   ·split at ht
    ·rename_i y' L' hm
     simp only [Option.some.injEq,Prod.mk.injEq] at ht;obtain ⟨_,rfl⟩:=ht;exact (bB.del L id).trans (ff es _ _ _ _ hm)
    ·simp at ht
   ·simp at ht
  |_=>simp [aT] at ht
 termination_by sh=>(SizeOf.sizeOf sh,0)
theorem ff: ∀(es:List Sh) (x:AV) (L:J) (y:AV) (L1:J),a8 es x L=some (y,L1)→bB L L1
 |es,x,L,y,L1,ht=>by
  by_cases bT: ∃cs,x= .agg cs
  ·obtain ⟨cs,rfl⟩:=bT;obtain ⟨aV,hc,_⟩:=kL ht;exact oK es cs L aV L1 hc
  ·obtain ⟨e,rfl,ct⟩:=ja (fun cs h=>bT ⟨cs,h⟩) ht;exact oJ e x L y L1 ct
 termination_by es=>(SizeOf.sizeOf es,1)
theorem oK: ∀(es:List Sh) (cs:List AV) (L:J) (ys:List AV) (L1:J),cv es cs L=some (ys,L1)→bB L L1
 |[],[],L,ys,L1,ht=>by simp [cv] at ht;obtain ⟨_,rfl⟩:=ht;exact .refl _
 |e::es,x::cs,L,ys,L1,ht=>by
  simp only [cv] at ht;split at ht
  ·rename_i y L' h1
   split at ht
   ·rename_i aS cY h2
    simp only [Option.some.injEq,Prod.mk.injEq] at ht;obtain ⟨_,rfl⟩:=ht;exact (oJ e x L y L' h1).trans (oK es cs L' aS _ h2)
   ·simp at ht
  ·simp at ht
 |[],_::_,_,_,_,ht=>by simp [cv] at ht
 |_::_,[],_,_,_,ht=>by simp [cv] at ht
 termination_by es=>(SizeOf.sizeOf es,0)
end
theorem qW {es:List Sh} {A' :ah} (hE: ∀(x:AV) (vs:List Value) (L:J) (φL:af) (AL:ah) (y:AV) (L1:J),St w L φL AL→x.cells.length=vs.length→
 (∀(j:Nat) (c:AV) (u:Value),x.cells[j]? =some c→vs[j]? =some u→R w L φL AL c u)→a8 es x L=some (y,L1)→(∀c,A' c→gone φL AL L1 c)→
 (bA y).cells.length=x.cells.length∧ ∀(j:Nat) (c:AV) (u:Value),(bA y).cells[j]? =some c→vs[j]? =some u→FR w A' c u):
 ∀(xs:List AV) (g:Nat→Nat→Value) (L:J) (φL:af) (AL:ah) (ys:List AV) (L1:J),St w L φL AL→
  (∀(i:Nat) (x:AV) (j:Nat) (c:AV),xs[i]? =some x→x.cells[j]? =some c→R w L φL AL c (g i j))→dg (a8 es) xs L=some (ys,L1)→(∀c,A' c→gone φL AL L1 c)→
  (bR ys).length=xs.length∧(∀(i:Nat) (x a:AV),xs[i]? =some x→(bR ys)[i]? =some a→a.cells.length=x.cells.length)∧
   ∀(i:Nat) (a:AV) (j:Nat) (c:AV),(bR ys)[i]? =some a→a.cells[j]? =some c→FR w A' c (g i j)
 |[],g,L,φL,AL,ys,L1,hd,_,ht,hk=>by
  simp only [dg,Option.some.injEq,Prod.mk.injEq] at ht;obtain ⟨rfl,rfl⟩:=ht;exact ⟨rfl,by simp,by simp [bR]⟩
 |x::xs,g,L,φL,AL,ys,L1,hd,hr,ht,hk=>by
  simp only [dg] at ht;split at ht
  ·rename_i y L' h1
   split at ht
   ·rename_i aS cY h2
    simp only [Option.some.injEq,Prod.mk.injEq] at ht;obtain ⟨rfl,rfl⟩:=ht
    let vs:List Value:=(List.range x.cells.length).map (g 0)
    have cZ:=ff es x L y L' h1
    have da:=l_ (fun x L y L1 h=>ff es x L y L1 h) _ _ _ _ h2;obtain ⟨l1,r1⟩:=hE x vs L φL AL y L' hd (by simp [vs]) (fun j c u hj hu=>by
     have dI:j<x.cells.length:=(List.getElem?_eq_some_iff.1 hj).1;have:vs[j]? =some (g 0 j):=by simp [vs,dI]
     rw [this] at hu;simp only [Option.some.injEq] at hu;subst hu;exact hr 0 x j c rfl hj) h1 (fun c hc=>oI da (hk c hc))
    obtain ⟨l2,s2,r2⟩:=qW hE xs (fun i j=>g (i+1) j) L' (aC φL L') AL aS cY (dS hd cZ) (fun i x' j c hi hj=>(hr (i+1) x' j c hi hj).mono (cV cZ)) h2 (fun c hc=>by
     obtain ⟨k1,k2⟩:=hk c hc;exact ⟨k1,fun ho=>by rw [fE da];exact k2 (bH ho)⟩)
    refine ⟨by simp [bR,l2],fun i x' a hx ha=> ?_,fun i a j c ha hc=> ?_⟩
    ·cases i with
     |zero=>simp [bR] at hx ha;subst hx;subst ha;exact l1
     |succ i=>simp [bR] at hx ha;exact s2 i x' a hx ha
    ·cases i with
     |zero=>
      simp only [bR,List.getElem?_cons_zero,Option.some.injEq] at ha;subst ha;have hj:j<x.cells.length:=by rw [←l1];exact (List.getElem?_eq_some_iff.1 hc).1
      exact r1 j c (g 0 j) hc (by simp [vs,hj])
     |succ i=>exact r2 i a j c (by simpa [bR] using ha) hc
   ·simp at ht
  ·simp at ht
mutual
theorem ma (sh:Sh) (x:AV) (v:Value) (L:J) (φL:af) (AL A' :ah) (y:AV) (L1:J) (ae:St w L φL AL) (hx:R w L φL AL x v)
 (ht:aT sh x L=some (y,L1)) (hk: ∀c,A' c→gone φL AL L1 c):FR w A' (bA y) v∧(x≠ .undef→(bA y).cells=[bA y])∧(x= .undef→bA y= .undef):=by
 cases sh with
 |sc=>
  simp only [aT] at ht;split at ht
  ·rename_i hp;simp only [Option.some.injEq,Prod.mk.injEq] at ht;obtain ⟨rfl,rfl⟩:=ht;rw [ya hp];exact ⟨yb hp hx,fun hu=>cells_one hu (by rintro cs rfl;simp [dr] at hp),fun h=>h⟩
  ·simp at ht
 |sl es=>
  cases x with
  |nil=>
   simp only [aT,Option.some.injEq,Prod.mk.injEq] at ht;obtain ⟨rfl,rfl⟩:=ht;have:=hx.cX;subst this;exact ⟨.cE _ _,fun _=>rfl,fun h=>by simp at h⟩
  |e0=>
   simp only [aT,Option.some.injEq,Prod.mk.injEq] at ht;obtain ⟨rfl,rfl⟩:=ht;obtain ⟨a0,rfl⟩:=hx.ew;exact ⟨.cE _ _,fun _=>rfl,fun h=>by simp at h⟩
  |fz xs=>
   simp only [aT,Option.some.injEq,Prod.mk.injEq] at ht;obtain ⟨rfl,rfl⟩:=ht;exact ⟨hx.du.shrink fun c hc=>(hk c hc).1,fun _=>rfl,fun h=>by simp at h⟩
  |ref id ad off len=>
   simp only [aT] at ht;split at ht
   ·rename_i b hb;split at ht
    ·rename_i hc;obtain ⟨c1,c2,c3⟩:=hc;split at ht
     ·rename_i ys L' hm
      simp only [Option.some.injEq,Prod.mk.injEq] at ht;obtain ⟨rfl,rfl⟩:=ht;have hg:=(J.bp hb).1;obtain ⟨bI,_,hr⟩:=hx.c7;obtain ⟨loc,a0,cap,q1,rfl,q3,q4,q5,q6⟩:=(hr b hb).out;obtain ⟨bk,aW,ag⟩:=ae.ap id _ q1;rw [hg] at aW;simp only [Option.some.injEq] at aW;subst aW;have cM:=bB.del L id;have da:=l_ (fun x L y L1 h=>ff es x L y L1 h) _ _ _ _ hm;have gS:L'.get id=none:=by
       cases hq:L'.get id with
       |none=>rfl
       |some b=>have:=da.get _ _ hq;rw [J.iy,if_pos rfl] at this;simp at this
      have br:(aD b.el off len).length=len:=by simp [aD];omega
      have fG: ∀(i:Nat) (x:AV),(aD b.el off len)[i]? =some x→b.el[off+i]? =some x:=by
       intro i x hi;simp only [aD,List.getElem?_take,List.getElem?_drop] at hi;split at hi
       ·exact hi
       ·simp at hi
      refine ⟨?_,fun _=>rfl,fun h=>by simp at h⟩
      simp only [bA];rcases Nat.eq_zero_or_pos len with cm|yc
      ·subst cm;have:ys=[]:=by
        have h0:aD b.el off 0=[]:=by simp [aD]
        rw [h0] at hm;simp [dg] at hm;exact hm.1
       subst this;exact .cE _ _
      ·cases loc with
       |aN=>have:=ag.aN rfl;rw [this] at q3;simp at q3;omega
       |at_ c b0=>
        simp only at q6;rcases q6 with q6|⟨h1,h2⟩
        ·omega
        obtain ⟨arr,T,fr,k1,k2,k3,k4⟩:=ag.here c b0 rfl
        let g:Nat→Nat→Value:=fun i j=>arr.getD (b0+(off+i)*b.sz+j) undef
        have cu: ∀(i:Nat) (x:AV) (j:Nat),(aD b.el off len)[i]? =some x→j<x.cells.length→b0+(off+i)*b.sz+j<arr.size:=by
         intro i x j hi hj;have bD:=fG i x hi
         have cc:i<len:=by rw [←br];exact (List.getElem?_eq_some_iff.1 hi).1
         rw [ag.sized _ _ bD] at hj;have hle:=cH (n:=b.sz) (show off+i<b.el.length by omega)
         omega
        have cr: ∀(i:Nat) (x:AV) (j:Nat) (c:AV),(aD b.el off len)[i]? =some x→x.cells[j]? =some c→R w (L.del id) (aC φL (L.del id)) AL c (g i j):=by
         intro i x j c' hi hj
         have ax:=cu i x j hi (List.getElem?_eq_some_iff.1 hj).1;have:g i j=arr[b0+(off+i)*b.sz+j]:=by
          simp only [g,Array.getD_eq_getD_getElem?,Array.getElem?_eq_getElem ax,Option.getD_some]
         rw [this];exact ((k4 _ _ _ _ _ (fG i x hi) hj (Array.getElem?_eq_getElem ax)).1).mono (cV cM)
        obtain ⟨l1,s1,r1⟩:=qW (A' :=A') (es:=es) (fun x vs L φL AL y L1=>qX es x vs L φL AL A' y L1) _ g _ _ _ _ _ (dS ae cM) cr hm (fun c hc=>by
         obtain ⟨k1,k2⟩:=hk c hc;exact ⟨k1,fun ho=>by rw [fE da];exact k2 (bH ho)⟩)
        rw [br] at l1;have hmul:(off+len)*b.sz≤b.el.length*b.sz:=Nat.mul_le_mul_right _ q3;have yd:(off+len)*b.sz=off*b.sz+len*b.sz:=Nat.add_mul _ _ _;have gT:=FR.fz (A:=A') (bR ys) c (b0+off*b.sz) cap b.sz arr T fr k1 (fun hA=>qV ae q1 gS (hk c hA)) (by rw [l1];exact q4) (by rw [l1];omega)
         (fun i a ha=>by
          have hi:i<(aD b.el off len).length:=by rw [br,←l1];exact (List.getElem?_eq_some_iff.1 ha).1
          rw [s1 i _ a (List.getElem?_eq_getElem hi) ha];exact ag.sized _ _ (fG i _ (List.getElem?_eq_getElem hi)))
         (fun j v hj hv=>by
          rw [l1] at hj;have dX:0<b.sz:=by
           rcases Nat.eq_zero_or_pos b.sz with h|h
           ·rw [h] at hj;simp at hj
           ·exact h
          have ye:j/b.sz<len:=Nat.div_lt_of_lt_mul (by rw [Nat.mul_comm];exact hj)
          have oL:j % b.sz<b.sz:=Nat.mod_lt _ dX;have yf:j=(j/b.sz)*b.sz+j % b.sz:=by rw [Nat.mul_comm];exact (Nat.div_add_mod j b.sz).symm
          have bO:off+j/b.sz<b.el.length:=by omega
          have hx:=List.getElem?_eq_getElem bO;have cj:=ag.sized _ _ hx;have e:b0+off*b.sz+j=b0+(off+j/b.sz)*b.sz+j % b.sz:=by rw [Nat.add_mul];omega
          rw [e] at hv;exact (k4 _ _ _ _ v hx (List.getElem?_eq_getElem (show j % b.sz<_ by rw [cj];exact oL)) hv).2)
         (fun i a j c' v ha hc hv=>by
          have e:b0+off*b.sz+i*b.sz+j=b0+(off+i)*b.sz+j:=by rw [Nat.add_mul];omega
          rw [e] at hv;have:g i j=v:=by simp only [g,Array.getD_eq_getD_getElem?,hv,Option.getD_some]
          rw [←this];exact r1 i a j c' ha hc)
        rw [l1] at gT;rw [h1];exact gT
     ·simp at ht
    ·simp at ht
   ·simp at ht
  |_=>simp [aT] at ht
 |pt es=>
  cases x with
  |fe z o=>
   simp only [aT,Option.some.injEq,Prod.mk.injEq] at ht;obtain ⟨rfl,rfl⟩:=ht;exact ⟨hx.eu.shrink fun c hc=>(hk c hc).1,fun _=>rfl,fun h=>by simp at h⟩
  |ptr id ad idx off=>
   rcases idx with _|idx
   rotate_left
   ·simp [aT] at ht
   rcases off with _|off
   rotate_left
   ·simp [aT] at ht
   simp only [aT] at ht;split at ht
   ·rename_i oE sz oF z hb;split at ht
    ·rename_i y' L' hm
     simp only [Option.some.injEq,Prod.mk.injEq] at ht;obtain ⟨rfl,rfl⟩:=ht;refine ⟨?_,fun _=>rfl,fun h=>by simp at h⟩
     have hg:=(J.bp hb).1;obtain ⟨bI,_,hr⟩:=hx.eY;obtain ⟨c,b0,q1,rfl⟩:=hr _ hb;obtain ⟨bk,aW,ag⟩:=ae.ap id _ q1;rw [hg] at aW;simp only [Option.some.injEq] at aW;subst aW;obtain ⟨arr,T,fr,k1,k2,k3,k4⟩:=ag.here c b0 rfl;have cM:=bB.del L id;have da:=ff es _ _ _ _ hm;have gS:L'.get id=none:=by
      cases hq:L'.get id with
      |none=>rfl
      |some b=>have:=da.get _ _ hq;rw [J.iy,if_pos rfl] at this;simp at this
     have c9:z.cells.length=sz:=ag.sized 0 z rfl;simp only [List.length_singleton,Nat.one_mul] at k3
     let vs:List Value:=(arr.extract b0 (b0+sz)).toList
     have dx:vs.length=sz:=by simp [vs];omega
     have fH: ∀j u,vs[j]? =some u→arr[b0+j]? =some u:=by
      intro j u hu;simp only [vs,Array.getElem?_toList,Array.getElem?_extract] at hu;split at hu
      ·exact hu
      ·simp at hu
     obtain ⟨l1,r1⟩:=qX es z vs _ _ _ A' _ _ (dS ae cM) (by rw [dx,c9]) (fun j c' u hj hu=>((k4 0 z j c' u rfl hj (by simpa using fH j u hu)).1).mono (cV cM)) hm (fun c hc=>by
      obtain ⟨k1,k2⟩:=hk c hc;exact ⟨k1,fun ho=>by rw [fE da];exact k2 (bH ho)⟩)
     have:=FR.fe (A:=A') (bA y') 0 c b0 arr T fr k1 (fun hA=>qV ae q1 gS (hk c hA)) (by rw [l1,c9];exact k3)
      (fun j v hj hv=>by
       rw [l1] at hj;exact (k4 0 z j _ v rfl (List.getElem?_eq_getElem hj) (by simpa using hv)).2)
      (fun j c' v hc hv=>by
       have hj:j<sz:=by rw [←c9,←l1];exact (List.getElem?_eq_some_iff.1 hc).1
       exact r1 j c' v hc (by simp only [vs,Array.getElem?_toList,Array.getElem?_extract];rw [if_pos (by omega)];exact hv))
     simpa [bA] using this
    ·simp at ht
   ·simp at ht
  |_=>simp [aT] at ht
 termination_by (SizeOf.sizeOf sh,0)
theorem qX (es:List Sh) (x:AV) (vs:List Value) (L:J) (φL:af) (AL A' :ah) (y:AV) (L1:J) (ae:St w L φL AL) (hl:x.cells.length=vs.length)
 (hx: ∀(j:Nat) (c:AV) (u:Value),x.cells[j]? =some c→vs[j]? =some u→R w L φL AL c u) (ht:a8 es x L=some (y,L1)) (hk: ∀c,A' c→gone φL AL L1 c):
 (bA y).cells.length=x.cells.length∧ ∀(j:Nat) (c:AV) (u:Value),(bA y).cells[j]? =some c→vs[j]? =some u→FR w A' c u:=by
 by_cases bT: ∃cs,x= .agg cs
 ·obtain ⟨cs,rfl⟩:=bT;obtain ⟨aV,hc,rfl⟩:=kL ht;exact oM es cs vs L φL AL A' aV L1 ae hl hx hc hk
 ·have dn: ∀cs,x≠ .agg cs:=fun cs h=>bT ⟨cs,h⟩;obtain ⟨e,rfl,ct⟩:=ja dn ht;by_cases hu:x= .undef
  ·subst hu;have fq:vs=[]:=List.eq_nil_of_length_eq_zero (by simpa [AV.cells] using hl.symm)
   subst fq;obtain ⟨_,_,h4⟩:=ma e .undef undef L φL AL A' y L1 ae (.fr _ _ (.undef _)) ct hk
   exact ⟨by rw [h4 rfl],by simp⟩
  ·have ec:=cells_one hu dn;rw [ec] at hl;obtain ⟨v,rfl⟩: ∃v,vs=[v]:=by
    match vs,hl with
    |[v],_=>exact ⟨v,rfl⟩
   obtain ⟨h2,h3,_⟩:=ma e x v L φL AL A' y L1 ae (hx 0 x v (by rw [ec];rfl) rfl) ct hk
   refine ⟨by rw [h3 hu,ec];rfl,fun j c u hj aK=> ?_⟩
   rw [h3 hu] at hj;cases j with
   |zero=>simp at hj aK;subst hj;subst aK;exact h2
   |succ j=>simp at hj
 termination_by (SizeOf.sizeOf es,1)
theorem oM (es:List Sh) (cs:List AV) (vs:List Value) (L:J) (φL:af) (AL A' :ah) (ys:List AV) (L1:J) (ae:St w L φL AL) (hl:cs.length=vs.length)
 (hx: ∀(j:Nat) (c:AV) (u:Value),cs[j]? =some c→vs[j]? =some u→R w L φL AL c u) (ht:cv es cs L=some (ys,L1)) (hk: ∀c,A' c→gone φL AL L1 c):
 (bR ys).length=cs.length∧ ∀(j:Nat) (c:AV) (u:Value),(bR ys)[j]? =some c→vs[j]? =some u→FR w A' c u:=by
 match es,cs,ht with
 |[],[],ht=>
  simp only [cv,Option.some.injEq,Prod.mk.injEq] at ht;obtain ⟨rfl,rfl⟩:=ht;exact ⟨rfl,by simp [bR]⟩
 |e::es,x::cs,ht=>
  simp only [cv] at ht;split at ht
  ·rename_i y L' h1
   split at ht
   ·rename_i aS cY h2
    simp only [Option.some.injEq,Prod.mk.injEq] at ht;obtain ⟨rfl,rfl⟩:=ht;have cZ:=oJ e x L y L' h1
    have da:=oK es cs L' aS cY h2
    match vs,hl with
    |v::vs,hl=>
     obtain ⟨r1,_,_⟩:=ma e x v L φL AL A' y L' ae (hx 0 x v rfl rfl) h1 (fun c hc=>oI da (hk c hc))
     obtain ⟨l2,r2⟩:=oM es cs vs L' (aC φL L') AL A' aS cY (dS ae cZ) (by simpa using hl) (fun j c u hj hu=>(hx (j+1) c u hj hu).mono (cV cZ)) h2 (fun c hc=>by
      obtain ⟨k1,k2⟩:=hk c hc;exact ⟨k1,fun ho=>by rw [fE da];exact k2 (bH ho)⟩)
     refine ⟨by simp [bR,l2],fun j c u hj hu=> ?_⟩
     cases j with
     |zero=>simp [bR] at hj hu;subst hj;subst hu;exact r1
     |succ j=>exact r2 j c u (by simpa [bR] using hj) hu
   ·simp at ht
  ·simp at ht
 |[],_::_,ht=>simp [cv] at ht
 |_::_,[],ht=>simp [cv] at ht
 termination_by (SizeOf.sizeOf es,0)
end
end bu
end Go.VS
namespace Go.VS
section yg
variable {w:World} {H:J} {φ :af} {A:ah}
theorem mapM_some {α β :Type} {f: α →Option β}: ∀{xs:List α} {ys:List β},xs.mapM f=some ys→ys.length=xs.length∧ ∀(i:Nat) (x: α) (y: β),xs[i]? =some x→ys[i]? =some y→f x=some y
 |[],ys,h=>by simp at h;subst h;simp
 |x::xs,ys,h=>by
  simp only [List.mapM_cons,Option.bind_eq_bind,Option.bind_eq_some_iff,Option.pure_def,Option.some.injEq] at h;obtain ⟨y,h1,aS,h2,rfl⟩:=h;obtain ⟨hl,hp⟩:=mapM_some h2;refine ⟨by simp [hl],fun i a b ha hb=> ?_⟩
  cases i with
  |zero=>simp at ha hb;subst ha;subst hb;exact h1
  |succ i=>exact hp i a b ha hb
def fg (φ :af) (A:ah):ah:=fun c=>A c∧ ¬Ow φ c
def kM (w:World) (H:J) (φ :af) (A:ah) (n:Nat):Prop:= ∀(x:AV) (v:Value) (y:AV),R w H φ A x v→aX n H x=some y→
 FR w (fg φ A) y v∧(eE x=false→FR w A y v)∧((∀cs,x≠ .agg cs)→x≠ .undef→y.cells=[y])∧(x= .undef→y= .undef)
def qY (w:World) (H:J) (φ :af) (A:ah) (n:Nat):Prop:= ∀(x:AV) (vs:List Value) (y:AV),x.cells.length=vs.length→
 (∀(j:Nat) (c:AV) (u:Value),x.cells[j]? =some c→vs[j]? =some u→R w H φ A c u)→aX n H x=some y→
 y.cells.length=x.cells.length∧ ∀(j:Nat) (c:AV) (u:Value),y.cells[j]? =some c→vs[j]? =some u→FR w (fg φ A) c u
theorem oN: ∀{xs:List AV},lC xs=false→ ∀(i:Nat) (x:AV),xs[i]? =some x→eE x=false
 |[],_,i,x,h=>by simp at h
 |y::ys,hl,i,x,h=>by
  simp only [lC,Bool.or_eq_false_iff] at hl;cases i with
  |zero=>simp at h;subst h;exact hl.1
  |succ i=>exact oN hl.2 i x h
theorem qZ {n:Nat} (hV:kM w H φ A n) (yh: ∀m,n=m+1→kM w H φ A m):qY w H φ A n:=by
 intro x vs y hl hx hs;by_cases bT: ∃cs,x= .agg cs
 ·obtain ⟨cs,rfl⟩:=bT;cases n with
  |zero=>simp [aX] at hs
  |succ n=>
   simp only [aX,Option.map_eq_some_iff] at hs;obtain ⟨ys,hm,rfl⟩:=hs;obtain ⟨l1,p1⟩:=mapM_some hm;refine ⟨l1,fun j c u hj hu=> ?_⟩;have dI:j<cs.length:=by rw [←l1];exact (List.getElem?_eq_some_iff.1 hj).1
   have hc:=List.getElem?_eq_getElem dI;exact (yh n rfl _ _ _ (hx j _ u hc hu) (p1 j _ c hc hj)).1
 ·have dn: ∀cs,x≠ .agg cs:=fun cs h=>bT ⟨cs,h⟩;by_cases hu:x= .undef
  ·subst hu;have fq:vs=[]:=List.eq_nil_of_length_eq_zero (by simpa [AV.cells] using hl.symm)
   subst fq;have:=(hV .undef undef y (.fr _ _ (.undef _)) hs).2.2.2 rfl;subst this;exact ⟨rfl,by simp⟩
  ·have ec:=cells_one hu dn;rw [ec] at hl;obtain ⟨v,rfl⟩: ∃v,vs=[v]:=by
    match vs,hl with
    |[v],_=>exact ⟨v,rfl⟩
   obtain ⟨h1,_,h3,_⟩:=hV x v y (hx 0 x v (by rw [ec];rfl) rfl) hs
   have h3:=h3 dn hu;refine ⟨by rw [h3,ec];rfl,fun j c u hj aK=> ?_⟩
   rw [h3] at hj;cases j with
   |zero=>simp at hj aK;subst hj;subst aK;exact h1
   |succ j=>simp at hj
theorem q0 (ae:St w H φ A): ∀n,kM w H φ A n∧qY w H φ A n
 |0=>by
  have h0:kM w H φ A 0:=fun x v y _ hs=>by simp [aX] at hs
  exact ⟨h0,qZ h0 (fun m h=>by omega)⟩
 |n+1=>by
  obtain ⟨hV,hE⟩:=q0 ae n;have key:kM w H φ A (n+1):=by
   have br: ∀c,fg φ A c→A c:=fun c h=>h.1;have q8: ∀c,Ow φ c→ ¬fg φ A c:=fun c h hl=>hl.2 h;have same: ∀{x:AV} {v:Value},FR w A x v→x.cells=[x]→FR w (fg φ A) x v∧(eE x=false→FR w A x v)∧((∀cs,x≠ .agg cs)→x≠ .undef→x.cells=[x])∧(x= .undef→x= .undef):=
    fun h hc=>⟨h.shrink br,fun _=>h,fun _ _=>hc,fun h=>h⟩
   intro x v y hx hs;cases x with
   |undef=>simp only [aX,Option.some.injEq] at hs;subst hs;exact ⟨.undef _,fun _=> .undef _,fun _ h=>absurd rfl h,fun h=>h⟩
   |int k n=>simp only [aX,Option.some.injEq] at hs;subst hs;cases hx with|fr _ _ h=>exact same h rfl
   |bool b=>simp only [aX,Option.some.injEq] at hs;subst hs;cases hx with|fr _ _ h=>exact same h rfl
   |str s=>simp only [aX,Option.some.injEq] at hs;subst hs;cases hx with|fr _ _ h=>exact same h rfl
   |cf b=>simp only [aX,Option.some.injEq] at hs;subst hs;cases hx with|fr _ _ h=>exact same h rfl
   |dq=>simp only [aX,Option.some.injEq] at hs;subst hs;cases hx with|fr _ _ h=>exact same h rfl
   |fz xs=>simp only [aX,Option.some.injEq] at hs;subst hs;cases hx with|fr _ _ h=>exact same h rfl
   |fe x o=>simp only [aX,Option.some.injEq] at hs;subst hs;cases hx with|fr _ _ h=>exact same h rfl
   |own sz xs=>simp [aX] at hs
   |de sz x=>simp [aX] at hs
   |ay xs=>simp [aX] at hs
   |nil=>
    simp only [aX,Option.some.injEq] at hs;subst hs;have:=hx.cX;subst this;exact ⟨.cE _ _,fun _=> .cE _ _,fun _ _=>rfl,fun h=>by simp at h⟩
   |e0=>
    simp only [aX,Option.some.injEq] at hs;subst hs;obtain ⟨a,rfl⟩:=hx.ew;exact ⟨.cE _ _,fun _=> .cE _ _,fun _ _=>rfl,fun h=>by simp at h⟩
   |agg cs=>
    simp only [aX,Option.map_eq_some_iff] at hs;obtain ⟨ys,hm,rfl⟩:=hs;obtain ⟨l1,p1⟩:=mapM_some hm;obtain ⟨vs,rfl,hl,ho,hp⟩:=hx.fu;have hc: ∀(i:Nat) (z:AV) (u:Value),ys[i]? =some z→vs[i]? =some u→ ∃c,cs[i]? =some c∧R w H φ A c u∧aX n H c=some z:=by
     intro i z u hz hu;have cc:i<cs.length:=by rw [←l1];exact (List.getElem?_eq_some_iff.1 hz).1
     have hc:=List.getElem?_eq_getElem cc;exact ⟨_,hc,hp i _ u hc hu,p1 i _ z hc hz⟩
    refine ⟨.agg _ _ (by rw [l1,hl]) ho fun i z u hz hu=> ?_,fun hlen=> .agg _ _ (by rw [l1,hl]) ho fun i z u hz hu=> ?_,fun h _=>absurd rfl (h cs),fun h=>by simp at h⟩
    ·obtain ⟨c,h1,h2,h3⟩:=hc i z u hz hu;exact (hV c u z h2 h3).1
    ·obtain ⟨c,h1,h2,h3⟩:=hc i z u hz hu;exact (hV c u z h2 h3).2.1 (oN (by simpa [eE] using hlen) i c h1)
   |fn f cs=>
    simp only [aX,Option.map_eq_some_iff] at hs;obtain ⟨ys,hm,rfl⟩:=hs;obtain ⟨l1,p1⟩:=mapM_some hm;obtain ⟨vs,rfl,hl,hp⟩:=hx.kf;have hc: ∀(i:Nat) (z:AV) (u:Value),ys[i]? =some z→vs[i]? =some u→ ∃c,cs[i]? =some c∧R w H φ A c u∧aX n H c=some z:=by
     intro i z u hz hu;have cc:i<cs.length:=by rw [←l1];exact (List.getElem?_eq_some_iff.1 hz).1
     have hc:=List.getElem?_eq_getElem cc;exact ⟨_,hc,hp i _ u hc hu,p1 i _ z hc hz⟩
    refine ⟨.fn _ _ _ (by rw [l1,hl]) fun i z u hz hu=> ?_,fun hlen=> .fn _ _ _ (by rw [l1,hl]) fun i z u hz hu=> ?_,fun _ _=>rfl,fun h=>by simp at h⟩
    ·obtain ⟨c,h1,h2,h3⟩:=hc i z u hz hu;exact (hV c u z h2 h3).1
    ·obtain ⟨c,h1,h2,h3⟩:=hc i z u hz hu;exact (hV c u z h2 h3).2.1 (oN (by simpa [eE] using hlen) i c h1)
   |ptr id ad idx off=>
    simp only [aX] at hs;split at hs
    ·rename_i b hb;split at hs
     ·rename_i x' bD
      simp only [Option.map_eq_some_iff] at hs;obtain ⟨y',hy,rfl⟩:=hs;have hg:=(J.bp hb).1;obtain ⟨bI,_,hr⟩:=hx.eY;obtain ⟨c,b0,q1,rfl⟩:=hr _ hb;obtain ⟨bk,aW,ag⟩:=ae.ap id _ q1;rw [hg] at aW;simp only [Option.some.injEq] at aW;subst aW;obtain ⟨arr,T,fr,k1,k2,k3,k4⟩:=ag.here c b0 rfl;have yi:idx<b.el.length:=(List.getElem?_eq_some_iff.1 bD).1;have hle:=cH (n:=b.sz) yi;have cj:=ag.sized _ _ bD
      let o:=b0+idx*b.sz
      let vs:List Value:=(arr.extract o (o+b.sz)).toList
      have dx:vs.length=b.sz:=by simp [vs,o];omega
      have fH: ∀j u,vs[j]? =some u→arr[o+j]? =some u:=by
       intro j u hu;simp only [vs,Array.getElem?_toList,Array.getElem?_extract] at hu;split at hu
       ·exact hu
       ·simp at hu
      obtain ⟨l1,r1⟩:=hE x' vs y' (by rw [dx,cj]) (fun j c' u hj hu=>(k4 idx x' j c' u bD hj (fH j u hu)).1) hy
      refine ⟨?_,fun h=>by simp [eE] at h,fun _ _=>rfl,fun h=>by simp at h⟩
      refine FR.fe y' off c o arr T fr k1 (q8 c ⟨id,b0,q1⟩) (by rw [l1,cj];omega) (fun j v hj hv=> ?_) (fun j c' v hc hv=> ?_)
      ·rw [l1] at hj;exact (k4 idx x' j _ v bD (List.getElem?_eq_getElem hj) hv).2
      ·have hj:j<b.sz:=by rw [←cj,←l1];exact (List.getElem?_eq_some_iff.1 hc).1
       exact r1 j c' v hc (by simp only [vs,Array.getElem?_toList,Array.getElem?_extract];rw [if_pos (by omega)];exact hv)
     ·simp at hs
    ·simp at hs
   |ref id ad off len=>
    simp only [aX] at hs;split at hs
    ·rename_i b hb;split at hs
     ·rename_i Br;simp only [Option.map_eq_some_iff] at hs;obtain ⟨ys,hm,rfl⟩:=hs;obtain ⟨l1,p1⟩:=mapM_some hm;have hg:=(J.bp hb).1;obtain ⟨bI,_,hr⟩:=hx.c7;obtain ⟨loc,a0,cap,q1,rfl,q3,q4,q5,q6⟩:=(hr b hb).out;obtain ⟨bk,aW,ag⟩:=ae.ap id _ q1;rw [hg] at aW;simp only [Option.some.injEq] at aW;subst aW;have br:(aD b.el off len).length=len:=by simp [aD];omega
      have fG: ∀(i:Nat) (x:AV),(aD b.el off len)[i]? =some x→b.el[off+i]? =some x:=by
       intro i x hi;simp only [aD,List.getElem?_take,List.getElem?_drop] at hi;split at hi
       ·exact hi
       ·simp at hi
      rw [br] at l1;refine ⟨?_,fun h=>by simp [eE] at h,fun _ _=>rfl,fun h=>by simp at h⟩
      rcases Nat.eq_zero_or_pos len with cm|yc
      ·subst cm;have:=List.eq_nil_of_length_eq_zero l1;subst this;exact .cE _ _
      ·cases loc with
       |aN=>have:=ag.aN rfl;rw [this] at q3;simp at q3;omega
       |at_ c b0=>
        simp only at q6;rcases q6 with q6|⟨h1,h2⟩
        ·omega
        obtain ⟨arr,T,fr,k1,k2,k3,k4⟩:=ag.here c b0 rfl;have hmul:(off+len)*b.sz≤b.el.length*b.sz:=Nat.mul_le_mul_right _ q3;have yd:(off+len)*b.sz=off*b.sz+len*b.sz:=Nat.add_mul _ _ _;have q9: ∀(i:Nat) (a:AV),ys[i]? =some a→a.cells.length=b.sz∧ ∀(j:Nat) (c' :AV) (v:Value),a.cells[j]? =some c' →arr[b0+(off+i)*b.sz+j]? =some v→FR w (fg φ A) c' v:=by
         intro i a ha;have hi:i<len:=by rw [←l1];exact (List.getElem?_eq_some_iff.1 ha).1
         have hx:=List.getElem?_eq_getElem (l:=aD b.el off len) (by rw [br];exact hi)
         have bD:=fG i _ hx
         have cj:=ag.sized _ _ bD;have hle:=cH (n:=b.sz) (show off+i<b.el.length by omega)
         let o:=b0+(off+i)*b.sz
         let vs:List Value:=(arr.extract o (o+b.sz)).toList
         have dx:vs.length=b.sz:=by simp [vs,o];omega
         have fH: ∀j u,vs[j]? =some u→arr[o+j]? =some u:=by
          intro j u hu;simp only [vs,Array.getElem?_toList,Array.getElem?_extract] at hu;split at hu
          ·exact hu
          ·simp at hu
         obtain ⟨l2,r2⟩:=hE _ vs a (by rw [dx,cj]) (fun j c' u hj hu=>(k4 _ _ j c' u bD hj (fH j u hu)).1) (p1 i _ a hx ha)
         refine ⟨by rw [l2,cj],fun j c' v hc hv=>r2 j c' v hc ?_⟩
         have hj:j<b.sz:=by rw [←cj,←l2];exact (List.getElem?_eq_some_iff.1 hc).1
         simp only [vs,Array.getElem?_toList,Array.getElem?_extract];rw [if_pos (by omega)];exact hv
        have gT:=FR.fz (A:=fg φ A) ys c (b0+off*b.sz) cap b.sz arr T fr k1 (q8 c ⟨id,b0,q1⟩) (by rw [l1];exact q4) (by rw [l1];omega)
         (fun i a ha=>(q9 i a ha).1)
         (fun j v hj hv=>by
          rw [l1] at hj;have dX:0<b.sz:=by
           rcases Nat.eq_zero_or_pos b.sz with h|h
           ·rw [h] at hj;simp at hj
           ·exact h
          have ye:j/b.sz<len:=Nat.div_lt_of_lt_mul (by rw [Nat.mul_comm];exact hj)
          have oL:j % b.sz<b.sz:=Nat.mod_lt _ dX;have yf:j=(j/b.sz)*b.sz+j % b.sz:=by rw [Nat.mul_comm];exact (Nat.div_add_mod j b.sz).symm
          have bO:off+j/b.sz<b.el.length:=by omega
          have hx:=List.getElem?_eq_getElem bO;have cj:=ag.sized _ _ hx;have e:b0+off*b.sz+j=b0+(off+j/b.sz)*b.sz+j % b.sz:=by rw [Nat.add_mul];omega
          rw [e] at hv;exact (k4 _ _ _ _ v hx (List.getElem?_eq_getElem (show j % b.sz<_ by rw [cj];exact oL)) hv).2)
         (fun i a j c' v ha hc hv=>by
          have e:b0+off*b.sz+i*b.sz+j=b0+(off+i)*b.sz+j:=by rw [Nat.add_mul];omega
          rw [e] at hv;exact (q9 i a ha).2 j c' v hc hv)
        rw [l1] at gT;rw [h1];exact gT
     ·simp at hs
    ·simp at hs
  exact ⟨key,qZ key (fun m h=>by have:m=n:=by omega
                                 subst this;exact hV)⟩
end yg
end Go.VS
namespace Go.VS
theorem q_: ∀(ys:List AV) (L:J),(∀(i:Nat) (z:AV),ys[i]? =some z→ ∀L,aI z L=(z,L))→aG ys L=(ys,L)
 |[],L,_=>rfl
 |y::ys,L,h=>by
  have h1:=h 0 y rfl L;have h2:=q_ ys L (fun i z hz=>h (i+1) z hz);simp only [aG,h1,h2]
theorem mb (H:J): ∀(n:Nat) (x y:AV),aX n H x=some y→ ∀L,aI y L=(y,L)
 |0,x,y,h,L=>by simp [aX] at h
 |n+1,x,y,h,L=>by
  cases x with
  |agg cs=>
   simp only [aX,Option.map_eq_some_iff] at h;obtain ⟨ys,hm,rfl⟩:=h;obtain ⟨l1,p1⟩:=mapM_some hm;have:=q_ ys L (fun i z hz=>by
    have cc:i<cs.length:=by rw [←l1];exact (List.getElem?_eq_some_iff.1 hz).1
    exact mb H n _ z (p1 i _ z (List.getElem?_eq_getElem cc) hz))
   simp only [aI,this]
  |fn f cs=>simp only [aX,Option.map_eq_some_iff] at h;obtain ⟨ys,_,rfl⟩:=h;rfl
  |ref id ad off len=>
   simp only [aX] at h;split at h
   ·split at h
    ·simp only [Option.map_eq_some_iff] at h;obtain ⟨ys,_,rfl⟩:=h;rfl
    ·simp at h
   ·simp at h
  |ptr id ad idx off=>
   simp only [aX] at h;split at h
   ·split at h
    ·simp only [Option.map_eq_some_iff] at h;obtain ⟨ys,_,rfl⟩:=h;rfl
    ·simp at h
   ·simp at h
  |own sz xs=>simp [aX] at h
  |de sz xs=>simp [aX] at h
  |ay xs=>simp [aX] at h
  |_=>simp only [aX,Option.some.injEq] at h;subst h;rfl
def gU (H:J) (φ :af) (L0:J) (aB:af) (a x:AV):Prop:=
 ∃k kv bk,kd x=some (k,kv)∧L0.ap k kv=some bk∧(∃loc,aB k=some loc)∧(dB a=none→bk.el=[])∧
  ∀id ad,dB a=some (id,ad)→ ∃b c b0,H.ap id ad=some b∧bk.sz=b.sz∧bk.el.length=b.el.length∧ φ id=some (.at_ c b0)∧aB k=some (.at_ c b0)
def b7 (H:J) (φ :af) (L0:J) (aB:af):List Mode→List AV→List AV→Prop
 | .io::ms,a::as,x::xs=>gU H φ L0 aB a x∧b7 H φ L0 aB ms as xs
 |_::ms,_::as,_::xs=>b7 H φ L0 aB ms as xs
 |_,_,_=>True
theorem J.ra {L L1:J} (h:bB L L1) {id ad:Nat} {b:bw} (hb:L1.ap id ad=some b):L.ap id ad=some b:=by
 obtain ⟨h1,h2⟩:=J.bp hb;have:=J.fV (h.get id b h1)
 rwa [h2] at this
theorem oO {L L1:J} (h: ∀id b,L.get id=some b→L1.get id=some b) {id ad:Nat} {b:bw} (hb:L.ap id ad=some b):L1.ap id ad=some b:=by
 obtain ⟨h1,h2⟩:=J.bp hb;have:=J.fV (h id b h1)
 rwa [h2] at this
theorem gU.mono {H H' :J} {φ :af} {L0 L1:J} {aB φ1:af} {a x:AV} (hl:bB H H') (bz: ∀id b,L0.get id=some b→L1.get id=some b) (bX: ∀id loc,aB id=some loc→ φ1 id=some loc)
 (h:gU H' (aC φ H') L0 aB a x):gU H φ L1 φ1 a x:=by
 obtain ⟨k,kv,bk,h1,h2,⟨loc,kN⟩,h3,h4⟩:=h;refine ⟨k,kv,bk,h1,oO bz h2,⟨loc,bX _ _ kN⟩,h3,fun id ad hr=> ?_⟩;obtain ⟨b,c,b0,q1,q2,q3,q4,q5⟩:=h4 id ad hr;exact ⟨b,c,b0,J.ra hl q1,q2,q3,(db q4).1,bX _ _ q5⟩
theorem b7.mono {H H' :J} {φ :af} {L0 L1:J} {aB φ1:af} (hl:bB H H') (bz: ∀id b,L0.get id=some b→L1.get id=some b) (bX: ∀id loc,aB id=some loc→ φ1 id=some loc):
 ∀{ms:List Mode} {as xs:List AV},b7 H' (aC φ H') L0 aB ms as xs→b7 H φ L1 φ1 ms as xs
 |[],_,_,_=>by simp [b7]
 | .io::ms,a::as,x::xs,h=>by
  simp only [b7] at h⊢;exact ⟨h.1.mono hl bz bX,b7.mono hl bz bX h.2⟩
 | .val::ms,a::as,x::xs,h=>by
  simp only [b7] at h⊢;exact b7.mono hl bz bX h
 | .eD::ms,a::as,x::xs,h=>by
  simp only [b7] at h⊢;exact b7.mono hl bz bX h
 |m::ms,[],_,_=>by cases m<;>simp [b7]
 |m::ms,_::_,[],_=>by cases m<;>simp [b7]
section bu
variable {w:World} {A:ah}
theorem oP {H:J} {φ :af} {L:J} {φL:af} (hd:bW w H φ A L φL A) (sz:Nat) {a:AV} {u:Value} (hv: ∃p cap,u= .slice p 0 cap) (hr:dB a=none):
 ∃ φ1,b9 w H φ A L φL A H (L.new sz true []) φ1∧R w (L.new sz true []) φ1 A (.ref L.bs.length L.st 0 0) u∧gU H φ (L.new sz true []) φ1 a (.ref L.bs.length L.st 0 0):=by
 obtain ⟨p,cap,rfl⟩:=hv;have m:=newAt (b9.refl hd) (sz:=sz) (fx:=true) (el:=[]) (loc:= .aN) (by simp) (fun _=>rfl) (by simp)
 have hg:=J.dP L sz true [];refine ⟨_,m,.ref _ _ _ _ _ (Nat.lt_succ_self _) ⟨_,_,rfl⟩ fun b hb=> ?_,_,_,_,rfl,J.fV hg,⟨.aN,by simp⟩,fun _=>rfl,fun id ad h=>by rw [hr] at h;simp at h⟩
 have:=jM hg hb;subst this;exact ⟨.aN,p,cap,by simp,rfl,by simp,Nat.zero_le _,by simp,rfl,fun h=>by simp at h⟩
theorem yj {H:J} {φ :af} {L:J} {φL:af} (hd:bW w H φ A L φL A) {sh:List Sh} {a:AV} {u:Value} (ha:R w H φ A a u) {z:AV} {H1:J} (hz:eQ .io sh a H=some (z,H1)):
 (∃sz xs φ1,z= .own sz xs∧b9 w H φ A L φL A H1 ((aG xs L).2.new sz true (aG xs L).1) φ1∧
  R w ((aG xs L).2.new sz true (aG xs L).1) φ1 A (.ref (aG xs L).2.bs.length (aG xs L).2.st 0 (aG xs L).1.length) u∧
  gU H φ ((aG xs L).2.new sz true (aG xs L).1) φ1 a (.ref (aG xs L).2.bs.length (aG xs L).2.st 0 (aG xs L).1.length))∨
 (∃sz x φ1,z= .de sz x∧b9 w H φ A L φL A H1 (aI z L).2 φ1∧R w (aI z L).2 φ1 A (aI z L).1 u∧gU H φ (aI z L).2 φ1 a (aI z L).1):=by
 cases a with
 |nil=>
  simp only [eQ,Option.some.injEq,Prod.mk.injEq] at hz;obtain ⟨rfl,rfl⟩:=hz;obtain ⟨φ1,h1,h2,h3⟩:=oP hd (ii sh).length (a:= .nil) ⟨none,0,ha.cX⟩ rfl;exact .inl ⟨_,_,φ1,rfl,h1,h2,h3⟩
 |e0=>
  simp only [eQ,Option.some.injEq,Prod.mk.injEq] at hz;obtain ⟨rfl,rfl⟩:=hz;obtain ⟨a0,kJ⟩:=ha.ew;obtain ⟨φ1,h1,h2,h3⟩:=oP hd (ii sh).length (a:= .e0) ⟨a0,0,kJ⟩ rfl;exact .inl ⟨_,_,φ1,rfl,h1,h2,h3⟩
 |ref id ad off len=>
  simp only [eQ] at hz;split at hz
  ·rename_i b hb;obtain ⟨bI,_,hr⟩:=ha.c7;obtain ⟨loc,a0,cap,q1,rfl,q3,q4,q5,q6⟩:=(hr b hb).out;split at hz
   ·rename_i cm;subst cm;simp only [Option.some.injEq,Prod.mk.injEq] at hz;obtain ⟨rfl,rfl⟩:=hz;obtain ⟨φ1,h1,h2,h3⟩:=oP hd (ii sh).length (a:= .ref id ad off 0) ⟨a0,cap,rfl⟩ (by simp [dB])
    exact .inl ⟨_,_,φ1,rfl,h1,h2,h3⟩
   ·rename_i cm;split at hz
    ·rename_i yl;obtain ⟨rfl,hlen⟩:=yl;obtain ⟨e,rfl,ht⟩:=ja (by simp) hz
     cases e with
     |sc=>simp [aT,dr] at ht
     |pt es=>simp [aT] at ht
     |sl es=>
      simp only [aT,hb] at ht;split at ht
      ·rename_i hc;obtain ⟨c1,c2,c3⟩:=hc;split at ht
       ·rename_i ys L' hm
        simp only [Option.some.injEq,Prod.mk.injEq] at ht;obtain ⟨rfl,rfl⟩:=ht;left;have hg:=(J.bp hb).1;obtain ⟨bk,aW,ag⟩:=hd.sl.ap id _ q1;rw [hg] at aW;simp only [Option.some.injEq] at aW;subst aW;have cM:=bB.del H id;have bY:bW w (H.del id) (aC φ (H.del id)) A L φL A:=⟨dS hd.sl cM,hd.sh,fun c hc=>hd.b8 c (bH hc),fun c hc=>hd.d_ c (bH hc)⟩
        have br:aD b.el 0 len=b.el:=by simp [aD,hlen]
        rw [br] at hm;cases loc with
        |aN=>have:=ag.aN rfl;rw [this] at hlen;simp at hlen;omega
        |at_ c b0=>
        simp only at q6;rcases q6 with q6|⟨h1,h2⟩
        ·omega
        obtain ⟨arr,T,fr,k1,k2,k3,k4⟩:=ag.here c b0 rfl
        let g:Nat→Nat→Value:=fun i j=>arr.getD (b0+i*b.sz+j) undef
        have cr: ∀(i:Nat) (x:AV) (j:Nat) (y:AV),b.el[i]? =some x→x.cells[j]? =some y→R w (H.del id) (aC φ (H.del id)) A y (g i j):=by
         intro i x j y hi hj;have dI:j<b.sz:=by rw [←ag.sized _ _ hi];exact (List.getElem?_eq_some_iff.1 hj).1
         have hle:=cH (n:=b.sz) (List.getElem?_eq_some_iff.1 hi).1;have ax:b0+i*b.sz+j<arr.size:=by omega
         have:g i j=arr[b0+i*b.sz+j]:=by
          simp only [g,Array.getD_eq_getD_getElem?,Array.getElem?_eq_getElem ax,Option.getD_some]
         rw [this];exact ((k4 _ _ _ _ _ hi hj (Array.getElem?_eq_getElem ax)).1).mono (cV cM)
        obtain ⟨φ1,m,l1,s1,r1⟩:=ov (w:=w) (es:=es) (fun x vs L φL AL H φ AH y L1 a H1=>l8 es x vs L φL AL H φ AH y L1 a H1) _ g _ _ _ _ _ _ _ _ _ _ bY cr hm rfl (.inl fun _ h=>h)
        have kK: ∀(i:Nat) (a:AV),(aG ys L).1[i]? =some a→a.cells.length=b.sz:=by
         intro i a ha;have cc:i<b.el.length:=by rw [←l1];exact (List.getElem?_eq_some_iff.1 ha).1
         have iz:=List.getElem?_eq_getElem cc;rw [s1 i _ a iz ha];exact ag.sized _ _ iz
        have M:=l6 (off:=0) (n:=len) hd hb c2 rfl q1 (fun c' oG arr' T' eF hl hh i j v hi hj hv=>by
         simp only [Loc.at_.injEq] at hl;obtain ⟨rfl,rfl⟩:=hl;rw [k1] at hh;simp only [Option.some.injEq,Obj.cells.injEq] at hh;obtain ⟨rfl,_,_⟩:=hh;simp only [Nat.zero_add] at hv;simp only [g,Array.getD_eq_getD_getElem?,hv,Option.getD_some]) m (by rw [l1,hlen]) kK r1 true (.at_ c b0) (.inr ⟨c,b0,rfl,by simp⟩)
        rw [c1] at M;have mc:=J.dP (aG ys L).2 es.length true (aG ys L).1;refine ⟨_,_,_,rfl,M,?_,_,_,_,rfl,J.fV mc,⟨.at_ c b0,by simp⟩,fun h=>by simp [dB,cm] at h,fun fp gd h=> ?_⟩
        ·refine .ref _ _ _ _ _ (Nat.lt_succ_self _) ⟨a0,cap,by rw [l1,hlen]⟩ fun b' aw=> ?_
         have:=jM mc aw;subst this;refine ⟨.at_ c b0,a0,cap,by simp,by rw [l1,hlen],by simp,by omega,by simp only;omega,?_⟩
         refine Or.inr ⟨by rw [h1];simp,?_⟩
         rw [c1] at h2;simpa using h2
        ·simp only [dB,cm,if_false,Option.some.injEq,Prod.mk.injEq] at h;obtain ⟨rfl,rfl⟩:=h;exact ⟨b,c,b0,hb,c1.symm,l1,q1,by simp⟩
       ·simp at ht
      ·simp at ht
    ·simp at hz
  ·simp at hz
 |ptr id ad idx off=>
  simp only [eQ] at hz;obtain ⟨e,rfl,ht⟩:=ja (by simp) hz
  cases e with
  |sc=>simp [aT,dr] at ht
  |sl es=>simp [aT] at ht
  |pt es=>
   rcases idx with _|idx
   rotate_left
   ·simp [aT] at ht
   rcases off with _|off
   rotate_left
   ·simp [aT] at ht
   simp only [aT] at ht;split at ht
   ·rename_i oE sz oF z' hb
    split at ht
    ·rename_i y' L' hm
     simp only [Option.some.injEq,Prod.mk.injEq] at ht;obtain ⟨rfl,rfl⟩:=ht;right;have hg:=(J.bp hb).1;obtain ⟨bI,_,hr⟩:=ha.eY;obtain ⟨c,b0,q1,rfl⟩:=hr _ hb;obtain ⟨bk,aW,ag⟩:=hd.sl.ap id _ q1;rw [hg] at aW;simp only [Option.some.injEq] at aW;subst aW;obtain ⟨arr,T,fr,k1,k2,k3,k4⟩:=ag.here c b0 rfl;have cM:=bB.del H id;have bY:bW w (H.del id) (aC φ (H.del id)) A L φL A:=⟨dS hd.sl cM,hd.sh,fun c hc=>hd.b8 c (bH hc),fun c hc=>hd.d_ c (bH hc)⟩
     have c9:z'.cells.length=sz:=ag.sized 0 z' rfl
     simp only [List.length_singleton,Nat.one_mul] at k3
     let vs:List Value:=(arr.extract b0 (b0+sz)).toList
     have dx:vs.length=sz:=by simp [vs];omega
     have fH: ∀j u,vs[j]? =some u→arr[b0+j]? =some u:=by
      intro j u hu;simp only [vs,Array.getElem?_toList,Array.getElem?_extract] at hu;split at hu
      ·exact hu
      ·simp at hu
     obtain ⟨φ1,m,l1,r1⟩:=l8 es z' vs _ _ _ _ _ _ _ _ _ _ bY (by rw [dx,c9]) (fun j c' u hj hu=>((k4 0 z' j c' u rfl hj (by simpa using fH j u hu)).1).mono (cV cM)) hm rfl (.inl fun _ h=>h)
     have M:=l6 (as:=[(aI y' L).1]) (n:=1) (off:=0) (sz:=sz) (loc' := .at_ c b0) (g:=fun i j=>vs.getD j undef) hd hb (by simp) rfl q1 (fun c' oG arr' T' eF hl hh i j v hi hj hv=>by
      simp only [Loc.at_.injEq] at hl;obtain ⟨rfl,rfl⟩:=hl;rw [k1] at hh;simp only [Option.some.injEq,Obj.cells.injEq] at hh;obtain ⟨rfl,_,_⟩:=hh;have i_:i=0:=by omega
      subst i_;simp only [Nat.zero_mul,Nat.add_zero] at hv;have:vs[j]? =some v:=by
       simp only [vs,Array.getElem?_toList,Array.getElem?_extract];rw [if_pos (by omega)];exact hv
      simp [List.getD,this]) m rfl (fun i a ha=>by
      cases i with
      |zero=>simp at ha;subst ha;rw [l1,c9]
      |succ i=>simp at ha) (fun i a j c' ha hc=>by
      cases i with
      |zero=>
       simp at ha;subst ha;have hj:j<vs.length:=by rw [dx,←c9,←l1];exact (List.getElem?_eq_some_iff.1 hc).1
       have:=r1 j c' vs[j] hc (List.getElem?_eq_getElem hj)
       simpa [List.getD,hj] using this
      |succ i=>simp at ha) false (.inr ⟨c,b0,rfl,by simp⟩)
     have mc:=J.dP (aI y' L).2 sz false [(aI y' L).1]
     refine ⟨_,_,_,rfl,M,?_,_,_,_,rfl,J.fV mc,⟨.at_ c b0,by simp⟩,fun h=>by simp [dB] at h,fun fp gd h=> ?_⟩
     ·refine .ptr _ _ _ _ _ (Nat.lt_succ_self _) ⟨_,rfl⟩ fun b' aw=>⟨c,b0,by simp,?_⟩
      simp
     ·simp only [dB,Option.some.injEq,Prod.mk.injEq] at h;obtain ⟨rfl,rfl⟩:=h;exact ⟨_,c,b0,hb,rfl,rfl,q1,by simp⟩
    ·simp at ht
   ·simp at ht
 |_=>simp [eQ] at hz
end bu
end Go.VS
