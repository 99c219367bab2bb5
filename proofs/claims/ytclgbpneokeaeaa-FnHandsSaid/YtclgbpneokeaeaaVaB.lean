import Derived.Test.YtclgbpneokeaeaaVaA
namespace Go.VS
theorem wl (jp cap:Nat) (h:cap<jp):Builtin.nextslicecap jp cap≤2*jp+512:=by
 have g: ∀(r c:Nat),c≤2*jp+512→Builtin.growBy jp r c≤2*jp+512:=by
  intro r;induction r with
  |zero=>intro c hc;exact hc
  |succ r ih=>
   intro c hc;simp only [Builtin.growBy];split
   ·exact hc
   ·exact ih _ (by omega)
 unfold Builtin.nextslicecap;split
 ·omega
 ·split
  ·omega
  ·exact g _ _ (by omega)
section ops
variable {P:Program} {E:aK} (hE: ∀t ti,E t=some ti→aT P t ti)
variable {w:World} {G:J} {φ :ag} {A:ah}
theorem nh {t:TypeId} {ti:TI} (h:aT P t ti) (hn: ∀k,ti.aq≠ .it k) (w:World): ∃d,(underlying t).run P w= .ok d w∧(∀k,d≠ .int k):=by
 obtain ⟨i,d,z,_,hd,_,_,_,_,_,_,_,_,a4,_⟩:=h.out;exact ⟨d,run_underlying hd w,fun k hk=>hn k (by rw [←a4,hk];rfl)⟩
structure wm (P:Program) (w:World) (G:J) (φ :ag) (A:ah) (xs:List AV) (v:Value) (sz:Nat) (cs:Array Value):Prop where
 len:(Builtin.lenOf v).run P w= .ok xs.length w
 run: ∀m,m≤xs.length→(Builtin.firstCells sz m v).run P w= .ok (cs.extract 0 (m*sz)) w
 size:cs.size=xs.length*sz
 rel: ∀(i:Nat) (x:AV) (j:Nat) (y:AV) (u:Value),xs[i]? =some x→x.cells[j]? =some y→cs[i*sz+j]? =some u→R w G φ A y u∧u.oneCell' =true
 one: ∀u∈cs.toList,u.oneCell' =true
theorem jq {H0:J} (ae:St w G φ A) (hX:aZ H0 G) {x:AV} {v:Value} {xs:List AV} {sz:Nat} (hx:R w G φ A x v) (h:cx H0 x=some xs) (hs:bN sz xs=true) (hz:0<sz):
 ∃cs,wm P w G φ A xs v sz cs:=by
 by_cases pG: ∃s,x= .str s
 ·obtain ⟨s,rfl⟩:=pG;obtain ⟨b,rfl,rfl⟩:=hx.eC;simp only [cx,Option.some.injEq] at h;have ca:xs.length=b.size:=by rw [←h,List.length_map];exact Array.length_toList
  refine ⟨b.data.map fun c=> .int .u8 c.toNat,by simp [Builtin.lenOf,ca],fun m hm=> ?_,?_,fun i x j y u hi hy hu=> ?_,fun u hu=> ?_⟩
  ·have aG:sz=1∨xs=[]:=by
    rcases xs with _|⟨y,ys⟩
    ·exact .inr rfl
    ·left;have:=gx (i:=0) hs rfl;have hy:(b.data.toList.map fun c:UInt8=>AV.int .u8 c.toNat)[0]? =some y:=by rw [h];rfl
     simp only [List.getElem?_map,Option.map_eq_some_iff] at hy;obtain ⟨c,_,rfl⟩:=hy;exact this.symm
   simp only [Builtin.firstCells,Sem.run_pure];congr 1;rcases aG with rfl|rfl
   ·rw [ByteArray.data_extract,Nat.mul_one];apply Array.ext';simp
   ·simp at hm;subst hm;rw [ByteArray.data_extract];apply Array.ext';simp
  ·rcases xs with _|⟨y,ys⟩
   ·rw [Array.size_map,List.length_nil,Nat.zero_mul];exact ca.symm
   ·have:=gx (i:=0) hs rfl;have hy:(b.data.toList.map fun c:UInt8=>AV.int .u8 c.toNat)[0]? =some y:=by rw [h];rfl
    simp only [List.getElem?_map,Option.map_eq_some_iff] at hy;obtain ⟨c,_,rfl⟩:=hy;have h1:sz=1:=this.symm;subst h1;rw [Nat.mul_one,ca,Array.size_map];rfl
  ·rw [←h] at hi;simp only [List.getElem?_map,Option.map_eq_some_iff] at hi;obtain ⟨c,hc,rfl⟩:=hi;have h1:=gx hs (i:=i) (x:= .int .u8 c.toNat) (by rw [←h];simp [hc])
   have h1:sz=1:=h1.symm;subst h1;cases j with
   |zero=>
    simp only [AV.cells,List.getElem?_cons_zero,Option.some.injEq] at hy;subst hy;simp only [Nat.mul_one,Nat.add_zero,Array.getElem?_map,Option.map_eq_some_iff] at hu;obtain ⟨c',gp,rfl⟩:=hu;have:b.data[i]? =some c:=by simpa using hc
    rw [this] at gp;simp only [Option.some.injEq] at gp;subst gp;exact ⟨.fr _ _ (.int _ _),rfl⟩
   |succ j=>simp [AV.cells] at hy
  ·simp only [Array.toList_map,List.mem_map] at hu;obtain ⟨c,_,rfl⟩:=hu;rfl
 ·have cu:=nf ae hX hx h hs (fun s hs=>pG ⟨s,hs⟩);obtain ⟨cs,c1,c2,c3,c4⟩:=cu.cells (P:=P) hz;refine ⟨cs,?_,fun m hm=> ?_,c2,c3,c4⟩
  ·rcases cu.out with ⟨rfl,a,cap,rfl⟩|⟨c,o,cap,arr,T,fr,rfl,_⟩<;>simp [Builtin.lenOf]
  ·rcases cu.out with ⟨rfl,a,cap,rfl⟩|⟨c,o,cap,arr,T,fr,rfl,h1,h2,_⟩
   ·simp at hm;subst hm;have:cs= #[]:=Array.eq_empty_of_size_eq_zero (by simpa using c2)
    subst this;cases a with
    |none=>simp [Builtin.firstCells]
    |some a=>simp [Builtin.firstCells,loadCells,loadCellsFrom]
   ·simp only [Builtin.firstCells] at c1⊢;have hle:m*sz≤xs.length*sz:=Nat.mul_le_mul_right _ hm;rw [jV P h1 o (xs.length*sz) h2] at c1;rw [jV P h1 o (m*sz) (by omega)]
    simp only [Result.ok.injEq,and_true] at c1;congr 1;rw [←c1];simp only [Array.extract_extract];congr 1<;>omega
theorem run_append_grow {t tx e:TypeId} {ti te eo:TI} (ht:aT P t ti) (hu:ti.aq= .sl e) (a8:aT P e te) (cq:aT P tx eo) (fv: ∀k,eo.aq≠ .it k) (tys:Array TypeId) (h0:tys[0]? =some t) (h1:tys[1]? =some tx) (ty:TypeId)
 {base:Option Addr} {sLen sCap:Nat} {x:Value} {n:Nat} {fX g9:Array Value} (hlen:(Builtin.lenOf x).run P w= .ok n w) (hS:(Builtin.firstCells te.sz sLen (.slice base sLen sCap)).run P w.drew= .ok fX w.drew)
 (hX:(Builtin.firstCells te.sz n x).run P w.drew= .ok g9 w.drew) (sS:fX.size=sLen*te.sz) (sX:g9.size=n*te.sz) (j8:sCap<sLen+n) (lg:roomy (sLen+n) te.bytes=true):
 ∃cap arr,sLen+n≤cap∧(Builtin.append_ tys ty #[.slice base sLen sCap,x]).run P w= .ok (.slice (some ⟨w.heap.size,0,none⟩) (sLen+n) cap) (w.drew.alloc (.cells arr e))∧arr.size=cap*te.sz∧
  ∀j,j<(sLen+n)*te.sz→arr[j]? =(fX ++ g9)[j]? :=by
 obtain ⟨d,hd,ni⟩:=nh cq fv w;obtain ⟨inf,i1,i2,_⟩:=a8.typeInfo w;obtain ⟨zv,z1,z2,_⟩:=a8.zeroValue w.drew;simp only [roomy,Bool.and_eq_true,decide_eq_true_eq] at lg;obtain ⟨r1,r2⟩:=lg;have pH:(match d with| .int _=>true|_=>false)=false:=by cases d<;>first|rfl|exact absurd rfl (ni _)
 have hb: ¬(Builtin.nextslicecap (sLen+n) sCap*inf.bytes>2^48):=by
  rw [i2];have h2:=wl (sLen+n) sCap j8;have h3:Builtin.nextslicecap (sLen+n) sCap*te.bytes≤(2*(sLen+n)+512)*te.bytes:=Nat.mul_le_mul_right _ h2;have h4:(2*(sLen+n)+512)*te.bytes≤2*((sLen+n+512)*te.bytes):=by
   rw [←Nat.mul_assoc];exact Nat.mul_le_mul_right _ (by omega)
  omega
 have nj: ¬(((sLen+n:Nat):Int)>IntKind.i64.max):=by have:IntKind.i64.max=9223372036854775807:=rfl;omega
 let q:Question:= .appendCap (sLen+n) sCap e
 let cap:=q.cut (w.tape w.drawn q)
 have eV:sLen+n≤cap:=Nat.le_add_right _ _
 let arr:=fX ++ g9 ++ Builtin.zeroCells zv.cells (cap-(sLen+n))
 have gy:(Builtin.zeroCells zv.cells (cap-(sLen+n))).size=(cap-(sLen+n))*te.sz:=by simp [Builtin.zeroCells,z2]
 refine ⟨cap,arr,eV,?_,?_,fun j hj=> ?_⟩
 ·unfold Builtin.append_;simp only [h0,h1,List.getElem?_toArray,List.getElem?_cons_zero,List.getElem?_cons_succ,Sem.run_bind,ht.sl w hu,Result.andThen_ok,a8.sizeOf,hd,Sem.run_pure];have lh: ¬(sLen+n≤sCap):=by omega
  obtain ⟨wo,nk,wq,_⟩:=a8.typeInfo w.drew;simp only [Bool.false_eq_true,if_false,Bool.not_false,if_true,Sem.run_bind,hlen,Result.andThen_ok,lh,i1,nj,false_and,hb,run_choose,Question.forced,World.drew_eq,nk,run_askRoom];show ((Builtin.firstCells te.sz sLen (.slice base sLen sCap)).run P w.drew).andThen _=_;simp only [hS,hX,Result.andThen_ok,z1,Sem.run_bind,newRow,run_newObj,Sem.run_pure,World.alloc_eq];rfl
 ·simp only [arr,Array.size_append,sS,sX,gy];rw [←Nat.add_mul,←Nat.add_mul];congr 1;omega
 ·have:j<(fX ++ g9).size:=by simp only [Array.size_append,sS,sX];rw [←Nat.add_mul];exact hj
  simp only [arr];rw [Array.getElem?_append_left this]
end ops
end Go.VS
namespace Go.VS
section ops
variable {P:Program} {E:aK} (hE: ∀t ti,E t=some ti→aT P t ti)
variable {w:World} {G:J} {φ :ag} {A:ah}
theorem li (ae:St w G φ A):Out w G φ A w.drew G φ A:=
 have aW:bG w G φ A w.drew G φ A:=⟨fun c a t fr hc hn=>⟨⟨fr,hc⟩,hn⟩,Nat.le_refl _,fun i b' ax _=>⟨b',ax,rfl,rfl,rfl,rfl,fun loc hl=>hl⟩,fun c _=>rfl⟩
 ⟨⟨ae.inj,ae.own,ae.b6,fun id loc h=>by
  obtain ⟨b,hb,af⟩:=ae.ap id loc h;refine ⟨b,hb,af.ad,af.sized,af.aO,fun c b0 hl=> ?_⟩;obtain ⟨arr,T,fr,h1,h2,h3,h4⟩:=af.here c b0 hl;exact ⟨arr,T,fr,h1,h2,h3,fun i x j y v hx hy hv=>⟨(h4 i x j y v hx hy hv).1.mono aW,(h4 i x j y v hx hy hv).2⟩⟩⟩,
  ⟨rfl,rfl,rfl,Nat.le_refl _,fun _ _ _=>rfl,fun _ _=>rfl,fun _ h=> .inl h⟩,aW,fun _ h _=>h⟩
theorem a6.of {H0 H' :J} {r:Result Next} {x:AV} {v:Value} {w' :World} {ak:ag} {A' :ah} (hr:r= .ok (.value v) w') (hx:R w' G ak A' x v) (ho:Out w G φ A w' G ak A')
 (bT: ∀id loc,ak id=some loc→ φ id=some loc∨(H0.bs.length≤id∧id<H'.bs.length)):a6 w G φ A H0 H' r x:=⟨_,v,w',ak,A',hr,.inl rfl,hx,ho,bT⟩
include hE in
theorem pI {H0 H' :J} (ae:St w G φ A) (hX:aZ H' G) (bp:H0.bs.length<H'.bs.length→ φ H0.bs.length=none) {t tx:TypeId} {tys:Array TypeId} {ty:TypeId} (h0:tys[0]? =some t) (h1:tys[1]? =some tx) {te eo:TI} (a8:cE E t=some te)
 (cq:E tx=some eo) {k:IntKind} (hit:eo.aq= .it k) {n:Int} {z:AV} {a b:Value} (hs:R w G φ A .nil a) (hx:R w G φ A (.int .i64 n) b) (h:jM te n H0=some (z,H')):
 a6 w G φ A H0 H' ((do pure (.value (←Builtin.append_ tys ty #[a,b])):Sem Next).run P w) z:=by
 obtain ⟨ti,e,ht,hu,b_⟩:=iB a8;have e1:=hs.cR;have e2:=hx.cp;subst e1;subst e2;unfold jM at h;split at h
 rotate_left
 ·simp at h
 rename_i zA hz;split at h
 rotate_left
 ·simp at h
 rename_i hcnd;obtain ⟨c0,c2,c3⟩:=hcnd;obtain ⟨inf,i1,i2,_⟩:=(hE _ _ b_).typeInfo w;simp only [roomy,Bool.and_eq_true,decide_eq_true_eq] at c2;obtain ⟨r1,r2⟩:=c2;have hn:IntKind.i64.wrap n=n:=IntWalk.i64_in n (by omega)
 have e1:(n.toNat+512)*te.bytes=n.toNat*te.bytes+512*te.bytes:=Nat.add_mul _ _ _;have hb: ¬(n*(inf.bytes:Int)>2^48):=by
  rw [i2];have e2:n*((te.bytes:Int))=((n.toNat*te.bytes:Nat):Int):=by
   rw [Int.natCast_mul,Int.toNat_of_nonneg (by omega)]
  rw [e2];omega
 have hd:=(hE _ _ cq).jS (w:=w) hit;have t1: ¬(IntKind.i64.wrap n<0):=by rw [hn];omega
 have ax: ¬(IntKind.i64.wrap n*(inf.bytes:Int)>2^48):=by rw [hn];exact hb
 by_cases nl:n=0
 ·rw [if_pos nl] at h;simp only [Option.some.injEq,Prod.mk.injEq] at h;obtain ⟨rfl,rfl⟩:=h;subst nl;refine a6.val ae ?_ (.fr _ _ .nil);unfold Builtin.append_;simp only [h0,h1,List.getElem?_toArray,List.getElem?_cons_zero,List.getElem?_cons_succ,Sem.run_bind,(hE _ _ ht).sl w hu,Result.andThen_ok,(hE _ _ b_).sizeOf,hd,Sem.run_pure,asInt,asIntOf];simp only [t1,if_true,if_false,Sem.run_bind,Sem.run_pure,Result.andThen_ok,i1,ax];rw [hn];simp
 ·rw [if_neg nl] at h;simp only [Option.some.injEq,Prod.mk.injEq] at h;obtain ⟨rfl,rfl⟩:=h;have du:=li ae;obtain ⟨zv,z1,z2,z3,z5⟩:=pz (hE _ _ b_) hz w.drew;obtain ⟨wo,nk,wq,_⟩:=(hE _ _ b_).typeInfo w.drew
  let q:Question:= .appendCap n.toNat 0 e
  let cap:=q.cut (w.tape w.drawn q)
  have eV:n.toNat≤cap:=Nat.le_add_right _ _
  let arr:=Builtin.zeroCells zv.cells n.toNat ++ Builtin.zeroCells zv.cells (cap-n.toNat)
  have gy: ∀m,(Builtin.zeroCells zv.cells m).size=m*te.sz:=fun m=>by simp [Builtin.zeroCells,z2]
  have wu:Builtin.nextslicecap n.toNat 0=n.toNat:=by unfold Builtin.nextslicecap;rw [if_pos (by omega)]
  have g_: ¬(n.toNat*inf.bytes>2^48):=by rw [i2];omega
  have nj: ¬((n.toNat:Int)>IntKind.i64.max):=by have:IntKind.i64.max=9223372036854775807:=rfl;omega
  have aN: ¬(n.toNat*te.sz=0):=by
   intro h0;rcases Nat.mul_eq_zero.1 h0 with h0|h0<;>omega
  have cy:(Builtin.append_ tys ty #[.slice none 0 0,.int .i64 n]).run P w= .ok (.slice (some ⟨w.heap.size,0,none⟩) n.toNat cap) (w.drew.alloc (.cells arr e)):=by
   unfold Builtin.append_;simp only [h0,h1,List.getElem?_toArray,List.getElem?_cons_zero,List.getElem?_cons_succ,Sem.run_bind,(hE _ _ ht).sl w hu,Result.andThen_ok,(hE _ _ b_).sizeOf,hd,Sem.run_pure,asInt,asIntOf];simp only [t1,if_true,if_false,Sem.run_bind,Sem.run_pure,Result.andThen_ok,i1,ax];rw [hn];have lh: ¬(n.toNat≤0):=by omega
   have j9: ¬(Builtin.nextslicecap n.toNat 0*inf.bytes>2^48):=by rw [wu];exact g_
   simp only [Nat.zero_add];rw [if_neg lh];simp only [if_false,Sem.run_bind,Sem.run_pure,Result.andThen_ok,i1,nj,false_and,j9,run_choose,Question.forced,World.drew_eq,nk,run_askRoom,Builtin.firstCells,aN,z1,newRow,run_newObj,World.alloc_eq,Array.empty_append,Bool.not_true,Bool.false_eq_true];rfl
  have dq:arr.size=cap*te.sz:=by
   simp only [arr,Array.size_append,gy];rw [←Nat.add_mul];congr 1;omega
  have cT: ∀(i:Nat) (x:AV),(List.replicate n.toNat zA)[i]? =some x→x.cells.length=te.sz:=by
   intro i x hx;simp only [List.getElem?_replicate] at hx;split at hx
   ·simp only [Option.some.injEq] at hx;subst hx;exact z3
   ·simp at hx
  have iz: ∀(i:Nat) (x:AV) (j:Nat) (y:AV) (v:Value),(List.replicate n.toNat zA)[i]? =some x→x.cells[j]? =some y→arr[i*te.sz+j]? =some v→R w.drew G φ A y v∧v.oneCell' =true:=by
   intro i x j y v hx hy hv;simp only [List.getElem?_replicate] at hx;split at hx
   ·rename_i hi;simp only [Option.some.injEq] at hx;subst hx;have hj:j<te.sz:=by rw [←z3];exact (List.getElem?_eq_some_iff.1 hy).1
    have aw:i*te.sz+j<n.toNat*te.sz:=by have:=ct (n:=te.sz) hi;omega
    simp only [arr] at hv;rw [Array.getElem?_append_left (by rw [gy];exact aw)] at hv
    have a9:zv.cells[j]? =some v:=by
     refine j6 z2 hi hj ?_;rw [←hv];simp only [Builtin.zeroCells,z2]
    have:=z5 w.drew A j y v hy a9;exact ⟨.fr _ _ this.1,this.2⟩
   ·simp at hx
  obtain ⟨ak,A',bz,aX,bT⟩:=jm (arr:=arr) e du.st hX (bp (by simp [J.new])) cT (by rw [dq];simpa using Nat.mul_le_mul_right _ eV) iz
  have hg:=hX.1 _ _ (J.dH H0 te.sz false (List.replicate n.toNat zA));exact a6.of (by simp only [Sem.run_bind,cy,Result.andThen_ok,Sem.run_pure];rfl) (jn hg (Nat.lt_of_lt_of_le (Nat.lt_succ_self _) hX.2) aX (by simp) eV (by simpa using eV) (by rw [j0,dq];exact Nat.le_refl _)) (du.trans ae bz) bT
include hE in
theorem nn {H0 H' :J} (ae:St w G φ A) (eY:aZ H0 G) (hX:aZ H' G) (bp:H0.bs.length<H'.bs.length→ φ H0.bs.length=none) {t tx:TypeId} {tys:Array TypeId} {ty:TypeId} (h0:tys[0]? =some t) (h1:tys[1]? =some tx) {te eo:TI} (a8:cE E t=some te)
 (cq:E tx=some eo) (fv: ∀k,eo.aq≠ .it k) {s x z:AV} {a b:Value} (hs:R w G φ A s a) (hx:R w G φ A x b) (hq:s= .nil∨s= .e0) (h:eu te s x H0=some (z,H')):
 a6 w G φ A H0 H' ((do pure (.value (←Builtin.append_ tys ty #[a,b])):Sem Next).run P w) z:=by
 obtain ⟨ti,e,ht,hu,b_⟩:=iB a8;obtain ⟨base,rfl⟩: ∃base,a= .slice base 0 0:=by
  rcases hq with rfl|rfl
  ·exact ⟨none,hs.cR⟩
  ·obtain ⟨a0,rfl⟩:=hs.ek;exact ⟨a0,rfl⟩
 unfold eu at h;split at h
 ·simp at h
 ·rename_i xs fY;split at h
  ·simp at h
  ·rename_i aG;simp only [Bool.not_eq_true',Bool.not_eq_false] at aG;split at h
   ·simp at h
   ·rename_i hz;have hz:0<te.sz:=by omega
    obtain ⟨cs,cz⟩:=jq (P:=P) ae eY hx fY aG hz;have pJ:xs.length=0→a6 w G φ A H0 H0 ((do pure (.value (←Builtin.append_ tys ty #[.slice base 0 0,b])):Sem Next).run P w) s:=by
     intro hl;refine a6.val ae ?_ hs;obtain ⟨d,hd,ni⟩:=nh (hE _ _ cq) fv w;have hc:=cz.run 0 (by omega)
     have cV:=cz.len;rw [hl] at cV;simp only [Nat.zero_mul,Array.extract_zero] at hc;unfold Builtin.append_;simp only [h0,h1,List.getElem?_toArray,List.getElem?_cons_zero,List.getElem?_cons_succ,Sem.run_bind,(hE _ _ ht).sl w hu,Result.andThen_ok,(hE _ _ b_).sizeOf,hd,Sem.run_pure];simp only [Bool.false_eq_true,if_false,Bool.not_false,if_true,Sem.run_bind,cV,Result.andThen_ok,Nat.add_zero,Nat.le_refl,hc];cases base with
     |none=>simp
     |some p=>simp [storeCells]
    have pK: ∀{v:Nat},0<xs.length→roomy xs.length te.bytes=true→aZ (H0.new te.sz false xs) G→ φ H0.bs.length=none→v=xs.length→
     a6 w G φ A H0 (H0.new te.sz false xs) ((do pure (.value (←Builtin.append_ tys ty #[.slice base 0 0,b])):Sem Next).run P w) (.ref H0.bs.length H0.st 0 xs.length):=by
     intro v hl hr hX wv _;have du:=li ae;have hc:(Builtin.firstCells te.sz 0 (.slice base 0 0)).run P w.drew= .ok #[] w.drew:=by
      cases base with
      |none=>simp [Builtin.firstCells]
      |some p=>simp [Builtin.firstCells,loadCells,loadCellsFrom]
     obtain ⟨aS,eH⟩:=jq (P:=P) du.st eY (hx.mono du.bX) fY aG hz;have dw:=eH.run xs.length (Nat.le_refl _);rw [←eH.size] at dw;simp only [Array.extract_size] at dw;obtain ⟨cap,arr,k1,k2,k3,k4⟩:=run_append_grow (P:=P) (w:=w) (hE _ _ ht) hu (hE _ _ b_) (hE _ _ cq) fv tys h0 h1 ty cz.len hc dw (by simp) eH.size (by omega) (by simpa using hr)
     simp only [Nat.zero_add] at k1 k2 k4;have cT: ∀(i:Nat) (x:AV),xs[i]? =some x→x.cells.length=te.sz:=fun i x hi=>gx aG hi;have hle:xs.length*te.sz≤cap*te.sz:=Nat.mul_le_mul_right _ k1;obtain ⟨ak,A',bz,aX,bT⟩:=jm (arr:=arr) e du.st hX wv cT (by rw [k3];exact hle) (fun i x j y v hi hy hv=>by
      have b8:i<xs.length:=(List.getElem?_eq_some_iff.1 hi).1;have dx:j<x.cells.length:=(List.getElem?_eq_some_iff.1 hy).1;have:=cT i x hi;have:=ct (n:=te.sz) b8;rw [k4 _ (by omega)] at hv
      simp only [Array.empty_append] at hv;exact eH.rel i x j y v hi hy hv)
     have hg:=hX.1 _ _ (J.dH H0 te.sz false xs);exact a6.of (by simp [k2]) (jn hg (Nat.lt_of_lt_of_le (Nat.lt_succ_self _) hX.2) aX (Nat.le_refl _) k1 k1 (by
      have:=j0 w.drew arr e;rw [this,k3];exact Nat.le_refl _)) (du.trans ae bz) bT
    rcases hq with rfl|rfl
    ·simp only at h;split at h
     ·rename_i hl;simp only [Option.some.injEq,Prod.mk.injEq] at h;obtain ⟨rfl,rfl⟩:=h;exact pJ hl
     ·rename_i hl;split at h
      ·rename_i hr;simp only [Option.some.injEq,Prod.mk.injEq] at h;obtain ⟨rfl,rfl⟩:=h;exact pK (by omega) hr hX (bp (by simp [J.new])) rfl
      ·simp at h
    ·simp only at h;split at h
     ·rename_i hl;simp only [Option.some.injEq,Prod.mk.injEq] at h;obtain ⟨rfl,rfl⟩:=h;exact pJ hl
     ·rename_i hl;split at h
      ·rename_i hr;simp only [Option.some.injEq,Prod.mk.injEq] at h;obtain ⟨rfl,rfl⟩:=h;exact pK (by omega) hr hX (bp (by simp [J.new])) rfl
      ·simp at h
include hE in
theorem ww {H0 H' :J} (ae:St w G φ A) (eY:aZ H0 G) (hX:aZ H' G) (bp:H0.bs.length<H'.bs.length→ φ H0.bs.length=none) {src dst:TypeId} {x z:AV} {a:Value} (hx:R w G φ A x a)
 (h:(match (generalizing:=false) E src,E dst,x with
 |some _,some td,.int _ n=>match td.aq with
  | .it k=>some (AV.int k (k.wrap n),H0)
  |_=>none
 |some _,some td,.str l=>match td.aq with
  | .str=>some (.str l,H0)
  | .sl e=>match E e with
   |some te=>match te.aq with
    | .it .u8=>if te.sz=1∧te.bytes=1∧l.length≤2^45 then some (.ref H0.bs.length H0.st 0 l.length,H0.new 1 false (l.map fun b=> .int .u8 b.toNat)) else none
    |_=>none
   |none=>none
  |_=>none
 |some ts,some td,x=>match ts.aq,td.aq with
  | .sl e,.str=>match E e with
   |some te=>match te.aq with
    | .it .u8=>match cx H0 x with
     |some xs=>if te.sz=1 then (match ((bytesOf xs).map AV.str) with|some v=>some (v,H0)|none=>none) else none
     |none=>none
    |_=>none
   |none=>none
  |_,_=>none
 |_,_,_=>none)=some (z,H')):a6 w G φ A H0 H' ((do pure (.value (←convert src dst a)):Sem Next).run P w) z:=by
 have eA:(∃s,x= .str s)∨ ∀s,x≠ .str s:=by
  by_cases h: ∃s,x= .str s
  ·exact .inl h
  ·exact .inr fun s hs=>h ⟨s,hs⟩
 split at h
 ·rename_i ts td k n h1 h2;have e1:=hx.cp;subst e1;split at h
  ·rename_i k' hu
   simp only [Option.some.injEq,Prod.mk.injEq] at h;obtain ⟨rfl,rfl⟩:=h;obtain ⟨i,d,zz,_,hd,_⟩:=(hE _ _ h1).out;refine a6.val ae ?_ (.fr _ _ (.int _ _));simp only [Sem.run_bind,convert,run_underlying hd,(hE _ _ h2).jS w hu,Result.andThen_ok];cases d<;>rfl
  ·simp at h
 ·rename_i ts td l h1 h2;obtain ⟨s,rfl,rfl⟩:=hx.eC;obtain ⟨i,d,zz,_,hd,_⟩:=(hE _ _ h1).out;split at h
  ·rename_i hu;simp only [Option.some.injEq,Prod.mk.injEq] at h;obtain ⟨rfl,rfl⟩:=h;refine a6.val ae ?_ hx;simp only [Sem.run_bind,convert,run_underlying hd,(hE _ _ h2).iu w hu,Result.andThen_ok];cases d<;>rfl
  ·rename_i e hu;split at h
   ·rename_i te h3;split at h
    ·rename_i np;split at h
     ·rename_i hc;simp only [Option.some.injEq,Prod.mk.injEq] at h;obtain ⟨rfl,rfl⟩:=h;have hl:s.data.toList.length=s.size:=Array.length_toList;have du:=li ae
      let q:Question:= .appendCap s.size 0 e
      let cap:=q.cut (w.tape w.drawn q)
      have eV:s.size≤cap:=Nat.le_add_right _ _
      let arr:Array Value:=(s.data.map fun b=>Value.int .u8 b.toNat) ++ Array.replicate (cap-s.size) (.int .u8 0)
      have dq:arr.size=cap:=by
       simp only [arr,Array.size_append,Array.size_map,Array.size_replicate];have:s.data.size=s.size:=rfl;omega
      obtain ⟨ak,A',bz,aX,bT⟩:=py (arr:=arr) (arr.size,arr.size+1) e du.st hX (bp (by simp [J.new])) (fun i x hi=>by
       simp only [List.getElem?_map,Option.map_eq_some_iff] at hi;obtain ⟨c,_,rfl⟩:=hi;rfl) (by rw [List.length_map,hl,dq];omega) (fun j hj h=>by have:=h.1;simp only at this;omega) (fun i x j y v hi hy hv=>by
       simp only [List.getElem?_map,Option.map_eq_some_iff] at hi;obtain ⟨c,hc,rfl⟩:=hi;cases j with
       |zero=>
        simp only [AV.cells,List.getElem?_cons_zero,Option.some.injEq] at hy;subst hy;simp only [Nat.mul_one,Nat.add_zero] at hv;have hi:i<s.data.size:=by rw [←Array.length_toList];exact (List.getElem?_eq_some_iff.1 hc).1
        simp only [arr] at hv;rw [Array.getElem?_append_left (by simpa using hi)] at hv
        simp only [Array.getElem?_map,Option.map_eq_some_iff] at hv;obtain ⟨c',gp,rfl⟩:=hv;have:s.data[i]? =some c:=by simpa using hc
        rw [this] at gp;simp only [Option.some.injEq] at gp;subst gp;exact ⟨.fr _ _ (.int _ _),rfl⟩
       |succ j=>simp [AV.cells] at hy)
      have hg:=hX.1 _ _ (J.dH H0 1 false (s.data.toList.map fun b=>AV.int .u8 b.toNat));have cy:(convert src dst (.string s)).run P w= .ok (.slice (some ⟨w.heap.size,0,none⟩) s.size cap) (w.drew.alloc (.cells arr e (arr.size,arr.size+1))):=by
       have e2:(convert src dst (.string s)).run P w=(Conv.stringToBytes e s).run P w:=by
        simp only [convert,Sem.run_bind,run_underlying hd,(hE _ _ h2).sl w hu,Result.andThen_ok];have:=(hE _ _ h3).jS w np;cases d<;>simp [this]
       rw [e2];unfold Conv.stringToBytes;simp only [Sem.run_bind,run_choose,Question.forced,Bool.false_eq_true,if_false,World.drew_eq,Result.andThen_ok,newRow,run_newObj,World.alloc_eq,Sem.run_pure];have eZ:((w.drew.alloc (.cells arr e)).shape? w.drew.heap.size)=some (e,arr.size):=by
        unfold World.shape?;rw [heap_alloc_new]
       simp only [markStringish,Sem.run_bind,run_shape,Result.andThen_ok];rw [show (w.drew.alloc (.cells ((s.data.map fun b=>Value.int .u8 b.toNat) ++ Array.replicate (q.cut (w.tape w.drawn q)-s.size) (.int .u8 0)) e))=w.drew.alloc (.cells arr e) from rfl];rw [eZ];simp only [run_freeze,Result.andThen_ok];congr 1;unfold World.freeze;simp only [Nat.one_ne_zero,if_false];have: ∀(h:Array Obj) (o:Obj) (f:Obj→Obj),(h.push o).modify h.size f=h.push (f o):=by
        intro h o f;apply Array.ext
        ·simp
        ·intro i h1 h2;simp only [Array.getElem_modify,Array.getElem_push];simp at h1;by_cases hi:h.size=i
         ·subst hi;simp
         ·have:i<h.size:=by omega
          simp [hi,this]
       show ({w.drew.alloc (.cells arr e) with heap:=(w.drew.heap.push (.cells arr e)).modify w.drew.heap.size _}:World)=_;rw [this];rfl
      refine a6.of (by simp [cy];rfl) ?_ (du.trans ae bz) bT
      rw [hl];exact jn hg (Nat.lt_of_lt_of_le (Nat.lt_succ_self _) hX.2) aX (by simp [hl]) eV (by simp [hl];exact eV) (by
       have:a5 (w.drew.alloc (.cells arr e (arr.size,arr.size+1))) w.heap.size=arr.size:=by
        unfold a5;rw [show w.heap.size=w.drew.heap.size from rfl,heap_alloc_new]
       rw [this,dq];simp)
     ·simp at h
    ·simp at h
   ·simp at h
  ·simp at h
 ·rename_i x o1 o2 x' ts td h1 h2 ze lj
  replace lj: ∀s,x≠AV.str s:=by
   rcases eA with ⟨s,rfl⟩|hn
   ·exact (lj s rfl).elim
   ·exact hn
  split at h
  ·rename_i e da a4;split at h
   ·rename_i te h3;split at h
    ·rename_i np;split at h
     ·rename_i xs fY;split at h
      ·split at h
       ·rename_i v hv;simp only [Option.some.injEq,Prod.mk.injEq] at h;obtain ⟨rfl,rfl⟩:=h;simp only [Option.map_eq_some_iff] at hv;obtain ⟨l,hl,rfl⟩:=hv;obtain ⟨u,hu,hr⟩:=wk hE ae eY hx fY hl lj;refine a6.val ae ?_ hr;have ha: ∃a0 l0 c0,a= .slice a0 l0 c0:=by
         obtain ⟨ns,ll,_⟩:=pF hl;have cu:=nf ae eY hx fY (sz:=1) (by rw [ll];simp [bN,AV.cells]) lj
         rcases cu.out with ⟨_,a0,c0,rfl⟩|⟨c,o,cap,arr,T,fr,rfl,_⟩
         ·exact ⟨_,_,_,rfl⟩
         ·exact ⟨_,_,_,rfl⟩
        obtain ⟨a0,l0,c0,rfl⟩:=ha;have e3:=(hE _ _ h3).jS w np;simp only [Sem.run_bind,convert,(hE _ _ h1).sl w da,(hE _ _ h2).iu w a4,Result.andThen_ok];cases a0<;>simp [e3,hu]
       ·simp at h
      ·simp at h
     ·simp at h
    ·simp at h
   ·simp at h
  ·simp at h
 ·simp at h
end ops
end Go.VS
namespace Go.VS
section ops
variable {P:Program} {E:aK} (hE: ∀t ti,E t=some ti→aT P t ti)
variable {w:World} {G:J} {φ :ag} {A:ah}
theorem a6.fw {H0 H' :J} {sv:Sem Value} {x:AV} (ae:St w G φ A) (h: ∃v,sv.run P w= .ok v w∧R w G φ A x v):a6 w G φ A H0 H' ((do pure (.value (←sv)):Sem Next).run P w) x:=by
 obtain ⟨v,hv,hx⟩:=h;exact a6.val ae (by simp [hv]) hx
include hE in
theorem nq {H0 H' :J} (ae:St w G φ A) (eY:aZ H0 G) (hX:aZ H' G) (bp:H0.bs.length<H'.bs.length→ φ H0.bs.length=none) {o:Oper} {s:aj} {ρ :Operand→Value} {z:AV} (hq:eO o.op=true)
 (aP: ∀y∈o.op.operands,R w G φ A (ev s y) (ρ y)) (h:aM E o.op s H0=some (z,H')):a6 w G φ A H0 H' ((execOp ρ o).run P w) z:=by
 obtain ⟨dst,op,type,pos,after,guard⟩:=o;simp only at hq aP h;cases op with
 |move x=>
  simp only [aM,Option.some.injEq,Prod.mk.injEq] at h;obtain ⟨rfl,rfl⟩:=h;exact a6.val ae rfl (aP x (by simp [Op.operands]))
 |assign x=>
  simp only [aM,Option.some.injEq,Prod.mk.injEq] at h;obtain ⟨rfl,rfl⟩:=h;exact a6.val ae rfl (aP x (by simp [Op.operands]))
 |pick c a b=>
  have hc:=aP c (by simp [Op.operands])
  have ha:=aP a (by simp [Op.operands])
  have hb:=aP b (by simp [Op.operands])
  simp only [aM] at h;split at h
  ·rename_i t ht;rw [ht] at hc;have e1:=hc.eB;simp only [Option.some.injEq,Prod.mk.injEq] at h;obtain ⟨rfl,rfl⟩:=h;refine a6.val ae (v:=if t then ρ a else ρ b) (by simp [execOp,asBool,e1]) ?_
   cases t
   ·exact hb
   ·exact ha
  ·simp at h
 |binOp op t x y ty=>
  have hx:=aP x (by simp [Op.operands])
  have hy:=aP y (by simp [Op.operands])
  simp only [aM] at h;have key: ∀z,aH E op t (ev s x) (ev s y)=some z→((∃u,y= .const u)∨ ∀e,ev s y≠ .b9 e)→a6 w G φ A H0 H0 ((execOp ρ {dst,op:= .binOp op t x y ty,type,pos,after,guard}).run P w) z:=
   fun z hz hc=>a6.fw ae (vI hE hx hy x y hc hz)
  split at h
  ·rename_i u;split at h
   ·rename_i v hv;simp only [Option.some.injEq,Prod.mk.injEq] at h;obtain ⟨rfl,rfl⟩:=h;exact key _ hv (.inl ⟨u,rfl⟩)
   ·simp at h
  ·split at h
   ·simp at h
   ·rename_i he;split at h
    ·rename_i v hv;simp only [Option.some.injEq,Prod.mk.injEq] at h;obtain ⟨rfl,rfl⟩:=h;exact key _ hv (.inr he)
    ·simp at h
 |unOp op t x=>
  have hx:=aP x (by simp [Op.operands])
  simp only [aM] at h;split at h
  ·rename_i v hv;simp only [Option.some.injEq,Prod.mk.injEq] at h;obtain ⟨rfl,rfl⟩:=h;exact a6.fw ae (vy P hx hv)
  ·simp at h
 |extract x i=>
  have hx:=aP x (by simp [Op.operands])
  simp only [aM] at h;split at h
  ·rename_i vs dg;rw [dg] at hx;obtain ⟨us,da,hl,hp⟩:=hx.kX;split at h
   ·rename_i v hv;simp only [Option.some.injEq,Prod.mk.injEq] at h;obtain ⟨rfl,rfl⟩:=h;have hi:i<us.size:=by rw [←hl];exact (List.getElem?_eq_some_iff.1 hv).1
    exact a6.fw ae ⟨us[i],by simp [Instr.extract,da,Array.getElem?_eq_getElem hi],hp i _ _ hv (Array.getElem?_eq_getElem hi)⟩
   ·simp at h
  ·simp at h
 |nilCheck x=>
  have hx:=aP x (by simp [Op.operands])
  simp only [aM] at h;split at h
  ·rename_i a b c d hv;rw [hv] at hx;split at h
   ·rename_i bl hb;simp only [Option.some.injEq,Prod.mk.injEq] at h;obtain ⟨rfl,rfl⟩:=h;obtain ⟨_,_,hp⟩:=hx.eW;obtain ⟨c0,b0,_,cb⟩:=hp _ (eY.ap hb);exact a6.val ae (by simp only [execOp,cb];rfl) (by rw [cb] at hx;exact hx)
   ·simp at h
  ·rename_i y o hv;rw [hv] at hx;simp only [Option.some.injEq,Prod.mk.injEq] at h;obtain ⟨rfl,rfl⟩:=h;obtain ⟨c,p,arr,T,fr,cb,_⟩:=ej hx.ej;exact a6.val ae (by simp only [execOp,cb];rfl) (by rw [cb] at hx;exact hx)
  ·simp at h
 |convert src dst x=>
  have hx:=aP x (by simp [Op.operands])
  simp only [aM] at h;exact ww hE ae eY hX bp hx h
 |field t x f=>
  have hx:=aP x (by simp [Op.operands])
  simp only [aM] at h;exact a6.fw ae (vP hE hx h)
 |fieldAddr t x f=>
  have hx:=aP x (by simp [Op.operands])
  simp only [aM] at h;exact a6.fw ae (vD hE eY hx h)
 |indexAddr t x i=>
  have hx:=aP x (by simp [Op.operands])
  have hi:=aP i (by simp [Op.operands])
  simp only [aM] at h;exact a6.fw ae (vO hE eY hx hi h)
 |index t x i=>
  have hx:=aP x (by simp [Op.operands])
  have hi:=aP i (by simp [Op.operands])
  simp only [aM] at h;exact a6.fw ae (vQ hE hx hi h)
 |load t x=>
  have hx:=aP x (by simp [Op.operands])
  simp only [aM] at h;exact a6.fw ae (pq hE ae eY hx h)
 |alloc t=>
  simp only [aM] at h;exact vZ hE ae hX bp h
 |box t x=>
  have hx:=aP x (by simp [Op.operands])
  simp only [aM] at h;exact v3 hE ae hX bp hx h
 |build t parts=>
  have hp: ∀p∈parts.toList,R w G φ A (ev s p.2) (ρ p.2):=fun p hp=>aP p.2 (by simp [Op.operands];exact ⟨p.1,by simpa using hp⟩)
  simp only [aM] at h;exact a6.fw ae (wb hE hp h)
 |buildSlice t len parts=>
  have hp: ∀p∈parts.toList,R w G φ A (ev s p.2) (ρ p.2):=fun p hp=>aP p.2 (by simp [Op.operands];exact ⟨p.1,by simpa using hp⟩)
  simp only [aM] at h;exact wc hE ae hX bp hp h
 |makeSlice t l c=>
  have hl:=aP l (by simp [Op.operands])
  have hc:=aP c (by simp [Op.operands])
  simp only [aM] at h;exact v7 hE ae hX bp hl hc h
 |slice t x lo hi mx=>
  have hx:=aP x (by simp [Op.operands])
  have nr: ∀(q:Option Operand) (r:Option Int),(∀y,q=some y→R w G φ A (ev s y) (ρ y))→dD (q.map (ev s))=some r→eE r (q.map ρ):=by
   intro q r hq hr;refine vR (w:=w) (G:=G) (φ := φ) (A:=A) hr ?_;cases q with
   |none=>exact .inl ⟨rfl,rfl⟩
   |some y=>exact .inr ⟨_,_,rfl,rfl,hq y rfl⟩
  simp only [aM] at h;split at h
  ·rename_i l' h' m' e1 e2 e3
   split at h
   ·rename_i v hv;simp only [Option.some.injEq,Prod.mk.injEq] at h;obtain ⟨rfl,rfl⟩:=h;refine a6.fw ae (vU hE eY hx (nr lo l' (fun y hy=>aP y ?_) e1) (nr hi h' (fun y hy=>aP y ?_) e2) (nr mx m' (fun y hy=>aP y ?_) e3) hv)<;>simp [Op.operands,hy]
   ·simp at h
  ·simp at h
 |makeFunc fn first cap=>
  cases fn with
  |func f=>
   simp only [aM] at h;split at h
   ·rename_i hf;simp only [Option.some.injEq,Prod.mk.injEq] at h;obtain ⟨rfl,rfl⟩:=h;have wx:first= #[]:=Array.eq_empty_of_size_eq_zero hf
    subst wx;refine a6.fw ae ⟨.func (.func f) #[] (cap.map ρ),by simp [Instr.makeFunc],R.fn f (cap.toList.map (ev s)) (cap.map ρ) (by simp) fun i x v hx hv=> ?_⟩
    simp only [List.getElem?_map,Option.map_eq_some_iff,Array.getElem?_map,Array.getElem?_toList] at hx hv;obtain ⟨y,hy,rfl⟩:=hx;obtain ⟨y',dS,rfl⟩:=hv;rw [hy] at dS;simp only [Option.some.injEq] at dS;subst dS;exact aP y (by simp [Op.operands];exact Array.mem_of_getElem? hy)
   ·simp at h
  |_=>simp [aM] at h
 |_=>simp [eO] at hq
end ops
end Go.VS
namespace Go.VS
structure j_ (w:World) (c:Nat) (o:Obj) (w' :World):Prop where
 here:w'.heap[c]? =some o
 other: ∀k,k≠c→w'.heap[k]? =w.heap[k]?
 size:w'.heap.size=w.heap.size
 os:w'.os=w.os
 tape:w'.tape=w.tape
 output:w'.output=w.output
theorem wy {w:World} {c:Nat} {arr:Array Value} {T:TypeId} {fr:Nat×Nat} (h:w.heap[c]? =some (.cells arr T fr)) (p:Nat) (v:Value):
 j_ w c (.cells (arr.setIfInBounds p v) T fr) (w.setCell ⟨c,p,none⟩ v):=by
 refine ⟨?_,fun k hk=> ?_,by simp,rfl,rfl,rfl⟩
 ·simp only [World.setCell,Array.getElem?_modify,if_true,h,Option.map_some];rfl
 ·simp only [World.setCell,Array.getElem?_modify];rw [if_neg (fun e=>hk e.symm)]
theorem ln (P:Program) (c p:Nat) (T:TypeId) (fr:Nat×Nat): ∀(vs:List Value) (i:Nat) (arr:Array Value) (w:World),w.heap[c]? =some (.cells arr T fr)→
 (∀j,j<arr.size→ ¬(fr.1≤j∧j<fr.2))→p+i+vs.length≤arr.size→(∀u∈vs,u.oneCell' =true)→
 ∃w' arr',(storeCells ⟨c,p,none⟩ vs i).run P w= .ok () w' ∧j_ w c (.cells arr' T fr) w' ∧arr'.size=arr.size∧
  ∀m,arr'[m]? =if p+i≤m∧m<p+i+vs.length then vs[m-(p+i)]? else arr[m]?
 |[],i,arr,w,h,_,_,_=>⟨w,arr,by simp [storeCells],⟨h,fun _ _=>rfl,rfl,rfl,rfl,rfl⟩,rfl,fun m=>by rw [if_neg (by simp only [List.length_nil];omega)]⟩
 |v::vs,i,arr,w,h,hf,hl,ho=>by
  simp only [List.length_cons] at hl;have aw:p+i<arr.size:=by omega
  have hc:w.cell? ⟨c,p+i,none⟩=some arr[p+i]:=by rw [k8 h];exact Array.getElem?_eq_getElem aw
  have iw:w.frozen? ⟨c,p+i,none⟩=false:=by
   unfold World.frozen?;simp only [h];have:=hf (p+i) aw;simp only [Bool.and_eq_false_iff,decide_eq_false_iff_not];by_cases h1:fr.1≤p+i
   ·right;exact fun h2=>this ⟨h1,h2⟩
   ·left;exact h1
  have hu:=wy h (p+i) v;obtain ⟨w',arr',e1,e2,e3,e4⟩:=ln P c p T fr vs (i+1) (arr.setIfInBounds (p+i) v) (w.setCell ⟨c,p+i,none⟩ v) hu.here (by simpa using hf) (by simp;omega) (fun u hu=>ho u (by simp [hu]))
  refine ⟨w',arr',?_,⟨e2.here,fun k hk=>(e2.other k hk).trans (hu.other k hk),e2.size.trans hu.size,e2.os.trans hu.os,e2.tape.trans hu.tape,e2.output.trans hu.output⟩,by rw [e3];simp,fun m=> ?_⟩
  ·simp only [storeCells,Sem.run_bind,gq,run_store P w ⟨c,p+i,none⟩ v .plain (ho v (by simp)),hc,iw,Bool.false_eq_true,if_false,Result.andThen_ok]
   exact e1
  ·rw [e4,Array.getElem?_setIfInBounds];simp only [List.length_cons];by_cases hm:m=p+i
   ·subst hm;rw [if_neg (by omega)]
    simp only [if_true];rw [if_pos aw,if_pos (by omega)]
    simp
   ·by_cases jY:p+(i+1)≤m∧m<p+(i+1)+vs.length
    ·rw [if_pos jY,if_pos (by omega)]
     obtain ⟨q,rfl⟩: ∃q,m=p+i+1+q:=⟨m-(p+i+1),by omega⟩
     have e1:p+i+1+q-(p+(i+1))=q:=by omega
     have e2:p+i+1+q-(p+i)=q+1:=by omega
     rw [e1,e2];rfl
    ·rw [if_neg jY,if_neg (by omega),if_neg (by omega)]
theorem J.hG {H:J} {id:Nat} {b0 b:bD} (h:H.get id=some b0) (k:Nat):(H.bm id b).get k=if k=id then some b else H.get k:=by
 have aw:=J.gZ h;unfold J.bm J.get;simp only [List.getElem?_set];by_cases hk:id=k
 ·subst hk;simp [aw]
 ·rw [if_neg hk,if_neg (fun e=>hk e.symm)]
section ops
variable {P:Program} {E:aK}
variable {w:World} {H:J} {φ :ag} {A:ah}
def cf (w:World) (H:J) (φ :ag) (A:ah) (H' :J) (r:Result Next) (x:AV):Prop:=
 ∃n v w' ak A',r= .ok n w' ∧(n= .value v∨(n= .skip∧v=undef))∧R w' H' ak A' x v∧Out w H φ A w' H' ak A'
theorem pL (ae:St w H φ A) {id:Nat} {b b' :bD} {c b0:Nat} (hg:H.get id=some b) (aX: φ id=some (.at_ c b0)) (hv:b'.ad=b.ad) (hs:b'.sz=b.sz) (hf:b'.fix=b.fix) (hl:b'.el.length=b.el.length)
 {arr arr' :Array Value} {T:TypeId} {fr:Nat×Nat} {w' :World} (hc:w.heap[c]? =some (.cells arr T fr)) (hu:j_ w c (.cells arr' T fr) w') (aG:arr'.size=arr.size)
 (dI: ∀(i:Nat) (x:AV),b'.el[i]? =some x→x.cells.length=b.sz)
 (gu: ∀(i:Nat) (x:AV) (j:Nat) (y:AV) (v:Value),b'.el[i]? =some x→x.cells[j]? =some y→arr'[b0+i*b.sz+j]? =some v→R w H φ A y v∧v.oneCell' =true):
 Out w H φ A w' (H.bm id b') φ A:=by
 have ka: ∀k,a5 w' k=a5 w k:=by
  intro k;unfold a5;by_cases hk:k=c
  ·subst hk;rw [hu.here,hc];exact aG
  ·rw [hu.other k hk]
 have eX:eU w φ w' φ :=⟨hu.os,hu.tape,hu.output,by rw [hu.size];exact Nat.le_refl _,fun k _ hk=>hu.other k (fun e=>hk (e▸⟨id,b0,aX⟩)),fun k _=>ka k,fun k hk=> .inl hk⟩
 have aW:bG w H φ A w' (H.bm id b') φ A:=by
  refine ⟨fun k a t r hk hn=>⟨⟨r,by rw [hu.other k (fun e=>hn (e▸ae.own c ⟨id,b0,aX⟩))];exact hk⟩,hn⟩,Nat.le_refl _,fun i bb hb _=> ?_,fun k _=>ka k⟩
  rw [J.hG hg] at hb;split at hb
  ·rename_i hi;subst hi;simp only [Option.some.injEq] at hb;subst hb;exact ⟨b,hg,hv.symm,hs,hf,hl,fun loc h=>h⟩
  ·exact ⟨bb,hb,rfl,rfl,rfl,rfl,fun loc h=>h⟩
 refine ⟨⟨ae.inj,ae.own,fun k hk=>by rw [hu.size];exact ae.b6 k hk,fun i loc cS=> ?_⟩,eX,aW,fun k hk _=>hk⟩
 obtain ⟨bb,jr,af⟩:=ae.ap i loc cS;by_cases hi:i=id
 ·subst hi;rw [hg] at jr;simp only [Option.some.injEq] at jr;subst jr;rw [aX] at cS;simp only [Option.some.injEq] at cS;subst cS;obtain ⟨a0,t0,r0,k1,k2,k3,k4⟩:=af.here c b0 rfl;rw [hc] at k1;simp only [Option.some.injEq,Obj.cells.injEq] at k1;obtain ⟨rfl,rfl,rfl⟩:=k1;refine ⟨b',by rw [J.hG hg,if_pos rfl],by rw [hv];exact af.ad,fun j x hx=>by rw [hs];exact dI j x hx,by simp,fun c' b1 he=> ?_⟩
  simp only [Loc.at_.injEq] at he;obtain ⟨rfl,rfl⟩:=he;refine ⟨arr',T,fr,hu.here,by rw [aG];exact k2,by rw [hl,hs,aG];exact k3,fun j x m y v hx hy cb=> ?_⟩
  rw [hs] at cb;obtain ⟨h1,h2⟩:=gu j x m y v hx hy cb;exact ⟨h1.mono aW,h2⟩
 ·refine ⟨bb,by rw [J.hG hg,if_neg hi];exact jr,af.ad,af.sized,af.aO,fun c' b1 he=> ?_⟩
  subst he;have aN:c' ≠c:=by rintro rfl;exact hi (ae.inj _ _ _ _ _ cS aX)
  obtain ⟨a0,t0,r0,k1,k2,k3,k4⟩:=af.here c' b1 rfl
  exact ⟨a0,t0,r0,by rw [hu.other c' aN];exact k1,k2,k3,fun j x m y v hx hy cb=>⟨(k4 j x m y v hx hy cb).1.mono aW,(k4 j x m y v hx hy cb).2⟩⟩
theorem pM (ae:St w H φ A) {id:Nat} {b b' :bD} (hg:H.get id=some b) (hv:b'.ad=H.st)
 {c b0:Nat} {arr' :Array Value} {T:TypeId} {fr:Nat×Nat} {w' :World} (hc:Ow φ c∧(∃bx,φ id=some (.at_ c bx))∨w.heap.size≤c) (hu:w'.heap[c]? =some (.cells arr' T fr))
 (lp: ∀k,k<w.heap.size→k≠c→w'.heap[k]? =w.heap[k]?) (lq:w.heap.size≤w'.heap.size) (wz:w'.os=w.os) (wA:w'.tape=w.tape) (bz:w'.output=w.output)
 (cK:c<w.heap.size→arr'.size=a5 w c) (iw: ∀j,j<arr'.size→ ¬(fr.1≤j∧j<fr.2)) (jt:b0+b'.el.length*b'.sz≤arr'.size)
 (dI: ∀(i:Nat) (x:AV),b'.el[i]? =some x→x.cells.length=b'.sz)
 (gu: ∀(i:Nat) (x:AV) (j:Nat) (y:AV) (v:Value),b'.el[i]? =some x→x.cells[j]? =some y→arr'[b0+i*b'.sz+j]? =some v→R w H φ A y v∧v.oneCell' =true):
 Out w H φ A w' ⟨H.st+1,H.bs.set id (some b')⟩ (fun i=>if i=id then some (.at_ c b0) else φ i) (fun k=>A k∨k=c):=by
 have br: ∀k,(J.mk (H.st+1) (H.bs.set id (some b'))).get k=if k=id then some b' else H.get k:=fun k=>J.hG hg k
 have ka: ∀k,k<w.heap.size→a5 w' k=a5 w k:=by
  intro k hk;by_cases dJ:k=c
  ·subst dJ;rw [←cK hk];unfold a5;rw [hu]
  ·unfold a5;rw [lp k hk dJ]
 have dp: ∀k,Ow (fun i=>if i=id then some (.at_ c b0) else φ i) k→Ow φ k∨k=c:=by
  rintro k ⟨i,bb,h⟩;try simp only at h
  split at h
  ·simp only [Option.some.injEq,Loc.at_.injEq] at h;exact .inr h.1.symm
  ·exact .inl ⟨i,bb,h⟩
 have pN:c<w'.heap.size:=fT hu;have eX:eU w φ w' (fun i=>if i=id then some (.at_ c b0) else φ i):=by
  refine ⟨wz,wA,bz,lq,fun k hk hn=>lp k hk (fun e=> ?_),ka,fun k hk=> ?_⟩
  ·subst e;rcases hc with h|h
   ·exact hn h.1
   ·omega
  ·rcases dp k hk with h|rfl
   ·exact .inl h
   ·rcases hc with h|h
    ·exact .inl h.1
    ·exact .inr h
 have aW:bG w H φ A w' ⟨H.st+1,H.bs.set id (some b')⟩ (fun i=>if i=id then some (.at_ c b0) else φ i) (fun k=>A k∨k=c):=by
  refine ⟨fun k a t r hk hn=> ?_,Nat.le_succ _,fun i bb hb aw=> ?_,fun k hk=>ka k (Ow.lt ae hk)⟩
  ·have aw:=fT hk;have dJ:k≠c:=by
    rintro rfl;rcases hc with h|h
    ·exact hn (ae.own _ h.1)
    ·omega
   exact ⟨⟨r,by rw [lp k aw dJ];exact hk⟩,fun h=>by rcases h with h|h;exact hn h;exact dJ h⟩
  ·rw [br] at hb;split at hb
   ·simp only [Option.some.injEq] at hb;subst hb;omega
   ·rename_i hi;exact ⟨bb,hb,rfl,rfl,rfl,rfl,fun loc h=>by rw [if_neg hi];exact h⟩
 refine ⟨⟨fun i i' k b1 b2 h1 h2=> ?_,fun k hk=> ?_,fun k hk=> ?_,fun i loc cS=> ?_⟩,eX,aW,fun k hk _=> .inl hk⟩
 ·try simp only at h1 h2
  have key: ∀{i k b1},i≠id→ φ i=some (.at_ k b1)→k≠c:=by
   rintro i k b1 hi h rfl;rcases hc with ⟨_,bx,h2⟩|h2
   ·exact hi (ae.inj _ _ _ _ _ h h2)
   ·have:=Ow.lt ae ⟨i,b1,h⟩;omega
  split at h1
  ·rename_i hi;split at h2
   ·rename_i gw;omega
   ·rename_i gw;simp only [Option.some.injEq,Loc.at_.injEq] at h1;exact absurd h1.1.symm (key gw h2)
  ·rename_i hi;split at h2
   ·simp only [Option.some.injEq,Loc.at_.injEq] at h2;exact absurd h2.1.symm (key hi h1)
   ·exact ae.inj _ _ _ _ _ h1 h2
 ·rcases dp k hk with h|h
  ·exact .inl (ae.own k h)
  ·exact .inr h
 ·rcases hk with h|rfl
  ·have:=ae.b6 k h;omega
  ·exact pN
 ·try simp only at cS
  split at cS
  ·rename_i hi;subst hi;simp only [Option.some.injEq] at cS;subst cS;refine ⟨b',by rw [br,if_pos rfl],by rw [hv];exact Nat.lt_succ_self _,dI,by simp,fun c' b1 he=> ?_⟩
   simp only [Loc.at_.injEq] at he;obtain ⟨rfl,rfl⟩:=he;refine ⟨arr',T,fr,hu,iw,jt,fun j x m y v hx hy cb=> ?_⟩;obtain ⟨h1,h2⟩:=gu j x m y v hx hy cb;exact ⟨h1.mono aW,h2⟩
  ·rename_i hi;obtain ⟨bb,jr,af⟩:=ae.ap i loc cS;refine ⟨bb,by rw [br,if_neg hi];exact jr,Nat.lt_succ_of_lt af.ad,af.sized,af.aO,fun c' b1 he=> ?_⟩
   subst he;have aN:c' ≠c:=by
    rintro rfl;rcases hc with ⟨_,bx,h2⟩|h2
    ·exact hi (ae.inj _ _ _ _ _ cS h2)
    ·have:=Ow.lt ae ⟨i,b1,cS⟩;omega
   obtain ⟨a0,t0,r0,k1,k2,k3,k4⟩:=af.here c' b1 rfl
   exact ⟨a0,t0,r0,by rw [lp c' (fT k1) aN];exact k1,k2,k3,fun j x m y v hx hy cb=>⟨(k4 j x m y v hx hy cb).1.mono aW,(k4 j x m y v hx hy cb).2⟩⟩
end ops
end Go.VS
namespace Go.VS
theorem wB {y v y' :AV} {off:Nat} (h:fJ y off v=some y') (hv:dC v=true):off+v.cells.length≤y.cells.length∧y'.cells=splice y.cells off v.cells:=by
 cases y with
 |agg cs=>
  simp only [fJ] at h;split at h
  ·rename_i hle;simp only [Option.some.injEq] at h;subst h;exact ⟨hle,rfl⟩
  ·simp at h
 |undef=>simp [fJ] at h
 |_=>
  cases v<;>simp only [fJ] at h<;>first
   |(simp at h;done)
   |(simp [dC,cw] at hv;done)
   |(split at h
     ·rename_i ho;simp only [Option.some.injEq] at h;subst h;subst ho;exact ⟨by simp [AV.cells],by simp [AV.cells,splice]⟩
     ·simp at h)
section ops
variable {P:Program} {E:aK} (hE: ∀t ti,E t=some ti→aT P t ti)
variable {w:World} {H:J} {φ :ag} {A:ah}
include hE in
theorem wC {H' :J} (ae:St w H φ A) {t:TypeId} {x v z:AV} {a u:Value} (hx:R w H φ A x a) (hv:R w H φ A v u)
 (h:(match (generalizing:=false) E t with
 |some ti=>match (generalizing:=false) x with
  | .ptr id ad idx off=>match H.ap id ad with
   |some b=>match b.el[idx]? with
    |some y=>if v.cells.length=ti.sz∧dC v then match fJ y off v with
     |some y' =>some (AV.aC [],H.bm id {b with el:=b.el.set idx y' })
     |none=>none
     else none
    |none=>none
   |none=>none
  |_=>none
 |none=>none)=some (z,H')):cf w H φ A H' ((do Instr.storeAt t a u;pure .skip:Sem Next).run P w) z:=by
 split at h
 ·rename_i ti h1;split at h
  ·rename_i id ad idx off;split at h
   ·rename_i b hb;split at h
    ·rename_i y hy;split at h
     ·rename_i hc;split at h
      ·rename_i y' hw
       simp only [Option.some.injEq,Prod.mk.injEq] at h;obtain ⟨rfl,rfl⟩:=h;obtain ⟨_,_,hp⟩:=hx.eW;obtain ⟨c,b0,aX,rfl⟩:=hp b hb;obtain ⟨b1,cr,af⟩:=ae.ap id _ aX;have hg:=(J.bn hb).1;rw [hg] at cr;simp only [Option.some.injEq] at cr;subst cr;obtain ⟨arr,T,fr,k1,k2,k3,k4⟩:=af.here c b0 rfl;obtain ⟨w1,w2⟩:=wB hw hc.2;obtain ⟨m1,m2⟩:=hv.cells (m6 hc.2);have m3:=hv.kY hc.2;have b8:idx<b.el.length:=(List.getElem?_eq_some_iff.1 hy).1;have hle:=ct (n:=b.sz) b8;have cg:=af.sized idx y hy;obtain ⟨w',arr',e1,e2,e3,e4⟩:=ln P c (b0+idx*b.sz+off) T fr u.cells.toList 0 arr w k1 k2 (by simp;omega) (fun q hq=>by
        obtain ⟨k,hk⟩:=List.getElem?_of_mem hq;exact m3 k q (by simpa using hk))
       have wD:y'.cells.length=b.sz:=by rw [w2,jZ _ _ _ w1,cg]
       have hI: ∀(i:Nat) (q:AV),(b.el.set idx y')[i]? =some q→(i=idx∧q=y')∨(i≠idx∧b.el[i]? =some q):=by
        intro i q hq;rw [List.getElem?_set] at hq;split at hq
        ·rename_i hi;first
          |(rw [if_pos b8] at hq;simp only [Option.some.injEq] at hq;exact .inl ⟨hi.symm,hq.symm⟩)
          |(simp only [Option.some.injEq] at hq;exact .inl ⟨hi.symm,hq.symm⟩)
        ·rename_i hi;exact .inr ⟨fun e=>hi e.symm,hq⟩
       have bz:=pL (b' :={b with el:=b.el.set idx y' }) ae hg aX rfl rfl rfl (by simp) k1 e2 e3
        (fun i q hq=>by rcases hI i q hq with ⟨rfl,rfl⟩|⟨_,hq⟩;exact wD;exact af.sized i q hq)
        (fun i q j s v' hq hs a9=>by
         rw [e4] at a9;simp only [Nat.add_zero,Array.length_toList] at a9;rcases hI i q hq with ⟨rfl,rfl⟩|⟨aN,hq⟩
         ·rw [w2,m5 _ _ _ w1] at hs;rw [m1] at hs;by_cases hj:off≤j∧j<off+u.cells.size
          ·rw [if_pos hj] at hs;rw [if_pos (by omega)] at a9
           have e5:b0+i*b.sz+j-(b0+i*b.sz+off)=j-off:=by omega
           rw [e5] at a9;exact ⟨m2 _ _ _ hs (by simpa using a9),m3 _ _ (by simpa using a9)⟩
          ·rw [if_neg hj] at hs;rw [if_neg (by omega)] at a9
           exact k4 i y j s v' hy hs a9
         ·have nt:i<b.el.length:=(List.getElem?_eq_some_iff.1 hq).1;have dx:j<q.cells.length:=(List.getElem?_eq_some_iff.1 hs).1;have pO:=af.sized i q hq;rw [if_neg (by
           intro hh;rcases Nat.lt_or_gt_of_ne aN with h1|h1
           ·have:=ct (n:=b.sz) h1;omega
           ·have:=ct (n:=b.sz) h1;omega)] at a9
          exact k4 i q j s v' hq hs a9)
       refine ⟨.skip,undef,w',φ,A,?_,.inr ⟨rfl,rfl⟩,.fr _ _ (.aC [] #[] rfl (by simp)),bz⟩
       have aG: ¬(u.cells.size≠ti.sz):=by rw [←m1];simp [hc.1]
       simp only [Instr.storeAt,Instr.sureAddr,storeVar,Sem.run_bind,Sem.run_pure,Result.andThen_ok,(hE _ _ h1).sizeOf,aG,if_false,e1]
      ·simp at h
     ·simp at h
    ·simp at h
   ·simp at h
  ·simp at h
 ·simp at h
theorem nu (ae:St w H φ A) {id ad off len:Nat} {a:Value} (hx:R w H φ A (.ref id ad off len) a) {b:bD} (hb:H.ap id ad=some b) {at_ n:Nat} (h1:at_+n≤b.el.length) (h2:off≤at_) (hn:0<n) (_hlen:0<len∨b.el.length≤off+len∨True)
 {xs:List AV} (ca:xs.length=n) {cs:Array Value} (aG:cs.size=n*b.sz) (mW: ∀u∈cs.toList,u.oneCell' =true) (dI: ∀(i:Nat) (x:AV),xs[i]? =some x→x.cells.length=b.sz)
 (gA: ∀(i:Nat) (x:AV) (j:Nat) (y:AV) (u:Value),xs[i]? =some x→x.cells[j]? =some y→cs[i*b.sz+j]? =some u→R w H φ A y u∧u.oneCell' =true):
 ∃c b0 cap w',φ id=some (.at_ c b0)∧a= .slice (some ⟨c,b0+off*b.sz,none⟩) len cap∧b.el.length≤off+cap∧(storeCells ⟨c,b0+at_*b.sz,none⟩ cs.toList).run P w= .ok () w' ∧
  Out w H φ A w' (H.bm id {b with el:=splice b.el at_ xs}) φ A:=by
 obtain ⟨_,_,hr⟩:=hx.dG;obtain ⟨loc,a0,cap,q1,rfl,q3,q4,q5,q6⟩:=(hr b hb).out;cases loc with
 |aO=>simp only at q6;rw [q6.1] at h1;simp at h1;omega
 |at_ c b0=>
  simp only at q6;rcases q6 with q6|⟨rfl,q7⟩
  ·omega
  ·obtain ⟨b1,cr,af⟩:=ae.ap id _ q1;have hg:=(J.bn hb).1;rw [hg] at cr;simp only [Option.some.injEq] at cr;subst cr;obtain ⟨arr,T,fr,k1,k2,k3,k4⟩:=af.here c b0 rfl;have hle:at_*b.sz+n*b.sz≤b.el.length*b.sz:=by rw [←Nat.add_mul];exact Nat.mul_le_mul_right _ h1
   obtain ⟨w',arr',e1,e2,e3,e4⟩:=ln P c (b0+at_*b.sz) T fr cs.toList 0 arr w k1 k2 (by simp [aG];omega) mW
   have kb: ∀(i:Nat) (q:AV),(splice b.el at_ xs)[i]? =some q→(at_≤i∧i<at_+n∧xs[i-at_]? =some q)∨(¬(at_≤i∧i<at_+n)∧b.el[i]? =some q):=by
    intro i q hq;rw [m5 _ _ _ (by omega),ca] at hq
    split at hq
    ·rename_i hi;exact .inl ⟨hi.1,hi.2,hq⟩
    ·rename_i hi;exact .inr ⟨hi,hq⟩
   refine ⟨c,b0,cap,w',q1,rfl,q5,e1,pL (b' :={b with el:=splice b.el at_ xs}) ae hg q1 rfl rfl rfl (by simp only;rw [jZ _ _ _ (by omega)]) k1 e2 e3 (fun i q hq=> ?_) (fun i q j s v' hq hs a9=> ?_)⟩
   ·rcases kb i q hq with ⟨_,_,h⟩|⟨_,h⟩
    ·exact dI _ _ h
    ·exact af.sized i q h
   ·rw [e4] at a9;simp only [Nat.add_zero,Array.length_toList,aG] at a9;have dx:j<q.cells.length:=(List.getElem?_eq_some_iff.1 hs).1;rcases kb i q hq with ⟨i1,i2,h⟩|⟨hi,h⟩
    ·have pO:=dI _ _ h;have e5:i*b.sz=at_*b.sz+(i-at_)*b.sz:=by rw [←Nat.add_mul];congr 1;omega
     have e6:=ct (n:=b.sz) (show i-at_<n by omega)
     rw [if_pos (by omega)] at a9
     have e7:b0+i*b.sz+j-(b0+at_*b.sz)=(i-at_)*b.sz+j:=by omega
     rw [e7] at a9;exact gA _ q j s v' h hs (by simpa using a9)
    ·have pO:=af.sized _ _ h;rw [if_neg (by
      intro hh;rcases Nat.lt_or_ge i at_ with h1|h1
      ·have:=ct (n:=b.sz) h1;omega
      ·have h2:at_+n≤i:=by omega
       have:=Nat.mul_le_mul_right b.sz h2;rw [Nat.add_mul] at this;omega)] at a9
     exact k4 i q j s v' h hs a9
end ops
end Go.VS
namespace Go.VS
theorem nv (cs:List AV) (k:Nat) (_h:k≤cs.length):splice cs k []=cs:=by
 unfold splice;simp
section ops
variable {P:Program} {E:aK} (hE: ∀t ti,E t=some ti→aT P t ti)
variable {w:World} {H:J} {φ :ag} {A:ah}
theorem wE (ae:St w H φ A) {H' :J} (hg: ∀id,H'.get id=H.get id) (hs:H'.st=H.st):Out w H φ A w H' φ A:=by
 have aW:bG w H φ A w H' φ A:=⟨fun c a t fr hc hn=>⟨⟨fr,hc⟩,hn⟩,by rw [hs];exact Nat.le_refl _,fun id b hb _=>⟨b,by rw [←hg];exact hb,rfl,rfl,rfl,rfl,fun _ h=>h⟩,fun _ _=>rfl⟩
 refine ⟨⟨ae.inj,ae.own,ae.b6,fun id loc h=> ?_⟩,.refl _ _,aW,fun _ h _=>h⟩;obtain ⟨b,hb,af⟩:=ae.ap id loc h;refine ⟨b,by rw [hg];exact hb,by rw [hs];exact af.ad,af.sized,af.aO,fun c b0 hl=> ?_⟩
 obtain ⟨arr,T,fr,h1,h2,h3,h4⟩:=af.here c b0 hl;exact ⟨arr,T,fr,h1,h2,h3,fun i x j y v hx hy hv=>⟨(h4 i x j y v hx hy hv).1.mono aW,(h4 i x j y v hx hy hv).2⟩⟩
theorem nw (ae:St w H φ A) {id:Nat} {b:bD} (hg:H.get id=some b):Out w H φ A w (H.bm id b) φ A:=
 wE ae (fun k=>by
  rw [J.hG hg];split
  ·rename_i h;rw [h,hg]
  ·rfl) rfl
theorem nx {t tx e:TypeId} {ti te eo:TI} (ht:aT P t ti) (hu:ti.aq= .sl e) (a8:aT P e te) (cq:aT P tx eo) (fv: ∀k,eo.aq≠ .it k) (tys:Array TypeId) (h0:tys[0]? =some t) (h1:tys[1]? =some tx) (ty:TypeId)
 {base:Option Addr} {sLen sCap:Nat} {x:Value} {n:Nat} {g9:Array Value} {w' :World} (hlen:(Builtin.lenOf x).run P w= .ok n w)
 (hX:(Builtin.firstCells te.sz n x).run P w= .ok g9 w) (j8:sLen+n≤sCap) (ae:match base with|some a=>(storeCells (a.add (sLen*te.sz)) g9.toList).run P w= .ok () w' |none=>w' =w):
 (Builtin.append_ tys ty #[.slice base sLen sCap,x]).run P w= .ok (.slice base (sLen+n) sCap) w' :=by
 obtain ⟨d,hd,ni⟩:=nh cq fv w;unfold Builtin.append_;simp only [h0,h1,List.getElem?_toArray,List.getElem?_cons_zero,List.getElem?_cons_succ,Sem.run_bind,ht.sl w hu,Result.andThen_ok,a8.sizeOf,hd,Sem.run_pure];simp only [Bool.false_eq_true,if_false,Bool.not_false,if_true,Sem.run_bind,hlen,Result.andThen_ok,j8,hX];cases base with
 |none=>simp only at ae;subst ae;rfl
 |some a=>simp only at ae⊢;simp only [Sem.run_bind,ae,Result.andThen_ok,Sem.run_pure]
include hE in
theorem wF {H' :J} (ae:St w H φ A) {t tx:TypeId} {tys:Array TypeId} {ty:TypeId} (h0:tys[0]? =some t) (h1:tys[1]? =some tx) {te eo:TI} (a8:cE E t=some te)
 (cq:E tx=some eo) (fv: ∀k,eo.aq≠ .it k) {id ad off len:Nat} {x z:AV} {a b:Value} (hs:R w H φ A (.ref id ad off len) a) (hx:R w H φ A x b) (h:eu te (.ref id ad off len) x H=some (z,H')):
 cf w H φ A H' ((do pure (.value (←Builtin.append_ tys ty #[a,b])):Sem Next).run P w) z:=by
 obtain ⟨ti,e,ht,hu,b_⟩:=iB a8;unfold eu at h;split at h
 ·simp at h
 ·rename_i xs fY;split at h
  ·simp at h
  ·rename_i aG;simp only [Bool.not_eq_true',Bool.not_eq_false] at aG;split at h
   ·simp at h
   ·rename_i hz;have hz:0<te.sz:=by omega
    obtain ⟨cs,cz⟩:=jq (P:=P) ae (aZ.refl H) hx fY aG hz;have lr:=cz.run xs.length (Nat.le_refl _);rw [←cz.size,Array.extract_size] at lr;obtain ⟨hv,_,hr⟩:=hs.dG;have cT: ∀(i:Nat) (x:AV),xs[i]? =some x→x.cells.length=te.sz:=fun i x hi=>gx aG hi;simp only at h;split at h
    ·simp at h
    ·rename_i bk hb;have hg:=(J.bn hb).1;split at h
     ·simp at h
     ·rename_i cK;simp only [ne_eq,Decidable.not_not] at cK;obtain ⟨loc,a0,cap,q1,rfl,q3,q4,q5,q6⟩:=(hr bk hb).out;split at h
      ·rename_i jt;simp only [Option.some.injEq,Prod.mk.injEq] at h;obtain ⟨rfl,rfl⟩:=h;by_cases hn:xs.length=0
       ·have kc:xs=[]:=List.eq_nil_of_length_eq_zero hn;subst kc;have hcs:cs= #[]:=Array.eq_empty_of_size_eq_zero (by simpa using cz.size)
        subst hcs;have cy:=nx (P:=P) (w:=w) (w' :=w) (base:=a0) (sLen:=len) (sCap:=cap) (hE _ _ ht) hu (hE _ _ b_) (hE _ _ cq) fv tys h0 h1 ty cz.len lr (by simpa using q4) (by cases a0<;>simp [storeCells])
        have ho:Out w H φ A w (H.bm id {bk with el:=splice bk.el (off+len) []}) φ A:=by
         rw [nv _ _ q3];exact nw ae hg
        exact ⟨_,_,w,φ,A,by simp only [Sem.run_bind,cy,Result.andThen_ok,Sem.run_pure];rfl,.inl rfl,hs.mono ho.bX,ho⟩
       ·obtain ⟨c,b0,eG,w',p1,p2,p3,p4,p5⟩:=nu (P:=P) ae hs hb (at_:=off+len) (n:=xs.length) jt (by omega) (by omega) (.inr (.inr trivial)) rfl (cs:=cs) (by rw [cK];exact cz.size) cz.one
         (fun i x hi=>by rw [cK];exact cT i x hi) (fun i x j y u hi hy hu=>cz.rel i x j y u hi hy (by rw [←cK];exact hu))
        simp only [Value.slice.injEq,true_and] at p2;obtain ⟨rfl,rfl⟩:=p2;have cy:=nx (P:=P) (w:=w) (w' :=w') (base:=some ⟨c,b0+off*bk.sz,none⟩) (sLen:=len) (sCap:=cap) (hE _ _ ht) hu (hE _ _ b_) (hE _ _ cq) fv tys h0 h1 ty cz.len lr (by omega) (by
         simp only [gq];have:b0+off*bk.sz+len*te.sz=b0+(off+len)*bk.sz:=by rw [←cK,Nat.add_mul];omega
         rw [this];exact p4)
        refine ⟨_,_,w',φ,A,by simp only [Sem.run_bind,cy,Result.andThen_ok,Sem.run_pure];rfl,.inl rfl,?_,p5⟩
        refine .ref _ _ _ _ _ (Nat.lt_of_lt_of_le hv p5.bX.st) ⟨_,_,rfl⟩ fun b' ax=> ?_
        have cH:=(J.bn ax).1
        rw [J.hG hg,if_pos rfl] at cH;simp only [Option.some.injEq] at cH;subst cH;have lu:(splice bk.el (off+len) xs).length=bk.el.length:=jZ _ _ _ jt;refine ⟨.at_ c b0,_,_,p1,rfl,by simp only [lu];omega,by omega,by simp only [lu];omega,?_⟩
        simp only;rw [p1] at q1;simp only [Option.some.injEq] at q1;subst q1;simp only at q6;rcases q6 with q6|⟨_,q7⟩
        ·omega
        ·right;exact ⟨by first|rfl|trivial,by rw [p5.post.a5 c (Ow.lt ae ⟨id,b0,p1⟩)];exact q7⟩
      ·rename_i jt;split at h
       ·simp at h
       ·rename_i wG;split at h
        ·rename_i hc;obtain ⟨c1,c2⟩:=hc;simp only [Option.some.injEq,Prod.mk.injEq] at h;obtain ⟨rfl,rfl⟩:=h;have hn:0<xs.length:=by
          rcases Nat.eq_zero_or_pos xs.length with h|h
          ·rw [h] at jt;omega
          ·exact h
         have kd: ∀(i:Nat) (x:AV),(aF bk.el off len ++ xs)[i]? =some x→x.cells.length=bk.sz:=by
          intro i x hi;rw [List.getElem?_append] at hi;split at hi
          ·simp only [aF,List.getElem?_take,List.getElem?_drop] at hi;split at hi
           ·obtain ⟨b1,cr,af⟩:=ae.ap id _ q1;rw [hg] at cr;simp only [Option.some.injEq] at cr;subst cr;exact af.sized _ _ hi
           ·simp at hi
          ·rw [cK];exact cT _ _ hi
         have a_:(aF bk.el off len).length=len:=by simp [aF];omega
         by_cases j8:len+xs.length≤cap
         ·
          cases loc with
          |aO=>
           simp only at q6;have:=q6.2 (by simpa using wG)
           omega
          |at_ c b0=>
           simp only at q6;rcases q6 with q6|⟨rfl,q7⟩
           ·omega
           ·obtain ⟨b1,cr,af⟩:=ae.ap id _ q1;rw [hg] at cr;simp only [Option.some.injEq] at cr;subst cr;obtain ⟨arr,T,fr,k1,k2,k3,k4⟩:=af.here c b0 rfl;have pP:a5 w c=arr.size:=by unfold a5;rw [k1]
            rw [pP] at q7;have hle:(off+len)*bk.sz+xs.length*bk.sz≤(off+cap)*bk.sz:=by rw [←Nat.add_mul];exact Nat.mul_le_mul_right _ (by omega)
            have hcs:cs.size=xs.length*bk.sz:=by rw [cK];exact cz.size
            obtain ⟨w',arr',e1,e2,e3,e4⟩:=ln P c (b0+(off+len)*bk.sz) T fr cs.toList 0 arr w k1 k2 (by simp [hcs];omega) cz.one
            have cy:=nx (P:=P) (w:=w) (w' :=w') (base:=some ⟨c,b0+off*bk.sz,none⟩) (sLen:=len) (sCap:=cap) (hE _ _ ht) hu (hE _ _ b_) (hE _ _ cq) fv tys h0 h1 ty cz.len lr j8 (by
             simp only [gq];have:b0+off*bk.sz+len*te.sz=b0+(off+len)*bk.sz:=by rw [←cK,Nat.add_mul];omega
             rw [this];exact e1)
            have hmul:off*bk.sz+len*bk.sz=(off+len)*bk.sz:=(Nat.add_mul _ _ _).symm;have ho:=pM (b' :=⟨H.st,bk.sz,false,aF bk.el off len ++ xs⟩) (c:=c) (b0:=b0+off*bk.sz) (arr' :=arr') (T:=T) (fr:=fr) (w' :=w') ae hg rfl (.inl ⟨⟨id,b0,q1⟩,b0,q1⟩) e2.here (fun k _ hk=>e2.other k hk) (by rw [e2.size];exact Nat.le_refl _) e2.os e2.tape e2.output
             (fun _=>by rw [e3,pP]) (by rw [e3];exact k2) (by
              rw [List.length_append,a_,e3];have:(len+xs.length)*bk.sz=len*bk.sz+xs.length*bk.sz:=Nat.add_mul _ _ _;show b0+off*bk.sz+(len+xs.length)*bk.sz≤arr.size;omega) kd (fun i x j y v hi hy a9=>by
              dsimp only at a9;rw [e4] at a9;simp only [Nat.add_zero,Array.length_toList,hcs] at a9;have dx:j<x.cells.length:=(List.getElem?_eq_some_iff.1 hy).1;have ca:=kd i x hi;rw [List.getElem?_append] at hi;split at hi
              ·rename_i b8;rw [a_] at b8;simp only [aF,List.getElem?_take,List.getElem?_drop] at hi;split at hi
               ·have:=ct (n:=bk.sz) b8;rw [if_neg (by omega)] at a9
                exact k4 (off+i) x j y v hi hy (by rw [←a9];congr 1;rw [Nat.add_mul];omega)
               ·first|(cases hi;done)|(exact absurd b8 ‹_›)
              ·rename_i b8;rw [a_] at hi b8;have wH:i-len<xs.length:=(List.getElem?_eq_some_iff.1 hi).1;have h7:i*bk.sz=len*bk.sz+(i-len)*bk.sz:=by rw [←Nat.add_mul];congr 1;omega
               have h8:=ct (n:=bk.sz) wH;rw [if_pos (by omega)] at a9
               refine cz.rel _ x j y v hi hy ?_;rw [←a9,←cK,Array.getElem?_toList];congr 1;omega)
            refine ⟨_,_,w',_,_,by simp only [Sem.run_bind,cy,Result.andThen_ok,Sem.run_pure];rfl,.inl rfl,?_,ho⟩
            refine .ref _ _ _ _ _ (Nat.lt_succ_self _) ⟨_,_,rfl⟩ fun b' ax=> ?_
            have cH:=(J.bn ax).1
            rw [show (J.mk (H.st+1) (H.bs.set id (some ⟨H.st,bk.sz,false,aF bk.el off len ++ xs⟩))).get id=_ from J.hG hg id,if_pos rfl] at cH;simp only [Option.some.injEq] at cH;subst cH;refine ⟨.at_ c (b0+off*bk.sz),_,_,by simp,rfl,by simp [a_],by omega,by simp [a_];omega,?_⟩
            refine Or.inr ⟨by simp,?_⟩
            dsimp only;have:a5 w' c=arr.size:=by unfold a5;rw [e2.here];exact e3
            rw [this,Nat.zero_add];have:(off+cap)*bk.sz=off*bk.sz+cap*bk.sz:=Nat.add_mul _ _ _;omega
         ·
          have du:=li ae;obtain ⟨fX,t1,t2⟩: ∃fX:Array Value,(Builtin.firstCells te.sz len (.slice a0 len cap)).run P w.drew= .ok fX w.drew∧fX.size=len*te.sz∧
           ∀(i:Nat) (x:AV) (j:Nat) (y:AV) (v:Value),(aF bk.el off len)[i]? =some x→x.cells[j]? =some y→fX[i*te.sz+j]? =some v→R w.drew H φ A y v∧v.oneCell' =true:=by
           have wI:cx H (.ref id ad off len)=some (aF bk.el off len):=by simp only [cx,hb];rw [if_pos c1]
           have wJ:bN te.sz (aF bk.el off len)=true:=by
            rw [bN,List.all_eq_true];intro q hq;obtain ⟨k,hk⟩:=List.getElem?_of_mem hq;have:=kd k q (by rw [List.getElem?_append_left (List.getElem?_eq_some_iff.1 hk).1];exact hk)
            simp [this,cK]
           obtain ⟨aS,eH⟩:=jq (P:=P) du.st (aZ.refl H) (hs.mono du.bX) wI wJ hz;have dw:=eH.run len (by rw [a_];exact Nat.le_refl _)
           have pQ:aS.size=len*te.sz:=by rw [eH.size,a_]
           rw [←pQ,Array.extract_size] at dw;exact ⟨aS,dw,pQ,eH.rel⟩
          obtain ⟨t2,t3⟩:=t2;obtain ⟨aS,eH⟩:=jq (P:=P) du.st (aZ.refl H) (hx.mono du.bX) fY aG hz;have dw:=eH.run xs.length (Nat.le_refl _);rw [←eH.size,Array.extract_size] at dw;obtain ⟨eG,arr,k1,k2,k3,k4⟩:=run_append_grow (P:=P) (w:=w) (hE _ _ ht) hu (hE _ _ b_) (hE _ _ cq) fv tys h0 h1 ty (base:=a0) (sLen:=len) (sCap:=cap) cz.len t1 dw t2 eH.size (by omega) c2
          have hle:(len+xs.length)*te.sz≤eG*te.sz:=Nat.mul_le_mul_right _ k1
          have ho:=pM (b' :=⟨H.st,bk.sz,false,aF bk.el off len ++ xs⟩) (c:=w.drew.heap.size) (b0:=0) (arr' :=arr) (T:=e) (fr:=(0,0)) (w' :=w.drew.alloc (.cells arr e)) du.st hg rfl (.inr (Nat.le_refl _)) (heap_alloc_new _ _) (fun k hk _=>heap_alloc_old _ _ hk) (by simp) rfl rfl rfl
           (fun h=>absurd h (Nat.lt_irrefl _)) (fun j _ h=>absurd h.2 (Nat.not_lt_zero j)) (by rw [List.length_append,a_,k3,cK];omega) kd (fun i x j y v hi hy a9=>by
            have dx:j<x.cells.length:=(List.getElem?_eq_some_iff.1 hy).1;have ca:=kd i x hi;have b8:i<len+xs.length:=by have:=(List.getElem?_eq_some_iff.1 hi).1;rw [List.length_append,a_] at this;exact this
            have h9:=ct (n:=te.sz) b8;simp only [cK,Nat.zero_add] at a9 ca
            rw [k4 _ (by omega)] at a9
            rw [List.getElem?_append,a_] at hi;split at hi
            ·rename_i nt;have:=ct (n:=te.sz) nt;rw [Array.getElem?_append_left (by omega)] at a9
             exact t3 i x j y v hi hy a9
            ·rename_i nt;have h7:i*te.sz=len*te.sz+(i-len)*te.sz:=by rw [←Nat.add_mul];congr 1;omega
             rw [Array.getElem?_append_right (by omega)] at a9
             exact eH.rel _ x j y v hi hy (by rw [←a9];congr 1;omega))
          have wK:=du.trans ae ho;refine ⟨_,_,_,_,_,by simp only [Sem.run_bind,k2,Result.andThen_ok,Sem.run_pure];rfl,.inl rfl,?_,wK⟩
          refine .ref _ _ _ _ _ (Nat.lt_succ_self _) ⟨_,_,rfl⟩ fun b' ax=> ?_
          have cH:=(J.bn ax).1
          rw [show (J.mk (H.st+1) (H.bs.set id (some ⟨H.st,bk.sz,false,aF bk.el off len ++ xs⟩))).get id=_ from J.hG hg id,if_pos rfl] at cH;simp only [Option.some.injEq] at cH;subst cH;refine ⟨.at_ w.drew.heap.size 0,_,_,by simp,rfl,by simp [a_],k1,by simp [a_];omega,?_⟩
          refine Or.inr ⟨by simp,?_⟩
          dsimp only;rw [j0,k3,cK];simp
        ·simp at h
end ops
end Go.VS
namespace Go.VS
section ops
variable {P:Program} {E:aK} (hE: ∀t ti,E t=some ti→aT P t ti)
variable {w:World} {H:J} {φ :ag} {A:ah}
theorem cf.same {r:Result Next} {x:AV} {v:Value} {H' :J} (hr:r= .ok (.value v) w) (hx:R w H φ A x v) (ho:Out w H φ A w H' φ A):cf w H φ A H' r x:=
 ⟨_,v,w,φ,A,hr,.inl rfl,hx.mono ho.bX,ho⟩
include hE in
theorem wL {H' :J} (ae:St w H φ A) {t:TypeId} {tys:Array TypeId} {ty:TypeId} (h0:tys[0]? =some t) {te:TI} (a8:cE E t=some te) {d x z:AV} {a b:Value} (hs:R w H φ A d a) (hx:R w H φ A x b)
 (h:mB te d x H=some (z,H')):cf w H φ A H' ((do pure (.value (←Builtin.copy_ tys ty #[a,b])):Sem Next).run P w) z:=by
 obtain ⟨ti,e,ht,hu,b_⟩:=iB a8;unfold mB at h;split at h
 ·simp at h
 ·rename_i xs fY;split at h
  ·simp at h
  ·rename_i aG;simp only [Bool.or_eq_true,Bool.not_eq_true',beq_iff_eq,not_or,Bool.not_eq_false] at aG;obtain ⟨aG,hz⟩:=aG;have hz:0<te.sz:=by omega
   obtain ⟨cs,cz⟩:=jq (P:=P) ae (aZ.refl H) hx fY aG hz;have cy: ∀(base:Option Addr) (iC pR:Nat) (w' :World),(match base with|some a=>(storeCells a ((cs.extract 0 (min xs.length iC*te.sz)).toList)).run P w= .ok () w' |none=>w' =w)→
    (Builtin.copy_ tys ty #[.slice base iC pR,b]).run P w= .ok (.int .i64 (min xs.length iC:Nat)) w' :=by
    intro base iC pR w' hw
    have hc:=cz.run (min xs.length iC) (Nat.min_le_left _ _);unfold Builtin.copy_;simp only [h0,List.getElem?_toArray,List.getElem?_cons_zero,List.getElem?_cons_succ,Sem.run_bind,(hE _ _ ht).sl w hu,Result.andThen_ok,cz.len,(hE _ _ b_).sizeOf];rw [show Nat.min xs.length iC=min xs.length iC from rfl,hc];simp only [Result.andThen_ok];cases base with
    |none=>simp only at hw;subst hw;rfl
    |some a=>simp only at hw;simp only [Sem.run_bind,hw,Result.andThen_ok,Sem.run_pure,goInt]
   have hzero: ∀base cap,(Builtin.copy_ tys ty #[.slice base 0 cap,b]).run P w= .ok (.int .i64 0) w:=by
    intro base cap;have:=cy base 0 cap w (by cases base<;>simp [storeCells])
    simpa using this
   split at h
   ·simp only [Option.some.injEq,Prod.mk.injEq] at h;obtain ⟨rfl,rfl⟩:=h;have:=hs.cR;subst this;exact cf.same (by simp [hzero]) (.fr _ _ (.int _ _)) (.refl ae)
   ·simp only [Option.some.injEq,Prod.mk.injEq] at h;obtain ⟨rfl,rfl⟩:=h;obtain ⟨a0,rfl⟩:=hs.ek;exact cf.same (by simp [hzero]) (.fr _ _ (.int _ _)) (.refl ae)
   ·rename_i id ad off len;split at h
    ·simp at h
    ·rename_i bk hb;have hg:=(J.bn hb).1;split at h
     ·rename_i hc;simp only [Option.some.injEq,Prod.mk.injEq] at h;obtain ⟨rfl,rfl⟩:=h;have fy:(xs.take len).length=min xs.length len:=by rw [List.length_take,Nat.min_comm]
      by_cases hn:min xs.length len=0
      ·have:xs.take len=[]:=List.eq_nil_of_length_eq_zero (by omega)
       rw [this,nv _ _ (by omega),hn]
       obtain ⟨_,⟨a0,c0,rfl⟩,hr⟩:=hs.dG;have:=cy a0 len c0 w (by rw [hn];cases a0<;>simp [storeCells])
       rw [hn] at this;exact cf.same (by simp [this]) (.fr _ _ (.int _ _)) (nw ae hg)
      ·have lu:(cs.extract 0 (min xs.length len*te.sz)).size=min xs.length len*te.sz:=by
        have:=cz.size;have h2:min xs.length len*te.sz≤xs.length*te.sz:=Nat.mul_le_mul_right _ (Nat.min_le_left _ _);simp;omega
       obtain ⟨c,b0,cap,w',p1,p2,p3,p4,p5⟩:=nu (P:=P) ae hs hb (at_:=off) (n:=min xs.length len) (by omega) (Nat.le_refl _) (by omega) (.inr (.inr trivial)) fy (cs:=cs.extract 0 (min xs.length len*te.sz))
        (by rw [hc.1];exact lu) (fun u hu=>cz.one u (by rw [Array.toList_extract,List.extract_eq_take_drop] at hu;exact List.mem_of_mem_drop (List.mem_of_mem_take hu)))
        (fun i x hi=>by
         rw [List.getElem?_take] at hi;split at hi
         ·rw [hc.1];exact gx aG hi
         ·simp at hi)
        (fun i x j y u hi hy hu=>by
         rw [List.getElem?_take] at hi;split at hi
         ·rw [Array.getElem?_extract] at hu;split at hu
          ·rw [hc.1] at hu;exact cz.rel i x j y u hi hy (by rw [←hu];congr 1;omega)
          ·simp at hu
         ·simp at hi)
       subst p2;have:=cy (some ⟨c,b0+off*bk.sz,none⟩) len cap w' p4
       exact ⟨_,_,w',φ,A,by simp only [Sem.run_bind,this,Result.andThen_ok,Sem.run_pure],.inl rfl,.fr _ _ (.int _ _),p5⟩
     ·simp at h
   ·simp at h
include hE in
theorem wM {H' :J} (ae:St w H φ A) {t:TypeId} {tys:Array TypeId} {ty:TypeId} (h0:tys[0]? =some t) {te:TI} (a8:cE E t=some te) {d z:AV} {a:Value} (hs:R w H φ A d a)
 (h:mC te d H=some (z,H')):cf w H φ A H' ((do pure (.value (←Builtin.clear_ tys ty #[a])):Sem Next).run P w) z:=by
 obtain ⟨ti,e,ht,hu,b_⟩:=iB a8;have hzero: ∀a0 cap,(Builtin.clear_ tys ty #[.slice a0 0 cap]).run P w= .ok (.tuple #[]) w:=by
  intro a0 cap;unfold Builtin.clear_;simp only [h0,List.getElem?_toArray,List.getElem?_cons_zero,Sem.run_bind,(hE _ _ ht).sl w hu,Result.andThen_ok];cases a0<;>rfl
 have ny:R w H φ A (.aC []) (.tuple #[]):= .fr _ _ (.aC [] #[] rfl (by simp))
 unfold mC at h;split at h
 ·simp only [Option.some.injEq,Prod.mk.injEq] at h;obtain ⟨rfl,rfl⟩:=h;have:=hs.cR;subst this;exact cf.same (by simp [hzero]) ny (.refl ae)
 ·simp only [Option.some.injEq,Prod.mk.injEq] at h;obtain ⟨rfl,rfl⟩:=h;obtain ⟨a0,rfl⟩:=hs.ek;exact cf.same (by simp [hzero]) ny (.refl ae)
 ·rename_i id ad off len;split at h
  ·rename_i bk zA hb hz;have hg:=(J.bn hb).1;split at h
   ·rename_i hc;simp only [Option.some.injEq,Prod.mk.injEq] at h;obtain ⟨rfl,rfl⟩:=h;by_cases hn:len=0
    ·subst hn;obtain ⟨_,_,hr⟩:=hs.dG;obtain ⟨loc,a1,cap,_,rfl,_⟩:=(hr bk hb).out;rw [List.replicate_zero,nv _ _ (by omega)]
     exact cf.same (by simp [hzero]) ny (nw ae hg)
    ·obtain ⟨zv,z1,z2,z3,z4,_,z5⟩:=iy (hE _ _ b_) hz w;have hcs: ∀(i j:Nat) (u:Value),i<len→j<te.sz→(Builtin.zeroCells zv.cells len)[i*te.sz+j]? =some u→zv.cells[j]? =some u:=by
      intro i j u hi hj hu;refine j6 z2 hi hj ?_;rw [←hu];unfold Builtin.zeroCells;rw [z2]
     have lq:(Builtin.zeroCells zv.cells len).size=len*te.sz:=by simp [Builtin.zeroCells,z2]
     have nz:0<te.sz:=by
      rcases Nat.eq_zero_or_pos te.sz with h|h
      ·rw [h] at hc;have:=hc.2.2;simp at this
      ·exact h
     obtain ⟨c,b0,cap,w',p1,p2,p3,p4,p5⟩:=nu (P:=P) ae hs hb (at_:=off) (n:=len) (by omega) (Nat.le_refl _) (by omega) (.inr (.inr trivial)) (xs:=List.replicate len zA) (by simp) (cs:=Builtin.zeroCells zv.cells len)
      (by rw [hc.1];exact lq) (fun u hu=>by
       obtain ⟨k,hk⟩:=List.getElem?_of_mem hu;rw [Array.getElem?_toList] at hk;have ng:k<len*te.sz:=by rw [←lq];exact (Array.getElem?_eq_some_iff.1 hk).1
       have pE:k/te.sz*te.sz+k % te.sz=k:=by rw [Nat.mul_comm];exact Nat.div_add_mod k te.sz
       have:=hcs (k/te.sz) (k % te.sz) u (pD ng nz) (Nat.mod_lt k nz) (by rw [pE];exact hk)
       have dx:k % te.sz<te.zero.length:=by rw [z4];exact Nat.mod_lt k nz
       exact (z5 w A _ _ u (List.getElem?_eq_getElem dx) this).2)
      (fun i x hi=>by
       rw [List.getElem?_replicate] at hi;split at hi
       ·simp only [Option.some.injEq] at hi;subst hi;rw [z3,z4,hc.1]
       ·simp at hi)
      (fun i x j y u hi hy hu=>by
       rw [List.getElem?_replicate] at hi;split at hi
       ·rename_i b8;simp only [Option.some.injEq] at hi;subst hi;rw [z3] at hy;have hj:j<te.sz:=by rw [←z4];exact (List.getElem?_eq_some_iff.1 hy).1
        rw [hc.1] at hu;have:=z5 w A j y u hy (hcs i j u b8 hj hu);exact ⟨.fr _ _ this.1,this.2⟩
       ·simp at hi)
     subst p2;refine ⟨_,_,w',φ,A,?_,.inl rfl,.fr _ _ (.aC [] #[] rfl (by simp)),p5⟩
     have:(Builtin.clear_ tys ty #[.slice (some ⟨c,b0+off*bk.sz,none⟩) len cap]).run P w= .ok (.tuple #[]) w' :=by
      unfold Builtin.clear_;simp only [h0,List.getElem?_toArray,List.getElem?_cons_zero,Sem.run_bind,(hE _ _ ht).sl w hu,Result.andThen_ok];cases len with
      |zero=>exact absurd rfl hn
      |succ n=>simp only [z1,Result.andThen_ok,p4,Sem.run_pure]
     simp only [Sem.run_bind,this,Result.andThen_ok,Sem.run_pure]
   ·simp at h
  ·simp at h
 ·simp at h
include hE in
theorem pS {t:TypeId} {tys:Array TypeId} {ty:TypeId} (h0:tys[0]? =some t) {x:AV} {a:Value} (hs:R w H φ A x a) {n:Nat} {H0:J} (_hX:aZ H0 H) (h:lenOf H0 x=some n) {ti:TI} (ht:E t=some ti) (hu:(∃e,ti.aq= .sl e∧ ∀s,x≠ .str s)∨(ti.aq= .str∧ ∃s,x= .str s)):
 (Builtin.len_ tys ty #[a]).run P w= .ok (.int .i64 n) w:=by
 unfold Builtin.len_;simp only [h0,List.getElem?_toArray,List.getElem?_cons_zero,Sem.run_bind];rcases hu with ⟨e,hu,hn⟩|⟨hu,s,rfl⟩
 ·simp only [(hE _ _ ht).sl w hu,Result.andThen_ok];cases x with
  |nil=>simp [lenOf] at h;subst h;have:=hs.cR;subst this;rfl
  |e0=>simp [lenOf] at h;subst h;obtain ⟨a0,rfl⟩:=hs.ek;rfl
  |fz xs=>simp [lenOf] at h;subst h;have:=hs.dF;cases this<;>rfl
  |ref id ad off len=>
   simp only [lenOf,Option.some.injEq] at h;subst h;obtain ⟨_,⟨a1,cap,rfl⟩,_⟩:=hs.dG;rfl
  |str s=>exact absurd rfl (hn s)
  |_=>simp [lenOf] at h
 ·obtain ⟨b,rfl,hb⟩:=hs.eC;simp only [lenOf,Option.some.injEq] at h;subst h;simp only [(hE _ _ ht).iu w hu,Result.andThen_ok,Sem.run_pure,goInt];rw [←hb];simp
end ops
end Go.VS
namespace Go.VS
theorem J.iD {H H' :J} (h:H' =H∨ ∃sz fx el,H' =H.new sz fx el):aZ H H' ∧(∀id b,H'.get id=some b→b.ad<H.st→H.get id=some b)∧H.bs.length≤H'.bs.length:=by
 rcases h with rfl|⟨sz,fx,el,rfl⟩
 ·exact ⟨aZ.refl _,fun _ _ h _=>h,Nat.le_refl _⟩
 ·refine ⟨J.mZ H sz fx el,fun id b hg hv=> ?_,by simp [J.new]⟩
  by_cases bT:id<H.bs.length
  ·rw [J.pw H sz fx el bT] at hg;exact hg
  ·have hl:=J.gZ hg;have:id=H.bs.length:=by simp [J.new] at hl;omega
   subst this;rw [J.dH] at hg;simp only [Option.some.injEq] at hg;subst hg;exact absurd hv (Nat.lt_irrefl _)
theorem pT {E:aK} {op:Op} {s:aj} {H H' :J} {z:AV} (hq:eO op=true) (h:aM E op s H=some (z,H')):H' =H∨ ∃sz fx el,H' =H.new sz fx el:=by
 have ll: ¬ ∃t a v,op= .store t a v:=by
  rintro ⟨t,a,v,rfl⟩;have:eO (.store t a v)=false:=rfl;rw [this] at hq;simp at hq
 cases op with
 |makeFunc fn first cap=>
  cases fn<;>simp only [aM] at h
  ·split at h
   ·simp only [Option.some.injEq,Prod.mk.injEq] at h;exact .inl h.2.symm
   ·simp at h
  all_goals simp at h
 |_=>(simp only [aM] at h<;>(repeat' split at h)<;>first
  |(simp at h;done)
  |(simp only [Option.some.injEq,Prod.mk.injEq] at h;first|exact .inl h.2.symm|exact .inr ⟨_,_,_,h.2.symm⟩|exact absurd ⟨_,_,_,rfl⟩ ll)
  |exact absurd ⟨_,_,_,rfl⟩ ll)
section ops
variable {P:Program} {E:aK} (hE: ∀t ti,E t=some ti→aT P t ti)
variable {w:World} {H:J} {φ :ag} {A:ah}
theorem St.new (ae:St w H φ A) {id:Nat} (h:H.bs.length≤id): φ id=none:=by
 cases hp: φ id with
 |none=>rfl
 |some loc=>
  obtain ⟨b,hb,_⟩:=ae.ap id loc hp;have:=J.gZ hb;omega
theorem iE (ae:St w H φ A) {H' :J} (hx:aZ H H') (ho: ∀id b,H'.get id=some b→b.ad<H.st→H.get id=some b):Out w H φ A w H' φ A:=by
 have aW:bG w H φ A w H' φ A:=⟨fun c a t fr hc hn=>⟨⟨fr,hc⟩,hn⟩,hx.2,fun id b hb hv=>⟨b,ho id b hb hv,rfl,rfl,rfl,rfl,fun _ h=>h⟩,fun _ _=>rfl⟩
 refine ⟨⟨ae.inj,ae.own,ae.b6,fun id loc h=> ?_⟩,.refl _ _,aW,fun _ h _=>h⟩;obtain ⟨b,hb,af⟩:=ae.ap id loc h;refine ⟨b,hx.1 _ _ hb,Nat.lt_of_lt_of_le af.ad hx.2,af.sized,af.aO,fun c b0 hl=> ?_⟩;obtain ⟨arr,T,fr,h1,h2,h3,h4⟩:=af.here c b0 hl;exact ⟨arr,T,fr,h1,h2,h3,fun i x j y v hx hy hv=>⟨(h4 i x j y v hx hy hv).1.mono aW,(h4 i x j y v hx hy hv).2⟩⟩
theorem cf.lv (ae:St w H φ A) {H' :J} (he:H' =H∨ ∃sz fx el,H' =H.new sz fx el) {r:Result Next} {z:AV} (h:a6 w H' φ A H H' r z):cf w H φ A H' r z:=by
 obtain ⟨n,v,w',ak,A',h1,h2,h3,h4,_⟩:=h;obtain ⟨e1,e2,_⟩:=J.iD he;exact ⟨n,v,w',ak,A',h1,h2,h3,(iE ae e1 e2).trans ae h4⟩
include hE in
theorem wN {H' :J} (ae:St w H φ A) {o:Oper} {s:aj} {ρ :Operand→Value} {z:AV} (aP: ∀y∈o.op.operands,R w H φ A (ev s y) (ρ y)) (h:aM E o.op s H=some (z,H')):
 cf w H φ A H' ((execOp ρ o).run P w) z:=by
 by_cases hq:eO o.op=true
 ·have he:=pT hq h;obtain ⟨e1,e2,_⟩:=J.iD he;have ho:=iE ae e1 e2;exact cf.lv ae he (nq hE ho.st e1 (aZ.refl _) (fun _=>ae.new (Nat.le_refl _)) hq (fun y hy=>(aP y hy).mono ho.bX) h)
 ·obtain ⟨dst,op,type,pos,after,guard⟩:=o;cases op with
  |store t x v=>
   have hx:=aP x (by simp [Op.operands])
   have hv:=aP v (by simp [Op.operands])
   simp only [aM] at h;exact wC hE ae hx hv h
  |_=>first|(simp [eO] at hq;done)|(simp [aM] at h;done)
theorem ke {op:Value→Value→Sem Value} {f:AV→AV→Option AV} (bg: ∀a b x y z,R w H φ A a x→R w H φ A b y→f a b=some z→ ∃v,(op x y).run P w= .ok v w∧R w H φ A z v):
 ∀(rest:List AV) (vs:List Value) (x:AV) (v:Value) (z:AV),rest.length=vs.length→(∀(i:Nat) (a:AV) (u:Value),rest[i]? =some a→vs[i]? =some u→R w H φ A a u)→R w H φ A x v→rest.foldlM f x=some z→
 ∃u,(vs.foldlM op v).run P w= .ok u w∧R w H φ A z u
 |[],[],x,v,z,_,_,hx,h=>by simp at h;subst h;exact ⟨v,by simp,hx⟩
 |[],_::_,_,_,_,h,_,_,_=>by simp at h
 |_::_,[],_,_,_,h,_,_,_=>by simp at h
 |a::rest,b::vs,x,v,z,hl,hr,hx,h=>by
  simp only [List.foldlM_cons] at h;cases hf:f x a with
  |none=>simp [hf] at h
  |some y=>
   simp only [hf,Option.bind_eq_bind,Option.bind_some] at h;obtain ⟨u,hu,hy⟩:=bg _ _ _ _ _ hx (hr 0 a b rfl rfl) hf;obtain ⟨q,hq,hz⟩:=ke bg rest vs y u z (by simpa using hl) (fun i a u h1 h2=>hr (i+1) a u h1 h2) hy h
   exact ⟨q,by simp [hu,hq],hz⟩
include hE in
theorem wO {H' :J} (ae:St w H φ A) {b:Builtin} {tys:Array TypeId} {ty:TypeId} {consts:Array Bool} {args:List AV} {vs:Array Value} {z:AV} (hl:args.length=vs.size)
 (aP: ∀(i:Nat) (a:AV) (u:Value),args[i]? =some a→vs[i]? =some u→R w H φ A a u) (h:dE E b tys args H=some (z,H')):
 cf w H φ A H' ((builtin b tys ty consts vs).run P w) z:=by
 unfold dE at h;split at h
 ·rename_i x;obtain ⟨a,rfl⟩: ∃a,vs= #[a]:=by
   have h1:vs.size=1:=hl.symm;exact ⟨vs[0],by apply Array.ext;simp [h1];intro i h1 h2;simp at h2;subst h2;rfl⟩
  have hx:=aP 0 x a rfl rfl;split at h
  ·rename_i ti n ht hn;obtain ⟨t,h0,ht⟩:=Option.bind_eq_some_iff.1 ht;have key: ∀{q:AV×J},some q=some (z,H')→q=(AV.int .i64 n,H)→((∃e,ti.aq= .sl e∧ ∀s,x≠ .str s)∨(ti.aq= .str∧ ∃s,x= .str s))→cf w H φ A H' ((builtin .len tys ty consts #[a]).run P w) z:=by
    intro q hq nA hu;subst nA;simp only [Option.some.injEq,Prod.mk.injEq] at hq;obtain ⟨rfl,rfl⟩:=hq;have:=pS (tys:=tys) (ty:=ty) hE h0 hx (aZ.refl H) hn ht hu;exact cf.same (by simp [builtin,this]) (.fr _ _ (.int _ _)) (.refl ae)
   split at h
   ·rename_i s hu;exact key h rfl (.inr ⟨hu,s,rfl⟩)
   ·simp at h
   ·rename_i e hu aN;exact key h rfl (.inl ⟨e,hu,fun s hs=>aN s hs⟩)
   ·simp at h
  ·simp at h
 ·rename_i s x;obtain ⟨a,b,rfl⟩: ∃a b,vs= #[a,b]:=by
   have h1:vs.size=2:=hl.symm;exact ⟨vs[0],vs[1],by apply Array.ext;simp [h1];intro i h1 h2;simp at h2;rcases i with _|_|i;rfl;rfl;omega⟩
  have hs:=aP 0 s a rfl rfl;have hx:=aP 1 x b rfl rfl;split at h
  ·rename_i t h0;split at h
   ·rename_i te tx a8 cq;obtain ⟨t2,h1,cq⟩:=Option.bind_eq_some_iff.1 cq;by_cases hit: ∃k,tx.aq= .it k
    ·obtain ⟨k,hit⟩:=hit;rw [hit] at h;simp only at h;split at h
     ·rename_i n;have he:H' =H∨ ∃sz fx el,H' =H.new sz fx el:=by
       unfold jM at h;repeat' split at h
       all_goals first
        |(simp at h;done)
        |(simp only [Option.some.injEq,Prod.mk.injEq] at h;first|exact .inl h.2.symm|exact .inr ⟨_,_,_,h.2.symm⟩)
      obtain ⟨e1,e2,_⟩:=J.iD he;have ho:=iE ae e1 e2;exact cf.lv ae he (pI hE ho.st (aZ.refl _) (fun _=>ae.new (Nat.le_refl _)) h0 h1 a8 cq hit (hs.mono ho.bX) (hx.mono ho.bX) h)
     ·simp at h
    have lx: ∀k,tx.aq≠ .it k:=fun k hk=>hit ⟨k,hk⟩;replace h:eu te s x H=some (z,H'):=by
     split at h
     ·rename_i k hk;exact absurd hk (lx k)
     ·exact h
    cases s with
    |ref id ad off len=>exact wF hE ae h0 h1 a8 cq lx hs hx h
    |nil=>
     have he:H' =H∨ ∃sz fx el,H' =H.new sz fx el:=by
      simp only [eu] at h;repeat' split at h
      all_goals first
       |(simp at h;done)
       |(simp only [Option.some.injEq,Prod.mk.injEq] at h;first|exact .inl h.2.symm|exact .inr ⟨_,_,_,h.2.symm⟩)
     obtain ⟨e1,e2,_⟩:=J.iD he;have ho:=iE ae e1 e2;exact cf.lv ae he (nn hE ho.st e1 (aZ.refl _) (fun _=>ae.new (Nat.le_refl _)) h0 h1 a8 cq lx (hs.mono ho.bX) (hx.mono ho.bX) (.inl rfl) h)
    |e0=>
     have he:H' =H∨ ∃sz fx el,H' =H.new sz fx el:=by
      simp only [eu] at h;repeat' split at h
      all_goals first
       |(simp at h;done)
       |(simp only [Option.some.injEq,Prod.mk.injEq] at h;first|exact .inl h.2.symm|exact .inr ⟨_,_,_,h.2.symm⟩)
     obtain ⟨e1,e2,_⟩:=J.iD he;have ho:=iE ae e1 e2;exact cf.lv ae he (nn hE ho.st e1 (aZ.refl _) (fun _=>ae.new (Nat.le_refl _)) h0 h1 a8 cq lx (hs.mono ho.bX) (hx.mono ho.bX) (.inr rfl) h)
    |_=>(simp only [eu] at h;(repeat' split at h)<;>simp at h)
   ·simp at h
  ·simp at h
 ·rename_i d x;obtain ⟨a,b,rfl⟩: ∃a b,vs= #[a,b]:=by
   have h1:vs.size=2:=hl.symm;exact ⟨vs[0],vs[1],by apply Array.ext;simp [h1];intro i h1 h2;simp at h2;rcases i with _|_|i;rfl;rfl;omega⟩
  split at h
  ·rename_i te a8;obtain ⟨t,h0,a8⟩:=Option.bind_eq_some_iff.1 a8;exact wL hE ae h0 a8 (aP 0 d a rfl rfl) (aP 1 x b rfl rfl) h
  ·simp at h
 ·rename_i d;obtain ⟨a,rfl⟩: ∃a,vs= #[a]:=by
   have h1:vs.size=1:=hl.symm;exact ⟨vs[0],by apply Array.ext;simp [h1];intro i h1 h2;simp at h2;subst h2;rfl⟩
  split at h
  ·rename_i te a8;obtain ⟨t,h0,a8⟩:=Option.bind_eq_some_iff.1 a8;exact wM hE ae h0 a8 (aP 0 d a rfl rfl) h
  ·simp at h
 ·split at h
  ·rename_i v hv;simp only [Option.some.injEq,Prod.mk.injEq] at h;obtain ⟨rfl,rfl⟩:=h;cases args with
   |nil=>simp [je] at hv
   |cons x rest=>
    obtain ⟨a,us,da⟩: ∃a us,vs.toList=a::us:=by
     cases eI:vs.toList with
     |nil=>have:=congrArg List.length eI;simp at this;simp [this] at hl
     |cons a us=>exact ⟨a,us,rfl⟩
    have hlen:rest.length=us.length:=by have:=congrArg List.length da;simp at this;simp at hl;omega
    have br: ∀(i:Nat) (u:Value),(a::us)[i]? =some u→vs[i]? =some u:=fun i u hu=>by rw [←da] at hu;simpa using hu
    obtain ⟨u,hu,hz⟩:=ke (P:=P) (op:=Builtin.min2) (f:=fun a b=>match a,b with| .int k x,.int _ y=>some (.int k (if y<x then y else x))|_,_=>none) (fun a b x y z ha hb hf=>by
     split at hf
     ·have e1:=ha.cp;have e2:=hb.cp;subst e1;subst e2;simp only [Option.some.injEq] at hf;subst hf;exact ⟨_,by simp [Builtin.min2],.fr _ _ (.int _ _)⟩
     ·simp at hf) rest us x a v hlen (fun i p q hp hq=>aP (i+1) p q hp (br (i+1) q hq)) (aP 0 x a rfl (br 0 a rfl)) hv
    exact cf.same (by simp [builtin,Builtin.min_,da,hu]) hz (.refl ae)
  ·simp at h
 ·split at h
  ·rename_i v hv;simp only [Option.some.injEq,Prod.mk.injEq] at h;obtain ⟨rfl,rfl⟩:=h;cases args with
   |nil=>simp [jf] at hv
   |cons x rest=>
    obtain ⟨a,us,da⟩: ∃a us,vs.toList=a::us:=by
     cases eI:vs.toList with
     |nil=>have:=congrArg List.length eI;simp at this;simp [this] at hl
     |cons a us=>exact ⟨a,us,rfl⟩
    have hlen:rest.length=us.length:=by have:=congrArg List.length da;simp at this;simp at hl;omega
    have br: ∀(i:Nat) (u:Value),(a::us)[i]? =some u→vs[i]? =some u:=fun i u hu=>by rw [←da] at hu;simpa using hu
    obtain ⟨u,hu,hz⟩:=ke (P:=P) (op:=Builtin.max2) (f:=fun a b=>match a,b with| .int k x,.int _ y=>some (.int k (if y>x then y else x))|_,_=>none) (fun a b x y z ha hb hf=>by
     split at hf
     ·have e1:=ha.cp;have e2:=hb.cp;subst e1;subst e2;simp only [Option.some.injEq] at hf;subst hf;exact ⟨_,by simp [Builtin.max2],.fr _ _ (.int _ _)⟩
     ·simp at hf) rest us x a v hlen (fun i p q hp hq=>aP (i+1) p q hp (br (i+1) q hq)) (aP 0 x a rfl (br 0 a rfl)) hv
    exact cf.same (by simp [builtin,Builtin.max_,da,hu]) hz (.refl ae)
  ·simp at h
 ·obtain ⟨a,rfl⟩: ∃a,vs= #[a]:=by
   have h1:vs.size=1:=hl.symm;exact ⟨vs[0],by apply Array.ext;simp [h1];intro i h1 h2;simp at h2;subst h2;rfl⟩
  have hx:=(aP 0 .nil a rfl rfl).cR;subst hx;split at h
  ·rename_i ti ht;obtain ⟨t,h0,ht⟩:=Option.bind_eq_some_iff.1 ht;split at h
   ·rename_i e hu;simp only [Option.some.injEq,Prod.mk.injEq] at h;obtain ⟨rfl,rfl⟩:=h;have hc:(Builtin.cap_ tys ty #[.slice none 0 0]).run P w= .ok (.int .i64 0) w:=by
     unfold Builtin.cap_;simp only [h0,List.getElem?_toArray,List.getElem?_cons_zero,Sem.run_bind,(hE _ _ ht).sl w hu,Result.andThen_ok];rfl
    exact cf.same (by simp [builtin,hc]) (.fr _ _ (.int _ _)) (.refl ae)
   ·simp at h
  ·simp at h
 ·simp at h
end ops
end Go.VS
namespace Go.VS
def aB (φ :ag) (L:J):ag:=fun id=>if (L.get id).isSome then φ id else none
theorem J.hJ (H:J) (id k:Nat):(H.del id).get k=if k=id then none else H.get k:=by
 unfold J.del J.get;simp only [List.getElem?_set];by_cases hk:id=k
 ·subst hk;simp only [if_true];split<;>rfl
 ·rw [if_neg hk,if_neg (fun e=>hk e.symm)]
structure bj (L L1:J):Prop where
 get: ∀id b,L1.get id=some b→L.get id=some b
 st:L1.st=L.st
 len:L1.bs.length=L.bs.length
theorem bj.refl (L:J):bj L L:=⟨fun _ _ h=>h,rfl,rfl⟩
theorem bj.trans {L L1 L2:J} (h:bj L L1) (k:bj L1 L2):bj L L2:=⟨fun id b hb=>h.get id b (k.get id b hb),k.st.trans h.st,k.len.trans h.len⟩
theorem bj.del (L:J) (id:Nat):bj L (L.del id):=⟨fun k b h=>by rw [J.hJ] at h;split at h;simp at h;exact h,rfl,by simp [J.del]⟩
theorem cW {φ :ag} {L:J} {id:Nat} {loc:Loc} (h:aB φ L id=some loc): φ id=some loc∧ ∃b,L.get id=some b:=by
 unfold aB at h;split at h
 ·rename_i hs;exact ⟨h,Option.isSome_iff_exists.1 hs⟩
 ·simp at h
theorem fA {φ :ag} {L L1:J} (h:bj L L1):aB (aB φ L) L1=aB φ L1:=by
 funext id
 unfold aB;cases h1:L1.get id with
 |none=>simp
 |some b=>simp [h.get id b h1]
theorem bA {φ :ag} {L:J} {c:Nat} (h:Ow (aB φ L) c):Ow φ c:=by
 obtain ⟨id,b,h⟩:=h;exact ⟨id,b,(cW h).1⟩
section bd
variable {w:World}
theorem cI {L L1:J} {φ :ag} {A:ah} (hl:bj L L1):bG w L φ A w L1 (aB φ L1) A:=by
 refine ⟨fun c a t fr hc hn=>⟨⟨fr,hc⟩,hn⟩,by rw [hl.st];exact Nat.le_refl _,fun id b hb _=>⟨b,hl.get id b hb,rfl,rfl,rfl,rfl,fun loc h=> ?_⟩,fun _ _=>rfl⟩
 unfold aB;rw [hb];simpa using h
theorem dK {L L1:J} {φ :ag} {A:ah} (ae:St w L φ A) (hl:bj L L1):St w L1 (aB φ L1) A:=by
 refine ⟨fun i i' c b b' h h' =>ae.inj _ _ _ _ _ (cW h).1 (cW h').1,fun c hc=>ae.own c (bA hc),ae.b6,fun id loc h=> ?_⟩
 obtain ⟨h1,b,hb⟩:=cW h;obtain ⟨b',ax,af⟩:=ae.ap id loc h1;rw [hl.get id b hb] at ax;simp only [Option.some.injEq] at ax;subst ax;refine ⟨b,hb,by rw [hl.st];exact af.ad,af.sized,af.aO,fun c b0 he=> ?_⟩
 obtain ⟨arr,T,fr,k1,k2,k3,k4⟩:=af.here c b0 he;exact ⟨arr,T,fr,k1,k2,k3,fun i x j y v hx hy hv=>⟨(k4 i x j y v hx hy hv).1.mono (cI hl),(k4 i x j y v hx hy hv).2⟩⟩
structure bP (w:World) (L:J) (φL:ag) (AL:ah) (H:J) (φ :ag) (AH:ah):Prop where
 sl:St w L φL AL
 sh:St w H φ AH
 bY: ∀c,Ow φL c→ ¬Ow φ c
 dT: ∀c,Ow φL c→AH c
structure bZ (w:World) (L:J) (φL:ag) (AL:ah) (H:J) (φ :ag) (AH:ah) (L1:J) (H1:J) (φ1:ag):Prop where
 less:bj L L1
 bd:bP w L1 (aB φL L1) AL H1 φ1 AH
 eh:bG w H φ AH w H1 φ1 AH
 oh: ∀c,Ow φ1 c→Ow φ c∨(Ow φL c∧ ¬Ow (aB φL L1) c)
 gB: ∀c,Ow φ c→Ow φ1 c
 hlen:H.bs.length≤H1.bs.length
 br: ∀id b,H.get id=some b→H1.get id=some b
 bQ: ∀id loc,φ id=some loc→ φ1 id=some loc
theorem bZ.refl {L:J} {φL:ag} {AL:ah} {H:J} {φ :ag} {AH:ah} (h:bP w L φL AL H φ AH):bZ w L φL AL H φ AH L H φ :=by
 refine ⟨.refl _,⟨dK h.sl (.refl _),h.sh,fun c hc=>h.bY c (bA hc),fun c hc=>h.dT c (bA hc)⟩,.refl _ _ _ _,fun c hc=> .inl hc,fun c hc=>hc,Nat.le_refl _,fun _ _ h=>h,fun _ _ h=>h⟩
theorem bZ.trans {L L1 L2:J} {φL:ag} {AL:ah} {H H1 H2:J} {φ φ1 a3:ag} {AH:ah} (h:bZ w L φL AL H φ AH L1 H1 φ1) (k:bZ w L1 (aB φL L1) AL H1 φ1 AH L2 H2 a3):bZ w L φL AL H φ AH L2 H2 a3:=by
 have hr:=fA (φ := φL) k.less;refine ⟨h.less.trans k.less,by rw [←hr];exact k.bd,h.eh.trans k.eh (fun _ _=>rfl),fun c hc=> ?_,fun c hc=>k.gB c (h.gB c hc),Nat.le_trans h.hlen k.hlen,fun id b hb=>k.br id b (h.br id b hb),fun id loc hl=>k.bQ id loc (h.bQ id loc hl)⟩
 rcases k.oh c hc with h1|⟨h1,h2⟩
 ·rcases h.oh c h1 with h3|⟨h3,h4⟩
  ·exact .inl h3
  ·refine .inr ⟨h3,fun h5=>h4 ?_⟩;rw [←hr] at h5;exact bA h5
 ·rw [hr] at h2;exact .inr ⟨bA h1,h2⟩
theorem newAt {L L1:J} {φL:ag} {AL:ah} {H H1:J} {φ φ1:ag} {AH:ah} (m:bZ w L φL AL H φ AH L1 H1 φ1) {sz:Nat} {fx:Bool} {el:List AV} {loc:Loc}
 (dI: ∀(i:Nat) (x:AV),el[i]? =some x→x.cells.length=sz) (hv:loc= .aO→el=[])
 (dU: ∀c b0,loc= .at_ c b0→Ow φL c∧ ¬Ow (aB φL L1) c∧ ¬Ow φ1 c∧AH c∧ ∃arr T fr,w.heap[c]? =some (.cells arr T fr)∧(∀j,j<arr.size→ ¬(fr.1≤j∧j<fr.2))∧b0+el.length*sz≤arr.size∧
  ∀(i:Nat) (x:AV) (j:Nat) (y:AV) (v:Value),el[i]? =some x→x.cells[j]? =some y→arr[b0+i*sz+j]? =some v→R w H1 φ1 AH y v∧v.oneCell' =true):
 bZ w L φL AL H φ AH L1 (H1.new sz fx el) (fun i=>if i=H1.bs.length then some loc else φ1 i):=by
 have eZ:=m.bd.sh;have bp:=St.new eZ (Nat.le_refl H1.bs.length);have hx:=J.mZ H1 sz fx el;have hold: ∀id b,(H1.new sz fx el).get id=some b→b.ad<H1.st→H1.get id=some b:=(J.iD (.inr ⟨sz,fx,el,rfl⟩)).2.1;have aW:bG w H1 φ1 AH w (H1.new sz fx el) (fun i=>if i=H1.bs.length then some loc else φ1 i) AH:=by
  refine ⟨fun c a t fr hc hn=>⟨⟨fr,hc⟩,hn⟩,hx.2,fun id b hb aw=>⟨b,hold id b hb aw,rfl,rfl,rfl,rfl,fun l hl=> ?_⟩,fun _ _=>rfl⟩;rw [if_neg (by rintro rfl;rw [bp] at hl;simp at hl)];exact hl
 have dp: ∀c,Ow (fun i=>if i=H1.bs.length then some loc else φ1 i) c→Ow φ1 c∨ ∃b0,loc= .at_ c b0:=by
  rintro c ⟨i,b,h⟩;try simp only at h
  split at h
  ·simp only [Option.some.injEq] at h;exact .inr ⟨b,h⟩
  ·exact .inl ⟨i,b,h⟩
 refine ⟨m.less,⟨m.bd.sl,⟨fun i i' c b b' h1 h2=> ?_,fun c hc=> ?_,eZ.b6,fun i l hl=> ?_⟩,fun c hc ho=> ?_,m.bd.dT⟩,m.eh.trans aW (fun _ _=>rfl),fun c hc=> ?_,fun c hc=> ?_,?_,fun id b hb=>hx.1 _ _ (m.br id b hb),fun id l hl=> ?_⟩
 ·try simp only at h1 h2
  split at h1
  ·rename_i hi;split at h2
   ·rename_i gw;omega
   ·simp only [Option.some.injEq] at h1;exact absurd ⟨i',b',h2⟩ (dU c b h1).2.2.1
  ·split at h2
   ·simp only [Option.some.injEq] at h2;exact absurd ⟨i,b,h1⟩ (dU c b' h2).2.2.1
   ·exact eZ.inj _ _ _ _ _ h1 h2
 ·rcases dp c hc with h|⟨b0,h⟩
  ·exact eZ.own c h
  ·exact (dU c b0 h).2.2.2.1
 ·try simp only at hl
  split at hl
  ·rename_i hi;subst hi;simp only [Option.some.injEq] at hl;subst hl;refine ⟨_,J.dH _ _ _ _,Nat.lt_succ_self _,dI,hv,fun c b0 he=> ?_⟩;obtain ⟨_,_,_,_,arr,T,fr,k1,k2,k3,k4⟩:=dU c b0 he;exact ⟨arr,T,fr,k1,k2,k3,fun j x q y v bq hy cb=>⟨(k4 j x q y v bq hy cb).1.mono aW,(k4 j x q y v bq hy cb).2⟩⟩
  ·obtain ⟨bb,hb,af⟩:=eZ.ap i l hl;refine ⟨bb,hx.1 _ _ hb,Nat.lt_of_lt_of_le af.ad hx.2,af.sized,af.aO,fun c b0 he=> ?_⟩;obtain ⟨arr,T,fr,k1,k2,k3,k4⟩:=af.here c b0 he;exact ⟨arr,T,fr,k1,k2,k3,fun j x q y v bq hy cb=>⟨(k4 j x q y v bq hy cb).1.mono aW,(k4 j x q y v bq hy cb).2⟩⟩
 ·rcases dp c ho with h|⟨b0,h⟩
  ·exact m.bd.bY c hc h
  ·exact (dU c b0 h).2.1 hc
 ·rcases dp c hc with h|⟨b0,h⟩
  ·exact m.oh c h
  ·exact .inr ⟨(dU c b0 h).1,(dU c b0 h).2.1⟩
 ·obtain ⟨i,b,h⟩:=m.gB c hc
  exact ⟨i,b,by show (if i=H1.bs.length then some loc else φ1 i)=_;rw [if_neg (by rintro rfl;rw [bp] at h;simp at h)];exact h⟩
 ·simp only [J.new,List.length_append,List.length_singleton];exact Nat.le_succ_of_le m.hlen
 ·have:=m.bQ id l hl;rw [if_neg (by rintro rfl;rw [bp] at this;simp at this)];exact this
end bd
end Go.VS
namespace Go.VS
section bd
variable {w:World}
theorem pU {L H:J} {φL φ :ag} {AL AH:ah} {x:AV} {v:Value} (hp:de x=true) (h:R w L φL AL x v):R w H φ AH x v:=by
 cases x with
 |undef=>exact .fr _ _ (.undef _)
 |int k n=>have:=h.cp;subst this;exact .fr _ _ (.int _ _)
 |bool b=>have:=h.eB;subst this;exact .fr _ _ (.bool _)
 |str s=>obtain ⟨b,rfl,rfl⟩:=h.eC;exact .fr _ _ (.str _)
 |b9 b=>rcases h.jj with ⟨rfl,rfl⟩|⟨rfl,t,u,rfl⟩;exact .fr _ _ .ji;exact .fr _ _ (.err _ _)
 |dc=>cases h with|fr _ _ h=>cases h;exact .fr _ _ .dc
 |_=>simp [de] at hp
theorem pV {x:AV} (hp:de x=true) (H:J):aD x H=(x,H):=by
 cases x<;>first|rfl|simp [de] at hp
def fB (AL AH:ah) (y:AV):Prop:=(∀c,AH c→AL c)∨cc y=true
def dy (AL AH:ah) (ys:List AV):Prop:=(∀c,AH c→AL c)∨dO ys=true
theorem dy.cons {AL AH:ah} {y:AV} {ys:List AV} (h:dy AL AH (y::ys)):fB AL AH y∧dy AL AH ys:=by
 rcases h with h|h
 ·exact ⟨.inl h,.inl h⟩
 ·simp only [dO,Bool.and_eq_true] at h;exact ⟨.inr h.1,.inr h.2⟩
theorem nB {es:List Sh} (hE: ∀(x:AV) (vs:List Value) (L:J) (φL:ag) (AL:ah) (H:J) (φ :ag) (AH:ah) (y:AV) (L1:J) (a:AV) (H1:J),bP w L φL AL H φ AH→x.cells.length=vs.length→
 (∀(j:Nat) (c:AV) (u:Value),x.cells[j]? =some c→vs[j]? =some u→R w L φL AL c u)→aY es x L=some (y,L1)→aD y H=(a,H1)→fB AL AH y→
 ∃ φ1,bZ w L φL AL H φ AH L1 H1 φ1∧a.cells.length=x.cells.length∧ ∀(j:Nat) (c:AV) (u:Value),a.cells[j]? =some c→vs[j]? =some u→R w H1 φ1 AH c u):
 ∀(xs:List AV) (g:Nat→Nat→Value) (L:J) (φL:ag) (AL:ah) (H:J) (φ :ag) (AH:ah) (ys:List AV) (L1:J) (as:List AV) (H1:J),bP w L φL AL H φ AH→
  (∀(i:Nat) (x:AV) (j:Nat) (c:AV),xs[i]? =some x→x.cells[j]? =some c→R w L φL AL c (g i j))→cZ (aY es) xs L=some (ys,L1)→aE ys H=(as,H1)→dy AL AH ys→
  ∃ φ1,bZ w L φL AL H φ AH L1 H1 φ1∧as.length=xs.length∧(∀(i:Nat) (x a:AV),xs[i]? =some x→as[i]? =some a→a.cells.length=x.cells.length)∧
   ∀(i:Nat) (a:AV) (j:Nat) (c:AV),as[i]? =some a→a.cells[j]? =some c→R w H1 φ1 AH c (g i j)
 |[],g,L,φL,AL,H,φ,AH,ys,L1,as,H1,hd,_,ht,hw,_=>by
  simp only [cZ,Option.some.injEq,Prod.mk.injEq] at ht;obtain ⟨rfl,rfl⟩:=ht;simp only [aE,Prod.mk.injEq] at hw;obtain ⟨rfl,rfl⟩:=hw;exact ⟨φ,.refl hd,rfl,by simp,by simp⟩
 |x::xs,g,L,φL,AL,H,φ,AH,ys,L1,as,H1,hd,hr,ht,hw,hk=>by
  simp only [cZ] at ht;split at ht
  ·rename_i y L' h1
   split at ht
   ·rename_i aQ cL h2
    simp only [Option.some.injEq,Prod.mk.injEq] at ht;obtain ⟨rfl,rfl⟩:=ht;obtain ⟨k1,k2⟩:=hk.cons;simp only [aE,Prod.mk.injEq] at hw;obtain ⟨rfl,rfl⟩:=hw
    let vs:List Value:=(List.range x.cells.length).map (g 0)
    obtain ⟨φ1,m1,l1,r1⟩:=hE x vs L φL AL H φ AH y L' _ _ hd (by simp [vs]) (fun j c u hj hu=>by
     have dx:j<x.cells.length:=(List.getElem?_eq_some_iff.1 hj).1;have:vs[j]? =some (g 0 j):=by simp [vs,dx]
     rw [this] at hu;simp only [Option.some.injEq] at hu;subst hu;exact hr 0 x j c rfl hj) h1 rfl k1
    obtain ⟨a3,m2,l2,s2,r2⟩:=nB hE xs (fun i j=>g (i+1) j) L' (aB φL L') AL _ φ1 AH aQ cL _ _ m1.bd (fun i x' j c hi hj=>(hr (i+1) x' j c hi hj).mono (cI m1.less)) h2 rfl k2
    refine ⟨a3,m1.trans m2,by simp [l2],fun i x' a hx ha=> ?_,fun i a j c ha hc=> ?_⟩
    ·cases i with
     |zero=>simp at hx ha;subst hx;subst ha;exact l1
     |succ i=>exact s2 i x' a hx ha
    ·cases i with
     |zero=>
      simp only [List.getElem?_cons_zero,Option.some.injEq] at ha;subst ha;have hj:j<x.cells.length:=by rw [←l1];exact (List.getElem?_eq_some_iff.1 hc).1
      exact (r1 j c (g 0 j) hc (by simp [vs,hj])).mono m2.eh
     |succ i=>exact r2 i a j c ha hc
   ·simp at ht
  ·simp at ht
theorem ly {L:J} {φL:ag} {AL:ah} {H:J} {φ :ag} {AH:ah} (hd:bP w L φL AL H φ AH) {id ad:Nat} {b:bD} (hb:L.ap id ad=some b) {off n:Nat} (hle:off+n≤b.el.length) {sz:Nat} (hs:b.sz=sz) {loc:Loc} (aX: φL id=some loc)
 {L1:J} {as:List AV} {H1:J} {g:Nat→Nat→Value} {φ1:ag} (hg: ∀c b0 arr T fr,loc= .at_ c b0→w.heap[c]? =some (.cells arr T fr)→ ∀(i j:Nat) (v:Value),i<n→j<sz→arr[b0+(off+i)*sz+j]? =some v→g i j=v)
 (m:bZ w (L.del id) (aB φL (L.del id)) AL H φ AH L1 H1 φ1) (hl:as.length=n) (dI: ∀(i:Nat) (a:AV),as[i]? =some a→a.cells.length=sz)
 (hr: ∀(i:Nat) (a:AV) (j:Nat) (c:AV),as[i]? =some a→a.cells[j]? =some c→R w H1 φ1 AH c (g i j)) (fx:Bool) (loc' :Loc) (gD:loc' = .aO∧n=0∨ ∃c b0,loc= .at_ c b0∧loc' = .at_ c (b0+off*sz)):
 bZ w L φL AL H φ AH L1 (H1.new sz fx as) (fun i=>if i=H1.bs.length then some loc' else φ1 i):=by
 have nC:=(J.bn hb).1;have nD:=(bj.del L id).trans m.less;have gE:aB (aB φL (L.del id)) L1=aB φL L1:=fA m.less;have m' :bZ w L φL AL H φ AH L1 H1 φ1:=by
  refine ⟨nD,by have:=m.bd;rwa [gE] at this,m.eh,fun c hc=> ?_,m.gB,m.hlen,m.br,m.bQ⟩
  rcases m.oh c hc with h|⟨h1,h2⟩
  ·exact .inl h
  ·rw [gE] at h2;exact .inr ⟨bA h1,h2⟩
 refine newAt m' dI (fun hv=> ?_) (fun c b1 he=> ?_)
 ·rcases gD with ⟨_,h0⟩|⟨c,b0,_,h2⟩
  ·exact List.eq_nil_of_length_eq_zero (by omega)
  ·rw [h2] at hv;simp at hv
 ·rcases gD with ⟨h1,_⟩|⟨c',b0,h1,h2⟩
  ·rw [h1] at he;simp at he
  ·rw [h2] at he;simp only [Loc.at_.injEq] at he;obtain ⟨rfl,rfl⟩:=he;subst h1;have iF:Ow φL c' :=⟨id,b0,aX⟩
   have nE: ¬Ow (aB φL L1) c' :=by
    rintro ⟨i,bb,hi⟩;obtain ⟨e8,bk,aU⟩:=cW hi;have:=hd.sl.inj _ _ _ _ _ e8 aX;subst this;have:=m.less.get _ _ aU;rw [J.hJ,if_pos rfl] at this;simp at this
   refine ⟨iF,nE,fun ho=> ?_,hd.dT _ iF,?_⟩
   ·rcases m.oh c' ho with h|⟨⟨i,bb,hi⟩,_⟩
    ·exact hd.bY c' iF h
    ·obtain ⟨e8,bk,aU⟩:=cW hi;have:=hd.sl.inj _ _ _ _ _ e8 aX;subst this;rw [J.hJ,if_pos rfl] at aU;simp at aU
   ·obtain ⟨bk,aU,af⟩:=hd.sl.ap id _ aX;rw [nC] at aU;simp only [Option.some.injEq] at aU;subst aU;obtain ⟨arr,T,fr,k1,k2,k3,k4⟩:=af.here c' b0 rfl
    have hmul:off*sz+n*sz≤b.el.length*sz:=by rw [←Nat.add_mul];exact Nat.mul_le_mul_right _ hle
    refine ⟨arr,T,fr,k1,k2,by rw [hl];rw [hs] at k3;omega,fun i a j c v ha hc hv=> ?_⟩
    have hi:i<n:=by rw [←hl];exact (List.getElem?_eq_some_iff.1 ha).1
    have hj:j<sz:=by rw [←dI i a ha];exact (List.getElem?_eq_some_iff.1 hc).1
    have e:b0+off*sz+i*sz+j=b0+(off+i)*sz+j:=by rw [Nat.add_mul];omega
    rw [e] at hv;have nF:=hg c' b0 arr T fr rfl k1 i j v hi hj hv
    refine ⟨by rw [←nF];exact hr i a j c ha hc,?_⟩
    have cu:off+i<b.el.length:=by omega
    have hx:=List.getElem?_eq_getElem cu;have ca:=af.sized _ _ hx;exact (k4 (off+i) _ j _ v hx (List.getElem?_eq_getElem (by omega)) (by rw [hs];exact hv)).2
end bd
end Go.VS
namespace Go.VS
section bd
variable {w:World}
theorem iG {x:AV} (h1:x≠ .undef) (h2: ∀cs,x≠ .agg cs):x.cells=[x]:=by
 cases x<;>first|rfl|exact absurd rfl h1|exact absurd rfl (h2 _)
theorem ju {H:J} {id ad:Nat} {b b' :bD} (h:H.get id=some b) (h' :H.ap id ad=some b'):b' =b:=by
 have:=(J.bn h').1;rw [h] at this;simp only [Option.some.injEq] at this;exact this.symm
mutual
theorem lz (sh:Sh) (x:AV) (v:Value) (L:J) (φL:ag) (AL:ah) (H:J) (φ :ag) (AH:ah) (y:AV) (L1:J) (a:AV) (H1:J) (hd:bP w L φL AL H φ AH) (hx:R w L φL AL x v)
 (ht:aR sh x L=some (y,L1)) (hw:aD y H=(a,H1)) (hk:fB AL AH y): ∃ φ1,bZ w L φL AL H φ AH L1 H1 φ1∧R w H1 φ1 AH a v∧(x≠ .undef→a.cells=[a])∧(x= .undef→a= .undef):=by
 cases sh with
 |sc=>
  simp only [aR] at ht;split at ht
  ·rename_i hp;simp only [Option.some.injEq,Prod.mk.injEq] at ht;obtain ⟨rfl,rfl⟩:=ht;rw [pV hp] at hw;simp only [Prod.mk.injEq] at hw;obtain ⟨rfl,rfl⟩:=hw;exact ⟨φ,.refl hd,pU hp hx,fun hu=>iG hu (by rintro cs rfl;simp [de] at hp),fun h=>h⟩
  ·simp at ht
 |sl es=>
  have kf: ∀{v0:Option Addr},v= .slice v0 0 0→aD (.own es.length []) H=(a,H1)→L1=L→ ∃ φ1,bZ w L φL AL H φ AH L1 H1 φ1∧R w H1 φ1 AH a v∧a.cells=[a]:=by
   intro v0 hv hw hL;subst hL;simp only [aD,aE,Prod.mk.injEq] at hw;obtain ⟨rfl,rfl⟩:=hw;have m:=newAt (bZ.refl hd) (sz:=es.length) (fx:=false) (el:=[]) (loc:= .aO) (by simp) (fun _=>rfl) (by simp)
   refine ⟨_,m,?_,rfl⟩;refine .ref _ _ _ _ _ (Nat.lt_succ_self _) ⟨_,_,hv⟩ fun b hb=> ?_;have:=ju (J.dH H es.length false []) hb;subst this;exact ⟨.aO,v0,0,by simp,hv,by simp,Nat.le_refl _,by simp,rfl,fun _=>rfl⟩
  cases x with
  |nil=>
   simp only [aR,Option.some.injEq,Prod.mk.injEq] at ht;obtain ⟨rfl,rfl⟩:=ht;obtain ⟨φ1,h1,h2,h3⟩:=kf hx.cR hw rfl;exact ⟨φ1,h1,h2,fun _=>h3,fun h=>by simp at h⟩
  |e0=>
   simp only [aR,Option.some.injEq,Prod.mk.injEq] at ht;obtain ⟨rfl,rfl⟩:=ht;obtain ⟨a0,kg⟩:=hx.ek;obtain ⟨φ1,h1,h2,h3⟩:=kf kg hw rfl;exact ⟨φ1,h1,h2,fun _=>h3,fun h=>by simp at h⟩
  |fz xs=>
   simp only [aR,Option.some.injEq,Prod.mk.injEq] at ht;obtain ⟨rfl,rfl⟩:=ht;simp only [aD,Prod.mk.injEq] at hw;obtain ⟨rfl,rfl⟩:=hw;rcases hk with hk|hk
   ·exact ⟨φ,.refl hd,.fr _ _ (hx.dF.shrink hk),fun _=>rfl,fun h=>by simp at h⟩
   ·simp [cc] at hk
  |ref id ad off len=>
   simp only [aR] at ht;split at ht
   ·rename_i b hb;split at ht
    ·rename_i hc;obtain ⟨c1,c2,c3⟩:=hc;split at ht
     ·rename_i ys L' hm
      simp only [Option.some.injEq,Prod.mk.injEq] at ht;obtain ⟨rfl,rfl⟩:=ht;simp only [aD,Prod.mk.injEq] at hw;obtain ⟨rfl,rfl⟩:=hw;have hg:=(J.bn hb).1;obtain ⟨bM,_,hr⟩:=hx.dG;obtain ⟨loc,a0,cap,q1,rfl,q3,q4,q5,q6⟩:=(hr b hb).out;obtain ⟨bk,aU,af⟩:=hd.sl.ap id _ q1;rw [hg] at aU;simp only [Option.some.injEq] at aU;subst aU;have bu:dy AL AH ys:=by
       rcases hk with h|h
       ·exact .inl h
       ·exact .inr (by simpa [cc] using h)
      have cA:=bj.del L id;have bR:bP w (L.del id) (aB φL (L.del id)) AL H φ AH:=⟨dK hd.sl cA,hd.sh,fun c hc=>hd.bY c (bA hc),fun c hc=>hd.dT c (bA hc)⟩
      have a_:(aF b.el off len).length=len:=by simp [aF];omega
      have fC: ∀(i:Nat) (x:AV),(aF b.el off len)[i]? =some x→b.el[off+i]? =some x:=by
       intro i x hi;simp only [aF,List.getElem?_take,List.getElem?_drop] at hi;split at hi
       ·exact hi
       ·simp at hi
      let g:Nat→Nat→Value:=match loc with
       | .aO=>fun _ _=>undef
       | .at_ c b0=>fun i j=>match w.heap[c]? with
        |some (.cells arr _ _)=>arr.getD (b0+(off+i)*es.length+j) undef
        |_=>undef
      have gA: ∀(i:Nat) (x:AV) (j:Nat) (c:AV),(aF b.el off len)[i]? =some x→x.cells[j]? =some c→R w (L.del id) (aB φL (L.del id)) AL c (g i j):=by
       intro i x j c hi hj;have bq:=fC i x hi
       have b8:i<len:=by rw [←a_];exact (List.getElem?_eq_some_iff.1 hi).1
       cases loc with
       |aO=>have:=af.aO rfl;rw [this] at bq;simp at bq
       |at_ c0 b0=>
        obtain ⟨arr,T,fr,k1,k2,k3,k4⟩:=af.here c0 b0 rfl;have dx:j<b.sz:=by rw [←af.sized _ _ bq];exact (List.getElem?_eq_some_iff.1 hj).1
        have hle:=ct (n:=b.sz) (show off+i<b.el.length by omega)
        have aw:b0+(off+i)*b.sz+j<arr.size:=by omega
        have:g i j=arr[b0+(off+i)*b.sz+j]:=by
         simp only [g,k1,←c1,Array.getD_eq_getD_getElem?,Array.getElem?_eq_getElem aw,Option.getD_some]
        rw [this];exact ((k4 _ _ _ _ _ bq hj (Array.getElem?_eq_getElem aw)).1).mono (cI cA)
      obtain ⟨φ1,m,l1,s1,r1⟩:=nB (w:=w) (es:=es) (fun x vs L φL AL H φ AH y L1 a H1=>lA es x vs L φL AL H φ AH y L1 a H1) _ g _ _ _ _ _ _ _ _ _ _ bR gA hm rfl bu
      rw [a_] at l1;have kh: ∀(i:Nat) (a:AV),(aE ys H).1[i]? =some a→a.cells.length=b.sz:=by
       intro i a ha;have b8:i<(aF b.el off len).length:=by rw [a_,←l1];exact (List.getElem?_eq_some_iff.1 ha).1
       have hM:=List.getElem?_eq_getElem b8;rw [s1 i _ a hM ha];exact af.sized _ _ (fC i _ hM)
      have nG: ∀c b0 arr T fr,loc= .at_ c b0→w.heap[c]? =some (.cells arr T fr)→ ∀(i j:Nat) (v:Value),i<len→j<b.sz→arr[b0+(off+i)*b.sz+j]? =some v→g i j=v:=by
       intro c b0 arr T fr hl hh i j v _ _ hv;subst hl;simp only [g,hh,←c1,Array.getD_eq_getD_getElem?,hv,Option.getD_some]
      let loc' :Loc:=match loc with
       | .aO=> .aO
       | .at_ c b0=>if cap=0 then .aO else .at_ c (b0+off*b.sz)
      have gD:loc' = .aO∧len=0∨ ∃c b0,loc= .at_ c b0∧loc' = .at_ c (b0+off*b.sz):=by
       cases loc with
       |aO=>left;refine ⟨rfl,?_⟩;have:=af.aO rfl;rw [this] at q3;simp at q3;omega
       |at_ c b0=>
        by_cases dV:cap=0
        ·left;exact ⟨by simp [loc',dV],by omega⟩
        ·right;exact ⟨c,b0,rfl,by simp [loc',dV]⟩
      have M:=ly hd hb c2 rfl q1 nG m l1 kh r1 false loc' gD
      rw [c1] at M;refine ⟨_,M,?_,fun _=>rfl,fun h=>by simp at h⟩
      refine .ref _ _ _ _ _ (Nat.lt_succ_self _) ⟨a0,cap,by rw [l1]⟩ fun b' ax=> ?_
      have:=ju (J.dH (aE ys H).2 es.length false (aE ys H).1) ax;subst this;refine ⟨loc',a0,cap,by simp,by rw [l1],by simp,by omega,by simp only;omega,?_⟩
      cases loc with
      |aO=>
       simp only at q6;have dt:len=0:=by have:=af.aO rfl;rw [this] at q3;simp at q3;omega
       refine ⟨List.eq_nil_of_length_eq_zero (by rw [l1,dt]),fun _=> ?_⟩
       rcases c3 with c3|c3
       ·exact q6.2 c3
       ·omega
      |at_ c b0=>
       simp only at q6;by_cases dV:cap=0
       ·simp only [loc',dV,if_true];exact ⟨List.eq_nil_of_length_eq_zero (by omega),fun _=>by first|trivial|omega|rfl⟩
       ·simp only [loc',dV,if_false];rcases q6 with q6|⟨h1,h2⟩
        ·exact absurd q6 dV
        ·refine Or.inr ⟨by rw [h1];simp,?_⟩
         rw [c1] at h2⊢;have:(off+cap)*es.length=off*es.length+cap*es.length:=Nat.add_mul _ _ _;simp only [Nat.zero_add];omega
     ·simp at ht
    ·simp at ht
   ·simp at ht
  |_=>simp [aR] at ht
 |pt es=>
  cases x with
  |fe z o=>
   simp only [aR,Option.some.injEq,Prod.mk.injEq] at ht;obtain ⟨rfl,rfl⟩:=ht;simp only [aD,Prod.mk.injEq] at hw;obtain ⟨rfl,rfl⟩:=hw;rcases hk with hk|hk
   ·exact ⟨φ,.refl hd,.fr _ _ (hx.ej.shrink hk),fun _=>rfl,fun h=>by simp at h⟩
   ·simp [cc] at hk
  |ptr id ad idx off=>
   rcases idx with _|idx
   rotate_left
   ·simp [aR] at ht
   rcases off with _|off
   rotate_left
   ·simp [aR] at ht
   simp only [aR] at ht;split at ht
   ·rename_i nH sz nI z hb;split at ht
    ·rename_i y' L' hm
     simp only [Option.some.injEq,Prod.mk.injEq] at ht;obtain ⟨rfl,rfl⟩:=ht;simp only [aD,Prod.mk.injEq] at hw;obtain ⟨rfl,rfl⟩:=hw;have hg:=(J.bn hb).1;obtain ⟨bM,_,hr⟩:=hx.eW;obtain ⟨c,b0,q1,rfl⟩:=hr _ hb;obtain ⟨bk,aU,af⟩:=hd.sl.ap id _ q1;rw [hg] at aU;simp only [Option.some.injEq] at aU;subst aU;obtain ⟨arr,T,fr,k1,k2,k3,k4⟩:=af.here c b0 rfl;have bu:fB AL AH y' :=by
      rcases hk with h|h
      ·exact .inl h
      ·exact .inr (by simpa [cc] using h)
     have cA:=bj.del L id;have bR:bP w (L.del id) (aB φL (L.del id)) AL H φ AH:=⟨dK hd.sl cA,hd.sh,fun c hc=>hd.bY c (bA hc),fun c hc=>hd.dT c (bA hc)⟩
     have cU:z.cells.length=sz:=af.sized 0 z rfl;simp only [List.length_singleton,Nat.one_mul] at k3
     let vs:List Value:=(arr.extract b0 (b0+sz)).toList
     have dg:vs.length=sz:=by simp [vs];omega
     have fD: ∀j u,vs[j]? =some u→arr[b0+j]? =some u:=by
      intro j u hu;simp only [vs,Array.getElem?_toList,Array.getElem?_extract] at hu;split at hu
      ·exact hu
      ·simp at hu
     obtain ⟨φ1,m,l1,r1⟩:=lA es z vs _ _ _ _ _ _ _ _ _ _ bR (by rw [dg,cU]) (fun j c' u hj hu=>((k4 0 z j c' u rfl hj (by simpa using fD j u hu)).1).mono (cI cA)) hm rfl bu
     have M:=ly (as:=[(aD y' H).1]) (n:=1) (off:=0) (sz:=sz) (loc' := .at_ c b0) (g:=fun i j=>vs.getD j undef) hd hb (by simp) rfl q1 (fun c' nJ arr' T' ez hl hh i j v hi hj hv=>by
      simp only [Loc.at_.injEq] at hl;obtain ⟨rfl,rfl⟩:=hl;rw [k1] at hh;simp only [Option.some.injEq,Obj.cells.injEq] at hh;obtain ⟨rfl,_,_⟩:=hh;have iH:i=0:=by omega
      subst iH;simp only [Nat.zero_mul,Nat.add_zero] at hv;have:vs[j]? =some v:=by
       simp only [vs,Array.getElem?_toList,Array.getElem?_extract];rw [if_pos (by omega)];exact hv
      simp [List.getD,this]) m rfl (fun i a ha=>by
      cases i with
      |zero=>simp at ha;subst ha;rw [l1,cU]
      |succ i=>simp at ha) (fun i a j c' ha hc=>by
      cases i with
      |zero=>
       simp at ha;subst ha;have hj:j<vs.length:=by rw [dg,←cU,←l1];exact (List.getElem?_eq_some_iff.1 hc).1
       have:=r1 j c' vs[j] hc (List.getElem?_eq_getElem hj)
       simpa [List.getD,hj] using this
      |succ i=>simp at ha) false (.inr ⟨c,b0,rfl,by simp⟩)
     refine ⟨_,M,?_,fun _=>rfl,fun h=>by simp at h⟩
     refine .ptr _ _ _ _ _ (Nat.lt_succ_self _) ⟨_,rfl⟩ fun b' ax=>⟨c,b0,by simp,?_⟩
     simp
    ·simp at ht
   ·simp at ht
  |_=>simp [aR] at ht
 termination_by (SizeOf.sizeOf sh,0)
theorem lA (es:List Sh) (x:AV) (vs:List Value) (L:J) (φL:ag) (AL:ah) (H:J) (φ :ag) (AH:ah) (y:AV) (L1:J) (a:AV) (H1:J) (hd:bP w L φL AL H φ AH) (hl:x.cells.length=vs.length)
 (hx: ∀(j:Nat) (c:AV) (u:Value),x.cells[j]? =some c→vs[j]? =some u→R w L φL AL c u) (ht:aY es x L=some (y,L1)) (hw:aD y H=(a,H1)) (hk:fB AL AH y):
 ∃ φ1,bZ w L φL AL H φ AH L1 H1 φ1∧a.cells.length=x.cells.length∧ ∀(j:Nat) (c:AV) (u:Value),a.cells[j]? =some c→vs[j]? =some u→R w H1 φ1 AH c u:=by
 by_cases bO: ∃cs,x= .agg cs
 ·obtain ⟨cs,rfl⟩:=bO;have cJ: ∃aS,cj es cs L=some (aS,L1)∧y= .agg aS:=by
   match es,ht with
   |[],ht=>
    simp only [aY] at ht;split at ht
    ·rename_i aS L' hc
     simp only [Option.some.injEq,Prod.mk.injEq] at ht;obtain ⟨rfl,rfl⟩:=ht;exact ⟨aS,hc,rfl⟩
    ·simp at ht
   |[e],ht=>
    simp only [aY] at ht;split at ht
    ·rename_i aS L' hc
     simp only [Option.some.injEq,Prod.mk.injEq] at ht;obtain ⟨rfl,rfl⟩:=ht;exact ⟨aS,hc,rfl⟩
    ·simp at ht
   |e::e' ::es,ht=>
    simp only [aY] at ht;split at ht
    ·rename_i aS L' hc
     simp only [Option.some.injEq,Prod.mk.injEq] at ht;obtain ⟨rfl,rfl⟩:=ht;exact ⟨aS,hc,rfl⟩
    ·simp at ht
  obtain ⟨aS,hc,rfl⟩:=cJ;simp only [aD,Prod.mk.injEq] at hw;obtain ⟨rfl,rfl⟩:=hw;have bu:dy AL AH aS:=by
   rcases hk with h|h
   ·exact .inl h
   ·exact .inr (by simpa [cc] using h)
  exact nK es cs vs L φL AL H φ AH aS L1 _ _ hd hl hx hc rfl bu
 ·have c9: ∀cs,x≠ .agg cs:=fun cs h=>bO ⟨cs,h⟩
  match es,ht with
  |[e],ht=>
   have cJ:aR e x L=some (y,L1):=by
    cases x<;>first|(simpa only [aY] using ht)|exact absurd rfl (c9 _)
   by_cases hu:x= .undef
   ·subst hu;have fl:vs=[]:=List.eq_nil_of_length_eq_zero (by simpa [AV.cells] using hl.symm)
    subst fl;obtain ⟨φ1,m,_,_,h4⟩:=lz e .undef undef L φL AL H φ AH y L1 a H1 hd (.fr _ _ (.undef _)) cJ hw hk
    exact ⟨φ1,m,by rw [h4 rfl],by simp⟩
   ·have cX:=iG hu c9;rw [cX] at hl;obtain ⟨v,rfl⟩: ∃v,vs=[v]:=by
     match vs,hl with
     |[v],_=>exact ⟨v,rfl⟩
    obtain ⟨φ1,m,h2,h3,_⟩:=lz e x v L φL AL H φ AH y L1 a H1 hd (hx 0 x v (by rw [cX];rfl) rfl) cJ hw hk
    refine ⟨φ1,m,by rw [h3 hu,cX];rfl,fun j c u hj aJ=> ?_⟩
    rw [h3 hu] at hj;cases j with
    |zero=>simp at hj aJ;subst hj;subst aJ;exact h2
    |succ j=>simp at hj
  |[],ht=>cases x<;>first|(simp [aY] at ht;done)|exact absurd rfl (c9 _)
  |_::_::_,ht=>cases x<;>first|(simp [aY] at ht;done)|exact absurd rfl (c9 _)
 termination_by (SizeOf.sizeOf es,1)
theorem nK (es:List Sh) (cs:List AV) (vs:List Value) (L:J) (φL:ag) (AL:ah) (H:J) (φ :ag) (AH:ah) (ys:List AV) (L1:J) (as:List AV) (H1:J) (hd:bP w L φL AL H φ AH) (hl:cs.length=vs.length)
 (hx: ∀(j:Nat) (c:AV) (u:Value),cs[j]? =some c→vs[j]? =some u→R w L φL AL c u) (ht:cj es cs L=some (ys,L1)) (hw:aE ys H=(as,H1)) (hk:dy AL AH ys):
 ∃ φ1,bZ w L φL AL H φ AH L1 H1 φ1∧as.length=cs.length∧ ∀(j:Nat) (c:AV) (u:Value),as[j]? =some c→vs[j]? =some u→R w H1 φ1 AH c u:=by
 match es,cs,ht with
 |[],[],ht=>
  simp only [cj,Option.some.injEq,Prod.mk.injEq] at ht;obtain ⟨rfl,rfl⟩:=ht;simp only [aE,Prod.mk.injEq] at hw;obtain ⟨rfl,rfl⟩:=hw;exact ⟨φ,.refl hd,rfl,by simp⟩
 |e::es,x::cs,ht=>
  simp only [cj] at ht;split at ht
  ·rename_i y L' h1
   split at ht
   ·rename_i aQ cL h2
    simp only [Option.some.injEq,Prod.mk.injEq] at ht;obtain ⟨rfl,rfl⟩:=ht;simp only [aE,Prod.mk.injEq] at hw;obtain ⟨rfl,rfl⟩:=hw;obtain ⟨k1,k2⟩:=hk.cons
    match vs,hl with
    |v::vs,hl=>
     obtain ⟨φ1,m1,r1,_,_⟩:=lz e x v L φL AL H φ AH y L' _ _ hd (hx 0 x v rfl rfl) h1 rfl k1
     obtain ⟨a3,m2,l2,r2⟩:=nK es cs vs L' (aB φL L') AL _ φ1 AH aQ cL _ _ m1.bd (by simpa using hl) (fun j c u hj hu=>(hx (j+1) c u hj hu).mono (cI m1.less)) h2 rfl k2
     refine ⟨a3,m1.trans m2,by simp [l2],fun j c u hj hu=> ?_⟩
     cases j with
     |zero=>simp at hj hu;subst hj;subst hu;exact r1.mono m2.eh
     |succ j=>exact r2 j c u hj hu
   ·simp at ht
  ·simp at ht
 |[],_::_,ht=>simp [cj] at ht
 |_::_,[],ht=>simp [cj] at ht
 termination_by (SizeOf.sizeOf es,0)
end
end bd
end Go.VS
namespace Go.VS
section bd
variable {w:World}
theorem R.lB {H:J} {φ :ag} {A A' :ah} (hA: ∀c,A' c→A c) {x:AV} {v:Value} (h:R w H φ A x v):R w H φ A' x v:=
 h.mono ⟨fun c _arr _T fr hc hn=>⟨⟨fr,hc⟩,fun h=>hn (hA c h)⟩,Nat.le_refl _,fun _id b h _=>⟨b,h,rfl,rfl,rfl,rfl,fun _ h=>h⟩,fun _ _=>rfl⟩
theorem kj {es:List Sh} {cs:List AV} {L L1:J} {y:AV} (ht:aY es (.agg cs) L=some (y,L1)): ∃aS,cj es cs L=some (aS,L1)∧y= .agg aS:=by
 match es,ht with
 |[],ht=>
  simp only [aY] at ht;split at ht
  ·rename_i aS L' hc
   simp only [Option.some.injEq,Prod.mk.injEq] at ht;obtain ⟨rfl,rfl⟩:=ht;exact ⟨aS,hc,rfl⟩
  ·simp at ht
 |[e],ht=>
  simp only [aY] at ht;split at ht
  ·rename_i aS L' hc
   simp only [Option.some.injEq,Prod.mk.injEq] at ht;obtain ⟨rfl,rfl⟩:=ht;exact ⟨aS,hc,rfl⟩
  ·simp at ht
 |e::e' ::es,ht=>
  simp only [aY] at ht;split at ht
  ·rename_i aS L' hc
   simp only [Option.some.injEq,Prod.mk.injEq] at ht;obtain ⟨rfl,rfl⟩:=ht;exact ⟨aS,hc,rfl⟩
  ·simp at ht
theorem iI {es:List Sh} {x:AV} (hx: ∀cs,x≠ .agg cs) {L L1:J} {y:AV} (ht:aY es x L=some (y,L1)): ∃e,es=[e]∧aR e x L=some (y,L1):=by
 match es,ht with
 |[e],ht=>
  refine ⟨e,rfl,?_⟩;cases x<;>first|(simpa only [aY] using ht)|exact absurd rfl (hx _)
 |[],ht=>cases x<;>first|(simp [aY] at ht;done)|exact absurd rfl (hx _)
 |_::_::_,ht=>cases x<;>first|(simp [aY] at ht;done)|exact absurd rfl (hx _)
theorem pW {es:List Sh} {x:AV} {v:Value} {L:J} {φL:ag} {AL:ah} {H:J} {φ :ag} {AH:ah} {y:AV} {L1:J} {a:AV} {H1:J} (hd:bP w L φL AL H φ AH) (hx:R w L φL AL x v)
 (ht:aY es x L=some (y,L1)) (hw:aD y H=(a,H1)) (hk:fB AL AH y): ∃ φ1,bZ w L φL AL H φ AH L1 H1 φ1∧R w H1 φ1 AH a v:=by
 by_cases bO: ∃cs,x= .agg cs
 ·obtain ⟨cs,rfl⟩:=bO;obtain ⟨aS,hc,rfl⟩:=kj ht;simp only [aD,Prod.mk.injEq] at hw;obtain ⟨rfl,rfl⟩:=hw;have bu:dy AL AH aS:=by
   rcases hk with h|h
   ·exact .inl h
   ·exact .inr (by simpa [cc] using h)
  obtain ⟨vs,rfl,hl,ho,hp⟩:=hx.fm;obtain ⟨φ1,m,l1,r1⟩:=nK es cs vs.toList L φL AL H φ AH aS L1 _ _ hd (by simpa using hl) (fun j c u hj hu=>hp j c u hj (by simpa using hu)) hc rfl bu
  exact ⟨φ1,m,.agg _ _ (by rw [l1,hl]) ho fun i x v hx hv=>r1 i x v hx (by simpa using hv)⟩
 ·obtain ⟨e,rfl,cJ⟩:=iI (fun cs h=>bO ⟨cs,h⟩) ht;obtain ⟨φ1,m,r,_⟩:=lz e x v L φL AL H φ AH y L1 a H1 hd hx cJ hw hk
  exact ⟨φ1,m,r⟩
def gone (φ :ag) (A:ah) (L1:J):ah:=fun c=>A c∧(Ow φ c→Ow (aB φ L1) c)
theorem nL {φ :ag} {A:ah} {L L1:J} (h:bj L L1) {c:Nat} (hc:gone φ A L1 c):gone φ A L c:=
 ⟨hc.1,fun ho=>by
  obtain ⟨i,b,hi⟩:=hc.2 ho;obtain ⟨h1,bk,h2⟩:=cW hi;exact ⟨i,b,by simp [aB,h.get _ _ h2,h1]⟩⟩
theorem pX {w:World} {L L1:J} {φ :ag} {A:ah} (ae:St w L φ A) {id c b0:Nat} (h: φ id=some (.at_ c b0)) (hn:L1.get id=none): ¬gone φ A L1 c:=by
 rintro ⟨_,h2⟩;obtain ⟨i,b,hi⟩:=h2 ⟨id,b0,h⟩;obtain ⟨h1,bk,h3⟩:=cW hi;have:=ae.inj _ _ _ _ _ h1 h;subst this;rw [hn] at h3;simp at h3
theorem wP {x:AV} (hp:de x=true):bh x=x:=by
 cases x<;>first|rfl|simp [de] at hp
theorem wQ {L:J} {φL:ag} {AL A' :ah} {x:AV} {v:Value} (hp:de x=true) (h:R w L φL AL x v):FR w A' x v:=by
 cases x with
 |undef=>exact .undef _
 |int k n=>have:=h.cp;subst this;exact .int _ _
 |bool b=>have:=h.eB;subst this;exact .bool _
 |str s=>obtain ⟨b,rfl,rfl⟩:=h.eC;exact .str _
 |b9 b=>rcases h.jj with ⟨rfl,rfl⟩|⟨rfl,t,u,rfl⟩;exact .ji;exact .err _ _
 |dc=>cases h with|fr _ _ h=>cases h;exact .dc
 |_=>simp [de] at hp
theorem lC {f:AV→J→Option (AV×J)} (hf: ∀x L y L1,f x L=some (y,L1)→bj L L1): ∀(xs:List AV) (L:J) (ys:List AV) (L1:J),cZ f xs L=some (ys,L1)→bj L L1
 |[],L,ys,L1,h=>by simp [cZ] at h;obtain ⟨_,rfl⟩:=h;exact .refl _
 |x::xs,L,ys,L1,h=>by
  simp only [cZ] at h;split at h
  ·rename_i y L' h1
   split at h
   ·rename_i aQ cL h2
    simp only [Option.some.injEq,Prod.mk.injEq] at h;obtain ⟨_,rfl⟩:=h;exact (hf _ _ _ _ h1).trans (lC hf xs L' aQ _ h2)
   ·simp at h
  ·simp at h
mutual
theorem nM: ∀(sh:Sh) (x:AV) (L:J) (y:AV) (L1:J),aR sh x L=some (y,L1)→bj L L1
 | .sc,x,L,y,L1,ht=>by
  simp only [aR] at ht;split at ht
  ·simp only [Option.some.injEq,Prod.mk.injEq] at ht;obtain ⟨_,rfl⟩:=ht;exact .refl _
  ·simp at ht
 | .sl es,x,L,y,L1,ht=>by
  cases x with
  |ref id ad off len=>
   simp only [aR] at ht;split at ht
   ·split at ht
    ·split at ht
     ·rename_i ys L' hm
      simp only [Option.some.injEq,Prod.mk.injEq] at ht;obtain ⟨_,rfl⟩:=ht;exact (bj.del L id).trans (lC (fun x L y L1 h=>e9 es x L y L1 h) _ _ _ _ hm)
     ·simp at ht
    ·simp at ht
   ·simp at ht
  |_=>first
   |(simp [aR] at ht;done)
   |(simp only [aR,Option.some.injEq,Prod.mk.injEq] at ht;obtain ⟨_,rfl⟩:=ht;exact .refl _)
 | .pt es,x,L,y,L1,ht=>by
  cases x with
  |fe z o=>simp only [aR,Option.some.injEq,Prod.mk.injEq] at ht;obtain ⟨_,rfl⟩:=ht;exact .refl _
  |ptr id ad idx off=>
   rcases idx with _|idx
   rotate_left
   ·simp [aR] at ht
   rcases off with _|off
   rotate_left
   ·simp [aR] at ht
   simp only [aR] at ht;split at ht
   ·split at ht
    ·rename_i y' L' hm
     simp only [Option.some.injEq,Prod.mk.injEq] at ht;obtain ⟨_,rfl⟩:=ht;exact (bj.del L id).trans (e9 es _ _ _ _ hm)
    ·simp at ht
   ·simp at ht
  |_=>simp [aR] at ht
 termination_by sh=>(SizeOf.sizeOf sh,0)
theorem e9: ∀(es:List Sh) (x:AV) (L:J) (y:AV) (L1:J),aY es x L=some (y,L1)→bj L L1
 |es,x,L,y,L1,ht=>by
  by_cases bO: ∃cs,x= .agg cs
  ·obtain ⟨cs,rfl⟩:=bO;obtain ⟨aS,hc,_⟩:=kj ht;exact nN es cs L aS L1 hc
  ·obtain ⟨e,rfl,cJ⟩:=iI (fun cs h=>bO ⟨cs,h⟩) ht;exact nM e x L y L1 cJ
 termination_by es=>(SizeOf.sizeOf es,1)
theorem nN: ∀(es:List Sh) (cs:List AV) (L:J) (ys:List AV) (L1:J),cj es cs L=some (ys,L1)→bj L L1
 |[],[],L,ys,L1,ht=>by simp [cj] at ht;obtain ⟨_,rfl⟩:=ht;exact .refl _
 |e::es,x::cs,L,ys,L1,ht=>by
  simp only [cj] at ht;split at ht
  ·rename_i y L' h1
   split at ht
   ·rename_i aQ cL h2
    simp only [Option.some.injEq,Prod.mk.injEq] at ht;obtain ⟨_,rfl⟩:=ht;exact (nM e x L y L' h1).trans (nN es cs L' aQ _ h2)
   ·simp at ht
  ·simp at ht
 |[],_::_,_,_,_,ht=>by simp [cj] at ht
 |_::_,[],_,_,_,ht=>by simp [cj] at ht
 termination_by es=>(SizeOf.sizeOf es,0)
end
theorem pY {es:List Sh} {A' :ah} (hE: ∀(x:AV) (vs:List Value) (L:J) (φL:ag) (AL:ah) (y:AV) (L1:J),St w L φL AL→x.cells.length=vs.length→
 (∀(j:Nat) (c:AV) (u:Value),x.cells[j]? =some c→vs[j]? =some u→R w L φL AL c u)→aY es x L=some (y,L1)→(∀c,A' c→gone φL AL L1 c)→
 (bh y).cells.length=x.cells.length∧ ∀(j:Nat) (c:AV) (u:Value),(bh y).cells[j]? =some c→vs[j]? =some u→FR w A' c u):
 ∀(xs:List AV) (g:Nat→Nat→Value) (L:J) (φL:ag) (AL:ah) (ys:List AV) (L1:J),St w L φL AL→
  (∀(i:Nat) (x:AV) (j:Nat) (c:AV),xs[i]? =some x→x.cells[j]? =some c→R w L φL AL c (g i j))→cZ (aY es) xs L=some (ys,L1)→(∀c,A' c→gone φL AL L1 c)→
  (bK ys).length=xs.length∧(∀(i:Nat) (x a:AV),xs[i]? =some x→(bK ys)[i]? =some a→a.cells.length=x.cells.length)∧
   ∀(i:Nat) (a:AV) (j:Nat) (c:AV),(bK ys)[i]? =some a→a.cells[j]? =some c→FR w A' c (g i j)
 |[],g,L,φL,AL,ys,L1,hd,_,ht,hk=>by
  simp only [cZ,Option.some.injEq,Prod.mk.injEq] at ht;obtain ⟨rfl,rfl⟩:=ht;exact ⟨rfl,by simp,by simp [bK]⟩
 |x::xs,g,L,φL,AL,ys,L1,hd,hr,ht,hk=>by
  simp only [cZ] at ht;split at ht
  ·rename_i y L' h1
   split at ht
   ·rename_i aQ cL h2
    simp only [Option.some.injEq,Prod.mk.injEq] at ht;obtain ⟨rfl,rfl⟩:=ht
    let vs:List Value:=(List.range x.cells.length).map (g 0)
    have dW:=e9 es x L y L' h1
    have cV:=lC (fun x L y L1 h=>e9 es x L y L1 h) _ _ _ _ h2;obtain ⟨l1,r1⟩:=hE x vs L φL AL y L' hd (by simp [vs]) (fun j c u hj hu=>by
     have dx:j<x.cells.length:=(List.getElem?_eq_some_iff.1 hj).1;have:vs[j]? =some (g 0 j):=by simp [vs,dx]
     rw [this] at hu;simp only [Option.some.injEq] at hu;subst hu;exact hr 0 x j c rfl hj) h1 (fun c hc=>nL cV (hk c hc))
    obtain ⟨l2,s2,r2⟩:=pY hE xs (fun i j=>g (i+1) j) L' (aB φL L') AL aQ cL (dK hd dW) (fun i x' j c hi hj=>(hr (i+1) x' j c hi hj).mono (cI dW)) h2 (fun c hc=>by
     obtain ⟨k1,k2⟩:=hk c hc;exact ⟨k1,fun ho=>by rw [fA cV];exact k2 (bA ho)⟩)
    refine ⟨by simp [bK,l2],fun i x' a hx ha=> ?_,fun i a j c ha hc=> ?_⟩
    ·cases i with
     |zero=>simp [bK] at hx ha;subst hx;subst ha;exact l1
     |succ i=>simp [bK] at hx ha;exact s2 i x' a hx ha
    ·cases i with
     |zero=>
      simp only [bK,List.getElem?_cons_zero,Option.some.injEq] at ha;subst ha;have hj:j<x.cells.length:=by rw [←l1];exact (List.getElem?_eq_some_iff.1 hc).1
      exact r1 j c (g 0 j) hc (by simp [vs,hj])
     |succ i=>exact r2 i a j c (by simpa [bK] using ha) hc
   ·simp at ht
  ·simp at ht
mutual
theorem lD (sh:Sh) (x:AV) (v:Value) (L:J) (φL:ag) (AL A' :ah) (y:AV) (L1:J) (ae:St w L φL AL) (hx:R w L φL AL x v)
 (ht:aR sh x L=some (y,L1)) (hk: ∀c,A' c→gone φL AL L1 c):FR w A' (bh y) v∧(x≠ .undef→(bh y).cells=[bh y])∧(x= .undef→bh y= .undef):=by
 cases sh with
 |sc=>
  simp only [aR] at ht;split at ht
  ·rename_i hp;simp only [Option.some.injEq,Prod.mk.injEq] at ht;obtain ⟨rfl,rfl⟩:=ht;rw [wP hp];exact ⟨wQ hp hx,fun hu=>iG hu (by rintro cs rfl;simp [de] at hp),fun h=>h⟩
  ·simp at ht
 |sl es=>
  cases x with
  |nil=>
   simp only [aR,Option.some.injEq,Prod.mk.injEq] at ht;obtain ⟨rfl,rfl⟩:=ht;have:=hx.cR;subst this;exact ⟨.cG _ _,fun _=>rfl,fun h=>by simp at h⟩
  |e0=>
   simp only [aR,Option.some.injEq,Prod.mk.injEq] at ht;obtain ⟨rfl,rfl⟩:=ht;obtain ⟨a0,rfl⟩:=hx.ek;exact ⟨.cG _ _,fun _=>rfl,fun h=>by simp at h⟩
  |fz xs=>
   simp only [aR,Option.some.injEq,Prod.mk.injEq] at ht;obtain ⟨rfl,rfl⟩:=ht;exact ⟨hx.dF.shrink fun c hc=>(hk c hc).1,fun _=>rfl,fun h=>by simp at h⟩
  |ref id ad off len=>
   simp only [aR] at ht;split at ht
   ·rename_i b hb;split at ht
    ·rename_i hc;obtain ⟨c1,c2,c3⟩:=hc;split at ht
     ·rename_i ys L' hm
      simp only [Option.some.injEq,Prod.mk.injEq] at ht;obtain ⟨rfl,rfl⟩:=ht;have hg:=(J.bn hb).1;obtain ⟨bM,_,hr⟩:=hx.dG;obtain ⟨loc,a0,cap,q1,rfl,q3,q4,q5,q6⟩:=(hr b hb).out;obtain ⟨bk,aU,af⟩:=ae.ap id _ q1;rw [hg] at aU;simp only [Option.some.injEq] at aU;subst aU;have cA:=bj.del L id;have cV:=lC (fun x L y L1 h=>e9 es x L y L1 h) _ _ _ _ hm;have gF:L'.get id=none:=by
       cases hq:L'.get id with
       |none=>rfl
       |some b=>have:=cV.get _ _ hq;rw [J.hJ,if_pos rfl] at this;simp at this
      have a_:(aF b.el off len).length=len:=by simp [aF];omega
      have fC: ∀(i:Nat) (x:AV),(aF b.el off len)[i]? =some x→b.el[off+i]? =some x:=by
       intro i x hi;simp only [aF,List.getElem?_take,List.getElem?_drop] at hi;split at hi
       ·exact hi
       ·simp at hi
      refine ⟨?_,fun _=>rfl,fun h=>by simp at h⟩
      simp only [bh];rcases Nat.eq_zero_or_pos len with dt|wR
      ·subst dt;have:ys=[]:=by
        have h0:aF b.el off 0=[]:=by simp [aF]
        rw [h0] at hm;simp [cZ] at hm;exact hm.1
       subst this;exact .cG _ _
      ·cases loc with
       |aO=>have:=af.aO rfl;rw [this] at q3;simp at q3;omega
       |at_ c b0=>
        simp only at q6;rcases q6 with q6|⟨h1,h2⟩
        ·omega
        obtain ⟨arr,T,fr,k1,k2,k3,k4⟩:=af.here c b0 rfl
        let g:Nat→Nat→Value:=fun i j=>arr.getD (b0+(off+i)*b.sz+j) undef
        have ci: ∀(i:Nat) (x:AV) (j:Nat),(aF b.el off len)[i]? =some x→j<x.cells.length→b0+(off+i)*b.sz+j<arr.size:=by
         intro i x j hi hj;have bq:=fC i x hi
         have b8:i<len:=by rw [←a_];exact (List.getElem?_eq_some_iff.1 hi).1
         rw [af.sized _ _ bq] at hj;have hle:=ct (n:=b.sz) (show off+i<b.el.length by omega)
         omega
        have gA: ∀(i:Nat) (x:AV) (j:Nat) (c:AV),(aF b.el off len)[i]? =some x→x.cells[j]? =some c→R w (L.del id) (aB φL (L.del id)) AL c (g i j):=by
         intro i x j c' hi hj
         have aw:=ci i x j hi (List.getElem?_eq_some_iff.1 hj).1;have:g i j=arr[b0+(off+i)*b.sz+j]:=by
          simp only [g,Array.getD_eq_getD_getElem?,Array.getElem?_eq_getElem aw,Option.getD_some]
         rw [this];exact ((k4 _ _ _ _ _ (fC i x hi) hj (Array.getElem?_eq_getElem aw)).1).mono (cI cA)
        obtain ⟨l1,s1,r1⟩:=pY (A' :=A') (es:=es) (fun x vs L φL AL y L1=>pZ es x vs L φL AL A' y L1) _ g _ _ _ _ _ (dK ae cA) gA hm (fun c hc=>by
         obtain ⟨k1,k2⟩:=hk c hc;exact ⟨k1,fun ho=>by rw [fA cV];exact k2 (bA ho)⟩)
        rw [a_] at l1;have hmul:(off+len)*b.sz≤b.el.length*b.sz:=Nat.mul_le_mul_right _ q3;have wS:(off+len)*b.sz=off*b.sz+len*b.sz:=Nat.add_mul _ _ _;have gG:=FR.fz (A:=A') (bK ys) c (b0+off*b.sz) cap b.sz arr T fr k1 (fun hA=>pX ae q1 gF (hk c hA)) (by rw [l1];exact q4) (by rw [l1];omega)
         (fun i a ha=>by
          have hi:i<(aF b.el off len).length:=by rw [a_,←l1];exact (List.getElem?_eq_some_iff.1 ha).1
          rw [s1 i _ a (List.getElem?_eq_getElem hi) ha];exact af.sized _ _ (fC i _ (List.getElem?_eq_getElem hi)))
         (fun j v hj hv=>by
          rw [l1] at hj;have eA:0<b.sz:=by
           rcases Nat.eq_zero_or_pos b.sz with h|h
           ·rw [h] at hj;simp at hj
           ·exact h
          have wT:j/b.sz<len:=Nat.div_lt_of_lt_mul (by rw [Nat.mul_comm];exact hj)
          have nO:j % b.sz<b.sz:=Nat.mod_lt _ eA;have wU:j=(j/b.sz)*b.sz+j % b.sz:=by rw [Nat.mul_comm];exact (Nat.div_add_mod j b.sz).symm
          have cu:off+j/b.sz<b.el.length:=by omega
          have hx:=List.getElem?_eq_getElem cu;have ca:=af.sized _ _ hx;have e:b0+off*b.sz+j=b0+(off+j/b.sz)*b.sz+j % b.sz:=by rw [Nat.add_mul];omega
          rw [e] at hv;exact (k4 _ _ _ _ v hx (List.getElem?_eq_getElem (show j % b.sz<_ by rw [ca];exact nO)) hv).2)
         (fun i a j c' v ha hc hv=>by
          have e:b0+off*b.sz+i*b.sz+j=b0+(off+i)*b.sz+j:=by rw [Nat.add_mul];omega
          rw [e] at hv;have:g i j=v:=by simp only [g,Array.getD_eq_getD_getElem?,hv,Option.getD_some]
          rw [←this];exact r1 i a j c' ha hc)
        rw [l1] at gG;rw [h1];exact gG
     ·simp at ht
    ·simp at ht
   ·simp at ht
  |_=>simp [aR] at ht
 |pt es=>
  cases x with
  |fe z o=>
   simp only [aR,Option.some.injEq,Prod.mk.injEq] at ht;obtain ⟨rfl,rfl⟩:=ht;exact ⟨hx.ej.shrink fun c hc=>(hk c hc).1,fun _=>rfl,fun h=>by simp at h⟩
  |ptr id ad idx off=>
   rcases idx with _|idx
   rotate_left
   ·simp [aR] at ht
   rcases off with _|off
   rotate_left
   ·simp [aR] at ht
   simp only [aR] at ht;split at ht
   ·rename_i nH sz nI z hb;split at ht
    ·rename_i y' L' hm
     simp only [Option.some.injEq,Prod.mk.injEq] at ht;obtain ⟨rfl,rfl⟩:=ht;refine ⟨?_,fun _=>rfl,fun h=>by simp at h⟩
     have hg:=(J.bn hb).1;obtain ⟨bM,_,hr⟩:=hx.eW;obtain ⟨c,b0,q1,rfl⟩:=hr _ hb;obtain ⟨bk,aU,af⟩:=ae.ap id _ q1;rw [hg] at aU;simp only [Option.some.injEq] at aU;subst aU;obtain ⟨arr,T,fr,k1,k2,k3,k4⟩:=af.here c b0 rfl;have cA:=bj.del L id;have cV:=e9 es _ _ _ _ hm;have gF:L'.get id=none:=by
      cases hq:L'.get id with
      |none=>rfl
      |some b=>have:=cV.get _ _ hq;rw [J.hJ,if_pos rfl] at this;simp at this
     have cU:z.cells.length=sz:=af.sized 0 z rfl;simp only [List.length_singleton,Nat.one_mul] at k3
     let vs:List Value:=(arr.extract b0 (b0+sz)).toList
     have dg:vs.length=sz:=by simp [vs];omega
     have fD: ∀j u,vs[j]? =some u→arr[b0+j]? =some u:=by
      intro j u hu;simp only [vs,Array.getElem?_toList,Array.getElem?_extract] at hu;split at hu
      ·exact hu
      ·simp at hu
     obtain ⟨l1,r1⟩:=pZ es z vs _ _ _ A' _ _ (dK ae cA) (by rw [dg,cU]) (fun j c' u hj hu=>((k4 0 z j c' u rfl hj (by simpa using fD j u hu)).1).mono (cI cA)) hm (fun c hc=>by
      obtain ⟨k1,k2⟩:=hk c hc;exact ⟨k1,fun ho=>by rw [fA cV];exact k2 (bA ho)⟩)
     have:=FR.fe (A:=A') (bh y') 0 c b0 arr T fr k1 (fun hA=>pX ae q1 gF (hk c hA)) (by rw [l1,cU];exact k3)
      (fun j v hj hv=>by
       rw [l1] at hj;exact (k4 0 z j _ v rfl (List.getElem?_eq_getElem hj) (by simpa using hv)).2)
      (fun j c' v hc hv=>by
       have hj:j<sz:=by rw [←cU,←l1];exact (List.getElem?_eq_some_iff.1 hc).1
       exact r1 j c' v hc (by simp only [vs,Array.getElem?_toList,Array.getElem?_extract];rw [if_pos (by omega)];exact hv))
     simpa [bh] using this
    ·simp at ht
   ·simp at ht
  |_=>simp [aR] at ht
 termination_by (SizeOf.sizeOf sh,0)
theorem pZ (es:List Sh) (x:AV) (vs:List Value) (L:J) (φL:ag) (AL A' :ah) (y:AV) (L1:J) (ae:St w L φL AL) (hl:x.cells.length=vs.length)
 (hx: ∀(j:Nat) (c:AV) (u:Value),x.cells[j]? =some c→vs[j]? =some u→R w L φL AL c u) (ht:aY es x L=some (y,L1)) (hk: ∀c,A' c→gone φL AL L1 c):
 (bh y).cells.length=x.cells.length∧ ∀(j:Nat) (c:AV) (u:Value),(bh y).cells[j]? =some c→vs[j]? =some u→FR w A' c u:=by
 by_cases bO: ∃cs,x= .agg cs
 ·obtain ⟨cs,rfl⟩:=bO;obtain ⟨aS,hc,rfl⟩:=kj ht;exact nP es cs vs L φL AL A' aS L1 ae hl hx hc hk
 ·have c9: ∀cs,x≠ .agg cs:=fun cs h=>bO ⟨cs,h⟩;obtain ⟨e,rfl,cJ⟩:=iI c9 ht;by_cases hu:x= .undef
  ·subst hu;have fl:vs=[]:=List.eq_nil_of_length_eq_zero (by simpa [AV.cells] using hl.symm)
   subst fl;obtain ⟨_,_,h4⟩:=lD e .undef undef L φL AL A' y L1 ae (.fr _ _ (.undef _)) cJ hk
   exact ⟨by rw [h4 rfl],by simp⟩
  ·have cX:=iG hu c9;rw [cX] at hl;obtain ⟨v,rfl⟩: ∃v,vs=[v]:=by
    match vs,hl with
    |[v],_=>exact ⟨v,rfl⟩
   obtain ⟨h2,h3,_⟩:=lD e x v L φL AL A' y L1 ae (hx 0 x v (by rw [cX];rfl) rfl) cJ hk
   refine ⟨by rw [h3 hu,cX];rfl,fun j c u hj aJ=> ?_⟩
   rw [h3 hu] at hj;cases j with
   |zero=>simp at hj aJ;subst hj;subst aJ;exact h2
   |succ j=>simp at hj
 termination_by (SizeOf.sizeOf es,1)
theorem nP (es:List Sh) (cs:List AV) (vs:List Value) (L:J) (φL:ag) (AL A' :ah) (ys:List AV) (L1:J) (ae:St w L φL AL) (hl:cs.length=vs.length)
 (hx: ∀(j:Nat) (c:AV) (u:Value),cs[j]? =some c→vs[j]? =some u→R w L φL AL c u) (ht:cj es cs L=some (ys,L1)) (hk: ∀c,A' c→gone φL AL L1 c):
 (bK ys).length=cs.length∧ ∀(j:Nat) (c:AV) (u:Value),(bK ys)[j]? =some c→vs[j]? =some u→FR w A' c u:=by
 match es,cs,ht with
 |[],[],ht=>
  simp only [cj,Option.some.injEq,Prod.mk.injEq] at ht;obtain ⟨rfl,rfl⟩:=ht;exact ⟨rfl,by simp [bK]⟩
 |e::es,x::cs,ht=>
  simp only [cj] at ht;split at ht
  ·rename_i y L' h1
   split at ht
   ·rename_i aQ cL h2
    simp only [Option.some.injEq,Prod.mk.injEq] at ht;obtain ⟨rfl,rfl⟩:=ht;have dW:=nM e x L y L' h1
    have cV:=nN es cs L' aQ cL h2
    match vs,hl with
    |v::vs,hl=>
     obtain ⟨r1,_,_⟩:=lD e x v L φL AL A' y L' ae (hx 0 x v rfl rfl) h1 (fun c hc=>nL cV (hk c hc))
     obtain ⟨l2,r2⟩:=nP es cs vs L' (aB φL L') AL A' aQ cL (dK ae dW) (by simpa using hl) (fun j c u hj hu=>(hx (j+1) c u hj hu).mono (cI dW)) h2 (fun c hc=>by
      obtain ⟨k1,k2⟩:=hk c hc;exact ⟨k1,fun ho=>by rw [fA cV];exact k2 (bA ho)⟩)
     refine ⟨by simp [bK,l2],fun j c u hj hu=> ?_⟩
     cases j with
     |zero=>simp [bK] at hj hu;subst hj;subst hu;exact r1
     |succ j=>exact r2 j c u (by simpa [bK] using hj) hu
   ·simp at ht
  ·simp at ht
 |[],_::_,ht=>simp [cj] at ht
 |_::_,[],ht=>simp [cj] at ht
 termination_by (SizeOf.sizeOf es,0)
end
end bd
end Go.VS
namespace Go.VS
section wV
variable {w:World} {H:J} {φ :ag} {A:ah}
theorem mapM_some {α β :Type} {f: α →Option β}: ∀{xs:List α} {ys:List β},xs.mapM f=some ys→ys.length=xs.length∧ ∀(i:Nat) (x: α) (y: β),xs[i]? =some x→ys[i]? =some y→f x=some y
 |[],ys,h=>by simp at h;subst h;simp
 |x::xs,ys,h=>by
  simp only [List.mapM_cons,Option.bind_eq_bind,Option.bind_eq_some_iff,Option.pure_def,Option.some.injEq] at h;obtain ⟨y,h1,aQ,h2,rfl⟩:=h;obtain ⟨hl,hp⟩:=mapM_some h2;refine ⟨by simp [hl],fun i a b ha hb=> ?_⟩
  cases i with
  |zero=>simp at ha hb;subst ha;subst hb;exact h1
  |succ i=>exact hp i a b ha hb
def fb (φ :ag) (A:ah):ah:=fun c=>A c∧ ¬Ow φ c
def kl (w:World) (H:J) (φ :ag) (A:ah) (n:Nat):Prop:= ∀(x:AV) (v:Value) (y:AV),R w H φ A x v→aV n H x=some y→
 FR w (fb φ A) y v∧(ey x=false→FR w A y v)∧((∀cs,x≠ .agg cs)→x≠ .undef→y.cells=[y])∧(x= .undef→y= .undef)
def p0 (w:World) (H:J) (φ :ag) (A:ah) (n:Nat):Prop:= ∀(x:AV) (vs:List Value) (y:AV),x.cells.length=vs.length→
 (∀(j:Nat) (c:AV) (u:Value),x.cells[j]? =some c→vs[j]? =some u→R w H φ A c u)→aV n H x=some y→
 y.cells.length=x.cells.length∧ ∀(j:Nat) (c:AV) (u:Value),y.cells[j]? =some c→vs[j]? =some u→FR w (fb φ A) c u
theorem nQ: ∀{xs:List AV},kW xs=false→ ∀(i:Nat) (x:AV),xs[i]? =some x→ey x=false
 |[],_,i,x,h=>by simp at h
 |y::ys,hl,i,x,h=>by
  simp only [kW,Bool.or_eq_false_iff] at hl;cases i with
  |zero=>simp at h;subst h;exact hl.1
  |succ i=>exact nQ hl.2 i x h
theorem p6 {n:Nat} (hV:kl w H φ A n) (wW: ∀m,n=m+1→kl w H φ A m):p0 w H φ A n:=by
 intro x vs y hl hx hs;by_cases bO: ∃cs,x= .agg cs
 ·obtain ⟨cs,rfl⟩:=bO;cases n with
  |zero=>simp [aV] at hs
  |succ n=>
   simp only [aV,Option.map_eq_some_iff] at hs;obtain ⟨ys,hm,rfl⟩:=hs;obtain ⟨l1,p1⟩:=mapM_some hm;refine ⟨l1,fun j c u hj hu=> ?_⟩;have dx:j<cs.length:=by rw [←l1];exact (List.getElem?_eq_some_iff.1 hj).1
   have hc:=List.getElem?_eq_getElem dx;exact (wW n rfl _ _ _ (hx j _ u hc hu) (p1 j _ c hc hj)).1
 ·have c9: ∀cs,x≠ .agg cs:=fun cs h=>bO ⟨cs,h⟩;by_cases hu:x= .undef
  ·subst hu;have fl:vs=[]:=List.eq_nil_of_length_eq_zero (by simpa [AV.cells] using hl.symm)
   subst fl;have:=(hV .undef undef y (.fr _ _ (.undef _)) hs).2.2.2 rfl;subst this;exact ⟨rfl,by simp⟩
  ·have cX:=iG hu c9;rw [cX] at hl;obtain ⟨v,rfl⟩: ∃v,vs=[v]:=by
    match vs,hl with
    |[v],_=>exact ⟨v,rfl⟩
   obtain ⟨h1,_,h3,_⟩:=hV x v y (hx 0 x v (by rw [cX];rfl) rfl) hs
   have h3:=h3 c9 hu;refine ⟨by rw [h3,cX];rfl,fun j c u hj aJ=> ?_⟩
   rw [h3] at hj;cases j with
   |zero=>simp at hj aJ;subst hj;subst aJ;exact h1
   |succ j=>simp at hj
theorem p7 (ae:St w H φ A): ∀n,kl w H φ A n∧p0 w H φ A n
 |0=>by
  have h0:kl w H φ A 0:=fun x v y _ hs=>by simp [aV] at hs
  exact ⟨h0,p6 h0 (fun m h=>by omega)⟩
 |n+1=>by
  obtain ⟨hV,hE⟩:=p7 ae n;have key:kl w H φ A (n+1):=by
   have a_: ∀c,fb φ A c→A c:=fun c h=>h.1;have p8: ∀c,Ow φ c→ ¬fb φ A c:=fun c h hl=>hl.2 h;have same: ∀{x:AV} {v:Value},FR w A x v→x.cells=[x]→FR w (fb φ A) x v∧(ey x=false→FR w A x v)∧((∀cs,x≠ .agg cs)→x≠ .undef→x.cells=[x])∧(x= .undef→x= .undef):=
    fun h hc=>⟨h.shrink a_,fun _=>h,fun _ _=>hc,fun h=>h⟩
   intro x v y hx hs;cases x with
   |undef=>simp only [aV,Option.some.injEq] at hs;subst hs;exact ⟨.undef _,fun _=> .undef _,fun _ h=>absurd rfl h,fun h=>h⟩
   |int k n=>simp only [aV,Option.some.injEq] at hs;subst hs;cases hx with|fr _ _ h=>exact same h rfl
   |bool b=>simp only [aV,Option.some.injEq] at hs;subst hs;cases hx with|fr _ _ h=>exact same h rfl
   |str s=>simp only [aV,Option.some.injEq] at hs;subst hs;cases hx with|fr _ _ h=>exact same h rfl
   |b9 b=>simp only [aV,Option.some.injEq] at hs;subst hs;cases hx with|fr _ _ h=>exact same h rfl
   |dc=>simp only [aV,Option.some.injEq] at hs;subst hs;cases hx with|fr _ _ h=>exact same h rfl
   |fz xs=>simp only [aV,Option.some.injEq] at hs;subst hs;cases hx with|fr _ _ h=>exact same h rfl
   |fe x o=>simp only [aV,Option.some.injEq] at hs;subst hs;cases hx with|fr _ _ h=>exact same h rfl
   |own sz xs=>simp [aV] at hs
   |cY sz x=>simp [aV] at hs
   |aC xs=>simp [aV] at hs
   |nil=>
    simp only [aV,Option.some.injEq] at hs;subst hs;have:=hx.cR;subst this;exact ⟨.cG _ _,fun _=> .cG _ _,fun _ _=>rfl,fun h=>by simp at h⟩
   |e0=>
    simp only [aV,Option.some.injEq] at hs;subst hs;obtain ⟨a,rfl⟩:=hx.ek;exact ⟨.cG _ _,fun _=> .cG _ _,fun _ _=>rfl,fun h=>by simp at h⟩
   |agg cs=>
    simp only [aV,Option.map_eq_some_iff] at hs;obtain ⟨ys,hm,rfl⟩:=hs;obtain ⟨l1,p1⟩:=mapM_some hm;obtain ⟨vs,rfl,hl,ho,hp⟩:=hx.fm;have hc: ∀(i:Nat) (z:AV) (u:Value),ys[i]? =some z→vs[i]? =some u→ ∃c,cs[i]? =some c∧R w H φ A c u∧aV n H c=some z:=by
     intro i z u hz hu;have b8:i<cs.length:=by rw [←l1];exact (List.getElem?_eq_some_iff.1 hz).1
     have hc:=List.getElem?_eq_getElem b8;exact ⟨_,hc,hp i _ u hc hu,p1 i _ z hc hz⟩
    refine ⟨.agg _ _ (by rw [l1,hl]) ho fun i z u hz hu=> ?_,fun hlen=> .agg _ _ (by rw [l1,hl]) ho fun i z u hz hu=> ?_,fun h _=>absurd rfl (h cs),fun h=>by simp at h⟩
    ·obtain ⟨c,h1,h2,h3⟩:=hc i z u hz hu;exact (hV c u z h2 h3).1
    ·obtain ⟨c,h1,h2,h3⟩:=hc i z u hz hu;exact (hV c u z h2 h3).2.1 (nQ (by simpa [ey] using hlen) i c h1)
   |fn f cs=>
    simp only [aV,Option.map_eq_some_iff] at hs;obtain ⟨ys,hm,rfl⟩:=hs;obtain ⟨l1,p1⟩:=mapM_some hm;obtain ⟨vs,rfl,hl,hp⟩:=hx.jR;have hc: ∀(i:Nat) (z:AV) (u:Value),ys[i]? =some z→vs[i]? =some u→ ∃c,cs[i]? =some c∧R w H φ A c u∧aV n H c=some z:=by
     intro i z u hz hu;have b8:i<cs.length:=by rw [←l1];exact (List.getElem?_eq_some_iff.1 hz).1
     have hc:=List.getElem?_eq_getElem b8;exact ⟨_,hc,hp i _ u hc hu,p1 i _ z hc hz⟩
    refine ⟨.fn _ _ _ (by rw [l1,hl]) fun i z u hz hu=> ?_,fun hlen=> .fn _ _ _ (by rw [l1,hl]) fun i z u hz hu=> ?_,fun _ _=>rfl,fun h=>by simp at h⟩
    ·obtain ⟨c,h1,h2,h3⟩:=hc i z u hz hu;exact (hV c u z h2 h3).1
    ·obtain ⟨c,h1,h2,h3⟩:=hc i z u hz hu;exact (hV c u z h2 h3).2.1 (nQ (by simpa [ey] using hlen) i c h1)
   |ptr id ad idx off=>
    simp only [aV] at hs;split at hs
    ·rename_i b hb;split at hs
     ·rename_i x' bq
      simp only [Option.map_eq_some_iff] at hs;obtain ⟨y',hy,rfl⟩:=hs;have hg:=(J.bn hb).1;obtain ⟨bM,_,hr⟩:=hx.eW;obtain ⟨c,b0,q1,rfl⟩:=hr _ hb;obtain ⟨bk,aU,af⟩:=ae.ap id _ q1;rw [hg] at aU;simp only [Option.some.injEq] at aU;subst aU;obtain ⟨arr,T,fr,k1,k2,k3,k4⟩:=af.here c b0 rfl;have wX:idx<b.el.length:=(List.getElem?_eq_some_iff.1 bq).1;have hle:=ct (n:=b.sz) wX;have ca:=af.sized _ _ bq
      let o:=b0+idx*b.sz
      let vs:List Value:=(arr.extract o (o+b.sz)).toList
      have dg:vs.length=b.sz:=by simp [vs,o];omega
      have fD: ∀j u,vs[j]? =some u→arr[o+j]? =some u:=by
       intro j u hu;simp only [vs,Array.getElem?_toList,Array.getElem?_extract] at hu;split at hu
       ·exact hu
       ·simp at hu
      obtain ⟨l1,r1⟩:=hE x' vs y' (by rw [dg,ca]) (fun j c' u hj hu=>(k4 idx x' j c' u bq hj (fD j u hu)).1) hy
      refine ⟨?_,fun h=>by simp [ey] at h,fun _ _=>rfl,fun h=>by simp at h⟩
      refine FR.fe y' off c o arr T fr k1 (p8 c ⟨id,b0,q1⟩) (by rw [l1,ca];omega) (fun j v hj hv=> ?_) (fun j c' v hc hv=> ?_)
      ·rw [l1] at hj;exact (k4 idx x' j _ v bq (List.getElem?_eq_getElem hj) hv).2
      ·have hj:j<b.sz:=by rw [←ca,←l1];exact (List.getElem?_eq_some_iff.1 hc).1
       exact r1 j c' v hc (by simp only [vs,Array.getElem?_toList,Array.getElem?_extract];rw [if_pos (by omega)];exact hv)
     ·simp at hs
    ·simp at hs
   |ref id ad off len=>
    simp only [aV] at hs;split at hs
    ·rename_i b hb;split at hs
     ·rename_i zf;simp only [Option.map_eq_some_iff] at hs;obtain ⟨ys,hm,rfl⟩:=hs;obtain ⟨l1,p1⟩:=mapM_some hm;have hg:=(J.bn hb).1;obtain ⟨bM,_,hr⟩:=hx.dG;obtain ⟨loc,a0,cap,q1,rfl,q3,q4,q5,q6⟩:=(hr b hb).out;obtain ⟨bk,aU,af⟩:=ae.ap id _ q1;rw [hg] at aU;simp only [Option.some.injEq] at aU;subst aU;have a_:(aF b.el off len).length=len:=by simp [aF];omega
      have fC: ∀(i:Nat) (x:AV),(aF b.el off len)[i]? =some x→b.el[off+i]? =some x:=by
       intro i x hi;simp only [aF,List.getElem?_take,List.getElem?_drop] at hi;split at hi
       ·exact hi
       ·simp at hi
      rw [a_] at l1;refine ⟨?_,fun h=>by simp [ey] at h,fun _ _=>rfl,fun h=>by simp at h⟩
      rcases Nat.eq_zero_or_pos len with dt|wR
      ·subst dt;have:=List.eq_nil_of_length_eq_zero l1;subst this;exact .cG _ _
      ·cases loc with
       |aO=>have:=af.aO rfl;rw [this] at q3;simp at q3;omega
       |at_ c b0=>
        simp only at q6;rcases q6 with q6|⟨h1,h2⟩
        ·omega
        obtain ⟨arr,T,fr,k1,k2,k3,k4⟩:=af.here c b0 rfl;have hmul:(off+len)*b.sz≤b.el.length*b.sz:=Nat.mul_le_mul_right _ q3;have wS:(off+len)*b.sz=off*b.sz+len*b.sz:=Nat.add_mul _ _ _;have p9: ∀(i:Nat) (a:AV),ys[i]? =some a→a.cells.length=b.sz∧ ∀(j:Nat) (c' :AV) (v:Value),a.cells[j]? =some c' →arr[b0+(off+i)*b.sz+j]? =some v→FR w (fb φ A) c' v:=by
         intro i a ha;have hi:i<len:=by rw [←l1];exact (List.getElem?_eq_some_iff.1 ha).1
         have hx:=List.getElem?_eq_getElem (l:=aF b.el off len) (by rw [a_];exact hi)
         have bq:=fC i _ hx
         have ca:=af.sized _ _ bq;have hle:=ct (n:=b.sz) (show off+i<b.el.length by omega)
         let o:=b0+(off+i)*b.sz
         let vs:List Value:=(arr.extract o (o+b.sz)).toList
         have dg:vs.length=b.sz:=by simp [vs,o];omega
         have fD: ∀j u,vs[j]? =some u→arr[o+j]? =some u:=by
          intro j u hu;simp only [vs,Array.getElem?_toList,Array.getElem?_extract] at hu;split at hu
          ·exact hu
          ·simp at hu
         obtain ⟨l2,r2⟩:=hE _ vs a (by rw [dg,ca]) (fun j c' u hj hu=>(k4 _ _ j c' u bq hj (fD j u hu)).1) (p1 i _ a hx ha)
         refine ⟨by rw [l2,ca],fun j c' v hc hv=>r2 j c' v hc ?_⟩
         have hj:j<b.sz:=by rw [←ca,←l2];exact (List.getElem?_eq_some_iff.1 hc).1
         simp only [vs,Array.getElem?_toList,Array.getElem?_extract];rw [if_pos (by omega)];exact hv
        have gG:=FR.fz (A:=fb φ A) ys c (b0+off*b.sz) cap b.sz arr T fr k1 (p8 c ⟨id,b0,q1⟩) (by rw [l1];exact q4) (by rw [l1];omega)
         (fun i a ha=>(p9 i a ha).1)
         (fun j v hj hv=>by
          rw [l1] at hj;have eA:0<b.sz:=by
           rcases Nat.eq_zero_or_pos b.sz with h|h
           ·rw [h] at hj;simp at hj
           ·exact h
          have wT:j/b.sz<len:=Nat.div_lt_of_lt_mul (by rw [Nat.mul_comm];exact hj)
          have nO:j % b.sz<b.sz:=Nat.mod_lt _ eA;have wU:j=(j/b.sz)*b.sz+j % b.sz:=by rw [Nat.mul_comm];exact (Nat.div_add_mod j b.sz).symm
          have cu:off+j/b.sz<b.el.length:=by omega
          have hx:=List.getElem?_eq_getElem cu;have ca:=af.sized _ _ hx;have e:b0+off*b.sz+j=b0+(off+j/b.sz)*b.sz+j % b.sz:=by rw [Nat.add_mul];omega
          rw [e] at hv;exact (k4 _ _ _ _ v hx (List.getElem?_eq_getElem (show j % b.sz<_ by rw [ca];exact nO)) hv).2)
         (fun i a j c' v ha hc hv=>by
          have e:b0+off*b.sz+i*b.sz+j=b0+(off+i)*b.sz+j:=by rw [Nat.add_mul];omega
          rw [e] at hv;exact (p9 i a ha).2 j c' v hc hv)
        rw [l1] at gG;rw [h1];exact gG
     ·simp at hs
    ·simp at hs
  exact ⟨key,p6 key (fun m h=>by have:m=n:=by omega
                                 subst this;exact hV)⟩
end wV
end Go.VS
namespace Go.VS
theorem p_: ∀(ys:List AV) (L:J),(∀(i:Nat) (z:AV),ys[i]? =some z→ ∀L,aD z L=(z,L))→aE ys L=(ys,L)
 |[],L,_=>rfl
 |y::ys,L,h=>by
  have h1:=h 0 y rfl L;have h2:=p_ ys L (fun i z hz=>h (i+1) z hz);simp only [aE,h1,h2]
theorem lE (H:J): ∀(n:Nat) (x y:AV),aV n H x=some y→ ∀L,aD y L=(y,L)
 |0,x,y,h,L=>by simp [aV] at h
 |n+1,x,y,h,L=>by
  cases x with
  |agg cs=>
   simp only [aV,Option.map_eq_some_iff] at h;obtain ⟨ys,hm,rfl⟩:=h;obtain ⟨l1,p1⟩:=mapM_some hm;have:=p_ ys L (fun i z hz=>by
    have b8:i<cs.length:=by rw [←l1];exact (List.getElem?_eq_some_iff.1 hz).1
    exact lE H n _ z (p1 i _ z (List.getElem?_eq_getElem b8) hz))
   simp only [aD,this]
  |fn f cs=>simp only [aV,Option.map_eq_some_iff] at h;obtain ⟨ys,_,rfl⟩:=h;rfl
  |ref id ad off len=>
   simp only [aV] at h;split at h
   ·split at h
    ·simp only [Option.map_eq_some_iff] at h;obtain ⟨ys,_,rfl⟩:=h;rfl
    ·simp at h
   ·simp at h
  |ptr id ad idx off=>
   simp only [aV] at h;split at h
   ·split at h
    ·simp only [Option.map_eq_some_iff] at h;obtain ⟨ys,_,rfl⟩:=h;rfl
    ·simp at h
   ·simp at h
  |own sz xs=>simp [aV] at h
  |cY sz xs=>simp [aV] at h
  |aC xs=>simp [aV] at h
  |_=>simp only [aV,Option.some.injEq] at h;subst h;rfl
def gH (H:J) (φ :ag) (L0:J) (az:ag) (a x:AV):Prop:=
 ∃k kv bk,jO x=some (k,kv)∧L0.ap k kv=some bk∧(∃loc,az k=some loc)∧(dn a=none→bk.el=[])∧
  ∀id ad,dn a=some (id,ad)→ ∃b c b0,H.ap id ad=some b∧bk.sz=b.sz∧bk.el.length=b.el.length∧ φ id=some (.at_ c b0)∧az k=some (.at_ c b0)
def bV (H:J) (φ :ag) (L0:J) (az:ag):List Mode→List AV→List AV→Prop
 | .io::ms,a::as,x::xs=>gH H φ L0 az a x∧bV H φ L0 az ms as xs
 |_::ms,_::as,_::xs=>bV H φ L0 az ms as xs
 |_,_,_=>True
theorem J.qa {L L1:J} (h:bj L L1) {id ad:Nat} {b:bD} (hb:L1.ap id ad=some b):L.ap id ad=some b:=by
 obtain ⟨h1,h2⟩:=J.bn hb;have:=J.fQ (h.get id b h1)
 rwa [h2] at this
theorem nR {L L1:J} (h: ∀id b,L.get id=some b→L1.get id=some b) {id ad:Nat} {b:bD} (hb:L.ap id ad=some b):L1.ap id ad=some b:=by
 obtain ⟨h1,h2⟩:=J.bn hb;have:=J.fQ (h id b h1)
 rwa [h2] at this
theorem gH.mono {H H' :J} {φ :ag} {L0 L1:J} {az φ1:ag} {a x:AV} (hl:bj H H') (br: ∀id b,L0.get id=some b→L1.get id=some b) (bQ: ∀id loc,az id=some loc→ φ1 id=some loc)
 (h:gH H' (aB φ H') L0 az a x):gH H φ L1 φ1 a x:=by
 obtain ⟨k,kv,bk,h1,h2,⟨loc,kn⟩,h3,h4⟩:=h;refine ⟨k,kv,bk,h1,nR br h2,⟨loc,bQ _ _ kn⟩,h3,fun id ad hr=> ?_⟩;obtain ⟨b,c,b0,q1,q2,q3,q4,q5⟩:=h4 id ad hr;exact ⟨b,c,b0,J.qa hl q1,q2,q3,(cW q4).1,bQ _ _ q5⟩
theorem bV.mono {H H' :J} {φ :ag} {L0 L1:J} {az φ1:ag} (hl:bj H H') (br: ∀id b,L0.get id=some b→L1.get id=some b) (bQ: ∀id loc,az id=some loc→ φ1 id=some loc):
 ∀{ms:List Mode} {as xs:List AV},bV H' (aB φ H') L0 az ms as xs→bV H φ L1 φ1 ms as xs
 |[],_,_,_=>by simp [bV]
 | .io::ms,a::as,x::xs,h=>by
  simp only [bV] at h⊢;exact ⟨h.1.mono hl br bQ,bV.mono hl br bQ h.2⟩
 | .val::ms,a::as,x::xs,h=>by
  simp only [bV] at h⊢;exact bV.mono hl br bQ h
 | .ew::ms,a::as,x::xs,h=>by
  simp only [bV] at h⊢;exact bV.mono hl br bQ h
 |m::ms,[],_,_=>by cases m<;>simp [bV]
 |m::ms,_::_,[],_=>by cases m<;>simp [bV]
section bd
variable {w:World} {A:ah}
theorem nS {H:J} {φ :ag} {L:J} {φL:ag} (hd:bP w H φ A L φL A) (sz:Nat) {a:AV} {u:Value} (hv: ∃p cap,u= .slice p 0 cap) (hr:dn a=none):
 ∃ φ1,bZ w H φ A L φL A H (L.new sz true []) φ1∧R w (L.new sz true []) φ1 A (.ref L.bs.length L.st 0 0) u∧gH H φ (L.new sz true []) φ1 a (.ref L.bs.length L.st 0 0):=by
 obtain ⟨p,cap,rfl⟩:=hv;have m:=newAt (bZ.refl hd) (sz:=sz) (fx:=true) (el:=[]) (loc:= .aO) (by simp) (fun _=>rfl) (by simp)
 have hg:=J.dH L sz true [];refine ⟨_,m,.ref _ _ _ _ _ (Nat.lt_succ_self _) ⟨_,_,rfl⟩ fun b hb=> ?_,_,_,_,rfl,J.fQ hg,⟨.aO,by simp⟩,fun _=>rfl,fun id ad h=>by rw [hr] at h;simp at h⟩
 have:=ju hg hb;subst this;exact ⟨.aO,p,cap,by simp,rfl,by simp,Nat.zero_le _,by simp,rfl,fun h=>by simp at h⟩
theorem wY {H:J} {φ :ag} {L:J} {φL:ag} (hd:bP w H φ A L φL A) {sh:List Sh} {a:AV} {u:Value} (ha:R w H φ A a u) {z:AV} {H1:J} (hz:eN .io sh a H=some (z,H1)):
 (∃sz xs φ1,z= .own sz xs∧bZ w H φ A L φL A H1 ((aE xs L).2.new sz true (aE xs L).1) φ1∧
  R w ((aE xs L).2.new sz true (aE xs L).1) φ1 A (.ref (aE xs L).2.bs.length (aE xs L).2.st 0 (aE xs L).1.length) u∧
  gH H φ ((aE xs L).2.new sz true (aE xs L).1) φ1 a (.ref (aE xs L).2.bs.length (aE xs L).2.st 0 (aE xs L).1.length))∨
 (∃sz x φ1,z= .cY sz x∧bZ w H φ A L φL A H1 (aD z L).2 φ1∧R w (aD z L).2 φ1 A (aD z L).1 u∧gH H φ (aD z L).2 φ1 a (aD z L).1):=by
 cases a with
 |nil=>
  simp only [eN,Option.some.injEq,Prod.mk.injEq] at hz;obtain ⟨rfl,rfl⟩:=hz;obtain ⟨φ1,h1,h2,h3⟩:=nS hd (gX sh).length (a:= .nil) ⟨none,0,ha.cR⟩ rfl;exact .inl ⟨_,_,φ1,rfl,h1,h2,h3⟩
 |e0=>
  simp only [eN,Option.some.injEq,Prod.mk.injEq] at hz;obtain ⟨rfl,rfl⟩:=hz;obtain ⟨a0,kg⟩:=ha.ek;obtain ⟨φ1,h1,h2,h3⟩:=nS hd (gX sh).length (a:= .e0) ⟨a0,0,kg⟩ rfl;exact .inl ⟨_,_,φ1,rfl,h1,h2,h3⟩
 |ref id ad off len=>
  simp only [eN] at hz;split at hz
  ·rename_i b hb;obtain ⟨bM,_,hr⟩:=ha.dG;obtain ⟨loc,a0,cap,q1,rfl,q3,q4,q5,q6⟩:=(hr b hb).out;split at hz
   ·rename_i dt;subst dt;simp only [Option.some.injEq,Prod.mk.injEq] at hz;obtain ⟨rfl,rfl⟩:=hz;obtain ⟨φ1,h1,h2,h3⟩:=nS hd (gX sh).length (a:= .ref id ad off 0) ⟨a0,cap,rfl⟩ (by simp [dn])
    exact .inl ⟨_,_,φ1,rfl,h1,h2,h3⟩
   ·rename_i dt;split at hz
    ·rename_i wZ;obtain ⟨rfl,hlen⟩:=wZ;obtain ⟨e,rfl,ht⟩:=iI (by simp) hz
     cases e with
     |sc=>simp [aR,de] at ht
     |pt es=>simp [aR] at ht
     |sl es=>
      simp only [aR,hb] at ht;split at ht
      ·rename_i hc;obtain ⟨c1,c2,c3⟩:=hc;split at ht
       ·rename_i ys L' hm
        simp only [Option.some.injEq,Prod.mk.injEq] at ht;obtain ⟨rfl,rfl⟩:=ht;left;have hg:=(J.bn hb).1;obtain ⟨bk,aU,af⟩:=hd.sl.ap id _ q1;rw [hg] at aU;simp only [Option.some.injEq] at aU;subst aU;have cA:=bj.del H id;have bR:bP w (H.del id) (aB φ (H.del id)) A L φL A:=⟨dK hd.sl cA,hd.sh,fun c hc=>hd.bY c (bA hc),fun c hc=>hd.dT c (bA hc)⟩
        have a_:aF b.el 0 len=b.el:=by simp [aF,hlen]
        rw [a_] at hm;cases loc with
        |aO=>have:=af.aO rfl;rw [this] at hlen;simp at hlen;omega
        |at_ c b0=>
        simp only at q6;rcases q6 with q6|⟨h1,h2⟩
        ·omega
        obtain ⟨arr,T,fr,k1,k2,k3,k4⟩:=af.here c b0 rfl
        let g:Nat→Nat→Value:=fun i j=>arr.getD (b0+i*b.sz+j) undef
        have gA: ∀(i:Nat) (x:AV) (j:Nat) (y:AV),b.el[i]? =some x→x.cells[j]? =some y→R w (H.del id) (aB φ (H.del id)) A y (g i j):=by
         intro i x j y hi hj;have dx:j<b.sz:=by rw [←af.sized _ _ hi];exact (List.getElem?_eq_some_iff.1 hj).1
         have hle:=ct (n:=b.sz) (List.getElem?_eq_some_iff.1 hi).1;have aw:b0+i*b.sz+j<arr.size:=by omega
         have:g i j=arr[b0+i*b.sz+j]:=by
          simp only [g,Array.getD_eq_getD_getElem?,Array.getElem?_eq_getElem aw,Option.getD_some]
         rw [this];exact ((k4 _ _ _ _ _ hi hj (Array.getElem?_eq_getElem aw)).1).mono (cI cA)
        obtain ⟨φ1,m,l1,s1,r1⟩:=nB (w:=w) (es:=es) (fun x vs L φL AL H φ AH y L1 a H1=>lA es x vs L φL AL H φ AH y L1 a H1) _ g _ _ _ _ _ _ _ _ _ _ bR gA hm rfl (.inl fun _ h=>h)
        have kh: ∀(i:Nat) (a:AV),(aE ys L).1[i]? =some a→a.cells.length=b.sz:=by
         intro i a ha;have b8:i<b.el.length:=by rw [←l1];exact (List.getElem?_eq_some_iff.1 ha).1
         have hM:=List.getElem?_eq_getElem b8;rw [s1 i _ a hM ha];exact af.sized _ _ hM
        have M:=ly (off:=0) (n:=len) hd hb c2 rfl q1 (fun c' nJ arr' T' ez hl hh i j v hi hj hv=>by
         simp only [Loc.at_.injEq] at hl;obtain ⟨rfl,rfl⟩:=hl;rw [k1] at hh;simp only [Option.some.injEq,Obj.cells.injEq] at hh;obtain ⟨rfl,_,_⟩:=hh;simp only [Nat.zero_add] at hv;simp only [g,Array.getD_eq_getD_getElem?,hv,Option.getD_some]) m (by rw [l1,hlen]) kh r1 true (.at_ c b0) (.inr ⟨c,b0,rfl,by simp⟩)
        rw [c1] at M;have lF:=J.dH (aE ys L).2 es.length true (aE ys L).1;refine ⟨_,_,_,rfl,M,?_,_,_,_,rfl,J.fQ lF,⟨.at_ c b0,by simp⟩,fun h=>by simp [dn,dt] at h,fun gn hN h=> ?_⟩
        ·refine .ref _ _ _ _ _ (Nat.lt_succ_self _) ⟨a0,cap,by rw [l1,hlen]⟩ fun b' ax=> ?_
         have:=ju lF ax;subst this;refine ⟨.at_ c b0,a0,cap,by simp,by rw [l1,hlen],by simp,by omega,by simp only;omega,?_⟩
         refine Or.inr ⟨by rw [h1];simp,?_⟩
         rw [c1] at h2;simpa using h2
        ·simp only [dn,dt,if_false,Option.some.injEq,Prod.mk.injEq] at h;obtain ⟨rfl,rfl⟩:=h;exact ⟨b,c,b0,hb,c1.symm,l1,q1,by simp⟩
       ·simp at ht
      ·simp at ht
    ·simp at hz
  ·simp at hz
 |ptr id ad idx off=>
  simp only [eN] at hz;obtain ⟨e,rfl,ht⟩:=iI (by simp) hz
  cases e with
  |sc=>simp [aR,de] at ht
  |sl es=>simp [aR] at ht
  |pt es=>
   rcases idx with _|idx
   rotate_left
   ·simp [aR] at ht
   rcases off with _|off
   rotate_left
   ·simp [aR] at ht
   simp only [aR] at ht;split at ht
   ·rename_i nH sz nI z' hb
    split at ht
    ·rename_i y' L' hm
     simp only [Option.some.injEq,Prod.mk.injEq] at ht;obtain ⟨rfl,rfl⟩:=ht;right;have hg:=(J.bn hb).1;obtain ⟨bM,_,hr⟩:=ha.eW;obtain ⟨c,b0,q1,rfl⟩:=hr _ hb;obtain ⟨bk,aU,af⟩:=hd.sl.ap id _ q1;rw [hg] at aU;simp only [Option.some.injEq] at aU;subst aU;obtain ⟨arr,T,fr,k1,k2,k3,k4⟩:=af.here c b0 rfl;have cA:=bj.del H id;have bR:bP w (H.del id) (aB φ (H.del id)) A L φL A:=⟨dK hd.sl cA,hd.sh,fun c hc=>hd.bY c (bA hc),fun c hc=>hd.dT c (bA hc)⟩
     have cU:z'.cells.length=sz:=af.sized 0 z' rfl
     simp only [List.length_singleton,Nat.one_mul] at k3
     let vs:List Value:=(arr.extract b0 (b0+sz)).toList
     have dg:vs.length=sz:=by simp [vs];omega
     have fD: ∀j u,vs[j]? =some u→arr[b0+j]? =some u:=by
      intro j u hu;simp only [vs,Array.getElem?_toList,Array.getElem?_extract] at hu;split at hu
      ·exact hu
      ·simp at hu
     obtain ⟨φ1,m,l1,r1⟩:=lA es z' vs _ _ _ _ _ _ _ _ _ _ bR (by rw [dg,cU]) (fun j c' u hj hu=>((k4 0 z' j c' u rfl hj (by simpa using fD j u hu)).1).mono (cI cA)) hm rfl (.inl fun _ h=>h)
     have M:=ly (as:=[(aD y' L).1]) (n:=1) (off:=0) (sz:=sz) (loc' := .at_ c b0) (g:=fun i j=>vs.getD j undef) hd hb (by simp) rfl q1 (fun c' nJ arr' T' ez hl hh i j v hi hj hv=>by
      simp only [Loc.at_.injEq] at hl;obtain ⟨rfl,rfl⟩:=hl;rw [k1] at hh;simp only [Option.some.injEq,Obj.cells.injEq] at hh;obtain ⟨rfl,_,_⟩:=hh;have iH:i=0:=by omega
      subst iH;simp only [Nat.zero_mul,Nat.add_zero] at hv;have:vs[j]? =some v:=by
       simp only [vs,Array.getElem?_toList,Array.getElem?_extract];rw [if_pos (by omega)];exact hv
      simp [List.getD,this]) m rfl (fun i a ha=>by
      cases i with
      |zero=>simp at ha;subst ha;rw [l1,cU]
      |succ i=>simp at ha) (fun i a j c' ha hc=>by
      cases i with
      |zero=>
       simp at ha;subst ha;have hj:j<vs.length:=by rw [dg,←cU,←l1];exact (List.getElem?_eq_some_iff.1 hc).1
       have:=r1 j c' vs[j] hc (List.getElem?_eq_getElem hj)
       simpa [List.getD,hj] using this
      |succ i=>simp at ha) false (.inr ⟨c,b0,rfl,by simp⟩)
     have lF:=J.dH (aD y' L).2 sz false [(aD y' L).1]
     refine ⟨_,_,_,rfl,M,?_,_,_,_,rfl,J.fQ lF,⟨.at_ c b0,by simp⟩,fun h=>by simp [dn] at h,fun gn hN h=> ?_⟩
     ·refine .ptr _ _ _ _ _ (Nat.lt_succ_self _) ⟨_,rfl⟩ fun b' ax=>⟨c,b0,by simp,?_⟩
      simp
     ·simp only [dn,Option.some.injEq,Prod.mk.injEq] at h;obtain ⟨rfl,rfl⟩:=h;exact ⟨_,c,b0,hb,rfl,rfl,q1,by simp⟩
    ·simp at ht
   ·simp at ht
 |_=>simp [eN] at hz
end bd
end Go.VS
