import Derived.Test.YtclgbpneokeaeaaVaA
namespace Go.VS
theorem yS (ke cap:Nat) (h:cap<ke):Builtin.nextslicecap ke cap≤2*ke+512:=by
 have g: ∀(r c:Nat),c≤2*ke+512→Builtin.growBy ke r c≤2*ke+512:=by
  intro r;induction r with
  |zero=>intro c hc;exact hc
  |succ r ih=>
   intro c hc;simp only [Builtin.growBy];split
   ·exact hc
   ·exact ih _ (by omega)
 unfold Builtin.nextslicecap;split
 ·omega
 ·split
  ·omega
  ·exact g _ _ (by omega)
section ops
variable {P:Program} {E:aM} (hE: ∀t ti,E t=some ti→aS P t ti)
variable {w:World} {G:J} {φ :af} {A:aj}
theorem oW {t:TypeId} {ti:TI} (h:aS P t ti) (hn: ∀k,ti.au≠ .it k) (w:World): ∃d,(underlying t).run P w= .ok d w∧(∀k,d≠ .int k):=by
 obtain ⟨i,d,z,_,hd,_,_,_,_,_,_,_,_,bg,_⟩:=h.out;exact ⟨d,run_underlying hd w,fun k hk=>hn k (by rw [←bg,hk];rfl)⟩
structure yT (P:Program) (w:World) (G:J) (φ :af) (A:aj) (xs:List AV) (v:Value) (sz:Nat) (cs:Array Value):Prop where
 len:(Builtin.lenOf v).run P w= .ok xs.length w
 run: ∀m,m≤xs.length→(Builtin.firstCells sz m v).run P w= .ok (cs.extract 0 (m*sz)) w
 size:cs.size=xs.length*sz
 rel: ∀(i:Nat) (x:AV) (j:Nat) (y:AV) (u:Value),xs[i]? =some x→x.cells[j]? =some y→cs[i*sz+j]? =some u→R w G φ A y u∧u.oneCell' =true
 one: ∀u∈cs.toList,u.oneCell' =true
theorem kf {H0:J} (ae:St w G φ A) (hX:bf H0 G) {x:AV} {v:Value} {xs:List AV} {sz:Nat} (hx:R w G φ A x v) (h:cJ H0 x=some xs) (hs:bS sz xs=true) (hz:0<sz):
 ∃cs,yT P w G φ A xs v sz cs:=by
 by_cases rI: ∃s,x= .str s
 ·obtain ⟨s,rfl⟩:=rI;obtain ⟨b,rfl,rfl⟩:=hx.eD;simp only [cJ,Option.some.injEq] at h;have cx:xs.length=b.size:=by rw [←h,List.length_map];exact Array.length_toList
  refine ⟨b.data.map fun c=> .int .u8 c.toNat,by simp [Builtin.lenOf,cx],fun m hm=> ?_,?_,fun i x j y u hi hy hu=> ?_,fun u hu=> ?_⟩
  ·have aB:sz=1∨xs=[]:=by
    rcases xs with _|⟨y,ys⟩
    ·exact .inr rfl
    ·left;have:=ig (i:=0) hs rfl;have hy:(b.data.toList.map fun c:UInt8=>AV.int .u8 c.toNat)[0]? =some y:=by rw [h];rfl
     simp only [List.getElem?_map,Option.map_eq_some_iff] at hy;obtain ⟨c,_,rfl⟩:=hy;exact this.symm
   simp only [Builtin.firstCells,Sem.run_pure];congr 1;rcases aB with rfl|rfl
   ·rw [ByteArray.data_extract,Nat.mul_one];apply Array.ext';simp
   ·simp at hm;subst hm;rw [ByteArray.data_extract];apply Array.ext';simp
  ·rcases xs with _|⟨y,ys⟩
   ·rw [Array.size_map,List.length_nil,Nat.zero_mul];exact cx.symm
   ·have:=ig (i:=0) hs rfl;have hy:(b.data.toList.map fun c:UInt8=>AV.int .u8 c.toNat)[0]? =some y:=by rw [h];rfl
    simp only [List.getElem?_map,Option.map_eq_some_iff] at hy;obtain ⟨c,_,rfl⟩:=hy;have h1:sz=1:=this.symm;subst h1;rw [Nat.mul_one,cx,Array.size_map];rfl
  ·rw [←h] at hi;simp only [List.getElem?_map,Option.map_eq_some_iff] at hi;obtain ⟨c,hc,rfl⟩:=hi;have h1:=ig hs (i:=i) (x:= .int .u8 c.toNat) (by rw [←h];simp [hc])
   have h1:sz=1:=h1.symm;subst h1;cases j with
   |zero=>
    simp only [AV.cells,List.getElem?_cons_zero,Option.some.injEq] at hy;subst hy;simp only [Nat.mul_one,Nat.add_zero,Array.getElem?_map,Option.map_eq_some_iff] at hu;obtain ⟨c',dJ,rfl⟩:=hu;have:b.data[i]? =some c:=by simpa using hc
    rw [this] at dJ;simp only [Option.some.injEq] at dJ;subst dJ;exact ⟨.fr _ _ (.int _ _),rfl⟩
   |succ j=>simp [AV.cells] at hy
  ·simp only [Array.toList_map,List.mem_map] at hu;obtain ⟨c,_,rfl⟩:=hu;rfl
 ·have b4:=oU ae hX hx h hs (fun s hs=>rI ⟨s,hs⟩);obtain ⟨cs,c1,c2,c3,c4⟩:=b4.cells (P:=P) hz;refine ⟨cs,?_,fun m hm=> ?_,c2,c3,c4⟩
  ·rcases b4.out with ⟨rfl,a,cap,rfl⟩|⟨c,o,cap,arr,T,fr,rfl,_⟩<;>simp [Builtin.lenOf]
  ·rcases b4.out with ⟨rfl,a,cap,rfl⟩|⟨c,o,cap,arr,T,fr,rfl,h1,h2,_⟩
   ·simp at hm;subst hm;have:cs= #[]:=Array.eq_empty_of_size_eq_zero (by simpa using c2)
    subst this;cases a with
    |none=>simp [Builtin.firstCells]
    |some a=>simp [Builtin.firstCells,loadCells,loadCellsFrom]
   ·simp only [Builtin.firstCells] at c1⊢;have hle:m*sz≤xs.length*sz:=Nat.mul_le_mul_right _ hm;rw [kY P h1 o (xs.length*sz) h2] at c1;rw [kY P h1 o (m*sz) (by omega)]
    simp only [Result.ok.injEq,and_true] at c1;congr 1;rw [←c1];simp only [Array.extract_extract];congr 1<;>omega
theorem run_append_grow {t tx e:TypeId} {ti te eY:TI} (ht:aS P t ti) (hu:ti.au= .sl e) (bp:aS P e te) (cM:aS P tx eY) (gg: ∀k,eY.au≠ .it k) (tys:Array TypeId) (h0:tys[0]? =some t) (h1:tys[1]? =some tx) (ty:TypeId)
 {base:Option Addr} {sLen sCap:Nat} {x:Value} {n:Nat} {gO iX:Array Value} (hlen:(Builtin.lenOf x).run P w= .ok n w) (hS:(Builtin.firstCells te.sz sLen (.slice base sLen sCap)).run P w.drew= .ok gO w.drew)
 (hX:(Builtin.firstCells te.sz n x).run P w.drew= .ok iX w.drew) (sS:gO.size=sLen*te.sz) (sX:iX.size=n*te.sz) (li:sCap<sLen+n) (mz:roomy (sLen+n) te.bytes=true):
 ∃cap arr,sLen+n≤cap∧(Builtin.append_ tys ty #[.slice base sLen sCap,x]).run P w= .ok (.slice (some ⟨w.heap.size,0,none⟩) (sLen+n) cap) (w.drew.alloc (.cells arr e))∧arr.size=cap*te.sz∧
  ∀j,j<(sLen+n)*te.sz→arr[j]? =(gO ++ iX)[j]? :=by
 obtain ⟨d,hd,oX⟩:=oW cM gg w;obtain ⟨inf,i1,i2,_⟩:=bp.typeInfo w;obtain ⟨zv,z1,z2,_⟩:=bp.zeroValue w.drew;simp only [roomy,Bool.and_eq_true,decide_eq_true_eq] at mz;obtain ⟨r1,r2⟩:=mz;have rJ:(match d with| .int _=>true|_=>false)=false:=by cases d<;>first|rfl|exact absurd rfl (oX _)
 have hb: ¬(Builtin.nextslicecap (sLen+n) sCap*inf.bytes>2^48):=by
  rw [i2];have h2:=yS (sLen+n) sCap li;have h3:Builtin.nextslicecap (sLen+n) sCap*te.bytes≤(2*(sLen+n)+512)*te.bytes:=Nat.mul_le_mul_right _ h2;have h4:(2*(sLen+n)+512)*te.bytes≤2*((sLen+n+512)*te.bytes):=by
   rw [←Nat.mul_assoc];exact Nat.mul_le_mul_right _ (by omega)
  omega
 have mA: ¬(((sLen+n:Nat):Int)>IntKind.i64.max):=by have:IntKind.i64.max=9223372036854775807:=rfl;omega
 let q:Question:= .appendCap (sLen+n) sCap e
 let cap:=q.cut (w.tape w.drawn q)
 have fD:sLen+n≤cap:=Nat.le_add_right _ _
 let arr:=gO ++ iX ++ Builtin.zeroCells zv.cells (cap-(sLen+n))
 have ii:(Builtin.zeroCells zv.cells (cap-(sLen+n))).size=(cap-(sLen+n))*te.sz:=by simp [Builtin.zeroCells,z2]
 refine ⟨cap,arr,fD,?_,?_,fun j hj=> ?_⟩
 ·unfold Builtin.append_;simp only [h0,h1,List.getElem?_toArray,List.getElem?_cons_zero,List.getElem?_cons_succ,Sem.run_bind,ht.sl w hu,Result.andThen_ok,bp.sizeOf,hd,Sem.run_pure];have mB: ¬(sLen+n≤sCap):=by omega
  obtain ⟨yU,oY,yV,_⟩:=bp.typeInfo w.drew;simp only [Bool.false_eq_true,if_false,Bool.not_false,if_true,Sem.run_bind,hlen,Result.andThen_ok,mB,i1,mA,false_and,hb,run_choose,Question.forced,World.drew_eq,oY,run_askRoom];show ((Builtin.firstCells te.sz sLen (.slice base sLen sCap)).run P w.drew).andThen _=_;simp only [hS,hX,Result.andThen_ok,z1,Sem.run_bind,newRow,run_newObj,Sem.run_pure,World.alloc_eq];rfl
 ·simp only [arr,Array.size_append,sS,sX,ii];rw [←Nat.add_mul,←Nat.add_mul];congr 1;omega
 ·have:j<(gO ++ iX).size:=by simp only [Array.size_append,sS,sX];rw [←Nat.add_mul];exact hj
  simp only [arr];rw [Array.getElem?_append_left this]
end ops
end Go.VS
namespace Go.VS
section ops
variable {P:Program} {E:aM} (hE: ∀t ti,E t=some ti→aS P t ti)
variable {w:World} {G:J} {φ :af} {A:aj}
theorem mC (ae:St w G φ A):Out w G φ A w.drew G φ A:=
 have aT:bI w G φ A w.drew G φ A:=⟨fun c a t fr hc hn=>⟨⟨fr,hc⟩,hn⟩,Nat.le_refl _,fun i b' aw _=>⟨b',aw,rfl,rfl,rfl,rfl,fun loc hl=>hl⟩,fun c _=>rfl⟩
 ⟨⟨ae.inj,ae.own,ae.bY,fun id loc h=>by
  obtain ⟨b,hb,ag⟩:=ae.ap id loc h;refine ⟨b,hb,ag.ad,ag.sized,ag.aQ,fun c b0 hl=> ?_⟩;obtain ⟨arr,T,fr,h1,h2,h3,h4⟩:=ag.here c b0 hl;exact ⟨arr,T,fr,h1,h2,h3,fun i x j y v hx hy hv=>⟨(h4 i x j y v hx hy hv).1.mono aT,(h4 i x j y v hx hy hv).2⟩⟩⟩,
  ⟨rfl,rfl,rfl,Nat.le_refl _,fun _ _ _=>rfl,fun _ _=>rfl,fun _ h=> .inl h⟩,aT,fun _ h _=>h⟩
theorem bj.of {H0 H' :J} {r:Result Next} {x:AV} {v:Value} {w' :World} {ak:af} {A' :aj} (hr:r= .ok (.value v) w') (hx:R w' G ak A' x v) (ho:Out w G φ A w' G ak A')
 (bL: ∀id loc,ak id=some loc→ φ id=some loc∨(H0.bs.length≤id∧id<H'.bs.length)):bj w G φ A H0 H' r x:=⟨_,v,w',ak,A',hr,.inl rfl,hx,ho,bL⟩
include hE in
theorem rK {H0 H' :J} (ae:St w G φ A) (hX:bf H' G) (br:H0.bs.length<H'.bs.length→ φ H0.bs.length=none) {t tx:TypeId} {tys:Array TypeId} {ty:TypeId} (h0:tys[0]? =some t) (h1:tys[1]? =some tx) {te eY:TI} (bp:cO E t=some te)
 (cM:E tx=some eY) {k:IntKind} (hit:eY.au= .it k) {n:Int} {z:AV} {a b:Value} (hs:R w G φ A .nil a) (hx:R w G φ A (.int .i64 n) b) (h:kP te n H0=some (z,H')):
 bj w G φ A H0 H' ((do pure (.value (←Builtin.append_ tys ty #[a,b])):Sem Next).run P w) z:=by
 obtain ⟨ti,e,ht,hu,cw⟩:=jw bp;have e1:=hs.dh;have e2:=hx.cv;subst e1;subst e2;unfold kP at h;split at h
 rotate_left
 ·simp at h
 rename_i zA hz;split at h
 rotate_left
 ·simp at h
 rename_i hcnd;obtain ⟨c0,c2,c3⟩:=hcnd;obtain ⟨inf,i1,i2,_⟩:=(hE _ _ cw).typeInfo w;simp only [roomy,Bool.and_eq_true,decide_eq_true_eq] at c2;obtain ⟨r1,r2⟩:=c2;have hn:IntKind.i64.wrap n=n:=IntWalk.i64_in n (by omega)
 have e1:(n.toNat+512)*te.bytes=n.toNat*te.bytes+512*te.bytes:=Nat.add_mul _ _ _;have hb: ¬(n*(inf.bytes:Int)>2^48):=by
  rw [i2];have e2:n*((te.bytes:Int))=((n.toNat*te.bytes:Nat):Int):=by
   rw [Int.natCast_mul,Int.toNat_of_nonneg (by omega)]
  rw [e2];omega
 have hd:=(hE _ _ cM).kV (w:=w) hit;have t1: ¬(IntKind.i64.wrap n<0):=by rw [hn];omega
 have aw: ¬(IntKind.i64.wrap n*(inf.bytes:Int)>2^48):=by rw [hn];exact hb
 by_cases oZ:n=0
 ·rw [if_pos oZ] at h;simp only [Option.some.injEq,Prod.mk.injEq] at h;obtain ⟨rfl,rfl⟩:=h;subst oZ;refine bj.val ae ?_ (.fr _ _ .nil);unfold Builtin.append_;simp only [h0,h1,List.getElem?_toArray,List.getElem?_cons_zero,List.getElem?_cons_succ,Sem.run_bind,(hE _ _ ht).sl w hu,Result.andThen_ok,(hE _ _ cw).sizeOf,hd,Sem.run_pure,asInt,asIntOf];simp only [t1,if_true,if_false,Sem.run_bind,Sem.run_pure,Result.andThen_ok,i1,aw];rw [hn];simp
 ·rw [if_neg oZ] at h;simp only [Option.some.injEq,Prod.mk.injEq] at h;obtain ⟨rfl,rfl⟩:=h;have dX:=mC ae;obtain ⟨zv,z1,z2,z3,z5⟩:=rC (hE _ _ cw) hz w.drew;obtain ⟨yU,oY,yV,_⟩:=(hE _ _ cw).typeInfo w.drew
  let q:Question:= .appendCap n.toNat 0 e
  let cap:=q.cut (w.tape w.drawn q)
  have fD:n.toNat≤cap:=Nat.le_add_right _ _
  let arr:=Builtin.zeroCells zv.cells n.toNat ++ Builtin.zeroCells zv.cells (cap-n.toNat)
  have ii: ∀m,(Builtin.zeroCells zv.cells m).size=m*te.sz:=fun m=>by simp [Builtin.zeroCells,z2]
  have yW:Builtin.nextslicecap n.toNat 0=n.toNat:=by unfold Builtin.nextslicecap;rw [if_pos (by omega)]
  have iY: ¬(n.toNat*inf.bytes>2^48):=by rw [i2];omega
  have mA: ¬((n.toNat:Int)>IntKind.i64.max):=by have:IntKind.i64.max=9223372036854775807:=rfl;omega
  have aP: ¬(n.toNat*te.sz=0):=by
   intro h0;rcases Nat.mul_eq_zero.1 h0 with h0|h0<;>omega
  have cL:(Builtin.append_ tys ty #[.slice none 0 0,.int .i64 n]).run P w= .ok (.slice (some ⟨w.heap.size,0,none⟩) n.toNat cap) (w.drew.alloc (.cells arr e)):=by
   unfold Builtin.append_;simp only [h0,h1,List.getElem?_toArray,List.getElem?_cons_zero,List.getElem?_cons_succ,Sem.run_bind,(hE _ _ ht).sl w hu,Result.andThen_ok,(hE _ _ cw).sizeOf,hd,Sem.run_pure,asInt,asIntOf];simp only [t1,if_true,if_false,Sem.run_bind,Sem.run_pure,Result.andThen_ok,i1,aw];rw [hn];have mB: ¬(n.toNat≤0):=by omega
   have lj: ¬(Builtin.nextslicecap n.toNat 0*inf.bytes>2^48):=by rw [yW];exact iY
   simp only [Nat.zero_add];rw [if_neg mB];simp only [if_false,Sem.run_bind,Sem.run_pure,Result.andThen_ok,i1,mA,false_and,lj,run_choose,Question.forced,World.drew_eq,oY,run_askRoom,Builtin.firstCells,aP,z1,newRow,run_newObj,World.alloc_eq,Array.empty_append,Bool.not_true,Bool.false_eq_true];rfl
  have cW:arr.size=cap*te.sz:=by
   simp only [arr,Array.size_append,ii];rw [←Nat.add_mul];congr 1;omega
  have cR: ∀(i:Nat) (x:AV),(List.replicate n.toNat zA)[i]? =some x→x.cells.length=te.sz:=by
   intro i x hx;simp only [List.getElem?_replicate] at hx;split at hx
   ·simp only [Option.some.injEq] at hx;subst hx;exact z3
   ·simp at hx
  have gf: ∀(i:Nat) (x:AV) (j:Nat) (y:AV) (v:Value),(List.replicate n.toNat zA)[i]? =some x→x.cells[j]? =some y→arr[i*te.sz+j]? =some v→R w.drew G φ A y v∧v.oneCell' =true:=by
   intro i x j y v hx hy hv;simp only [List.getElem?_replicate] at hx;split at hx
   ·rename_i hi;simp only [Option.some.injEq] at hx;subst hx;have hj:j<te.sz:=by rw [←z3];exact (List.getElem?_eq_some_iff.1 hy).1
    have az:i*te.sz+j<n.toNat*te.sz:=by have:=cT (n:=te.sz) hi;omega
    simp only [arr] at hv;rw [Array.getElem?_append_left (by rw [ii];exact az)] at hv
    have bH:zv.cells[j]? =some v:=by
     refine lg z2 hi hj ?_;rw [←hv];simp only [Builtin.zeroCells,z2]
    have:=z5 w.drew A j y v hy bH;exact ⟨.fr _ _ this.1,this.2⟩
   ·simp at hx
  obtain ⟨ak,A',bu,aX,bL⟩:=kb (arr:=arr) e dX.st hX (br (by simp [J.new])) cR (by rw [cW];simpa using Nat.mul_le_mul_right _ fD) gf
  have hg:=hX.1 _ _ (J.en H0 te.sz false (List.replicate n.toNat zA));exact bj.of (by simp only [Sem.run_bind,cL,Result.andThen_ok,Sem.run_pure];rfl) (kc hg (Nat.lt_of_lt_of_le (Nat.lt_succ_self _) hX.2) aX (by simp) fD (by simpa using fD) (by rw [lf,cW];exact Nat.le_refl _)) (dX.trans ae bu) bL
include hE in
theorem o0 {H0 H' :J} (ae:St w G φ A) (fH:bf H0 G) (hX:bf H' G) (br:H0.bs.length<H'.bs.length→ φ H0.bs.length=none) {t tx:TypeId} {tys:Array TypeId} {ty:TypeId} (h0:tys[0]? =some t) (h1:tys[1]? =some tx) {te eY:TI} (bp:cO E t=some te)
 (cM:E tx=some eY) (gg: ∀k,eY.au≠ .it k) {s x z:AV} {a b:Value} (hs:R w G φ A s a) (hx:R w G φ A x b) (hq:s= .nil∨s= .e0) (h:eB te s x H0=some (z,H')):
 bj w G φ A H0 H' ((do pure (.value (←Builtin.append_ tys ty #[a,b])):Sem Next).run P w) z:=by
 obtain ⟨ti,e,ht,hu,cw⟩:=jw bp;obtain ⟨base,rfl⟩: ∃base,a= .slice base 0 0:=by
  rcases hq with rfl|rfl
  ·exact ⟨none,hs.dh⟩
  ·obtain ⟨a0,rfl⟩:=hs.eU;exact ⟨a0,rfl⟩
 unfold eB at h;split at h
 ·simp at h
 ·rename_i xs dY;split at h
  ·simp at h
  ·rename_i aB;simp only [Bool.not_eq_true',Bool.not_eq_false] at aB;split at h
   ·simp at h
   ·rename_i hz;have hz:0<te.sz:=by omega
    obtain ⟨cs,cX⟩:=kf (P:=P) ae fH hx dY aB hz;have rL:xs.length=0→bj w G φ A H0 H0 ((do pure (.value (←Builtin.append_ tys ty #[.slice base 0 0,b])):Sem Next).run P w) s:=by
     intro hl;refine bj.val ae ?_ hs;obtain ⟨d,hd,oX⟩:=oW (hE _ _ cM) gg w;have hc:=cX.run 0 (by omega)
     have dr:=cX.len;rw [hl] at dr;simp only [Nat.zero_mul,Array.extract_zero] at hc;unfold Builtin.append_;simp only [h0,h1,List.getElem?_toArray,List.getElem?_cons_zero,List.getElem?_cons_succ,Sem.run_bind,(hE _ _ ht).sl w hu,Result.andThen_ok,(hE _ _ cw).sizeOf,hd,Sem.run_pure];simp only [Bool.false_eq_true,if_false,Bool.not_false,if_true,Sem.run_bind,dr,Result.andThen_ok,Nat.add_zero,Nat.le_refl,hc];cases base with
     |none=>simp
     |some p=>simp [storeCells]
    have rM: ∀{v:Nat},0<xs.length→roomy xs.length te.bytes=true→bf (H0.new te.sz false xs) G→ φ H0.bs.length=none→v=xs.length→
     bj w G φ A H0 (H0.new te.sz false xs) ((do pure (.value (←Builtin.append_ tys ty #[.slice base 0 0,b])):Sem Next).run P w) (.ref H0.bs.length H0.st 0 xs.length):=by
     intro v hl hr hX yX _;have dX:=mC ae;have hc:(Builtin.firstCells te.sz 0 (.slice base 0 0)).run P w.drew= .ok #[] w.drew:=by
      cases base with
      |none=>simp [Builtin.firstCells]
      |some p=>simp [Builtin.firstCells,loadCells,loadCellsFrom]
     obtain ⟨aY,fi⟩:=kf (P:=P) dX.st fH (hx.mono dX.bE) dY aB hz;have ij:=fi.run xs.length (Nat.le_refl _);rw [←fi.size] at ij;simp only [Array.extract_size] at ij;obtain ⟨cap,arr,k1,k2,k3,k4⟩:=run_append_grow (P:=P) (w:=w) (hE _ _ ht) hu (hE _ _ cw) (hE _ _ cM) gg tys h0 h1 ty cX.len hc ij (by simp) fi.size (by omega) (by simpa using hr)
     simp only [Nat.zero_add] at k1 k2 k4;have cR: ∀(i:Nat) (x:AV),xs[i]? =some x→x.cells.length=te.sz:=fun i x hi=>ig aB hi;have hle:xs.length*te.sz≤cap*te.sz:=Nat.mul_le_mul_right _ k1;obtain ⟨ak,A',bu,aX,bL⟩:=kb (arr:=arr) e dX.st hX yX cR (by rw [k3];exact hle) (fun i x j y v hi hy hv=>by
      have cp:i<xs.length:=(List.getElem?_eq_some_iff.1 hi).1;have dZ:j<x.cells.length:=(List.getElem?_eq_some_iff.1 hy).1;have:=cR i x hi;have:=cT (n:=te.sz) cp;rw [k4 _ (by omega)] at hv
      simp only [Array.empty_append] at hv;exact fi.rel i x j y v hi hy hv)
     have hg:=hX.1 _ _ (J.en H0 te.sz false xs);exact bj.of (by simp [k2]) (kc hg (Nat.lt_of_lt_of_le (Nat.lt_succ_self _) hX.2) aX (Nat.le_refl _) k1 k1 (by
      have:=lf w.drew arr e;rw [this,k3];exact Nat.le_refl _)) (dX.trans ae bu) bL
    rcases hq with rfl|rfl
    ·simp only at h;split at h
     ·rename_i hl;simp only [Option.some.injEq,Prod.mk.injEq] at h;obtain ⟨rfl,rfl⟩:=h;exact rL hl
     ·rename_i hl;split at h
      ·rename_i hr;simp only [Option.some.injEq,Prod.mk.injEq] at h;obtain ⟨rfl,rfl⟩:=h;exact rM (by omega) hr hX (br (by simp [J.new])) rfl
      ·simp at h
    ·simp only at h;split at h
     ·rename_i hl;simp only [Option.some.injEq,Prod.mk.injEq] at h;obtain ⟨rfl,rfl⟩:=h;exact rL hl
     ·rename_i hl;split at h
      ·rename_i hr;simp only [Option.some.injEq,Prod.mk.injEq] at h;obtain ⟨rfl,rfl⟩:=h;exact rM (by omega) hr hX (br (by simp [J.new])) rfl
      ·simp at h
include hE in
theorem yY {H0 H' :J} (ae:St w G φ A) (fH:bf H0 G) (hX:bf H' G) (br:H0.bs.length<H'.bs.length→ φ H0.bs.length=none) {src dst:TypeId} {x z:AV} {a:Value} (hx:R w G φ A x a)
 (h:(match (generalizing:=false) E src,E dst,x with
 |some _,some td,.int _ n=>match td.au with
  | .it k=>some (AV.int k (k.wrap n),H0)
  |_=>none
 |some _,some td,.str l=>match td.au with
  | .str=>some (.str l,H0)
  | .sl e=>match E e with
   |some te=>match te.au with
    | .it .u8=>if te.sz=1∧te.bytes=1∧l.length≤2^45 then some (.ref H0.bs.length H0.st 0 l.length,H0.new 1 false (l.map fun b=> .int .u8 b.toNat)) else none
    |_=>none
   |none=>none
  |_=>none
 |some ts,some td,x=>match ts.au,td.au with
  | .sl e,.str=>match E e with
   |some te=>match te.au with
    | .it .u8=>match cJ H0 x with
     |some xs=>if te.sz=1 then (match ((bytesOf xs).map AV.str) with|some v=>some (v,H0)|none=>none) else none
     |none=>none
    |_=>none
   |none=>none
  |_,_=>none
 |_,_,_=>none)=some (z,H')):bj w G φ A H0 H' ((do pure (.value (←convert src dst a)):Sem Next).run P w) z:=by
 have eC:(∃s,x= .str s)∨ ∀s,x≠ .str s:=by
  by_cases h: ∃s,x= .str s
  ·exact .inl h
  ·exact .inr fun s hs=>h ⟨s,hs⟩
 split at h
 ·rename_i ts td k n h1 h2;have e1:=hx.cv;subst e1;split at h
  ·rename_i k' hu
   simp only [Option.some.injEq,Prod.mk.injEq] at h;obtain ⟨rfl,rfl⟩:=h;obtain ⟨i,d,zz,_,hd,_⟩:=(hE _ _ h1).out;refine bj.val ae ?_ (.fr _ _ (.int _ _));simp only [Sem.run_bind,convert,run_underlying hd,(hE _ _ h2).kV w hu,Result.andThen_ok];cases d<;>rfl
  ·simp at h
 ·rename_i ts td l h1 h2;obtain ⟨s,rfl,rfl⟩:=hx.eD;obtain ⟨i,d,zz,_,hd,_⟩:=(hE _ _ h1).out;split at h
  ·rename_i hu;simp only [Option.some.injEq,Prod.mk.injEq] at h;obtain ⟨rfl,rfl⟩:=h;refine bj.val ae ?_ hx;simp only [Sem.run_bind,convert,run_underlying hd,(hE _ _ h2).iT w hu,Result.andThen_ok];cases d<;>rfl
  ·rename_i e hu;split at h
   ·rename_i te h3;split at h
    ·rename_i o7;split at h
     ·rename_i hc;simp only [Option.some.injEq,Prod.mk.injEq] at h;obtain ⟨rfl,rfl⟩:=h;have hl:s.data.toList.length=s.size:=Array.length_toList;have dX:=mC ae
      let q:Question:= .appendCap s.size 0 e
      let cap:=q.cut (w.tape w.drawn q)
      have fD:s.size≤cap:=Nat.le_add_right _ _
      let arr:Array Value:=(s.data.map fun b=>Value.int .u8 b.toNat) ++ Array.replicate (cap-s.size) (.int .u8 0)
      have cW:arr.size=cap:=by
       simp only [arr,Array.size_append,Array.size_map,Array.size_replicate];have:s.data.size=s.size:=rfl;omega
      obtain ⟨ak,A',bu,aX,bL⟩:=rB (arr:=arr) (arr.size,arr.size+1) e dX.st hX (br (by simp [J.new])) (fun i x hi=>by
       simp only [List.getElem?_map,Option.map_eq_some_iff] at hi;obtain ⟨c,_,rfl⟩:=hi;rfl) (by rw [List.length_map,hl,cW];omega) (fun j hj h=>by have:=h.1;simp only at this;omega) (fun i x j y v hi hy hv=>by
       simp only [List.getElem?_map,Option.map_eq_some_iff] at hi;obtain ⟨c,hc,rfl⟩:=hi;cases j with
       |zero=>
        simp only [AV.cells,List.getElem?_cons_zero,Option.some.injEq] at hy;subst hy;simp only [Nat.mul_one,Nat.add_zero] at hv;have hi:i<s.data.size:=by rw [←Array.length_toList];exact (List.getElem?_eq_some_iff.1 hc).1
        simp only [arr] at hv;rw [Array.getElem?_append_left (by simpa using hi)] at hv
        simp only [Array.getElem?_map,Option.map_eq_some_iff] at hv;obtain ⟨c',dJ,rfl⟩:=hv;have:s.data[i]? =some c:=by simpa using hc
        rw [this] at dJ;simp only [Option.some.injEq] at dJ;subst dJ;exact ⟨.fr _ _ (.int _ _),rfl⟩
       |succ j=>simp [AV.cells] at hy)
      have hg:=hX.1 _ _ (J.en H0 1 false (s.data.toList.map fun b=>AV.int .u8 b.toNat));have cL:(convert src dst (.string s)).run P w= .ok (.slice (some ⟨w.heap.size,0,none⟩) s.size cap) (w.drew.alloc (.cells arr e (arr.size,arr.size+1))):=by
       have e2:(convert src dst (.string s)).run P w=(Conv.stringToBytes e s).run P w:=by
        simp only [convert,Sem.run_bind,run_underlying hd,(hE _ _ h2).sl w hu,Result.andThen_ok];have:=(hE _ _ h3).kV w o7;cases d<;>simp [this]
       rw [e2];unfold Conv.stringToBytes;simp only [Sem.run_bind,run_choose,Question.forced,Bool.false_eq_true,if_false,World.drew_eq,Result.andThen_ok,newRow,run_newObj,World.alloc_eq,Sem.run_pure];have fI:((w.drew.alloc (.cells arr e)).shape? w.drew.heap.size)=some (e,arr.size):=by
        unfold World.shape?;rw [heap_alloc_new]
       simp only [markStringish,Sem.run_bind,run_shape,Result.andThen_ok];rw [show (w.drew.alloc (.cells ((s.data.map fun b=>Value.int .u8 b.toNat) ++ Array.replicate (q.cut (w.tape w.drawn q)-s.size) (.int .u8 0)) e))=w.drew.alloc (.cells arr e) from rfl];rw [fI];simp only [run_freeze,Result.andThen_ok];congr 1;unfold World.freeze;simp only [Nat.one_ne_zero,if_false];have: ∀(h:Array Obj) (o:Obj) (f:Obj→Obj),(h.push o).modify h.size f=h.push (f o):=by
        intro h o f;apply Array.ext
        ·simp
        ·intro i h1 h2;simp only [Array.getElem_modify,Array.getElem_push];simp at h1;by_cases hi:h.size=i
         ·subst hi;simp
         ·have:i<h.size:=by omega
          simp [hi,this]
       show ({w.drew.alloc (.cells arr e) with heap:=(w.drew.heap.push (.cells arr e)).modify w.drew.heap.size _}:World)=_;rw [this];rfl
      refine bj.of (by simp [cL];rfl) ?_ (dX.trans ae bu) bL
      rw [hl];exact kc hg (Nat.lt_of_lt_of_le (Nat.lt_succ_self _) hX.2) aX (by simp [hl]) fD (by simp [hl];exact fD) (by
       have:aU (w.drew.alloc (.cells arr e (arr.size,arr.size+1))) w.heap.size=arr.size:=by
        unfold aU;rw [show w.heap.size=w.drew.heap.size from rfl,heap_alloc_new]
       rw [this,cW];simp)
     ·simp at h
    ·simp at h
   ·simp at h
  ·simp at h
 ·rename_i x o1 o2 x' ts td h1 h2 CJ mD
  replace mD: ∀s,x≠AV.str s:=by
   rcases eC with ⟨s,rfl⟩|hn
   ·exact (mD s rfl).elim
   ·exact hn
  split at h
  ·rename_i e dF bg;split at h
   ·rename_i te h3;split at h
    ·rename_i o7;split at h
     ·rename_i xs dY;split at h
      ·split at h
       ·rename_i v hv;simp only [Option.some.injEq,Prod.mk.injEq] at h;obtain ⟨rfl,rfl⟩:=h;simp only [Option.map_eq_some_iff] at hv;obtain ⟨l,hl,rfl⟩:=hv;obtain ⟨u,hu,hr⟩:=yR hE ae fH hx dY hl mD;refine bj.val ae ?_ hr;have ha: ∃a0 l0 c0,a= .slice a0 l0 c0:=by
         obtain ⟨ns,mE,_⟩:=rH hl;have b4:=oU ae fH hx dY (sz:=1) (by rw [mE];simp [bS,AV.cells]) mD
         rcases b4.out with ⟨_,a0,c0,rfl⟩|⟨c,o,cap,arr,T,fr,rfl,_⟩
         ·exact ⟨_,_,_,rfl⟩
         ·exact ⟨_,_,_,rfl⟩
        obtain ⟨a0,l0,c0,rfl⟩:=ha;have e3:=(hE _ _ h3).kV w o7;simp only [Sem.run_bind,convert,(hE _ _ h1).sl w dF,(hE _ _ h2).iT w bg,Result.andThen_ok];cases a0<;>simp [e3,hu]
       ·simp at h
      ·simp at h
     ·simp at h
    ·simp at h
   ·simp at h
  ·simp at h
 ·simp at h
end ops
end Go.VS
namespace Go.VS
section ops
variable {P:Program} {E:aM} (hE: ∀t ti,E t=some ti→aS P t ti)
variable {w:World} {G:J} {φ :af} {A:aj}
theorem bj.fJ {H0 H' :J} {sv:Sem Value} {x:AV} (ae:St w G φ A) (h: ∃v,sv.run P w= .ok v w∧R w G φ A x v):bj w G φ A H0 H' ((do pure (.value (←sv)):Sem Next).run P w) x:=by
 obtain ⟨v,hv,hx⟩:=h;exact bj.val ae (by simp [hv]) hx
include hE in
theorem rN {H0 H' :J} (ae:St w G φ A) (fH:bf H0 G) (hX:bf H' G) (br:H0.bs.length<H'.bs.length→ φ H0.bs.length=none) {o:Oper} {s:ah} {ρ :Operand→Value} {z:AV} (hq:dT o.op=true)
 (aV: ∀y∈o.op.operands,R w G φ A (ev s y) (ρ y)) (h:aO E o.op s H0=some (z,H')):bj w G φ A H0 H' ((execOp ρ o).run P w) z:=by
 obtain ⟨dst,op,type,pos,after,guard⟩:=o;simp only at hq aV h;cases op with
 |move x=>
  simp only [aO,Option.some.injEq,Prod.mk.injEq] at h;obtain ⟨rfl,rfl⟩:=h;exact bj.val ae rfl (aV x (by simp [Op.operands]))
 |assign x=>
  simp only [aO,Option.some.injEq,Prod.mk.injEq] at h;obtain ⟨rfl,rfl⟩:=h;exact bj.val ae rfl (aV x (by simp [Op.operands]))
 |pick c a b=>
  have hc:=aV c (by simp [Op.operands])
  have ha:=aV a (by simp [Op.operands])
  have hb:=aV b (by simp [Op.operands])
  simp only [aO] at h;split at h
  ·rename_i t ht;rw [ht] at hc;have e1:=hc.ff;simp only [Option.some.injEq,Prod.mk.injEq] at h;obtain ⟨rfl,rfl⟩:=h;refine bj.val ae (v:=if t then ρ a else ρ b) (by simp [execOp,asBool,e1]) ?_
   cases t
   ·exact hb
   ·exact ha
  ·simp at h
 |binOp op t x y ty=>
  have hx:=aV x (by simp [Op.operands])
  have hy:=aV y (by simp [Op.operands])
  simp only [aO] at h;have key: ∀z,aL E op t (ev s x) (ev s y)=some z→((∃u,y= .const u)∨ ∀e,ev s y≠ .ct e)→bj w G φ A H0 H0 ((execOp ρ {dst,op:= .binOp op t x y ty,type,pos,after,guard}).run P w) z:=
   fun z hz hc=>bj.fJ ae (yj hE hx hy x y hc hz)
  split at h
  ·rename_i u;split at h
   ·rename_i v hv;simp only [Option.some.injEq,Prod.mk.injEq] at h;obtain ⟨rfl,rfl⟩:=h;exact key _ hv (.inl ⟨u,rfl⟩)
   ·simp at h
  ·split at h
   ·simp at h
   ·rename_i he;split at h
    ·rename_i v hv;simp only [Option.some.injEq,Prod.mk.injEq] at h;obtain ⟨rfl,rfl⟩:=h;exact key _ hv (.inr he)
    ·simp at h
 |unOp op t x=>
  have hx:=aV x (by simp [Op.operands])
  simp only [aO] at h;split at h
  ·rename_i v hv;simp only [Option.some.injEq,Prod.mk.injEq] at h;obtain ⟨rfl,rfl⟩:=h;exact bj.fJ ae (ya P hx hv)
  ·simp at h
 |extract x i=>
  have hx:=aV x (by simp [Op.operands])
  simp only [aO] at h;split at h
  ·rename_i vs dM;rw [dM] at hx;obtain ⟨us,dF,hl,hp⟩:=hx.mj;split at h
   ·rename_i v hv;simp only [Option.some.injEq,Prod.mk.injEq] at h;obtain ⟨rfl,rfl⟩:=h;have hi:i<us.size:=by rw [←hl];exact (List.getElem?_eq_some_iff.1 hv).1
    exact bj.fJ ae ⟨us[i],by simp [Instr.extract,dF,Array.getElem?_eq_getElem hi],hp i _ _ hv (Array.getElem?_eq_getElem hi)⟩
   ·simp at h
  ·simp at h
 |nilCheck x=>
  have hx:=aV x (by simp [Op.operands])
  simp only [aO] at h;split at h
  ·rename_i a b c d hv;rw [hv] at hx;split at h
   ·rename_i bl hb;simp only [Option.some.injEq,Prod.mk.injEq] at h;obtain ⟨rfl,rfl⟩:=h;obtain ⟨_,_,hp⟩:=hx.fE;obtain ⟨c0,b0,_,cy⟩:=hp _ (fH.ap hb);exact bj.val ae (by simp only [execOp,cy];rfl) (by rw [cy] at hx;exact hx)
   ·simp at h
  ·rename_i y o hv;rw [hv] at hx;simp only [Option.some.injEq,Prod.mk.injEq] at h;obtain ⟨rfl,rfl⟩:=h;obtain ⟨c,p,arr,T,fr,cy,_⟩:=eT hx.eT;exact bj.val ae (by simp only [execOp,cy];rfl) (by rw [cy] at hx;exact hx)
  ·simp at h
 |convert src dst x=>
  have hx:=aV x (by simp [Op.operands])
  simp only [aO] at h;exact yY hE ae fH hX br hx h
 |field t x f=>
  have hx:=aV x (by simp [Op.operands])
  simp only [aO] at h;exact bj.fJ ae (yr hE hx h)
 |fieldAddr t x f=>
  have hx:=aV x (by simp [Op.operands])
  simp only [aO] at h;exact bj.fJ ae (yf hE fH hx h)
 |indexAddr t x i=>
  have hx:=aV x (by simp [Op.operands])
  have hi:=aV i (by simp [Op.operands])
  simp only [aO] at h;exact bj.fJ ae (yq hE fH hx hi h)
 |index t x i=>
  have hx:=aV x (by simp [Op.operands])
  have hi:=aV i (by simp [Op.operands])
  simp only [aO] at h;exact bj.fJ ae (yt hE hx hi h)
 |load t x=>
  have hx:=aV x (by simp [Op.operands])
  simp only [aO] at h;exact bj.fJ ae (ru hE ae fH hx h)
 |alloc t=>
  simp only [aO] at h;exact yD hE ae hX br h
 |box t x=>
  have hx:=aV x (by simp [Op.operands])
  simp only [aO] at h;exact yE hE ae hX br hx h
 |build t parts=>
  have hp: ∀p∈parts.toList,R w G φ A (ev s p.2) (ρ p.2):=fun p hp=>aV p.2 (by simp [Op.operands];exact ⟨p.1,by simpa using hp⟩)
  simp only [aO] at h;exact bj.fJ ae (yL hE hp h)
 |buildSlice t len parts=>
  have hp: ∀p∈parts.toList,R w G φ A (ev s p.2) (ρ p.2):=fun p hp=>aV p.2 (by simp [Op.operands];exact ⟨p.1,by simpa using hp⟩)
  simp only [aO] at h;exact yM hE ae hX br hp h
 |makeSlice t l c=>
  have hl:=aV l (by simp [Op.operands])
  have hc:=aV c (by simp [Op.operands])
  simp only [aO] at h;exact yG hE ae hX br hl hc h
 |slice t x lo hi mx=>
  have hx:=aV x (by simp [Op.operands])
  have o8: ∀(q:Option Operand) (r:Option Int),(∀y,q=some y→R w G φ A (ev s y) (ρ y))→eg (q.map (ev s))=some r→fg r (q.map ρ):=by
   intro q r hq hr;refine yu (w:=w) (G:=G) (φ := φ) (A:=A) hr ?_;cases q with
   |none=>exact .inl ⟨rfl,rfl⟩
   |some y=>exact .inr ⟨_,_,rfl,rfl,hq y rfl⟩
  simp only [aO] at h;split at h
  ·rename_i l' h' m' e1 e2 e3
   split at h
   ·rename_i v hv;simp only [Option.some.injEq,Prod.mk.injEq] at h;obtain ⟨rfl,rfl⟩:=h;refine bj.fJ ae (yy hE fH hx (o8 lo l' (fun y hy=>aV y ?_) e1) (o8 hi h' (fun y hy=>aV y ?_) e2) (o8 mx m' (fun y hy=>aV y ?_) e3) hv)<;>simp [Op.operands,hy]
   ·simp at h
  ·simp at h
 |makeFunc fn first cap=>
  cases fn with
  |func f=>
   simp only [aO] at h;split at h
   ·rename_i hf;simp only [Option.some.injEq,Prod.mk.injEq] at h;obtain ⟨rfl,rfl⟩:=h;have yZ:first= #[]:=Array.eq_empty_of_size_eq_zero hf
    subst yZ;refine bj.fJ ae ⟨.func (.func f) #[] (cap.map ρ),by simp [Instr.makeFunc],R.fn f (cap.toList.map (ev s)) (cap.map ρ) (by simp) fun i x v hx hv=> ?_⟩
    simp only [List.getElem?_map,Option.map_eq_some_iff,Array.getElem?_map,Array.getElem?_toList] at hx hv;obtain ⟨y,hy,rfl⟩:=hx;obtain ⟨y',eF,rfl⟩:=hv;rw [hy] at eF;simp only [Option.some.injEq] at eF;subst eF;exact aV y (by simp [Op.operands];exact Array.mem_of_getElem? hy)
   ·simp at h
  |_=>simp [aO] at h
 |_=>simp [dT] at hq
end ops
end Go.VS
namespace Go.VS
structure iZ (w:World) (c:Nat) (o:Obj) (w' :World):Prop where
 here:w'.heap[c]? =some o
 other: ∀k,k≠c→w'.heap[k]? =w.heap[k]?
 size:w'.heap.size=w.heap.size
 os:w'.os=w.os
 tape:w'.tape=w.tape
 output:w'.output=w.output
theorem y0 {w:World} {c:Nat} {arr:Array Value} {T:TypeId} {fr:Nat×Nat} (h:w.heap[c]? =some (.cells arr T fr)) (p:Nat) (v:Value):
 iZ w c (.cells (arr.setIfInBounds p v) T fr) (w.setCell ⟨c,p,none⟩ v):=by
 refine ⟨?_,fun k hk=> ?_,by simp,rfl,rfl,rfl⟩
 ·simp only [World.setCell,Array.getElem?_modify,if_true,h,Option.map_some];rfl
 ·simp only [World.setCell,Array.getElem?_modify];rw [if_neg (fun e=>hk e.symm)]
theorem mF (P:Program) (c p:Nat) (T:TypeId) (fr:Nat×Nat): ∀(vs:List Value) (i:Nat) (arr:Array Value) (w:World),w.heap[c]? =some (.cells arr T fr)→
 (∀j,j<arr.size→ ¬(fr.1≤j∧j<fr.2))→p+i+vs.length≤arr.size→(∀u∈vs,u.oneCell' =true)→
 ∃w' arr',(storeCells ⟨c,p,none⟩ vs i).run P w= .ok () w' ∧iZ w c (.cells arr' T fr) w' ∧arr'.size=arr.size∧
  ∀m,arr'[m]? =if p+i≤m∧m<p+i+vs.length then vs[m-(p+i)]? else arr[m]?
 |[],i,arr,w,h,_,_,_=>⟨w,arr,by simp [storeCells],⟨h,fun _ _=>rfl,rfl,rfl,rfl,rfl⟩,rfl,fun m=>by rw [if_neg (by simp only [List.length_nil];omega)]⟩
 |v::vs,i,arr,w,h,hf,hl,ho=>by
  simp only [List.length_cons] at hl;have az:p+i<arr.size:=by omega
  have hc:w.cell? ⟨c,p+i,none⟩=some arr[p+i]:=by rw [mn h];exact Array.getElem?_eq_getElem az
  have fZ:w.frozen? ⟨c,p+i,none⟩=false:=by
   unfold World.frozen?;simp only [h];have:=hf (p+i) az;simp only [Bool.and_eq_false_iff,decide_eq_false_iff_not];by_cases h1:fr.1≤p+i
   ·right;exact fun h2=>this ⟨h1,h2⟩
   ·left;exact h1
  have hu:=y0 h (p+i) v;obtain ⟨w',arr',e1,e2,e3,e4⟩:=mF P c p T fr vs (i+1) (arr.setIfInBounds (p+i) v) (w.setCell ⟨c,p+i,none⟩ v) hu.here (by simpa using hf) (by simp;omega) (fun u hu=>ho u (by simp [hu]))
  refine ⟨w',arr',?_,⟨e2.here,fun k hk=>(e2.other k hk).trans (hu.other k hk),e2.size.trans hu.size,e2.os.trans hu.os,e2.tape.trans hu.tape,e2.output.trans hu.output⟩,by rw [e3];simp,fun m=> ?_⟩
  ·simp only [storeCells,Sem.run_bind,ic,run_store P w ⟨c,p+i,none⟩ v .plain (ho v (by simp)),hc,fZ,Bool.false_eq_true,if_false,Result.andThen_ok]
   exact e1
  ·rw [e4,Array.getElem?_setIfInBounds];simp only [List.length_cons];by_cases hm:m=p+i
   ·subst hm;rw [if_neg (by omega)]
    simp only [if_true];rw [if_pos az,if_pos (by omega)]
    simp
   ·by_cases la:p+(i+1)≤m∧m<p+(i+1)+vs.length
    ·rw [if_pos la,if_pos (by omega)]
     obtain ⟨q,rfl⟩: ∃q,m=p+i+1+q:=⟨m-(p+i+1),by omega⟩
     have e1:p+i+1+q-(p+(i+1))=q:=by omega
     have e2:p+i+1+q-(p+i)=q+1:=by omega
     rw [e1,e2];rfl
    ·rw [if_neg la,if_neg (by omega),if_neg (by omega)]
theorem J.i_ {H:J} {id:Nat} {b0 b:bC} (h:H.get id=some b0) (k:Nat):(H.bh id b).get k=if k=id then some b else H.get k:=by
 have az:=J.ib h;unfold J.bh J.get;simp only [List.getElem?_set];by_cases hk:id=k
 ·subst hk;simp [az]
 ·rw [if_neg hk,if_neg (fun e=>hk e.symm)]
section ops
variable {P:Program} {E:aM}
variable {w:World} {H:J} {φ :af} {A:aj}
def cq (w:World) (H:J) (φ :af) (A:aj) (H' :J) (r:Result Next) (x:AV):Prop:=
 ∃n v w' ak A',r= .ok n w' ∧(n= .value v∨(n= .skip∧v=undef))∧R w' H' ak A' x v∧Out w H φ A w' H' ak A'
theorem mG (ae:St w H φ A) {id:Nat} {b b' :bC} {c b0:Nat} (hg:H.get id=some b) (aX: φ id=some (.at_ c b0)) (hv:b'.ad=b.ad) (hs:b'.sz=b.sz) (hf:b'.fix=b.fix) (hl:b'.el.length=b.el.length)
 {arr arr' :Array Value} {T:TypeId} {fr:Nat×Nat} {w' :World} (hc:w.heap[c]? =some (.cells arr T fr)) (hu:iZ w c (.cells arr' T fr) w') (aB:arr'.size=arr.size)
 (eo: ∀(i:Nat) (x:AV),b'.el[i]? =some x→x.cells.length=b.sz)
 (ie: ∀(i:Nat) (x:AV) (j:Nat) (y:AV) (v:Value),b'.el[i]? =some x→x.cells[j]? =some y→arr'[b0+i*b.sz+j]? =some v→R w H φ A y v∧v.oneCell' =true):
 Out w H φ A w' (H.bh id b') φ A:=by
 have ll: ∀k,aU w' k=aU w k:=by
  intro k;unfold aU;by_cases hk:k=c
  ·subst hk;rw [hu.here,hc];exact aB
  ·rw [hu.other k hk]
 have fF:fC w φ w' φ :=⟨hu.os,hu.tape,hu.output,by rw [hu.size];exact Nat.le_refl _,fun k _ hk=>hu.other k (fun e=>hk (e▸⟨id,b0,aX⟩)),fun k _=>ll k,fun k hk=> .inl hk⟩
 have aT:bI w H φ A w' (H.bh id b') φ A:=by
  refine ⟨fun k a t r hk hn=>⟨⟨r,by rw [hu.other k (fun e=>hn (e▸ae.own c ⟨id,b0,aX⟩))];exact hk⟩,hn⟩,Nat.le_refl _,fun i bb hb _=> ?_,fun k _=>ll k⟩
  rw [J.i_ hg] at hb;split at hb
  ·rename_i hi;subst hi;simp only [Option.some.injEq] at hb;subst hb;exact ⟨b,hg,hv.symm,hs,hf,hl,fun loc h=>h⟩
  ·exact ⟨bb,hb,rfl,rfl,rfl,rfl,fun loc h=>h⟩
 refine ⟨⟨ae.inj,ae.own,fun k hk=>by rw [hu.size];exact ae.bY k hk,fun i loc c9=> ?_⟩,fF,aT,fun k hk _=>hk⟩
 obtain ⟨bb,kg,ag⟩:=ae.ap i loc c9;by_cases hi:i=id
 ·subst hi;rw [hg] at kg;simp only [Option.some.injEq] at kg;subst kg;rw [aX] at c9;simp only [Option.some.injEq] at c9;subst c9;obtain ⟨a0,t0,r0,k1,k2,k3,k4⟩:=ag.here c b0 rfl;rw [hc] at k1;simp only [Option.some.injEq,Obj.cells.injEq] at k1;obtain ⟨rfl,rfl,rfl⟩:=k1;refine ⟨b',by rw [J.i_ hg,if_pos rfl],by rw [hv];exact ag.ad,fun j x hx=>by rw [hs];exact eo j x hx,by simp,fun c' b1 he=> ?_⟩
  simp only [Loc.at_.injEq] at he;obtain ⟨rfl,rfl⟩:=he;refine ⟨arr',T,fr,hu.here,by rw [aB];exact k2,by rw [hl,hs,aB];exact k3,fun j x m y v hx hy cy=> ?_⟩
  rw [hs] at cy;obtain ⟨h1,h2⟩:=ie j x m y v hx hy cy;exact ⟨h1.mono aT,h2⟩
 ·refine ⟨bb,by rw [J.i_ hg,if_neg hi];exact kg,ag.ad,ag.sized,ag.aQ,fun c' b1 he=> ?_⟩
  subst he;have aP:c' ≠c:=by rintro rfl;exact hi (ae.inj _ _ _ _ _ c9 aX)
  obtain ⟨a0,t0,r0,k1,k2,k3,k4⟩:=ag.here c' b1 rfl
  exact ⟨a0,t0,r0,by rw [hu.other c' aP];exact k1,k2,k3,fun j x m y v hx hy cy=>⟨(k4 j x m y v hx hy cy).1.mono aT,(k4 j x m y v hx hy cy).2⟩⟩
theorem rO (ae:St w H φ A) {id:Nat} {b b' :bC} (hg:H.get id=some b) (hv:b'.ad=H.st)
 {c b0:Nat} {arr' :Array Value} {T:TypeId} {fr:Nat×Nat} {w' :World} (hc:Ow φ c∧(∃bx,φ id=some (.at_ c bx))∨w.heap.size≤c) (hu:w'.heap[c]? =some (.cells arr' T fr))
 (mH: ∀k,k<w.heap.size→k≠c→w'.heap[k]? =w.heap[k]?) (mI:w.heap.size≤w'.heap.size) (y3:w'.os=w.os) (y4:w'.tape=w.tape) (bu:w'.output=w.output)
 (cA:c<w.heap.size→arr'.size=aU w c) (fZ: ∀j,j<arr'.size→ ¬(fr.1≤j∧j<fr.2)) (kj:b0+b'.el.length*b'.sz≤arr'.size)
 (eo: ∀(i:Nat) (x:AV),b'.el[i]? =some x→x.cells.length=b'.sz)
 (ie: ∀(i:Nat) (x:AV) (j:Nat) (y:AV) (v:Value),b'.el[i]? =some x→x.cells[j]? =some y→arr'[b0+i*b'.sz+j]? =some v→R w H φ A y v∧v.oneCell' =true):
 Out w H φ A w' ⟨H.st+1,H.bs.set id (some b')⟩ (fun i=>if i=id then some (.at_ c b0) else φ i) (fun k=>A k∨k=c):=by
 have bD: ∀k,(J.mk (H.st+1) (H.bs.set id (some b'))).get k=if k=id then some b' else H.get k:=fun k=>J.i_ hg k
 have ll: ∀k,k<w.heap.size→aU w' k=aU w k:=by
  intro k hk;by_cases ep:k=c
  ·subst ep;rw [←cA hk];unfold aU;rw [hu]
  ·unfold aU;rw [mH k hk ep]
 have dV: ∀k,Ow (fun i=>if i=id then some (.at_ c b0) else φ i) k→Ow φ k∨k=c:=by
  rintro k ⟨i,bb,h⟩;try simp only at h
  split at h
  ·simp only [Option.some.injEq,Loc.at_.injEq] at h;exact .inr h.1.symm
  ·exact .inl ⟨i,bb,h⟩
 have rP:c<w'.heap.size:=ek hu;have fF:fC w φ w' (fun i=>if i=id then some (.at_ c b0) else φ i):=by
  refine ⟨y3,y4,bu,mI,fun k hk hn=>mH k hk (fun e=> ?_),ll,fun k hk=> ?_⟩
  ·subst e;rcases hc with h|h
   ·exact hn h.1
   ·omega
  ·rcases dV k hk with h|rfl
   ·exact .inl h
   ·rcases hc with h|h
    ·exact .inl h.1
    ·exact .inr h
 have aT:bI w H φ A w' ⟨H.st+1,H.bs.set id (some b')⟩ (fun i=>if i=id then some (.at_ c b0) else φ i) (fun k=>A k∨k=c):=by
  refine ⟨fun k a t r hk hn=> ?_,Nat.le_succ _,fun i bb hb az=> ?_,fun k hk=>ll k (Ow.lt ae hk)⟩
  ·have az:=ek hk;have ep:k≠c:=by
    rintro rfl;rcases hc with h|h
    ·exact hn (ae.own _ h.1)
    ·omega
   exact ⟨⟨r,by rw [mH k az ep];exact hk⟩,fun h=>by rcases h with h|h;exact hn h;exact ep h⟩
  ·rw [bD] at hb;split at hb
   ·simp only [Option.some.injEq] at hb;subst hb;omega
   ·rename_i hi;exact ⟨bb,hb,rfl,rfl,rfl,rfl,fun loc h=>by rw [if_neg hi];exact h⟩
 refine ⟨⟨fun i i' k b1 b2 h1 h2=> ?_,fun k hk=> ?_,fun k hk=> ?_,fun i loc c9=> ?_⟩,fF,aT,fun k hk _=> .inl hk⟩
 ·try simp only at h1 h2
  have key: ∀{i k b1},i≠id→ φ i=some (.at_ k b1)→k≠c:=by
   rintro i k b1 hi h rfl;rcases hc with ⟨_,bx,h2⟩|h2
   ·exact hi (ae.inj _ _ _ _ _ h h2)
   ·have:=Ow.lt ae ⟨i,b1,h⟩;omega
  split at h1
  ·rename_i hi;split at h2
   ·rename_i f_;omega
   ·rename_i f_;simp only [Option.some.injEq,Loc.at_.injEq] at h1;exact absurd h1.1.symm (key f_ h2)
  ·rename_i hi;split at h2
   ·simp only [Option.some.injEq,Loc.at_.injEq] at h2;exact absurd h2.1.symm (key hi h1)
   ·exact ae.inj _ _ _ _ _ h1 h2
 ·rcases dV k hk with h|h
  ·exact .inl (ae.own k h)
  ·exact .inr h
 ·rcases hk with h|rfl
  ·have:=ae.bY k h;omega
  ·exact rP
 ·try simp only at c9
  split at c9
  ·rename_i hi;subst hi;simp only [Option.some.injEq] at c9;subst c9;refine ⟨b',by rw [bD,if_pos rfl],by rw [hv];exact Nat.lt_succ_self _,eo,by simp,fun c' b1 he=> ?_⟩
   simp only [Loc.at_.injEq] at he;obtain ⟨rfl,rfl⟩:=he;refine ⟨arr',T,fr,hu,fZ,kj,fun j x m y v hx hy cy=> ?_⟩;obtain ⟨h1,h2⟩:=ie j x m y v hx hy cy;exact ⟨h1.mono aT,h2⟩
  ·rename_i hi;obtain ⟨bb,kg,ag⟩:=ae.ap i loc c9;refine ⟨bb,by rw [bD,if_neg hi];exact kg,Nat.lt_succ_of_lt ag.ad,ag.sized,ag.aQ,fun c' b1 he=> ?_⟩
   subst he;have aP:c' ≠c:=by
    rintro rfl;rcases hc with ⟨_,bx,h2⟩|h2
    ·exact hi (ae.inj _ _ _ _ _ c9 h2)
    ·have:=Ow.lt ae ⟨i,b1,c9⟩;omega
   obtain ⟨a0,t0,r0,k1,k2,k3,k4⟩:=ag.here c' b1 rfl
   exact ⟨a0,t0,r0,by rw [mH c' (ek k1) aP];exact k1,k2,k3,fun j x m y v hx hy cy=>⟨(k4 j x m y v hx hy cy).1.mono aT,(k4 j x m y v hx hy cy).2⟩⟩
end ops
end Go.VS
namespace Go.VS
theorem y5 {y v y' :AV} {off:Nat} (h:gA y off v=some y') (hv:dP v=true):off+v.cells.length≤y.cells.length∧y'.cells=splice y.cells off v.cells:=by
 cases y with
 |agg cs=>
  simp only [gA] at h;split at h
  ·rename_i hle;simp only [Option.some.injEq] at h;subst h;exact ⟨hle,rfl⟩
  ·simp at h
 |undef=>simp [gA] at h
 |_=>
  cases v<;>simp only [gA] at h<;>first
   |(simp at h;done)
   |(simp [dP,cU] at hv;done)
   |(split at h
     ·rename_i ho;simp only [Option.some.injEq] at h;subst h;subst ho;exact ⟨by simp [AV.cells],by simp [AV.cells,splice]⟩
     ·simp at h)
section ops
variable {P:Program} {E:aM} (hE: ∀t ti,E t=some ti→aS P t ti)
variable {w:World} {H:J} {φ :af} {A:aj}
include hE in
theorem y6 {H' :J} (ae:St w H φ A) {t:TypeId} {x v z:AV} {a u:Value} (hx:R w H φ A x a) (hv:R w H φ A v u)
 (h:(match (generalizing:=false) E t with
 |some ti=>match (generalizing:=false) x with
  | .ptr id ad idx off=>match H.ap id ad with
   |some b=>match b.el[idx]? with
    |some y=>if v.cells.length=ti.sz∧dP v then match gA y off v with
     |some y' =>some (AV.aA [],H.bh id {b with el:=b.el.set idx y' })
     |none=>none
     else none
    |none=>none
   |none=>none
  |_=>none
 |none=>none)=some (z,H')):cq w H φ A H' ((do Instr.storeAt t a u;pure .skip:Sem Next).run P w) z:=by
 split at h
 ·rename_i ti h1;split at h
  ·rename_i id ad idx off;split at h
   ·rename_i b hb;split at h
    ·rename_i y hy;split at h
     ·rename_i hc;split at h
      ·rename_i y' hw
       simp only [Option.some.injEq,Prod.mk.injEq] at h;obtain ⟨rfl,rfl⟩:=h;obtain ⟨_,_,hp⟩:=hx.fE;obtain ⟨c,b0,aX,rfl⟩:=hp b hb;obtain ⟨b1,cS,ag⟩:=ae.ap id _ aX;have hg:=(J.bz hb).1;rw [hg] at cS;simp only [Option.some.injEq] at cS;subst cS;obtain ⟨arr,T,fr,k1,k2,k3,k4⟩:=ag.here c b0 rfl;obtain ⟨w1,w2⟩:=y5 hw hc.2;obtain ⟨m1,m2⟩:=hv.cells (oM hc.2);have m3:=hv.ml hc.2;have cp:idx<b.el.length:=(List.getElem?_eq_some_iff.1 hy).1;have hle:=cT (n:=b.sz) cp;have cB:=ag.sized idx y hy;obtain ⟨w',arr',e1,e2,e3,e4⟩:=mF P c (b0+idx*b.sz+off) T fr u.cells.toList 0 arr w k1 k2 (by simp;omega) (fun q hq=>by
        obtain ⟨k,hk⟩:=List.getElem?_of_mem hq;exact m3 k q (by simpa using hk))
       have y7:y'.cells.length=b.sz:=by rw [w2,lb _ _ _ w1,cB]
       have ln: ∀(i:Nat) (q:AV),(b.el.set idx y')[i]? =some q→(i=idx∧q=y')∨(i≠idx∧b.el[i]? =some q):=by
        intro i q hq;rw [List.getElem?_set] at hq;split at hq
        ·rename_i hi;first
          |(rw [if_pos cp] at hq;simp only [Option.some.injEq] at hq;exact .inl ⟨hi.symm,hq.symm⟩)
          |(simp only [Option.some.injEq] at hq;exact .inl ⟨hi.symm,hq.symm⟩)
        ·rename_i hi;exact .inr ⟨fun e=>hi e.symm,hq⟩
       have bu:=mG (b' :={b with el:=b.el.set idx y' }) ae hg aX rfl rfl rfl (by simp) k1 e2 e3
        (fun i q hq=>by rcases ln i q hq with ⟨rfl,rfl⟩|⟨_,hq⟩;exact y7;exact ag.sized i q hq)
        (fun i q j s v' hq hs bH=>by
         rw [e4] at bH;simp only [Nat.add_zero,Array.length_toList] at bH;rcases ln i q hq with ⟨rfl,rfl⟩|⟨aP,hq⟩
         ·rw [w2,oL _ _ _ w1] at hs;rw [m1] at hs;by_cases hj:off≤j∧j<off+u.cells.size
          ·rw [if_pos hj] at hs;rw [if_pos (by omega)] at bH
           have e5:b0+i*b.sz+j-(b0+i*b.sz+off)=j-off:=by omega
           rw [e5] at bH;exact ⟨m2 _ _ _ hs (by simpa using bH),m3 _ _ (by simpa using bH)⟩
          ·rw [if_neg hj] at hs;rw [if_neg (by omega)] at bH
           exact k4 i y j s v' hy hs bH
         ·have o9:i<b.el.length:=(List.getElem?_eq_some_iff.1 hq).1;have dZ:j<q.cells.length:=(List.getElem?_eq_some_iff.1 hs).1;have rQ:=ag.sized i q hq;rw [if_neg (by
           intro hh;rcases Nat.lt_or_gt_of_ne aP with h1|h1
           ·have:=cT (n:=b.sz) h1;omega
           ·have:=cT (n:=b.sz) h1;omega)] at bH
          exact k4 i q j s v' hq hs bH)
       refine ⟨.skip,undef,w',φ,A,?_,.inr ⟨rfl,rfl⟩,.fr _ _ (.aA [] #[] rfl (by simp)),bu⟩
       have aB: ¬(u.cells.size≠ti.sz):=by rw [←m1];simp [hc.1]
       simp only [Instr.storeAt,Instr.sureAddr,storeVar,Sem.run_bind,Sem.run_pure,Result.andThen_ok,(hE _ _ h1).sizeOf,aB,if_false,e1]
      ·simp at h
     ·simp at h
    ·simp at h
   ·simp at h
  ·simp at h
 ·simp at h
theorem o_ (ae:St w H φ A) {id ad off len:Nat} {a:Value} (hx:R w H φ A (.ref id ad off len) a) {b:bC} (hb:H.ap id ad=some b) {at_ n:Nat} (h1:at_+n≤b.el.length) (h2:off≤at_) (hn:0<n) (_hlen:0<len∨b.el.length≤off+len∨True)
 {xs:List AV} (cx:xs.length=n) {cs:Array Value} (aB:cs.size=n*b.sz) (oH: ∀u∈cs.toList,u.oneCell' =true) (eo: ∀(i:Nat) (x:AV),xs[i]? =some x→x.cells.length=b.sz)
 (cC: ∀(i:Nat) (x:AV) (j:Nat) (y:AV) (u:Value),xs[i]? =some x→x.cells[j]? =some y→cs[i*b.sz+j]? =some u→R w H φ A y u∧u.oneCell' =true):
 ∃c b0 cap w',φ id=some (.at_ c b0)∧a= .slice (some ⟨c,b0+off*b.sz,none⟩) len cap∧b.el.length≤off+cap∧(storeCells ⟨c,b0+at_*b.sz,none⟩ cs.toList).run P w= .ok () w' ∧
  Out w H φ A w' (H.bh id {b with el:=splice b.el at_ xs}) φ A:=by
 obtain ⟨_,_,hr⟩:=hx.dq;obtain ⟨loc,a0,cap,q1,rfl,q3,q4,q5,q6⟩:=(hr b hb).out;cases loc with
 |aQ=>simp only at q6;rw [q6.1] at h1;simp at h1;omega
 |at_ c b0=>
  simp only at q6;rcases q6 with q6|⟨rfl,q7⟩
  ·omega
  ·obtain ⟨b1,cS,ag⟩:=ae.ap id _ q1;have hg:=(J.bz hb).1;rw [hg] at cS;simp only [Option.some.injEq] at cS;subst cS;obtain ⟨arr,T,fr,k1,k2,k3,k4⟩:=ag.here c b0 rfl;have hle:at_*b.sz+n*b.sz≤b.el.length*b.sz:=by rw [←Nat.add_mul];exact Nat.mul_le_mul_right _ h1
   obtain ⟨w',arr',e1,e2,e3,e4⟩:=mF P c (b0+at_*b.sz) T fr cs.toList 0 arr w k1 k2 (by simp [aB];omega) oH
   have lp: ∀(i:Nat) (q:AV),(splice b.el at_ xs)[i]? =some q→(at_≤i∧i<at_+n∧xs[i-at_]? =some q)∨(¬(at_≤i∧i<at_+n)∧b.el[i]? =some q):=by
    intro i q hq;rw [oL _ _ _ (by omega),cx] at hq
    split at hq
    ·rename_i hi;exact .inl ⟨hi.1,hi.2,hq⟩
    ·rename_i hi;exact .inr ⟨hi,hq⟩
   refine ⟨c,b0,cap,w',q1,rfl,q5,e1,mG (b' :={b with el:=splice b.el at_ xs}) ae hg q1 rfl rfl rfl (by simp only;rw [lb _ _ _ (by omega)]) k1 e2 e3 (fun i q hq=> ?_) (fun i q j s v' hq hs bH=> ?_)⟩
   ·rcases lp i q hq with ⟨_,_,h⟩|⟨_,h⟩
    ·exact eo _ _ h
    ·exact ag.sized i q h
   ·rw [e4] at bH;simp only [Nat.add_zero,Array.length_toList,aB] at bH;have dZ:j<q.cells.length:=(List.getElem?_eq_some_iff.1 hs).1;rcases lp i q hq with ⟨i1,i2,h⟩|⟨hi,h⟩
    ·have rQ:=eo _ _ h;have e5:i*b.sz=at_*b.sz+(i-at_)*b.sz:=by rw [←Nat.add_mul];congr 1;omega
     have e6:=cT (n:=b.sz) (show i-at_<n by omega)
     rw [if_pos (by omega)] at bH
     have e7:b0+i*b.sz+j-(b0+at_*b.sz)=(i-at_)*b.sz+j:=by omega
     rw [e7] at bH;exact cC _ q j s v' h hs (by simpa using bH)
    ·have rQ:=ag.sized _ _ h;rw [if_neg (by
      intro hh;rcases Nat.lt_or_ge i at_ with h1|h1
      ·have:=cT (n:=b.sz) h1;omega
      ·have h2:at_+n≤i:=by omega
       have:=Nat.mul_le_mul_right b.sz h2;rw [Nat.add_mul] at this;omega)] at bH
     exact k4 i q j s v' h hs bH
end ops
end Go.VS
namespace Go.VS
theorem pa (cs:List AV) (k:Nat) (_h:k≤cs.length):splice cs k []=cs:=by
 unfold splice;simp
section ops
variable {P:Program} {E:aM} (hE: ∀t ti,E t=some ti→aS P t ti)
variable {w:World} {H:J} {φ :af} {A:aj}
theorem y8 (ae:St w H φ A) {H' :J} (hg: ∀id,H'.get id=H.get id) (hs:H'.st=H.st):Out w H φ A w H' φ A:=by
 have aT:bI w H φ A w H' φ A:=⟨fun c a t fr hc hn=>⟨⟨fr,hc⟩,hn⟩,by rw [hs];exact Nat.le_refl _,fun id b hb _=>⟨b,by rw [←hg];exact hb,rfl,rfl,rfl,rfl,fun _ h=>h⟩,fun _ _=>rfl⟩
 refine ⟨⟨ae.inj,ae.own,ae.bY,fun id loc h=> ?_⟩,.refl _ _,aT,fun _ h _=>h⟩;obtain ⟨b,hb,ag⟩:=ae.ap id loc h;refine ⟨b,by rw [hg];exact hb,by rw [hs];exact ag.ad,ag.sized,ag.aQ,fun c b0 hl=> ?_⟩
 obtain ⟨arr,T,fr,h1,h2,h3,h4⟩:=ag.here c b0 hl;exact ⟨arr,T,fr,h1,h2,h3,fun i x j y v hx hy hv=>⟨(h4 i x j y v hx hy hv).1.mono aT,(h4 i x j y v hx hy hv).2⟩⟩
theorem pb (ae:St w H φ A) {id:Nat} {b:bC} (hg:H.get id=some b):Out w H φ A w (H.bh id b) φ A:=
 y8 ae (fun k=>by
  rw [J.i_ hg];split
  ·rename_i h;rw [h,hg]
  ·rfl) rfl
theorem pc {t tx e:TypeId} {ti te eY:TI} (ht:aS P t ti) (hu:ti.au= .sl e) (bp:aS P e te) (cM:aS P tx eY) (gg: ∀k,eY.au≠ .it k) (tys:Array TypeId) (h0:tys[0]? =some t) (h1:tys[1]? =some tx) (ty:TypeId)
 {base:Option Addr} {sLen sCap:Nat} {x:Value} {n:Nat} {iX:Array Value} {w' :World} (hlen:(Builtin.lenOf x).run P w= .ok n w)
 (hX:(Builtin.firstCells te.sz n x).run P w= .ok iX w) (li:sLen+n≤sCap) (ae:match base with|some a=>(storeCells (a.add (sLen*te.sz)) iX.toList).run P w= .ok () w' |none=>w' =w):
 (Builtin.append_ tys ty #[.slice base sLen sCap,x]).run P w= .ok (.slice base (sLen+n) sCap) w' :=by
 obtain ⟨d,hd,oX⟩:=oW cM gg w;unfold Builtin.append_;simp only [h0,h1,List.getElem?_toArray,List.getElem?_cons_zero,List.getElem?_cons_succ,Sem.run_bind,ht.sl w hu,Result.andThen_ok,bp.sizeOf,hd,Sem.run_pure];simp only [Bool.false_eq_true,if_false,Bool.not_false,if_true,Sem.run_bind,hlen,Result.andThen_ok,li,hX];cases base with
 |none=>simp only at ae;subst ae;rfl
 |some a=>simp only at ae⊢;simp only [Sem.run_bind,ae,Result.andThen_ok,Sem.run_pure]
include hE in
theorem y9 {H' :J} (ae:St w H φ A) {t tx:TypeId} {tys:Array TypeId} {ty:TypeId} (h0:tys[0]? =some t) (h1:tys[1]? =some tx) {te eY:TI} (bp:cO E t=some te)
 (cM:E tx=some eY) (gg: ∀k,eY.au≠ .it k) {id ad off len:Nat} {x z:AV} {a b:Value} (hs:R w H φ A (.ref id ad off len) a) (hx:R w H φ A x b) (h:eB te (.ref id ad off len) x H=some (z,H')):
 cq w H φ A H' ((do pure (.value (←Builtin.append_ tys ty #[a,b])):Sem Next).run P w) z:=by
 obtain ⟨ti,e,ht,hu,cw⟩:=jw bp;unfold eB at h;split at h
 ·simp at h
 ·rename_i xs dY;split at h
  ·simp at h
  ·rename_i aB;simp only [Bool.not_eq_true',Bool.not_eq_false] at aB;split at h
   ·simp at h
   ·rename_i hz;have hz:0<te.sz:=by omega
    obtain ⟨cs,cX⟩:=kf (P:=P) ae (bf.refl H) hx dY aB hz;have mJ:=cX.run xs.length (Nat.le_refl _);rw [←cX.size,Array.extract_size] at mJ;obtain ⟨hv,_,hr⟩:=hs.dq;have cR: ∀(i:Nat) (x:AV),xs[i]? =some x→x.cells.length=te.sz:=fun i x hi=>ig aB hi;simp only at h;split at h
    ·simp at h
    ·rename_i bk hb;have hg:=(J.bz hb).1;split at h
     ·simp at h
     ·rename_i cA;simp only [ne_eq,Decidable.not_not] at cA;obtain ⟨loc,a0,cap,q1,rfl,q3,q4,q5,q6⟩:=(hr bk hb).out;split at h
      ·rename_i kj;simp only [Option.some.injEq,Prod.mk.injEq] at h;obtain ⟨rfl,rfl⟩:=h;by_cases hn:xs.length=0
       ·have lq:xs=[]:=List.eq_nil_of_length_eq_zero hn;subst lq;have hcs:cs= #[]:=Array.eq_empty_of_size_eq_zero (by simpa using cX.size)
        subst hcs;have cL:=pc (P:=P) (w:=w) (w' :=w) (base:=a0) (sLen:=len) (sCap:=cap) (hE _ _ ht) hu (hE _ _ cw) (hE _ _ cM) gg tys h0 h1 ty cX.len mJ (by simpa using q4) (by cases a0<;>simp [storeCells])
        have ho:Out w H φ A w (H.bh id {bk with el:=splice bk.el (off+len) []}) φ A:=by
         rw [pa _ _ q3];exact pb ae hg
        exact ⟨_,_,w,φ,A,by simp only [Sem.run_bind,cL,Result.andThen_ok,Sem.run_pure];rfl,.inl rfl,hs.mono ho.bE,ho⟩
       ·obtain ⟨c,b0,eX,w',p1,p2,p3,p4,p5⟩:=o_ (P:=P) ae hs hb (at_:=off+len) (n:=xs.length) kj (by omega) (by omega) (.inr (.inr trivial)) rfl (cs:=cs) (by rw [cA];exact cX.size) cX.one
         (fun i x hi=>by rw [cA];exact cR i x hi) (fun i x j y u hi hy hu=>cX.rel i x j y u hi hy (by rw [←cA];exact hu))
        simp only [Value.slice.injEq,true_and] at p2;obtain ⟨rfl,rfl⟩:=p2;have cL:=pc (P:=P) (w:=w) (w' :=w') (base:=some ⟨c,b0+off*bk.sz,none⟩) (sLen:=len) (sCap:=cap) (hE _ _ ht) hu (hE _ _ cw) (hE _ _ cM) gg tys h0 h1 ty cX.len mJ (by omega) (by
         simp only [ic];have:b0+off*bk.sz+len*te.sz=b0+(off+len)*bk.sz:=by rw [←cA,Nat.add_mul];omega
         rw [this];exact p4)
        refine ⟨_,_,w',φ,A,by simp only [Sem.run_bind,cL,Result.andThen_ok,Sem.run_pure];rfl,.inl rfl,?_,p5⟩
        refine .ref _ _ _ _ _ (Nat.lt_of_lt_of_le hv p5.bE.st) ⟨_,_,rfl⟩ fun b' aw=> ?_
        have cH:=(J.bz aw).1
        rw [J.i_ hg,if_pos rfl] at cH;simp only [Option.some.injEq] at cH;subst cH;have mK:(splice bk.el (off+len) xs).length=bk.el.length:=lb _ _ _ kj;refine ⟨.at_ c b0,_,_,p1,rfl,by simp only [mK];omega,by omega,by simp only [mK];omega,?_⟩
        simp only;rw [p1] at q1;simp only [Option.some.injEq] at q1;subst q1;simp only at q6;rcases q6 with q6|⟨_,q7⟩
        ·omega
        ·right;exact ⟨by first|rfl|trivial,by rw [p5.post.aU c (Ow.lt ae ⟨id,b0,p1⟩)];exact q7⟩
      ·rename_i kj;split at h
       ·simp at h
       ·rename_i y_;split at h
        ·rename_i hc;obtain ⟨c1,c2⟩:=hc;simp only [Option.some.injEq,Prod.mk.injEq] at h;obtain ⟨rfl,rfl⟩:=h;have hn:0<xs.length:=by
          rcases Nat.eq_zero_or_pos xs.length with h|h
          ·rw [h] at kj;omega
          ·exact h
         have lr: ∀(i:Nat) (x:AV),(aG bk.el off len ++ xs)[i]? =some x→x.cells.length=bk.sz:=by
          intro i x hi;rw [List.getElem?_append] at hi;split at hi
          ·simp only [aG,List.getElem?_take,List.getElem?_drop] at hi;split at hi
           ·obtain ⟨b1,cS,ag⟩:=ae.ap id _ q1;rw [hg] at cS;simp only [Option.some.injEq] at cS;subst cS;exact ag.sized _ _ hi
           ·simp at hi
          ·rw [cA];exact cR _ _ hi
         have bA:(aG bk.el off len).length=len:=by simp [aG];omega
         by_cases li:len+xs.length≤cap
         ·
          cases loc with
          |aQ=>
           simp only at q6;have:=q6.2 (by simpa using y_)
           omega
          |at_ c b0=>
           simp only at q6;rcases q6 with q6|⟨rfl,q7⟩
           ·omega
           ·obtain ⟨b1,cS,ag⟩:=ae.ap id _ q1;rw [hg] at cS;simp only [Option.some.injEq] at cS;subst cS;obtain ⟨arr,T,fr,k1,k2,k3,k4⟩:=ag.here c b0 rfl;have rR:aU w c=arr.size:=by unfold aU;rw [k1]
            rw [rR] at q7;have hle:(off+len)*bk.sz+xs.length*bk.sz≤(off+cap)*bk.sz:=by rw [←Nat.add_mul];exact Nat.mul_le_mul_right _ (by omega)
            have hcs:cs.size=xs.length*bk.sz:=by rw [cA];exact cX.size
            obtain ⟨w',arr',e1,e2,e3,e4⟩:=mF P c (b0+(off+len)*bk.sz) T fr cs.toList 0 arr w k1 k2 (by simp [hcs];omega) cX.one
            have cL:=pc (P:=P) (w:=w) (w' :=w') (base:=some ⟨c,b0+off*bk.sz,none⟩) (sLen:=len) (sCap:=cap) (hE _ _ ht) hu (hE _ _ cw) (hE _ _ cM) gg tys h0 h1 ty cX.len mJ li (by
             simp only [ic];have:b0+off*bk.sz+len*te.sz=b0+(off+len)*bk.sz:=by rw [←cA,Nat.add_mul];omega
             rw [this];exact e1)
            have hmul:off*bk.sz+len*bk.sz=(off+len)*bk.sz:=(Nat.add_mul _ _ _).symm;have ho:=rO (b' :=⟨H.st,bk.sz,false,aG bk.el off len ++ xs⟩) (c:=c) (b0:=b0+off*bk.sz) (arr' :=arr') (T:=T) (fr:=fr) (w' :=w') ae hg rfl (.inl ⟨⟨id,b0,q1⟩,b0,q1⟩) e2.here (fun k _ hk=>e2.other k hk) (by rw [e2.size];exact Nat.le_refl _) e2.os e2.tape e2.output
             (fun _=>by rw [e3,rR]) (by rw [e3];exact k2) (by
              rw [List.length_append,bA,e3];have:(len+xs.length)*bk.sz=len*bk.sz+xs.length*bk.sz:=Nat.add_mul _ _ _;show b0+off*bk.sz+(len+xs.length)*bk.sz≤arr.size;omega) lr (fun i x j y v hi hy bH=>by
              dsimp only at bH;rw [e4] at bH;simp only [Nat.add_zero,Array.length_toList,hcs] at bH;have dZ:j<x.cells.length:=(List.getElem?_eq_some_iff.1 hy).1;have cx:=lr i x hi;rw [List.getElem?_append] at hi;split at hi
              ·rename_i cp;rw [bA] at cp;simp only [aG,List.getElem?_take,List.getElem?_drop] at hi;split at hi
               ·have:=cT (n:=bk.sz) cp;rw [if_neg (by omega)] at bH
                exact k4 (off+i) x j y v hi hy (by rw [←bH];congr 1;rw [Nat.add_mul];omega)
               ·first|(cases hi;done)|(exact absurd cp ‹_›)
              ·rename_i cp;rw [bA] at hi cp;have za:i-len<xs.length:=(List.getElem?_eq_some_iff.1 hi).1;have h7:i*bk.sz=len*bk.sz+(i-len)*bk.sz:=by rw [←Nat.add_mul];congr 1;omega
               have h8:=cT (n:=bk.sz) za;rw [if_pos (by omega)] at bH
               refine cX.rel _ x j y v hi hy ?_;rw [←bH,←cA,Array.getElem?_toList];congr 1;omega)
            refine ⟨_,_,w',_,_,by simp only [Sem.run_bind,cL,Result.andThen_ok,Sem.run_pure];rfl,.inl rfl,?_,ho⟩
            refine .ref _ _ _ _ _ (Nat.lt_succ_self _) ⟨_,_,rfl⟩ fun b' aw=> ?_
            have cH:=(J.bz aw).1
            rw [show (J.mk (H.st+1) (H.bs.set id (some ⟨H.st,bk.sz,false,aG bk.el off len ++ xs⟩))).get id=_ from J.i_ hg id,if_pos rfl] at cH;simp only [Option.some.injEq] at cH;subst cH;refine ⟨.at_ c (b0+off*bk.sz),_,_,by simp,rfl,by simp [bA],by omega,by simp [bA];omega,?_⟩
            refine Or.inr ⟨by simp,?_⟩
            dsimp only;have:aU w' c=arr.size:=by unfold aU;rw [e2.here];exact e3
            rw [this,Nat.zero_add];have:(off+cap)*bk.sz=off*bk.sz+cap*bk.sz:=Nat.add_mul _ _ _;omega
         ·
          have dX:=mC ae;obtain ⟨gO,t1,t2⟩: ∃gO:Array Value,(Builtin.firstCells te.sz len (.slice a0 len cap)).run P w.drew= .ok gO w.drew∧gO.size=len*te.sz∧
           ∀(i:Nat) (x:AV) (j:Nat) (y:AV) (v:Value),(aG bk.el off len)[i]? =some x→x.cells[j]? =some y→gO[i*te.sz+j]? =some v→R w.drew H φ A y v∧v.oneCell' =true:=by
           have zb:cJ H (.ref id ad off len)=some (aG bk.el off len):=by simp only [cJ,hb];rw [if_pos c1]
           have zd:bS te.sz (aG bk.el off len)=true:=by
            rw [bS,List.all_eq_true];intro q hq;obtain ⟨k,hk⟩:=List.getElem?_of_mem hq;have:=lr k q (by rw [List.getElem?_append_left (List.getElem?_eq_some_iff.1 hk).1];exact hk)
            simp [this,cA]
           obtain ⟨aY,fi⟩:=kf (P:=P) dX.st (bf.refl H) (hs.mono dX.bE) zb zd hz;have ij:=fi.run len (by rw [bA];exact Nat.le_refl _)
           have rS:aY.size=len*te.sz:=by rw [fi.size,bA]
           rw [←rS,Array.extract_size] at ij;exact ⟨aY,ij,rS,fi.rel⟩
          obtain ⟨t2,t3⟩:=t2;obtain ⟨aY,fi⟩:=kf (P:=P) dX.st (bf.refl H) (hx.mono dX.bE) dY aB hz;have ij:=fi.run xs.length (Nat.le_refl _);rw [←fi.size,Array.extract_size] at ij;obtain ⟨eX,arr,k1,k2,k3,k4⟩:=run_append_grow (P:=P) (w:=w) (hE _ _ ht) hu (hE _ _ cw) (hE _ _ cM) gg tys h0 h1 ty (base:=a0) (sLen:=len) (sCap:=cap) cX.len t1 ij t2 fi.size (by omega) c2
          have hle:(len+xs.length)*te.sz≤eX*te.sz:=Nat.mul_le_mul_right _ k1
          have ho:=rO (b' :=⟨H.st,bk.sz,false,aG bk.el off len ++ xs⟩) (c:=w.drew.heap.size) (b0:=0) (arr' :=arr) (T:=e) (fr:=(0,0)) (w' :=w.drew.alloc (.cells arr e)) dX.st hg rfl (.inr (Nat.le_refl _)) (heap_alloc_new _ _) (fun k hk _=>heap_alloc_old _ _ hk) (by simp) rfl rfl rfl
           (fun h=>absurd h (Nat.lt_irrefl _)) (fun j _ h=>absurd h.2 (Nat.not_lt_zero j)) (by rw [List.length_append,bA,k3,cA];omega) lr (fun i x j y v hi hy bH=>by
            have dZ:j<x.cells.length:=(List.getElem?_eq_some_iff.1 hy).1;have cx:=lr i x hi;have cp:i<len+xs.length:=by have:=(List.getElem?_eq_some_iff.1 hi).1;rw [List.length_append,bA] at this;exact this
            have h9:=cT (n:=te.sz) cp;simp only [cA,Nat.zero_add] at bH cx
            rw [k4 _ (by omega)] at bH
            rw [List.getElem?_append,bA] at hi;split at hi
            ·rename_i o9;have:=cT (n:=te.sz) o9;rw [Array.getElem?_append_left (by omega)] at bH
             exact t3 i x j y v hi hy bH
            ·rename_i o9;have h7:i*te.sz=len*te.sz+(i-len)*te.sz:=by rw [←Nat.add_mul];congr 1;omega
             rw [Array.getElem?_append_right (by omega)] at bH
             exact fi.rel _ x j y v hi hy (by rw [←bH];congr 1;omega))
          have ze:=dX.trans ae ho;refine ⟨_,_,_,_,_,by simp only [Sem.run_bind,k2,Result.andThen_ok,Sem.run_pure];rfl,.inl rfl,?_,ze⟩
          refine .ref _ _ _ _ _ (Nat.lt_succ_self _) ⟨_,_,rfl⟩ fun b' aw=> ?_
          have cH:=(J.bz aw).1
          rw [show (J.mk (H.st+1) (H.bs.set id (some ⟨H.st,bk.sz,false,aG bk.el off len ++ xs⟩))).get id=_ from J.i_ hg id,if_pos rfl] at cH;simp only [Option.some.injEq] at cH;subst cH;refine ⟨.at_ w.drew.heap.size 0,_,_,by simp,rfl,by simp [bA],k1,by simp [bA];omega,?_⟩
          refine Or.inr ⟨by simp,?_⟩
          dsimp only;rw [lf,k3,cA];simp
        ·simp at h
end ops
end Go.VS
namespace Go.VS
section ops
variable {P:Program} {E:aM} (hE: ∀t ti,E t=some ti→aS P t ti)
variable {w:World} {H:J} {φ :af} {A:aj}
theorem cq.same {r:Result Next} {x:AV} {v:Value} {H' :J} (hr:r= .ok (.value v) w) (hx:R w H φ A x v) (ho:Out w H φ A w H' φ A):cq w H φ A H' r x:=
 ⟨_,v,w,φ,A,hr,.inl rfl,hx.mono ho.bE,ho⟩
include hE in
theorem zf {H' :J} (ae:St w H φ A) {t:TypeId} {tys:Array TypeId} {ty:TypeId} (h0:tys[0]? =some t) {te:TI} (bp:cO E t=some te) {d x z:AV} {a b:Value} (hs:R w H φ A d a) (hx:R w H φ A x b)
 (h:oc te d x H=some (z,H')):cq w H φ A H' ((do pure (.value (←Builtin.copy_ tys ty #[a,b])):Sem Next).run P w) z:=by
 obtain ⟨ti,e,ht,hu,cw⟩:=jw bp;unfold oc at h;split at h
 ·simp at h
 ·rename_i xs dY;split at h
  ·simp at h
  ·rename_i aB;simp only [Bool.or_eq_true,Bool.not_eq_true',beq_iff_eq,not_or,Bool.not_eq_false] at aB;obtain ⟨aB,hz⟩:=aB;have hz:0<te.sz:=by omega
   obtain ⟨cs,cX⟩:=kf (P:=P) ae (bf.refl H) hx dY aB hz;have cL: ∀(base:Option Addr) (jy rT:Nat) (w' :World),(match base with|some a=>(storeCells a ((cs.extract 0 (min xs.length jy*te.sz)).toList)).run P w= .ok () w' |none=>w' =w)→
    (Builtin.copy_ tys ty #[.slice base jy rT,b]).run P w= .ok (.int .i64 (min xs.length jy:Nat)) w' :=by
    intro base jy rT w' hw
    have hc:=cX.run (min xs.length jy) (Nat.min_le_left _ _);unfold Builtin.copy_;simp only [h0,List.getElem?_toArray,List.getElem?_cons_zero,List.getElem?_cons_succ,Sem.run_bind,(hE _ _ ht).sl w hu,Result.andThen_ok,cX.len,(hE _ _ cw).sizeOf];rw [show Nat.min xs.length jy=min xs.length jy from rfl,hc];simp only [Result.andThen_ok];cases base with
    |none=>simp only at hw;subst hw;rfl
    |some a=>simp only at hw;simp only [Sem.run_bind,hw,Result.andThen_ok,Sem.run_pure,goInt]
   have hzero: ∀base cap,(Builtin.copy_ tys ty #[.slice base 0 cap,b]).run P w= .ok (.int .i64 0) w:=by
    intro base cap;have:=cL base 0 cap w (by cases base<;>simp [storeCells])
    simpa using this
   split at h
   ·simp only [Option.some.injEq,Prod.mk.injEq] at h;obtain ⟨rfl,rfl⟩:=h;have:=hs.dh;subst this;exact cq.same (by simp [hzero]) (.fr _ _ (.int _ _)) (.refl ae)
   ·simp only [Option.some.injEq,Prod.mk.injEq] at h;obtain ⟨rfl,rfl⟩:=h;obtain ⟨a0,rfl⟩:=hs.eU;exact cq.same (by simp [hzero]) (.fr _ _ (.int _ _)) (.refl ae)
   ·rename_i id ad off len;split at h
    ·simp at h
    ·rename_i bk hb;have hg:=(J.bz hb).1;split at h
     ·rename_i hc;simp only [Option.some.injEq,Prod.mk.injEq] at h;obtain ⟨rfl,rfl⟩:=h;have eG:(xs.take len).length=min xs.length len:=by rw [List.length_take,Nat.min_comm]
      by_cases hn:min xs.length len=0
      ·have:xs.take len=[]:=List.eq_nil_of_length_eq_zero (by omega)
       rw [this,pa _ _ (by omega),hn]
       obtain ⟨_,⟨a0,c0,rfl⟩,hr⟩:=hs.dq;have:=cL a0 len c0 w (by rw [hn];cases a0<;>simp [storeCells])
       rw [hn] at this;exact cq.same (by simp [this]) (.fr _ _ (.int _ _)) (pb ae hg)
      ·have mK:(cs.extract 0 (min xs.length len*te.sz)).size=min xs.length len*te.sz:=by
        have:=cX.size;have h2:min xs.length len*te.sz≤xs.length*te.sz:=Nat.mul_le_mul_right _ (Nat.min_le_left _ _);simp;omega
       obtain ⟨c,b0,cap,w',p1,p2,p3,p4,p5⟩:=o_ (P:=P) ae hs hb (at_:=off) (n:=min xs.length len) (by omega) (Nat.le_refl _) (by omega) (.inr (.inr trivial)) eG (cs:=cs.extract 0 (min xs.length len*te.sz))
        (by rw [hc.1];exact mK) (fun u hu=>cX.one u (by rw [Array.toList_extract,List.extract_eq_take_drop] at hu;exact List.mem_of_mem_drop (List.mem_of_mem_take hu)))
        (fun i x hi=>by
         rw [List.getElem?_take] at hi;split at hi
         ·rw [hc.1];exact ig aB hi
         ·simp at hi)
        (fun i x j y u hi hy hu=>by
         rw [List.getElem?_take] at hi;split at hi
         ·rw [Array.getElem?_extract] at hu;split at hu
          ·rw [hc.1] at hu;exact cX.rel i x j y u hi hy (by rw [←hu];congr 1;omega)
          ·simp at hu
         ·simp at hi)
       subst p2;have:=cL (some ⟨c,b0+off*bk.sz,none⟩) len cap w' p4
       exact ⟨_,_,w',φ,A,by simp only [Sem.run_bind,this,Result.andThen_ok,Sem.run_pure],.inl rfl,.fr _ _ (.int _ _),p5⟩
     ·simp at h
   ·simp at h
include hE in
theorem zg {H' :J} (ae:St w H φ A) {t:TypeId} {tys:Array TypeId} {ty:TypeId} (h0:tys[0]? =some t) {te:TI} (bp:cO E t=some te) {d z:AV} {a:Value} (hs:R w H φ A d a)
 (h:od te d H=some (z,H')):cq w H φ A H' ((do pure (.value (←Builtin.clear_ tys ty #[a])):Sem Next).run P w) z:=by
 obtain ⟨ti,e,ht,hu,cw⟩:=jw bp;have hzero: ∀a0 cap,(Builtin.clear_ tys ty #[.slice a0 0 cap]).run P w= .ok (.tuple #[]) w:=by
  intro a0 cap;unfold Builtin.clear_;simp only [h0,List.getElem?_toArray,List.getElem?_cons_zero,Sem.run_bind,(hE _ _ ht).sl w hu,Result.andThen_ok];cases a0<;>rfl
 have pd:R w H φ A (.aA []) (.tuple #[]):= .fr _ _ (.aA [] #[] rfl (by simp))
 unfold od at h;split at h
 ·simp only [Option.some.injEq,Prod.mk.injEq] at h;obtain ⟨rfl,rfl⟩:=h;have:=hs.dh;subst this;exact cq.same (by simp [hzero]) pd (.refl ae)
 ·simp only [Option.some.injEq,Prod.mk.injEq] at h;obtain ⟨rfl,rfl⟩:=h;obtain ⟨a0,rfl⟩:=hs.eU;exact cq.same (by simp [hzero]) pd (.refl ae)
 ·rename_i id ad off len;split at h
  ·rename_i bk zA hb hz;have hg:=(J.bz hb).1;split at h
   ·rename_i hc;simp only [Option.some.injEq,Prod.mk.injEq] at h;obtain ⟨rfl,rfl⟩:=h;by_cases hn:len=0
    ·subst hn;obtain ⟨_,_,hr⟩:=hs.dq;obtain ⟨loc,a1,cap,_,rfl,_⟩:=(hr bk hb).out;rw [List.replicate_zero,pa _ _ (by omega)]
     exact cq.same (by simp [hzero]) pd (pb ae hg)
    ·obtain ⟨zv,z1,z2,z3,z4,_,z5⟩:=ju (hE _ _ cw) hz w;have hcs: ∀(i j:Nat) (u:Value),i<len→j<te.sz→(Builtin.zeroCells zv.cells len)[i*te.sz+j]? =some u→zv.cells[j]? =some u:=by
      intro i j u hi hj hu;refine lg z2 hi hj ?_;rw [←hu];unfold Builtin.zeroCells;rw [z2]
     have mI:(Builtin.zeroCells zv.cells len).size=len*te.sz:=by simp [Builtin.zeroCells,z2]
     have pe:0<te.sz:=by
      rcases Nat.eq_zero_or_pos te.sz with h|h
      ·rw [h] at hc;have:=hc.2.2;simp at this
      ·exact h
     obtain ⟨c,b0,cap,w',p1,p2,p3,p4,p5⟩:=o_ (P:=P) ae hs hb (at_:=off) (n:=len) (by omega) (Nat.le_refl _) (by omega) (.inr (.inr trivial)) (xs:=List.replicate len zA) (by simp) (cs:=Builtin.zeroCells zv.cells len)
      (by rw [hc.1];exact mI) (fun u hu=>by
       obtain ⟨k,hk⟩:=List.getElem?_of_mem hu;rw [Array.getElem?_toList] at hk;have oV:k<len*te.sz:=by rw [←mI];exact (Array.getElem?_eq_some_iff.1 hk).1
       have jx:k/te.sz*te.sz+k % te.sz=k:=by rw [Nat.mul_comm];exact Nat.div_add_mod k te.sz
       have:=hcs (k/te.sz) (k % te.sz) u (rG oV pe) (Nat.mod_lt k pe) (by rw [jx];exact hk)
       have dZ:k % te.sz<te.zero.length:=by rw [z4];exact Nat.mod_lt k pe
       exact (z5 w A _ _ u (List.getElem?_eq_getElem dZ) this).2)
      (fun i x hi=>by
       rw [List.getElem?_replicate] at hi;split at hi
       ·simp only [Option.some.injEq] at hi;subst hi;rw [z3,z4,hc.1]
       ·simp at hi)
      (fun i x j y u hi hy hu=>by
       rw [List.getElem?_replicate] at hi;split at hi
       ·rename_i cp;simp only [Option.some.injEq] at hi;subst hi;rw [z3] at hy;have hj:j<te.sz:=by rw [←z4];exact (List.getElem?_eq_some_iff.1 hy).1
        rw [hc.1] at hu;have:=z5 w A j y u hy (hcs i j u cp hj hu);exact ⟨.fr _ _ this.1,this.2⟩
       ·simp at hi)
     subst p2;refine ⟨_,_,w',φ,A,?_,.inl rfl,.fr _ _ (.aA [] #[] rfl (by simp)),p5⟩
     have:(Builtin.clear_ tys ty #[.slice (some ⟨c,b0+off*bk.sz,none⟩) len cap]).run P w= .ok (.tuple #[]) w' :=by
      unfold Builtin.clear_;simp only [h0,List.getElem?_toArray,List.getElem?_cons_zero,Sem.run_bind,(hE _ _ ht).sl w hu,Result.andThen_ok];cases len with
      |zero=>exact absurd rfl hn
      |succ n=>simp only [z1,Result.andThen_ok,p4,Sem.run_pure]
     simp only [Sem.run_bind,this,Result.andThen_ok,Sem.run_pure]
   ·simp at h
  ·simp at h
 ·simp at h
include hE in
theorem rU {t:TypeId} {tys:Array TypeId} {ty:TypeId} (h0:tys[0]? =some t) {x:AV} {a:Value} (hs:R w H φ A x a) {n:Nat} {H0:J} (_hX:bf H0 H) (h:lenOf H0 x=some n) {ti:TI} (ht:E t=some ti) (hu:(∃e,ti.au= .sl e∧ ∀s,x≠ .str s)∨(ti.au= .str∧ ∃s,x= .str s)):
 (Builtin.len_ tys ty #[a]).run P w= .ok (.int .i64 n) w:=by
 unfold Builtin.len_;simp only [h0,List.getElem?_toArray,List.getElem?_cons_zero,Sem.run_bind];rcases hu with ⟨e,hu,hn⟩|⟨hu,s,rfl⟩
 ·simp only [(hE _ _ ht).sl w hu,Result.andThen_ok];cases x with
  |nil=>simp [lenOf] at h;subst h;have:=hs.dh;subst this;rfl
  |e0=>simp [lenOf] at h;subst h;obtain ⟨a0,rfl⟩:=hs.eU;rfl
  |fz xs=>simp [lenOf] at h;subst h;have:=hs.dK;cases this<;>rfl
  |ref id ad off len=>
   simp only [lenOf,Option.some.injEq] at h;subst h;obtain ⟨_,⟨a1,cap,rfl⟩,_⟩:=hs.dq;rfl
  |str s=>exact absurd rfl (hn s)
  |_=>simp [lenOf] at h
 ·obtain ⟨b,rfl,hb⟩:=hs.eD;simp only [lenOf,Option.some.injEq] at h;subst h;simp only [(hE _ _ ht).iT w hu,Result.andThen_ok,Sem.run_pure,goInt];rw [←hb];simp
end ops
end Go.VS
namespace Go.VS
theorem J.jz {H H' :J} (h:H' =H∨ ∃sz fx el,H' =H.new sz fx el):bf H H' ∧(∀id b,H'.get id=some b→b.ad<H.st→H.get id=some b)∧H.bs.length≤H'.bs.length:=by
 rcases h with rfl|⟨sz,fx,el,rfl⟩
 ·exact ⟨bf.refl _,fun _ _ h _=>h,Nat.le_refl _⟩
 ·refine ⟨J.oK H sz fx el,fun id b hg hv=> ?_,by simp [J.new]⟩
  by_cases bL:id<H.bs.length
  ·rw [J.rz H sz fx el bL] at hg;exact hg
  ·have hl:=J.ib hg;have:id=H.bs.length:=by simp [J.new] at hl;omega
   subst this;rw [J.en] at hg;simp only [Option.some.injEq] at hg;subst hg;exact absurd hv (Nat.lt_irrefl _)
theorem rV {E:aM} {op:Op} {s:ah} {H H' :J} {z:AV} (hq:dT op=true) (h:aO E op s H=some (z,H')):H' =H∨ ∃sz fx el,H' =H.new sz fx el:=by
 have mE: ¬ ∃t a v,op= .store t a v:=by
  rintro ⟨t,a,v,rfl⟩;have:dT (.store t a v)=false:=rfl;rw [this] at hq;simp at hq
 cases op with
 |makeFunc fn first cap=>
  cases fn<;>simp only [aO] at h
  ·split at h
   ·simp only [Option.some.injEq,Prod.mk.injEq] at h;exact .inl h.2.symm
   ·simp at h
  all_goals simp at h
 |_=>(simp only [aO] at h<;>(repeat' split at h)<;>first
  |(simp at h;done)
  |(simp only [Option.some.injEq,Prod.mk.injEq] at h;first|exact .inl h.2.symm|exact .inr ⟨_,_,_,h.2.symm⟩|exact absurd ⟨_,_,_,rfl⟩ mE)
  |exact absurd ⟨_,_,_,rfl⟩ mE)
section ops
variable {P:Program} {E:aM} (hE: ∀t ti,E t=some ti→aS P t ti)
variable {w:World} {H:J} {φ :af} {A:aj}
theorem St.new (ae:St w H φ A) {id:Nat} (h:H.bs.length≤id): φ id=none:=by
 cases hp: φ id with
 |none=>rfl
 |some loc=>
  obtain ⟨b,hb,_⟩:=ae.ap id loc hp;have:=J.ib hb;omega
theorem jA (ae:St w H φ A) {H' :J} (hx:bf H H') (ho: ∀id b,H'.get id=some b→b.ad<H.st→H.get id=some b):Out w H φ A w H' φ A:=by
 have aT:bI w H φ A w H' φ A:=⟨fun c a t fr hc hn=>⟨⟨fr,hc⟩,hn⟩,hx.2,fun id b hb hv=>⟨b,ho id b hb hv,rfl,rfl,rfl,rfl,fun _ h=>h⟩,fun _ _=>rfl⟩
 refine ⟨⟨ae.inj,ae.own,ae.bY,fun id loc h=> ?_⟩,.refl _ _,aT,fun _ h _=>h⟩;obtain ⟨b,hb,ag⟩:=ae.ap id loc h;refine ⟨b,hx.1 _ _ hb,Nat.lt_of_lt_of_le ag.ad hx.2,ag.sized,ag.aQ,fun c b0 hl=> ?_⟩;obtain ⟨arr,T,fr,h1,h2,h3,h4⟩:=ag.here c b0 hl;exact ⟨arr,T,fr,h1,h2,h3,fun i x j y v hx hy hv=>⟨(h4 i x j y v hx hy hv).1.mono aT,(h4 i x j y v hx hy hv).2⟩⟩
theorem cq.lu (ae:St w H φ A) {H' :J} (he:H' =H∨ ∃sz fx el,H' =H.new sz fx el) {r:Result Next} {z:AV} (h:bj w H' φ A H H' r z):cq w H φ A H' r z:=by
 obtain ⟨n,v,w',ak,A',h1,h2,h3,h4,_⟩:=h;obtain ⟨e1,e2,_⟩:=J.jz he;exact ⟨n,v,w',ak,A',h1,h2,h3,(jA ae e1 e2).trans ae h4⟩
include hE in
theorem zh {H' :J} (ae:St w H φ A) {o:Oper} {s:ah} {ρ :Operand→Value} {z:AV} (aV: ∀y∈o.op.operands,R w H φ A (ev s y) (ρ y)) (h:aO E o.op s H=some (z,H')):
 cq w H φ A H' ((execOp ρ o).run P w) z:=by
 by_cases hq:dT o.op=true
 ·have he:=rV hq h;obtain ⟨e1,e2,_⟩:=J.jz he;have ho:=jA ae e1 e2;exact cq.lu ae he (rN hE ho.st e1 (bf.refl _) (fun _=>ae.new (Nat.le_refl _)) hq (fun y hy=>(aV y hy).mono ho.bE) h)
 ·obtain ⟨dst,op,type,pos,after,guard⟩:=o;cases op with
  |store t x v=>
   have hx:=aV x (by simp [Op.operands])
   have hv:=aV v (by simp [Op.operands])
   simp only [aO] at h;exact y6 hE ae hx hv h
  |_=>first|(simp [dT] at hq;done)|(simp [aO] at h;done)
theorem lv {op:Value→Value→Sem Value} {f:AV→AV→Option AV} (bd: ∀a b x y z,R w H φ A a x→R w H φ A b y→f a b=some z→ ∃v,(op x y).run P w= .ok v w∧R w H φ A z v):
 ∀(rest:List AV) (vs:List Value) (x:AV) (v:Value) (z:AV),rest.length=vs.length→(∀(i:Nat) (a:AV) (u:Value),rest[i]? =some a→vs[i]? =some u→R w H φ A a u)→R w H φ A x v→rest.foldlM f x=some z→
 ∃u,(vs.foldlM op v).run P w= .ok u w∧R w H φ A z u
 |[],[],x,v,z,_,_,hx,h=>by simp at h;subst h;exact ⟨v,by simp,hx⟩
 |[],_::_,_,_,_,h,_,_,_=>by simp at h
 |_::_,[],_,_,_,h,_,_,_=>by simp at h
 |a::rest,b::vs,x,v,z,hl,hr,hx,h=>by
  simp only [List.foldlM_cons] at h;cases hf:f x a with
  |none=>simp [hf] at h
  |some y=>
   simp only [hf,Option.bind_eq_bind,Option.bind_some] at h;obtain ⟨u,hu,hy⟩:=bd _ _ _ _ _ hx (hr 0 a b rfl rfl) hf;obtain ⟨q,hq,hz⟩:=lv bd rest vs y u z (by simpa using hl) (fun i a u h1 h2=>hr (i+1) a u h1 h2) hy h
   exact ⟨q,by simp [hu,hq],hz⟩
include hE in
theorem zi {H' :J} (ae:St w H φ A) {b:Builtin} {tys:Array TypeId} {ty:TypeId} {consts:Array Bool} {args:List AV} {vs:Array Value} {z:AV} (hl:args.length=vs.size)
 (aV: ∀(i:Nat) (a:AV) (u:Value),args[i]? =some a→vs[i]? =some u→R w H φ A a u) (h:dm E b tys args H=some (z,H')):
 cq w H φ A H' ((builtin b tys ty consts vs).run P w) z:=by
 unfold dm at h;split at h
 ·rename_i x;obtain ⟨a,rfl⟩: ∃a,vs= #[a]:=by
   have h1:vs.size=1:=hl.symm;exact ⟨vs[0],by apply Array.ext;simp [h1];intro i h1 h2;simp at h2;subst h2;rfl⟩
  have hx:=aV 0 x a rfl rfl;split at h
  ·rename_i ti n ht hn;obtain ⟨t,h0,ht⟩:=Option.bind_eq_some_iff.1 ht;have key: ∀{q:AV×J},some q=some (z,H')→q=(AV.int .i64 n,H)→((∃e,ti.au= .sl e∧ ∀s,x≠ .str s)∨(ti.au= .str∧ ∃s,x= .str s))→cq w H φ A H' ((builtin .len tys ty consts #[a]).run P w) z:=by
    intro q hq pf hu;subst pf;simp only [Option.some.injEq,Prod.mk.injEq] at hq;obtain ⟨rfl,rfl⟩:=hq;have:=rU (tys:=tys) (ty:=ty) hE h0 hx (bf.refl H) hn ht hu;exact cq.same (by simp [builtin,this]) (.fr _ _ (.int _ _)) (.refl ae)
   split at h
   ·rename_i s hu;exact key h rfl (.inr ⟨hu,s,rfl⟩)
   ·simp at h
   ·rename_i e hu aP;exact key h rfl (.inl ⟨e,hu,fun s hs=>aP s hs⟩)
   ·simp at h
  ·simp at h
 ·rename_i s x;obtain ⟨a,b,rfl⟩: ∃a b,vs= #[a,b]:=by
   have h1:vs.size=2:=hl.symm;exact ⟨vs[0],vs[1],by apply Array.ext;simp [h1];intro i h1 h2;simp at h2;rcases i with _|_|i;rfl;rfl;omega⟩
  have hs:=aV 0 s a rfl rfl;have hx:=aV 1 x b rfl rfl;split at h
  ·rename_i t h0;split at h
   ·rename_i te tx bp cM;obtain ⟨t2,h1,cM⟩:=Option.bind_eq_some_iff.1 cM;by_cases hit: ∃k,tx.au= .it k
    ·obtain ⟨k,hit⟩:=hit;rw [hit] at h;simp only at h;split at h
     ·rename_i n;have he:H' =H∨ ∃sz fx el,H' =H.new sz fx el:=by
       unfold kP at h;repeat' split at h
       all_goals first
        |(simp at h;done)
        |(simp only [Option.some.injEq,Prod.mk.injEq] at h;first|exact .inl h.2.symm|exact .inr ⟨_,_,_,h.2.symm⟩)
      obtain ⟨e1,e2,_⟩:=J.jz he;have ho:=jA ae e1 e2;exact cq.lu ae he (rK hE ho.st (bf.refl _) (fun _=>ae.new (Nat.le_refl _)) h0 h1 bp cM hit (hs.mono ho.bE) (hx.mono ho.bE) h)
     ·simp at h
    have mL: ∀k,tx.au≠ .it k:=fun k hk=>hit ⟨k,hk⟩;replace h:eB te s x H=some (z,H'):=by
     split at h
     ·rename_i k hk;exact absurd hk (mL k)
     ·exact h
    cases s with
    |ref id ad off len=>exact y9 hE ae h0 h1 bp cM mL hs hx h
    |nil=>
     have he:H' =H∨ ∃sz fx el,H' =H.new sz fx el:=by
      simp only [eB] at h;repeat' split at h
      all_goals first
       |(simp at h;done)
       |(simp only [Option.some.injEq,Prod.mk.injEq] at h;first|exact .inl h.2.symm|exact .inr ⟨_,_,_,h.2.symm⟩)
     obtain ⟨e1,e2,_⟩:=J.jz he;have ho:=jA ae e1 e2;exact cq.lu ae he (o0 hE ho.st e1 (bf.refl _) (fun _=>ae.new (Nat.le_refl _)) h0 h1 bp cM mL (hs.mono ho.bE) (hx.mono ho.bE) (.inl rfl) h)
    |e0=>
     have he:H' =H∨ ∃sz fx el,H' =H.new sz fx el:=by
      simp only [eB] at h;repeat' split at h
      all_goals first
       |(simp at h;done)
       |(simp only [Option.some.injEq,Prod.mk.injEq] at h;first|exact .inl h.2.symm|exact .inr ⟨_,_,_,h.2.symm⟩)
     obtain ⟨e1,e2,_⟩:=J.jz he;have ho:=jA ae e1 e2;exact cq.lu ae he (o0 hE ho.st e1 (bf.refl _) (fun _=>ae.new (Nat.le_refl _)) h0 h1 bp cM mL (hs.mono ho.bE) (hx.mono ho.bE) (.inr rfl) h)
    |_=>(simp only [eB] at h;(repeat' split at h)<;>simp at h)
   ·simp at h
  ·simp at h
 ·rename_i d x;obtain ⟨a,b,rfl⟩: ∃a b,vs= #[a,b]:=by
   have h1:vs.size=2:=hl.symm;exact ⟨vs[0],vs[1],by apply Array.ext;simp [h1];intro i h1 h2;simp at h2;rcases i with _|_|i;rfl;rfl;omega⟩
  split at h
  ·rename_i te bp;obtain ⟨t,h0,bp⟩:=Option.bind_eq_some_iff.1 bp;exact zf hE ae h0 bp (aV 0 d a rfl rfl) (aV 1 x b rfl rfl) h
  ·simp at h
 ·rename_i d;obtain ⟨a,rfl⟩: ∃a,vs= #[a]:=by
   have h1:vs.size=1:=hl.symm;exact ⟨vs[0],by apply Array.ext;simp [h1];intro i h1 h2;simp at h2;subst h2;rfl⟩
  split at h
  ·rename_i te bp;obtain ⟨t,h0,bp⟩:=Option.bind_eq_some_iff.1 bp;exact zg hE ae h0 bp (aV 0 d a rfl rfl) h
  ·simp at h
 ·split at h
  ·rename_i v hv;simp only [Option.some.injEq,Prod.mk.injEq] at h;obtain ⟨rfl,rfl⟩:=h;cases args with
   |nil=>simp [jX] at hv
   |cons x rest=>
    obtain ⟨a,us,dF⟩: ∃a us,vs.toList=a::us:=by
     cases fj:vs.toList with
     |nil=>have:=congrArg List.length fj;simp at this;simp [this] at hl
     |cons a us=>exact ⟨a,us,rfl⟩
    have hlen:rest.length=us.length:=by have:=congrArg List.length dF;simp at this;simp at hl;omega
    have bD: ∀(i:Nat) (u:Value),(a::us)[i]? =some u→vs[i]? =some u:=fun i u hu=>by rw [←dF] at hu;simpa using hu
    obtain ⟨u,hu,hz⟩:=lv (P:=P) (op:=Builtin.min2) (f:=fun a b=>match a,b with| .int k x,.int _ y=>some (.int k (if y<x then y else x))|_,_=>none) (fun a b x y z ha hb hf=>by
     split at hf
     ·have e1:=ha.cv;have e2:=hb.cv;subst e1;subst e2;simp only [Option.some.injEq] at hf;subst hf;exact ⟨_,by simp [Builtin.min2],.fr _ _ (.int _ _)⟩
     ·simp at hf) rest us x a v hlen (fun i p q hp hq=>aV (i+1) p q hp (bD (i+1) q hq)) (aV 0 x a rfl (bD 0 a rfl)) hv
    exact cq.same (by simp [builtin,Builtin.min_,dF,hu]) hz (.refl ae)
  ·simp at h
 ·split at h
  ·rename_i v hv;simp only [Option.some.injEq,Prod.mk.injEq] at h;obtain ⟨rfl,rfl⟩:=h;cases args with
   |nil=>simp [jY] at hv
   |cons x rest=>
    obtain ⟨a,us,dF⟩: ∃a us,vs.toList=a::us:=by
     cases fj:vs.toList with
     |nil=>have:=congrArg List.length fj;simp at this;simp [this] at hl
     |cons a us=>exact ⟨a,us,rfl⟩
    have hlen:rest.length=us.length:=by have:=congrArg List.length dF;simp at this;simp at hl;omega
    have bD: ∀(i:Nat) (u:Value),(a::us)[i]? =some u→vs[i]? =some u:=fun i u hu=>by rw [←dF] at hu;simpa using hu
    obtain ⟨u,hu,hz⟩:=lv (P:=P) (op:=Builtin.max2) (f:=fun a b=>match a,b with| .int k x,.int _ y=>some (.int k (if y>x then y else x))|_,_=>none) (fun a b x y z ha hb hf=>by
     split at hf
     ·have e1:=ha.cv;have e2:=hb.cv;subst e1;subst e2;simp only [Option.some.injEq] at hf;subst hf;exact ⟨_,by simp [Builtin.max2],.fr _ _ (.int _ _)⟩
     ·simp at hf) rest us x a v hlen (fun i p q hp hq=>aV (i+1) p q hp (bD (i+1) q hq)) (aV 0 x a rfl (bD 0 a rfl)) hv
    exact cq.same (by simp [builtin,Builtin.max_,dF,hu]) hz (.refl ae)
  ·simp at h
 ·obtain ⟨a,rfl⟩: ∃a,vs= #[a]:=by
   have h1:vs.size=1:=hl.symm;exact ⟨vs[0],by apply Array.ext;simp [h1];intro i h1 h2;simp at h2;subst h2;rfl⟩
  have hx:=(aV 0 .nil a rfl rfl).dh;subst hx;split at h
  ·rename_i ti ht;obtain ⟨t,h0,ht⟩:=Option.bind_eq_some_iff.1 ht;split at h
   ·rename_i e hu;simp only [Option.some.injEq,Prod.mk.injEq] at h;obtain ⟨rfl,rfl⟩:=h;have hc:(Builtin.cap_ tys ty #[.slice none 0 0]).run P w= .ok (.int .i64 0) w:=by
     unfold Builtin.cap_;simp only [h0,List.getElem?_toArray,List.getElem?_cons_zero,Sem.run_bind,(hE _ _ ht).sl w hu,Result.andThen_ok];rfl
    exact cq.same (by simp [builtin,hc]) (.fr _ _ (.int _ _)) (.refl ae)
   ·simp at h
  ·simp at h
 ·simp at h
end ops
end Go.VS
namespace Go.VS
def aF (φ :af) (L:J):af:=fun id=>if (L.get id).isSome then φ id else none
theorem J.ja (H:J) (id k:Nat):(H.del id).get k=if k=id then none else H.get k:=by
 unfold J.del J.get;simp only [List.getElem?_set];by_cases hk:id=k
 ·subst hk;simp only [if_true];split<;>rfl
 ·rw [if_neg hk,if_neg (fun e=>hk e.symm)]
structure bF (L L1:J):Prop where
 get: ∀id b,L1.get id=some b→L.get id=some b
 st:L1.st=L.st
 len:L1.bs.length=L.bs.length
theorem bF.refl (L:J):bF L L:=⟨fun _ _ h=>h,rfl,rfl⟩
theorem bF.trans {L L1 L2:J} (h:bF L L1) (k:bF L1 L2):bF L L2:=⟨fun id b hb=>h.get id b (k.get id b hb),k.st.trans h.st,k.len.trans h.len⟩
theorem bF.del (L:J) (id:Nat):bF L (L.del id):=⟨fun k b h=>by rw [J.ja] at h;split at h;simp at h;exact h,rfl,by simp [J.del]⟩
theorem dt {φ :af} {L:J} {id:Nat} {loc:Loc} (h:aF φ L id=some loc): φ id=some loc∧ ∃b,L.get id=some b:=by
 unfold aF at h;split at h
 ·rename_i hs;exact ⟨h,Option.isSome_iff_exists.1 hs⟩
 ·simp at h
theorem gh {φ :af} {L L1:J} (h:bF L L1):aF (aF φ L) L1=aF φ L1:=by
 funext id
 unfold aF;cases h1:L1.get id with
 |none=>simp
 |some b=>simp [h.get id b h1]
theorem bM {φ :af} {L:J} {c:Nat} (h:Ow (aF φ L) c):Ow φ c:=by
 obtain ⟨id,b,h⟩:=h;exact ⟨id,b,(dt h).1⟩
section bB
variable {w:World}
theorem db {L L1:J} {φ :af} {A:aj} (hl:bF L L1):bI w L φ A w L1 (aF φ L1) A:=by
 refine ⟨fun c a t fr hc hn=>⟨⟨fr,hc⟩,hn⟩,by rw [hl.st];exact Nat.le_refl _,fun id b hb _=>⟨b,hl.get id b hb,rfl,rfl,rfl,rfl,fun loc h=> ?_⟩,fun _ _=>rfl⟩
 unfold aF;rw [hb];simpa using h
theorem er {L L1:J} {φ :af} {A:aj} (ae:St w L φ A) (hl:bF L L1):St w L1 (aF φ L1) A:=by
 refine ⟨fun i i' c b b' h h' =>ae.inj _ _ _ _ _ (dt h).1 (dt h').1,fun c hc=>ae.own c (bM hc),ae.bY,fun id loc h=> ?_⟩
 obtain ⟨h1,b,hb⟩:=dt h;obtain ⟨b',aw,ag⟩:=ae.ap id loc h1;rw [hl.get id b hb] at aw;simp only [Option.some.injEq] at aw;subst aw;refine ⟨b,hb,by rw [hl.st];exact ag.ad,ag.sized,ag.aQ,fun c b0 he=> ?_⟩
 obtain ⟨arr,T,fr,k1,k2,k3,k4⟩:=ag.here c b0 he;exact ⟨arr,T,fr,k1,k2,k3,fun i x j y v hx hy hv=>⟨(k4 i x j y v hx hy hv).1.mono (db hl),(k4 i x j y v hx hy hv).2⟩⟩
structure b5 (w:World) (L:J) (φL:af) (AL:aj) (H:J) (φ :af) (AH:aj):Prop where
 sl:St w L φL AL
 sh:St w H φ AH
 cg: ∀c,Ow φL c→ ¬Ow φ c
 eH: ∀c,Ow φL c→AH c
structure ci (w:World) (L:J) (φL:af) (AL:aj) (H:J) (φ :af) (AH:aj) (L1:J) (H1:J) (φ1:af):Prop where
 less:bF L L1
 bB:b5 w L1 (aF φL L1) AL H1 φ1 AH
 eh:bI w H φ AH w H1 φ1 AH
 oh: ∀c,Ow φ1 c→Ow φ c∨(Ow φL c∧ ¬Ow (aF φL L1) c)
 ik: ∀c,Ow φ c→Ow φ1 c
 hlen:H.bs.length≤H1.bs.length
 bD: ∀id b,H.get id=some b→H1.get id=some b
 b6: ∀id loc,φ id=some loc→ φ1 id=some loc
theorem ci.refl {L:J} {φL:af} {AL:aj} {H:J} {φ :af} {AH:aj} (h:b5 w L φL AL H φ AH):ci w L φL AL H φ AH L H φ :=by
 refine ⟨.refl _,⟨er h.sl (.refl _),h.sh,fun c hc=>h.cg c (bM hc),fun c hc=>h.eH c (bM hc)⟩,.refl _ _ _ _,fun c hc=> .inl hc,fun c hc=>hc,Nat.le_refl _,fun _ _ h=>h,fun _ _ h=>h⟩
theorem ci.trans {L L1 L2:J} {φL:af} {AL:aj} {H H1 H2:J} {φ φ1 a8:af} {AH:aj} (h:ci w L φL AL H φ AH L1 H1 φ1) (k:ci w L1 (aF φL L1) AL H1 φ1 AH L2 H2 a8):ci w L φL AL H φ AH L2 H2 a8:=by
 have hr:=gh (φ := φL) k.less;refine ⟨h.less.trans k.less,by rw [←hr];exact k.bB,h.eh.trans k.eh (fun _ _=>rfl),fun c hc=> ?_,fun c hc=>k.ik c (h.ik c hc),Nat.le_trans h.hlen k.hlen,fun id b hb=>k.bD id b (h.bD id b hb),fun id loc hl=>k.b6 id loc (h.b6 id loc hl)⟩
 rcases k.oh c hc with h1|⟨h1,h2⟩
 ·rcases h.oh c h1 with h3|⟨h3,h4⟩
  ·exact .inl h3
  ·refine .inr ⟨h3,fun h5=>h4 ?_⟩;rw [←hr] at h5;exact bM h5
 ·rw [hr] at h2;exact .inr ⟨bM h1,h2⟩
theorem newAt {L L1:J} {φL:af} {AL:aj} {H H1:J} {φ φ1:af} {AH:aj} (m:ci w L φL AL H φ AH L1 H1 φ1) {sz:Nat} {fx:Bool} {el:List AV} {loc:Loc}
 (eo: ∀(i:Nat) (x:AV),el[i]? =some x→x.cells.length=sz) (hv:loc= .aQ→el=[])
 (eI: ∀c b0,loc= .at_ c b0→Ow φL c∧ ¬Ow (aF φL L1) c∧ ¬Ow φ1 c∧AH c∧ ∃arr T fr,w.heap[c]? =some (.cells arr T fr)∧(∀j,j<arr.size→ ¬(fr.1≤j∧j<fr.2))∧b0+el.length*sz≤arr.size∧
  ∀(i:Nat) (x:AV) (j:Nat) (y:AV) (v:Value),el[i]? =some x→x.cells[j]? =some y→arr[b0+i*sz+j]? =some v→R w H1 φ1 AH y v∧v.oneCell' =true):
 ci w L φL AL H φ AH L1 (H1.new sz fx el) (fun i=>if i=H1.bs.length then some loc else φ1 i):=by
 have fI:=m.bB.sh;have br:=St.new fI (Nat.le_refl H1.bs.length);have hx:=J.oK H1 sz fx el;have hold: ∀id b,(H1.new sz fx el).get id=some b→b.ad<H1.st→H1.get id=some b:=(J.jz (.inr ⟨sz,fx,el,rfl⟩)).2.1;have aT:bI w H1 φ1 AH w (H1.new sz fx el) (fun i=>if i=H1.bs.length then some loc else φ1 i) AH:=by
  refine ⟨fun c a t fr hc hn=>⟨⟨fr,hc⟩,hn⟩,hx.2,fun id b hb az=>⟨b,hold id b hb az,rfl,rfl,rfl,rfl,fun l hl=> ?_⟩,fun _ _=>rfl⟩;rw [if_neg (by rintro rfl;rw [br] at hl;simp at hl)];exact hl
 have dV: ∀c,Ow (fun i=>if i=H1.bs.length then some loc else φ1 i) c→Ow φ1 c∨ ∃b0,loc= .at_ c b0:=by
  rintro c ⟨i,b,h⟩;try simp only at h
  split at h
  ·simp only [Option.some.injEq] at h;exact .inr ⟨b,h⟩
  ·exact .inl ⟨i,b,h⟩
 refine ⟨m.less,⟨m.bB.sl,⟨fun i i' c b b' h1 h2=> ?_,fun c hc=> ?_,fI.bY,fun i l hl=> ?_⟩,fun c hc ho=> ?_,m.bB.eH⟩,m.eh.trans aT (fun _ _=>rfl),fun c hc=> ?_,fun c hc=> ?_,?_,fun id b hb=>hx.1 _ _ (m.bD id b hb),fun id l hl=> ?_⟩
 ·try simp only at h1 h2
  split at h1
  ·rename_i hi;split at h2
   ·rename_i f_;omega
   ·simp only [Option.some.injEq] at h1;exact absurd ⟨i',b',h2⟩ (eI c b h1).2.2.1
  ·split at h2
   ·simp only [Option.some.injEq] at h2;exact absurd ⟨i,b,h1⟩ (eI c b' h2).2.2.1
   ·exact fI.inj _ _ _ _ _ h1 h2
 ·rcases dV c hc with h|⟨b0,h⟩
  ·exact fI.own c h
  ·exact (eI c b0 h).2.2.2.1
 ·try simp only at hl
  split at hl
  ·rename_i hi;subst hi;simp only [Option.some.injEq] at hl;subst hl;refine ⟨_,J.en _ _ _ _,Nat.lt_succ_self _,eo,hv,fun c b0 he=> ?_⟩;obtain ⟨_,_,_,_,arr,T,fr,k1,k2,k3,k4⟩:=eI c b0 he;exact ⟨arr,T,fr,k1,k2,k3,fun j x q y v bJ hy cy=>⟨(k4 j x q y v bJ hy cy).1.mono aT,(k4 j x q y v bJ hy cy).2⟩⟩
  ·obtain ⟨bb,hb,ag⟩:=fI.ap i l hl;refine ⟨bb,hx.1 _ _ hb,Nat.lt_of_lt_of_le ag.ad hx.2,ag.sized,ag.aQ,fun c b0 he=> ?_⟩;obtain ⟨arr,T,fr,k1,k2,k3,k4⟩:=ag.here c b0 he;exact ⟨arr,T,fr,k1,k2,k3,fun j x q y v bJ hy cy=>⟨(k4 j x q y v bJ hy cy).1.mono aT,(k4 j x q y v bJ hy cy).2⟩⟩
 ·rcases dV c ho with h|⟨b0,h⟩
  ·exact m.bB.cg c hc h
  ·exact (eI c b0 h).2.1 hc
 ·rcases dV c hc with h|⟨b0,h⟩
  ·exact m.oh c h
  ·exact .inr ⟨(eI c b0 h).1,(eI c b0 h).2.1⟩
 ·obtain ⟨i,b,h⟩:=m.ik c hc
  exact ⟨i,b,by show (if i=H1.bs.length then some loc else φ1 i)=_;rw [if_neg (by rintro rfl;rw [br] at h;simp at h)];exact h⟩
 ·simp only [J.new,List.length_append,List.length_singleton];exact Nat.le_succ_of_le m.hlen
 ·have:=m.b6 id l hl;rw [if_neg (by rintro rfl;rw [br] at this;simp at this)];exact this
end bB
end Go.VS
namespace Go.VS
section bB
variable {w:World}
theorem rW {L H:J} {φL φ :af} {AL AH:aj} {x:AV} {v:Value} (hp:dA x=true) (h:R w L φL AL x v):R w H φ AH x v:=by
 cases x with
 |undef=>exact .fr _ _ (.undef _)
 |int k n=>have:=h.cv;subst this;exact .fr _ _ (.int _ _)
 |bool b=>have:=h.ff;subst this;exact .fr _ _ (.bool _)
 |str s=>obtain ⟨b,rfl,rfl⟩:=h.eD;exact .fr _ _ (.str _)
 |ct b=>rcases h.j9 with ⟨rfl,rfl⟩|⟨rfl,t,u,rfl⟩;exact .fr _ _ .j8;exact .fr _ _ (.err _ _)
 |dG=>cases h with|fr _ _ h=>cases h;exact .fr _ _ .dG
 |_=>simp [dA] at hp
theorem rX {x:AV} (hp:dA x=true) (H:J):aI x H=(x,H):=by
 cases x<;>first|rfl|simp [dA] at hp
def gi (AL AH:aj) (y:AV):Prop:=(∀c,AH c→AL c)∨cm y=true
def d_ (AL AH:aj) (ys:List AV):Prop:=(∀c,AH c→AL c)∨ei ys=true
theorem d_.cons {AL AH:aj} {y:AV} {ys:List AV} (h:d_ AL AH (y::ys)):gi AL AH y∧d_ AL AH ys:=by
 rcases h with h|h
 ·exact ⟨.inl h,.inl h⟩
 ·simp only [ei,Bool.and_eq_true] at h;exact ⟨.inr h.1,.inr h.2⟩
theorem pg {es:List Sh} (hE: ∀(x:AV) (vs:List Value) (L:J) (φL:af) (AL:aj) (H:J) (φ :af) (AH:aj) (y:AV) (L1:J) (a:AV) (H1:J),b5 w L φL AL H φ AH→x.cells.length=vs.length→
 (∀(j:Nat) (c:AV) (u:Value),x.cells[j]? =some c→vs[j]? =some u→R w L φL AL c u)→a_ es x L=some (y,L1)→aI y H=(a,H1)→gi AL AH y→
 ∃ φ1,ci w L φL AL H φ AH L1 H1 φ1∧a.cells.length=x.cells.length∧ ∀(j:Nat) (c:AV) (u:Value),a.cells[j]? =some c→vs[j]? =some u→R w H1 φ1 AH c u):
 ∀(xs:List AV) (g:Nat→Nat→Value) (L:J) (φL:af) (AL:aj) (H:J) (φ :af) (AH:aj) (ys:List AV) (L1:J) (as:List AV) (H1:J),b5 w L φL AL H φ AH→
  (∀(i:Nat) (x:AV) (j:Nat) (c:AV),xs[i]? =some x→x.cells[j]? =some c→R w L φL AL c (g i j))→dz (a_ es) xs L=some (ys,L1)→aJ ys H=(as,H1)→d_ AL AH ys→
  ∃ φ1,ci w L φL AL H φ AH L1 H1 φ1∧as.length=xs.length∧(∀(i:Nat) (x a:AV),xs[i]? =some x→as[i]? =some a→a.cells.length=x.cells.length)∧
   ∀(i:Nat) (a:AV) (j:Nat) (c:AV),as[i]? =some a→a.cells[j]? =some c→R w H1 φ1 AH c (g i j)
 |[],g,L,φL,AL,H,φ,AH,ys,L1,as,H1,hd,_,ht,hw,_=>by
  simp only [dz,Option.some.injEq,Prod.mk.injEq] at ht;obtain ⟨rfl,rfl⟩:=ht;simp only [aJ,Prod.mk.injEq] at hw;obtain ⟨rfl,rfl⟩:=hw;exact ⟨φ,.refl hd,rfl,by simp,by simp⟩
 |x::xs,g,L,φL,AL,H,φ,AH,ys,L1,as,H1,hd,hr,ht,hw,hk=>by
  simp only [dz] at ht;split at ht
  ·rename_i y L' h1
   split at ht
   ·rename_i aW di h2
    simp only [Option.some.injEq,Prod.mk.injEq] at ht;obtain ⟨rfl,rfl⟩:=ht;obtain ⟨k1,k2⟩:=hk.cons;simp only [aJ,Prod.mk.injEq] at hw;obtain ⟨rfl,rfl⟩:=hw
    let vs:List Value:=(List.range x.cells.length).map (g 0)
    obtain ⟨φ1,m1,l1,r1⟩:=hE x vs L φL AL H φ AH y L' _ _ hd (by simp [vs]) (fun j c u hj hu=>by
     have dZ:j<x.cells.length:=(List.getElem?_eq_some_iff.1 hj).1;have:vs[j]? =some (g 0 j):=by simp [vs,dZ]
     rw [this] at hu;simp only [Option.some.injEq] at hu;subst hu;exact hr 0 x j c rfl hj) h1 rfl k1
    obtain ⟨a8,m2,l2,s2,r2⟩:=pg hE xs (fun i j=>g (i+1) j) L' (aF φL L') AL _ φ1 AH aW di _ _ m1.bB (fun i x' j c hi hj=>(hr (i+1) x' j c hi hj).mono (db m1.less)) h2 rfl k2
    refine ⟨a8,m1.trans m2,by simp [l2],fun i x' a hx ha=> ?_,fun i a j c ha hc=> ?_⟩
    ·cases i with
     |zero=>simp at hx ha;subst hx;subst ha;exact l1
     |succ i=>exact s2 i x' a hx ha
    ·cases i with
     |zero=>
      simp only [List.getElem?_cons_zero,Option.some.injEq] at ha;subst ha;have hj:j<x.cells.length:=by rw [←l1];exact (List.getElem?_eq_some_iff.1 hc).1
      exact (r1 j c (g 0 j) hc (by simp [vs,hj])).mono m2.eh
     |succ i=>exact r2 i a j c ha hc
   ·simp at ht
  ·simp at ht
theorem mM {L:J} {φL:af} {AL:aj} {H:J} {φ :af} {AH:aj} (hd:b5 w L φL AL H φ AH) {id ad:Nat} {b:bC} (hb:L.ap id ad=some b) {off n:Nat} (hle:off+n≤b.el.length) {sz:Nat} (hs:b.sz=sz) {loc:Loc} (aX: φL id=some loc)
 {L1:J} {as:List AV} {H1:J} {g:Nat→Nat→Value} {φ1:af} (hg: ∀c b0 arr T fr,loc= .at_ c b0→w.heap[c]? =some (.cells arr T fr)→ ∀(i j:Nat) (v:Value),i<n→j<sz→arr[b0+(off+i)*sz+j]? =some v→g i j=v)
 (m:ci w (L.del id) (aF φL (L.del id)) AL H φ AH L1 H1 φ1) (hl:as.length=n) (eo: ∀(i:Nat) (a:AV),as[i]? =some a→a.cells.length=sz)
 (hr: ∀(i:Nat) (a:AV) (j:Nat) (c:AV),as[i]? =some a→a.cells[j]? =some c→R w H1 φ1 AH c (g i j)) (fx:Bool) (loc' :Loc) (il:loc' = .aQ∧n=0∨ ∃c b0,loc= .at_ c b0∧loc' = .at_ c (b0+off*sz)):
 ci w L φL AL H φ AH L1 (H1.new sz fx as) (fun i=>if i=H1.bs.length then some loc' else φ1 i):=by
 have ph:=(J.bz hb).1;have pj:=(bF.del L id).trans m.less;have iq:aF (aF φL (L.del id)) L1=aF φL L1:=gh m.less;have m' :ci w L φL AL H φ AH L1 H1 φ1:=by
  refine ⟨pj,by have:=m.bB;rwa [iq] at this,m.eh,fun c hc=> ?_,m.ik,m.hlen,m.bD,m.b6⟩
  rcases m.oh c hc with h|⟨h1,h2⟩
  ·exact .inl h
  ·rw [iq] at h2;exact .inr ⟨bM h1,h2⟩
 refine newAt m' eo (fun hv=> ?_) (fun c b1 he=> ?_)
 ·rcases il with ⟨_,h0⟩|⟨c,b0,_,h2⟩
  ·exact List.eq_nil_of_length_eq_zero (by omega)
  ·rw [h2] at hv;simp at hv
 ·rcases il with ⟨h1,_⟩|⟨c',b0,h1,h2⟩
  ·rw [h1] at he;simp at he
  ·rw [h2] at he;simp only [Loc.at_.injEq] at he;obtain ⟨rfl,rfl⟩:=he;subst h1;have jB:Ow φL c' :=⟨id,b0,aX⟩
   have pk: ¬Ow (aF φL L1) c' :=by
    rintro ⟨i,bb,hi⟩;obtain ⟨fK,bk,a7⟩:=dt hi;have:=hd.sl.inj _ _ _ _ _ fK aX;subst this;have:=m.less.get _ _ a7;rw [J.ja,if_pos rfl] at this;simp at this
   refine ⟨jB,pk,fun ho=> ?_,hd.eH _ jB,?_⟩
   ·rcases m.oh c' ho with h|⟨⟨i,bb,hi⟩,_⟩
    ·exact hd.cg c' jB h
    ·obtain ⟨fK,bk,a7⟩:=dt hi;have:=hd.sl.inj _ _ _ _ _ fK aX;subst this;rw [J.ja,if_pos rfl] at a7;simp at a7
   ·obtain ⟨bk,a7,ag⟩:=hd.sl.ap id _ aX;rw [ph] at a7;simp only [Option.some.injEq] at a7;subst a7;obtain ⟨arr,T,fr,k1,k2,k3,k4⟩:=ag.here c' b0 rfl
    have hmul:off*sz+n*sz≤b.el.length*sz:=by rw [←Nat.add_mul];exact Nat.mul_le_mul_right _ hle
    refine ⟨arr,T,fr,k1,k2,by rw [hl];rw [hs] at k3;omega,fun i a j c v ha hc hv=> ?_⟩
    have hi:i<n:=by rw [←hl];exact (List.getElem?_eq_some_iff.1 ha).1
    have hj:j<sz:=by rw [←eo i a ha];exact (List.getElem?_eq_some_iff.1 hc).1
    have e:b0+off*sz+i*sz+j=b0+(off+i)*sz+j:=by rw [Nat.add_mul];omega
    rw [e] at hv;have po:=hg c' b0 arr T fr rfl k1 i j v hi hj hv
    refine ⟨by rw [←po];exact hr i a j c ha hc,?_⟩
    have b4:off+i<b.el.length:=by omega
    have hx:=List.getElem?_eq_getElem b4;have cx:=ag.sized _ _ hx;exact (k4 (off+i) _ j _ v hx (List.getElem?_eq_getElem (by omega)) (by rw [hs];exact hv)).2
end bB
end Go.VS
namespace Go.VS
section bB
variable {w:World}
theorem cells_one {x:AV} (h1:x≠ .undef) (h2: ∀cs,x≠ .agg cs):x.cells=[x]:=by
 cases x<;>first|rfl|exact absurd rfl h1|exact absurd rfl (h2 _)
theorem kl {H:J} {id ad:Nat} {b b' :bC} (h:H.get id=some b) (h' :H.ap id ad=some b'):b' =b:=by
 have:=(J.bz h').1;rw [h] at this;simp only [Option.some.injEq] at this;exact this.symm
mutual
theorem mN (sh:Sh) (x:AV) (v:Value) (L:J) (φL:af) (AL:aj) (H:J) (φ :af) (AH:aj) (y:AV) (L1:J) (a:AV) (H1:J) (hd:b5 w L φL AL H φ AH) (hx:R w L φL AL x v)
 (ht:aR sh x L=some (y,L1)) (hw:aI y H=(a,H1)) (hk:gi AL AH y): ∃ φ1,ci w L φL AL H φ AH L1 H1 φ1∧R w H1 φ1 AH a v∧(x≠ .undef→a.cells=[a])∧(x= .undef→a= .undef):=by
 cases sh with
 |sc=>
  simp only [aR] at ht;split at ht
  ·rename_i hp;simp only [Option.some.injEq,Prod.mk.injEq] at ht;obtain ⟨rfl,rfl⟩:=ht;rw [rX hp] at hw;simp only [Prod.mk.injEq] at hw;obtain ⟨rfl,rfl⟩:=hw;exact ⟨φ,.refl hd,rW hp hx,fun hu=>cells_one hu (by rintro cs rfl;simp [dA] at hp),fun h=>h⟩
  ·simp at ht
 |sl es=>
  have lx: ∀{v0:Option Addr},v= .slice v0 0 0→aI (.own es.length []) H=(a,H1)→L1=L→ ∃ φ1,ci w L φL AL H φ AH L1 H1 φ1∧R w H1 φ1 AH a v∧a.cells=[a]:=by
   intro v0 hv hw hL;subst hL;simp only [aI,aJ,Prod.mk.injEq] at hw;obtain ⟨rfl,rfl⟩:=hw;have m:=newAt (ci.refl hd) (sz:=es.length) (fx:=false) (el:=[]) (loc:= .aQ) (by simp) (fun _=>rfl) (by simp)
   refine ⟨_,m,?_,rfl⟩;refine .ref _ _ _ _ _ (Nat.lt_succ_self _) ⟨_,_,hv⟩ fun b hb=> ?_;have:=kl (J.en H es.length false []) hb;subst this;exact ⟨.aQ,v0,0,by simp,hv,by simp,Nat.le_refl _,by simp,rfl,fun _=>rfl⟩
  cases x with
  |nil=>
   simp only [aR,Option.some.injEq,Prod.mk.injEq] at ht;obtain ⟨rfl,rfl⟩:=ht;obtain ⟨φ1,h1,h2,h3⟩:=lx hx.dh hw rfl;exact ⟨φ1,h1,h2,fun _=>h3,fun h=>by simp at h⟩
  |e0=>
   simp only [aR,Option.some.injEq,Prod.mk.injEq] at ht;obtain ⟨rfl,rfl⟩:=ht;obtain ⟨a0,ly⟩:=hx.eU;obtain ⟨φ1,h1,h2,h3⟩:=lx ly hw rfl;exact ⟨φ1,h1,h2,fun _=>h3,fun h=>by simp at h⟩
  |fz xs=>
   simp only [aR,Option.some.injEq,Prod.mk.injEq] at ht;obtain ⟨rfl,rfl⟩:=ht;simp only [aI,Prod.mk.injEq] at hw;obtain ⟨rfl,rfl⟩:=hw;rcases hk with hk|hk
   ·exact ⟨φ,.refl hd,.fr _ _ (hx.dK.shrink hk),fun _=>rfl,fun h=>by simp at h⟩
   ·simp [cm] at hk
  |ref id ad off len=>
   simp only [aR] at ht;split at ht
   ·rename_i b hb;split at ht
    ·rename_i hc;obtain ⟨c1,c2,c3⟩:=hc;split at ht
     ·rename_i ys L' hm
      simp only [Option.some.injEq,Prod.mk.injEq] at ht;obtain ⟨rfl,rfl⟩:=ht;simp only [aI,Prod.mk.injEq] at hw;obtain ⟨rfl,rfl⟩:=hw;have hg:=(J.bz hb).1;obtain ⟨bQ,_,hr⟩:=hx.dq;obtain ⟨loc,a0,cap,q1,rfl,q3,q4,q5,q6⟩:=(hr b hb).out;obtain ⟨bk,a7,ag⟩:=hd.sl.ap id _ q1;rw [hg] at a7;simp only [Option.some.injEq] at a7;subst a7;have bK:d_ AL AH ys:=by
       rcases hk with h|h
       ·exact .inl h
       ·exact .inr (by simpa [cm] using h)
      have cY:=bF.del L id;have b7:b5 w (L.del id) (aF φL (L.del id)) AL H φ AH:=⟨er hd.sl cY,hd.sh,fun c hc=>hd.cg c (bM hc),fun c hc=>hd.eH c (bM hc)⟩
      have bA:(aG b.el off len).length=len:=by simp [aG];omega
      have gj: ∀(i:Nat) (x:AV),(aG b.el off len)[i]? =some x→b.el[off+i]? =some x:=by
       intro i x hi;simp only [aG,List.getElem?_take,List.getElem?_drop] at hi;split at hi
       ·exact hi
       ·simp at hi
      let g:Nat→Nat→Value:=match loc with
       | .aQ=>fun _ _=>undef
       | .at_ c b0=>fun i j=>match w.heap[c]? with
        |some (.cells arr _ _)=>arr.getD (b0+(off+i)*es.length+j) undef
        |_=>undef
      have cC: ∀(i:Nat) (x:AV) (j:Nat) (c:AV),(aG b.el off len)[i]? =some x→x.cells[j]? =some c→R w (L.del id) (aF φL (L.del id)) AL c (g i j):=by
       intro i x j c hi hj;have bJ:=gj i x hi
       have cp:i<len:=by rw [←bA];exact (List.getElem?_eq_some_iff.1 hi).1
       cases loc with
       |aQ=>have:=ag.aQ rfl;rw [this] at bJ;simp at bJ
       |at_ c0 b0=>
        obtain ⟨arr,T,fr,k1,k2,k3,k4⟩:=ag.here c0 b0 rfl;have dZ:j<b.sz:=by rw [←ag.sized _ _ bJ];exact (List.getElem?_eq_some_iff.1 hj).1
        have hle:=cT (n:=b.sz) (show off+i<b.el.length by omega)
        have az:b0+(off+i)*b.sz+j<arr.size:=by omega
        have:g i j=arr[b0+(off+i)*b.sz+j]:=by
         simp only [g,k1,←c1,Array.getD_eq_getD_getElem?,Array.getElem?_eq_getElem az,Option.getD_some]
        rw [this];exact ((k4 _ _ _ _ _ bJ hj (Array.getElem?_eq_getElem az)).1).mono (db cY)
      obtain ⟨φ1,m,l1,s1,r1⟩:=pg (w:=w) (es:=es) (fun x vs L φL AL H φ AH y L1 a H1=>mO es x vs L φL AL H φ AH y L1 a H1) _ g _ _ _ _ _ _ _ _ _ _ b7 cC hm rfl bK
      rw [bA] at l1;have lz: ∀(i:Nat) (a:AV),(aJ ys H).1[i]? =some a→a.cells.length=b.sz:=by
       intro i a ha;have cp:i<(aG b.el off len).length:=by rw [bA,←l1];exact (List.getElem?_eq_some_iff.1 ha).1
       have jb:=List.getElem?_eq_getElem cp;rw [s1 i _ a jb ha];exact ag.sized _ _ (gj i _ jb)
      have pq: ∀c b0 arr T fr,loc= .at_ c b0→w.heap[c]? =some (.cells arr T fr)→ ∀(i j:Nat) (v:Value),i<len→j<b.sz→arr[b0+(off+i)*b.sz+j]? =some v→g i j=v:=by
       intro c b0 arr T fr hl hh i j v _ _ hv;subst hl;simp only [g,hh,←c1,Array.getD_eq_getD_getElem?,hv,Option.getD_some]
      let loc' :Loc:=match loc with
       | .aQ=> .aQ
       | .at_ c b0=>if cap=0 then .aQ else .at_ c (b0+off*b.sz)
      have il:loc' = .aQ∧len=0∨ ∃c b0,loc= .at_ c b0∧loc' = .at_ c (b0+off*b.sz):=by
       cases loc with
       |aQ=>left;refine ⟨rfl,?_⟩;have:=ag.aQ rfl;rw [this] at q3;simp at q3;omega
       |at_ c b0=>
        by_cases dN:cap=0
        ·left;exact ⟨by simp [loc',dN],by omega⟩
        ·right;exact ⟨c,b0,rfl,by simp [loc',dN]⟩
      have M:=mM hd hb c2 rfl q1 pq m l1 lz r1 false loc' il
      rw [c1] at M;refine ⟨_,M,?_,fun _=>rfl,fun h=>by simp at h⟩
      refine .ref _ _ _ _ _ (Nat.lt_succ_self _) ⟨a0,cap,by rw [l1]⟩ fun b' aw=> ?_
      have:=kl (J.en (aJ ys H).2 es.length false (aJ ys H).1) aw;subst this;refine ⟨loc',a0,cap,by simp,by rw [l1],by simp,by omega,by simp only;omega,?_⟩
      cases loc with
      |aQ=>
       simp only at q6;have da:len=0:=by have:=ag.aQ rfl;rw [this] at q3;simp at q3;omega
       refine ⟨List.eq_nil_of_length_eq_zero (by rw [l1,da]),fun _=> ?_⟩
       rcases c3 with c3|c3
       ·exact q6.2 c3
       ·omega
      |at_ c b0=>
       simp only at q6;by_cases dN:cap=0
       ·simp only [loc',dN,if_true];exact ⟨List.eq_nil_of_length_eq_zero (by omega),fun _=>by first|trivial|omega|rfl⟩
       ·simp only [loc',dN,if_false];rcases q6 with q6|⟨h1,h2⟩
        ·exact absurd q6 dN
        ·refine Or.inr ⟨by rw [h1];simp,?_⟩
         rw [c1] at h2⊢;have:(off+cap)*es.length=off*es.length+cap*es.length:=Nat.add_mul _ _ _;simp only [Nat.zero_add];omega
     ·simp at ht
    ·simp at ht
   ·simp at ht
  |_=>simp [aR] at ht
 |pt es=>
  cases x with
  |fe z o=>
   simp only [aR,Option.some.injEq,Prod.mk.injEq] at ht;obtain ⟨rfl,rfl⟩:=ht;simp only [aI,Prod.mk.injEq] at hw;obtain ⟨rfl,rfl⟩:=hw;rcases hk with hk|hk
   ·exact ⟨φ,.refl hd,.fr _ _ (hx.eT.shrink hk),fun _=>rfl,fun h=>by simp at h⟩
   ·simp [cm] at hk
  |ptr id ad idx off=>
   rcases idx with _|idx
   rotate_left
   ·simp [aR] at ht
   rcases off with _|off
   rotate_left
   ·simp [aR] at ht
   simp only [aR] at ht;split at ht
   ·rename_i pr sz pu z hb;split at ht
    ·rename_i y' L' hm
     simp only [Option.some.injEq,Prod.mk.injEq] at ht;obtain ⟨rfl,rfl⟩:=ht;simp only [aI,Prod.mk.injEq] at hw;obtain ⟨rfl,rfl⟩:=hw;have hg:=(J.bz hb).1;obtain ⟨bQ,_,hr⟩:=hx.fE;obtain ⟨c,b0,q1,rfl⟩:=hr _ hb;obtain ⟨bk,a7,ag⟩:=hd.sl.ap id _ q1;rw [hg] at a7;simp only [Option.some.injEq] at a7;subst a7;obtain ⟨arr,T,fr,k1,k2,k3,k4⟩:=ag.here c b0 rfl;have bK:gi AL AH y' :=by
      rcases hk with h|h
      ·exact .inl h
      ·exact .inr (by simpa [cm] using h)
     have cY:=bF.del L id;have b7:b5 w (L.del id) (aF φL (L.del id)) AL H φ AH:=⟨er hd.sl cY,hd.sh,fun c hc=>hd.cg c (bM hc),fun c hc=>hd.eH c (bM hc)⟩
     have cz:z.cells.length=sz:=ag.sized 0 z rfl;simp only [List.length_singleton,Nat.one_mul] at k3
     let vs:List Value:=(arr.extract b0 (b0+sz)).toList
     have dM:vs.length=sz:=by simp [vs];omega
     have gk: ∀j u,vs[j]? =some u→arr[b0+j]? =some u:=by
      intro j u hu;simp only [vs,Array.getElem?_toList,Array.getElem?_extract] at hu;split at hu
      ·exact hu
      ·simp at hu
     obtain ⟨φ1,m,l1,r1⟩:=mO es z vs _ _ _ _ _ _ _ _ _ _ b7 (by rw [dM,cz]) (fun j c' u hj hu=>((k4 0 z j c' u rfl hj (by simpa using gk j u hu)).1).mono (db cY)) hm rfl bK
     have M:=mM (as:=[(aI y' H).1]) (n:=1) (off:=0) (sz:=sz) (loc' := .at_ c b0) (g:=fun i j=>vs.getD j undef) hd hb (by simp) rfl q1 (fun c' pv arr' T' fc hl hh i j v hi hj hv=>by
      simp only [Loc.at_.injEq] at hl;obtain ⟨rfl,rfl⟩:=hl;rw [k1] at hh;simp only [Option.some.injEq,Obj.cells.injEq] at hh;obtain ⟨rfl,_,_⟩:=hh;have jC:i=0:=by omega
      subst jC;simp only [Nat.zero_mul,Nat.add_zero] at hv;have:vs[j]? =some v:=by
       simp only [vs,Array.getElem?_toList,Array.getElem?_extract];rw [if_pos (by omega)];exact hv
      simp [List.getD,this]) m rfl (fun i a ha=>by
      cases i with
      |zero=>simp at ha;subst ha;rw [l1,cz]
      |succ i=>simp at ha) (fun i a j c' ha hc=>by
      cases i with
      |zero=>
       simp at ha;subst ha;have hj:j<vs.length:=by rw [dM,←cz,←l1];exact (List.getElem?_eq_some_iff.1 hc).1
       have:=r1 j c' vs[j] hc (List.getElem?_eq_getElem hj)
       simpa [List.getD,hj] using this
      |succ i=>simp at ha) false (.inr ⟨c,b0,rfl,by simp⟩)
     refine ⟨_,M,?_,fun _=>rfl,fun h=>by simp at h⟩
     refine .ptr _ _ _ _ _ (Nat.lt_succ_self _) ⟨_,rfl⟩ fun b' aw=>⟨c,b0,by simp,?_⟩
     simp
    ·simp at ht
   ·simp at ht
  |_=>simp [aR] at ht
 termination_by (SizeOf.sizeOf sh,0)
theorem mO (es:List Sh) (x:AV) (vs:List Value) (L:J) (φL:af) (AL:aj) (H:J) (φ :af) (AH:aj) (y:AV) (L1:J) (a:AV) (H1:J) (hd:b5 w L φL AL H φ AH) (hl:x.cells.length=vs.length)
 (hx: ∀(j:Nat) (c:AV) (u:Value),x.cells[j]? =some c→vs[j]? =some u→R w L φL AL c u) (ht:a_ es x L=some (y,L1)) (hw:aI y H=(a,H1)) (hk:gi AL AH y):
 ∃ φ1,ci w L φL AL H φ AH L1 H1 φ1∧a.cells.length=x.cells.length∧ ∀(j:Nat) (c:AV) (u:Value),a.cells[j]? =some c→vs[j]? =some u→R w H1 φ1 AH c u:=by
 by_cases bZ: ∃cs,x= .agg cs
 ·obtain ⟨cs,rfl⟩:=bZ;have cD: ∃aY,cu es cs L=some (aY,L1)∧y= .agg aY:=by
   match es,ht with
   |[],ht=>
    simp only [a_] at ht;split at ht
    ·rename_i aY L' hc
     simp only [Option.some.injEq,Prod.mk.injEq] at ht;obtain ⟨rfl,rfl⟩:=ht;exact ⟨aY,hc,rfl⟩
    ·simp at ht
   |[e],ht=>
    simp only [a_] at ht;split at ht
    ·rename_i aY L' hc
     simp only [Option.some.injEq,Prod.mk.injEq] at ht;obtain ⟨rfl,rfl⟩:=ht;exact ⟨aY,hc,rfl⟩
    ·simp at ht
   |e::e' ::es,ht=>
    simp only [a_] at ht;split at ht
    ·rename_i aY L' hc
     simp only [Option.some.injEq,Prod.mk.injEq] at ht;obtain ⟨rfl,rfl⟩:=ht;exact ⟨aY,hc,rfl⟩
    ·simp at ht
  obtain ⟨aY,hc,rfl⟩:=cD;simp only [aI,Prod.mk.injEq] at hw;obtain ⟨rfl,rfl⟩:=hw;have bK:d_ AL AH aY:=by
   rcases hk with h|h
   ·exact .inl h
   ·exact .inr (by simpa [cm] using h)
  exact pw es cs vs L φL AL H φ AH aY L1 _ _ hd hl hx hc rfl bK
 ·have dE: ∀cs,x≠ .agg cs:=fun cs h=>bZ ⟨cs,h⟩
  match es,ht with
  |[e],ht=>
   have cD:aR e x L=some (y,L1):=by
    cases x<;>first|(simpa only [a_] using ht)|exact absurd rfl (dE _)
   by_cases hu:x= .undef
   ·subst hu;have fW:vs=[]:=List.eq_nil_of_length_eq_zero (by simpa [AV.cells] using hl.symm)
    subst fW;obtain ⟨φ1,m,_,_,h4⟩:=mN e .undef undef L φL AL H φ AH y L1 a H1 hd (.fr _ _ (.undef _)) cD hw hk
    exact ⟨φ1,m,by rw [h4 rfl],by simp⟩
   ·have eJ:=cells_one hu dE;rw [eJ] at hl;obtain ⟨v,rfl⟩: ∃v,vs=[v]:=by
     match vs,hl with
     |[v],_=>exact ⟨v,rfl⟩
    obtain ⟨φ1,m,h2,h3,_⟩:=mN e x v L φL AL H φ AH y L1 a H1 hd (hx 0 x v (by rw [eJ];rfl) rfl) cD hw hk
    refine ⟨φ1,m,by rw [h3 hu,eJ];rfl,fun j c u hj aN=> ?_⟩
    rw [h3 hu] at hj;cases j with
    |zero=>simp at hj aN;subst hj;subst aN;exact h2
    |succ j=>simp at hj
  |[],ht=>cases x<;>first|(simp [a_] at ht;done)|exact absurd rfl (dE _)
  |_::_::_,ht=>cases x<;>first|(simp [a_] at ht;done)|exact absurd rfl (dE _)
 termination_by (SizeOf.sizeOf es,1)
theorem pw (es:List Sh) (cs:List AV) (vs:List Value) (L:J) (φL:af) (AL:aj) (H:J) (φ :af) (AH:aj) (ys:List AV) (L1:J) (as:List AV) (H1:J) (hd:b5 w L φL AL H φ AH) (hl:cs.length=vs.length)
 (hx: ∀(j:Nat) (c:AV) (u:Value),cs[j]? =some c→vs[j]? =some u→R w L φL AL c u) (ht:cu es cs L=some (ys,L1)) (hw:aJ ys H=(as,H1)) (hk:d_ AL AH ys):
 ∃ φ1,ci w L φL AL H φ AH L1 H1 φ1∧as.length=cs.length∧ ∀(j:Nat) (c:AV) (u:Value),as[j]? =some c→vs[j]? =some u→R w H1 φ1 AH c u:=by
 match es,cs,ht with
 |[],[],ht=>
  simp only [cu,Option.some.injEq,Prod.mk.injEq] at ht;obtain ⟨rfl,rfl⟩:=ht;simp only [aJ,Prod.mk.injEq] at hw;obtain ⟨rfl,rfl⟩:=hw;exact ⟨φ,.refl hd,rfl,by simp⟩
 |e::es,x::cs,ht=>
  simp only [cu] at ht;split at ht
  ·rename_i y L' h1
   split at ht
   ·rename_i aW di h2
    simp only [Option.some.injEq,Prod.mk.injEq] at ht;obtain ⟨rfl,rfl⟩:=ht;simp only [aJ,Prod.mk.injEq] at hw;obtain ⟨rfl,rfl⟩:=hw;obtain ⟨k1,k2⟩:=hk.cons
    match vs,hl with
    |v::vs,hl=>
     obtain ⟨φ1,m1,r1,_,_⟩:=mN e x v L φL AL H φ AH y L' _ _ hd (hx 0 x v rfl rfl) h1 rfl k1
     obtain ⟨a8,m2,l2,r2⟩:=pw es cs vs L' (aF φL L') AL _ φ1 AH aW di _ _ m1.bB (by simpa using hl) (fun j c u hj hu=>(hx (j+1) c u hj hu).mono (db m1.less)) h2 rfl k2
     refine ⟨a8,m1.trans m2,by simp [l2],fun j c u hj hu=> ?_⟩
     cases j with
     |zero=>simp at hj hu;subst hj;subst hu;exact r1.mono m2.eh
     |succ j=>exact r2 j c u hj hu
   ·simp at ht
  ·simp at ht
 |[],_::_,ht=>simp [cu] at ht
 |_::_,[],ht=>simp [cu] at ht
 termination_by (SizeOf.sizeOf es,0)
end
end bB
end Go.VS
namespace Go.VS
section bB
variable {w:World}
theorem R.mP {H:J} {φ :af} {A A' :aj} (hA: ∀c,A' c→A c) {x:AV} {v:Value} (h:R w H φ A x v):R w H φ A' x v:=
 h.mono ⟨fun c _arr _T fr hc hn=>⟨⟨fr,hc⟩,fun h=>hn (hA c h)⟩,Nat.le_refl _,fun _id b h _=>⟨b,h,rfl,rfl,rfl,rfl,fun _ h=>h⟩,fun _ _=>rfl⟩
theorem lA {es:List Sh} {cs:List AV} {L L1:J} {y:AV} (ht:a_ es (.agg cs) L=some (y,L1)): ∃aY,cu es cs L=some (aY,L1)∧y= .agg aY:=by
 match es,ht with
 |[],ht=>
  simp only [a_] at ht;split at ht
  ·rename_i aY L' hc
   simp only [Option.some.injEq,Prod.mk.injEq] at ht;obtain ⟨rfl,rfl⟩:=ht;exact ⟨aY,hc,rfl⟩
  ·simp at ht
 |[e],ht=>
  simp only [a_] at ht;split at ht
  ·rename_i aY L' hc
   simp only [Option.some.injEq,Prod.mk.injEq] at ht;obtain ⟨rfl,rfl⟩:=ht;exact ⟨aY,hc,rfl⟩
  ·simp at ht
 |e::e' ::es,ht=>
  simp only [a_] at ht;split at ht
  ·rename_i aY L' hc
   simp only [Option.some.injEq,Prod.mk.injEq] at ht;obtain ⟨rfl,rfl⟩:=ht;exact ⟨aY,hc,rfl⟩
  ·simp at ht
theorem jD {es:List Sh} {x:AV} (hx: ∀cs,x≠ .agg cs) {L L1:J} {y:AV} (ht:a_ es x L=some (y,L1)): ∃e,es=[e]∧aR e x L=some (y,L1):=by
 match es,ht with
 |[e],ht=>
  refine ⟨e,rfl,?_⟩;cases x<;>first|(simpa only [a_] using ht)|exact absurd rfl (hx _)
 |[],ht=>cases x<;>first|(simp [a_] at ht;done)|exact absurd rfl (hx _)
 |_::_::_,ht=>cases x<;>first|(simp [a_] at ht;done)|exact absurd rfl (hx _)
theorem rY {es:List Sh} {x:AV} {v:Value} {L:J} {φL:af} {AL:aj} {H:J} {φ :af} {AH:aj} {y:AV} {L1:J} {a:AV} {H1:J} (hd:b5 w L φL AL H φ AH) (hx:R w L φL AL x v)
 (ht:a_ es x L=some (y,L1)) (hw:aI y H=(a,H1)) (hk:gi AL AH y): ∃ φ1,ci w L φL AL H φ AH L1 H1 φ1∧R w H1 φ1 AH a v:=by
 by_cases bZ: ∃cs,x= .agg cs
 ·obtain ⟨cs,rfl⟩:=bZ;obtain ⟨aY,hc,rfl⟩:=lA ht;simp only [aI,Prod.mk.injEq] at hw;obtain ⟨rfl,rfl⟩:=hw;have bK:d_ AL AH aY:=by
   rcases hk with h|h
   ·exact .inl h
   ·exact .inr (by simpa [cm] using h)
  obtain ⟨vs,rfl,hl,ho,hp⟩:=hx.fX;obtain ⟨φ1,m,l1,r1⟩:=pw es cs vs.toList L φL AL H φ AH aY L1 _ _ hd (by simpa using hl) (fun j c u hj hu=>hp j c u hj (by simpa using hu)) hc rfl bK
  exact ⟨φ1,m,.agg _ _ (by rw [l1,hl]) ho fun i x v hx hv=>r1 i x v hx (by simpa using hv)⟩
 ·obtain ⟨e,rfl,cD⟩:=jD (fun cs h=>bZ ⟨cs,h⟩) ht;obtain ⟨φ1,m,r,_⟩:=mN e x v L φL AL H φ AH y L1 a H1 hd hx cD hw hk
  exact ⟨φ1,m,r⟩
def gone (φ :af) (A:aj) (L1:J):aj:=fun c=>A c∧(Ow φ c→Ow (aF φ L1) c)
theorem px {φ :af} {A:aj} {L L1:J} (h:bF L L1) {c:Nat} (hc:gone φ A L1 c):gone φ A L c:=
 ⟨hc.1,fun ho=>by
  obtain ⟨i,b,hi⟩:=hc.2 ho;obtain ⟨h1,bk,h2⟩:=dt hi;exact ⟨i,b,by simp [aF,h.get _ _ h2,h1]⟩⟩
theorem rZ {w:World} {L L1:J} {φ :af} {A:aj} (ae:St w L φ A) {id c b0:Nat} (h: φ id=some (.at_ c b0)) (hn:L1.get id=none): ¬gone φ A L1 c:=by
 rintro ⟨_,h2⟩;obtain ⟨i,b,hi⟩:=h2 ⟨id,b0,h⟩;obtain ⟨h1,bk,h3⟩:=dt hi;have:=ae.inj _ _ _ _ _ h1 h;subst this;rw [hn] at h3;simp at h3
theorem zj {x:AV} (hp:dA x=true):bw x=x:=by
 cases x<;>first|rfl|simp [dA] at hp
theorem zk {L:J} {φL:af} {AL A' :aj} {x:AV} {v:Value} (hp:dA x=true) (h:R w L φL AL x v):FR w A' x v:=by
 cases x with
 |undef=>exact .undef _
 |int k n=>have:=h.cv;subst this;exact .int _ _
 |bool b=>have:=h.ff;subst this;exact .bool _
 |str s=>obtain ⟨b,rfl,rfl⟩:=h.eD;exact .str _
 |ct b=>rcases h.j9 with ⟨rfl,rfl⟩|⟨rfl,t,u,rfl⟩;exact .j8;exact .err _ _
 |dG=>cases h with|fr _ _ h=>cases h;exact .dG
 |_=>simp [dA] at hp
theorem mQ {f:AV→J→Option (AV×J)} (hf: ∀x L y L1,f x L=some (y,L1)→bF L L1): ∀(xs:List AV) (L:J) (ys:List AV) (L1:J),dz f xs L=some (ys,L1)→bF L L1
 |[],L,ys,L1,h=>by simp [dz] at h;obtain ⟨_,rfl⟩:=h;exact .refl _
 |x::xs,L,ys,L1,h=>by
  simp only [dz] at h;split at h
  ·rename_i y L' h1
   split at h
   ·rename_i aW di h2
    simp only [Option.some.injEq,Prod.mk.injEq] at h;obtain ⟨_,rfl⟩:=h;exact (hf _ _ _ _ h1).trans (mQ hf xs L' aW _ h2)
   ·simp at h
  ·simp at h
mutual
theorem py: ∀(sh:Sh) (x:AV) (L:J) (y:AV) (L1:J),aR sh x L=some (y,L1)→bF L L1
 | .sc,x,L,y,L1,ht=>by
  simp only [aR] at ht;split at ht
  ·simp only [Option.some.injEq,Prod.mk.injEq] at ht;obtain ⟨_,rfl⟩:=ht;exact .refl _
  ·simp at ht
 | .sl es,x,L,y,L1,ht=>by
  cases x with
  |ref id ad off len=>
   simp only [aR] at ht;split at ht
   ·split at ht
    ·split at ht
     ·rename_i ys L' hm
      simp only [Option.some.injEq,Prod.mk.injEq] at ht;obtain ⟨_,rfl⟩:=ht;exact (bF.del L id).trans (mQ (fun x L y L1 h=>fL es x L y L1 h) _ _ _ _ hm)
     ·simp at ht
    ·simp at ht
   ·simp at ht
  |_=>first
   |(simp [aR] at ht;done)
   |(simp only [aR,Option.some.injEq,Prod.mk.injEq] at ht;obtain ⟨_,rfl⟩:=ht;exact .refl _)
 | .pt es,x,L,y,L1,ht=>by
  cases x with
  |fe z o=>simp only [aR,Option.some.injEq,Prod.mk.injEq] at ht;obtain ⟨_,rfl⟩:=ht;exact .refl _
  |ptr id ad idx off=>
   rcases idx with _|idx
   rotate_left
   ·simp [aR] at ht
   rcases off with _|off
   rotate_left
   ·simp [aR] at ht
   simp only [aR] at ht;split at ht
   ·split at ht
    ·rename_i y' L' hm
     simp only [Option.some.injEq,Prod.mk.injEq] at ht;obtain ⟨_,rfl⟩:=ht;exact (bF.del L id).trans (fL es _ _ _ _ hm)
    ·simp at ht
   ·simp at ht
  |_=>simp [aR] at ht
 termination_by sh=>(SizeOf.sizeOf sh,0)
theorem fL: ∀(es:List Sh) (x:AV) (L:J) (y:AV) (L1:J),a_ es x L=some (y,L1)→bF L L1
 |es,x,L,y,L1,ht=>by
  by_cases bZ: ∃cs,x= .agg cs
  ·obtain ⟨cs,rfl⟩:=bZ;obtain ⟨aY,hc,_⟩:=lA ht;exact pz es cs L aY L1 hc
  ·obtain ⟨e,rfl,cD⟩:=jD (fun cs h=>bZ ⟨cs,h⟩) ht;exact py e x L y L1 cD
 termination_by es=>(SizeOf.sizeOf es,1)
theorem pz: ∀(es:List Sh) (cs:List AV) (L:J) (ys:List AV) (L1:J),cu es cs L=some (ys,L1)→bF L L1
 |[],[],L,ys,L1,ht=>by simp [cu] at ht;obtain ⟨_,rfl⟩:=ht;exact .refl _
 |e::es,x::cs,L,ys,L1,ht=>by
  simp only [cu] at ht;split at ht
  ·rename_i y L' h1
   split at ht
   ·rename_i aW di h2
    simp only [Option.some.injEq,Prod.mk.injEq] at ht;obtain ⟨_,rfl⟩:=ht;exact (py e x L y L' h1).trans (pz es cs L' aW _ h2)
   ·simp at ht
  ·simp at ht
 |[],_::_,_,_,_,ht=>by simp [cu] at ht
 |_::_,[],_,_,_,ht=>by simp [cu] at ht
 termination_by es=>(SizeOf.sizeOf es,0)
end
theorem r6 {es:List Sh} {A' :aj} (hE: ∀(x:AV) (vs:List Value) (L:J) (φL:af) (AL:aj) (y:AV) (L1:J),St w L φL AL→x.cells.length=vs.length→
 (∀(j:Nat) (c:AV) (u:Value),x.cells[j]? =some c→vs[j]? =some u→R w L φL AL c u)→a_ es x L=some (y,L1)→(∀c,A' c→gone φL AL L1 c)→
 (bw y).cells.length=x.cells.length∧ ∀(j:Nat) (c:AV) (u:Value),(bw y).cells[j]? =some c→vs[j]? =some u→FR w A' c u):
 ∀(xs:List AV) (g:Nat→Nat→Value) (L:J) (φL:af) (AL:aj) (ys:List AV) (L1:J),St w L φL AL→
  (∀(i:Nat) (x:AV) (j:Nat) (c:AV),xs[i]? =some x→x.cells[j]? =some c→R w L φL AL c (g i j))→dz (a_ es) xs L=some (ys,L1)→(∀c,A' c→gone φL AL L1 c)→
  (bW ys).length=xs.length∧(∀(i:Nat) (x a:AV),xs[i]? =some x→(bW ys)[i]? =some a→a.cells.length=x.cells.length)∧
   ∀(i:Nat) (a:AV) (j:Nat) (c:AV),(bW ys)[i]? =some a→a.cells[j]? =some c→FR w A' c (g i j)
 |[],g,L,φL,AL,ys,L1,hd,_,ht,hk=>by
  simp only [dz,Option.some.injEq,Prod.mk.injEq] at ht;obtain ⟨rfl,rfl⟩:=ht;exact ⟨rfl,by simp,by simp [bW]⟩
 |x::xs,g,L,φL,AL,ys,L1,hd,hr,ht,hk=>by
  simp only [dz] at ht;split at ht
  ·rename_i y L' h1
   split at ht
   ·rename_i aW di h2
    simp only [Option.some.injEq,Prod.mk.injEq] at ht;obtain ⟨rfl,rfl⟩:=ht
    let vs:List Value:=(List.range x.cells.length).map (g 0)
    have dO:=fL es x L y L' h1
    have dr:=mQ (fun x L y L1 h=>fL es x L y L1 h) _ _ _ _ h2;obtain ⟨l1,r1⟩:=hE x vs L φL AL y L' hd (by simp [vs]) (fun j c u hj hu=>by
     have dZ:j<x.cells.length:=(List.getElem?_eq_some_iff.1 hj).1;have:vs[j]? =some (g 0 j):=by simp [vs,dZ]
     rw [this] at hu;simp only [Option.some.injEq] at hu;subst hu;exact hr 0 x j c rfl hj) h1 (fun c hc=>px dr (hk c hc))
    obtain ⟨l2,s2,r2⟩:=r6 hE xs (fun i j=>g (i+1) j) L' (aF φL L') AL aW di (er hd dO) (fun i x' j c hi hj=>(hr (i+1) x' j c hi hj).mono (db dO)) h2 (fun c hc=>by
     obtain ⟨k1,k2⟩:=hk c hc;exact ⟨k1,fun ho=>by rw [gh dr];exact k2 (bM ho)⟩)
    refine ⟨by simp [bW,l2],fun i x' a hx ha=> ?_,fun i a j c ha hc=> ?_⟩
    ·cases i with
     |zero=>simp [bW] at hx ha;subst hx;subst ha;exact l1
     |succ i=>simp [bW] at hx ha;exact s2 i x' a hx ha
    ·cases i with
     |zero=>
      simp only [bW,List.getElem?_cons_zero,Option.some.injEq] at ha;subst ha;have hj:j<x.cells.length:=by rw [←l1];exact (List.getElem?_eq_some_iff.1 hc).1
      exact r1 j c (g 0 j) hc (by simp [vs,hj])
     |succ i=>exact r2 i a j c (by simpa [bW] using ha) hc
   ·simp at ht
  ·simp at ht
mutual
theorem mR (sh:Sh) (x:AV) (v:Value) (L:J) (φL:af) (AL A' :aj) (y:AV) (L1:J) (ae:St w L φL AL) (hx:R w L φL AL x v)
 (ht:aR sh x L=some (y,L1)) (hk: ∀c,A' c→gone φL AL L1 c):FR w A' (bw y) v∧(x≠ .undef→(bw y).cells=[bw y])∧(x= .undef→bw y= .undef):=by
 cases sh with
 |sc=>
  simp only [aR] at ht;split at ht
  ·rename_i hp;simp only [Option.some.injEq,Prod.mk.injEq] at ht;obtain ⟨rfl,rfl⟩:=ht;rw [zj hp];exact ⟨zk hp hx,fun hu=>cells_one hu (by rintro cs rfl;simp [dA] at hp),fun h=>h⟩
  ·simp at ht
 |sl es=>
  cases x with
  |nil=>
   simp only [aR,Option.some.injEq,Prod.mk.injEq] at ht;obtain ⟨rfl,rfl⟩:=ht;have:=hx.dh;subst this;exact ⟨.cQ _ _,fun _=>rfl,fun h=>by simp at h⟩
  |e0=>
   simp only [aR,Option.some.injEq,Prod.mk.injEq] at ht;obtain ⟨rfl,rfl⟩:=ht;obtain ⟨a0,rfl⟩:=hx.eU;exact ⟨.cQ _ _,fun _=>rfl,fun h=>by simp at h⟩
  |fz xs=>
   simp only [aR,Option.some.injEq,Prod.mk.injEq] at ht;obtain ⟨rfl,rfl⟩:=ht;exact ⟨hx.dK.shrink fun c hc=>(hk c hc).1,fun _=>rfl,fun h=>by simp at h⟩
  |ref id ad off len=>
   simp only [aR] at ht;split at ht
   ·rename_i b hb;split at ht
    ·rename_i hc;obtain ⟨c1,c2,c3⟩:=hc;split at ht
     ·rename_i ys L' hm
      simp only [Option.some.injEq,Prod.mk.injEq] at ht;obtain ⟨rfl,rfl⟩:=ht;have hg:=(J.bz hb).1;obtain ⟨bQ,_,hr⟩:=hx.dq;obtain ⟨loc,a0,cap,q1,rfl,q3,q4,q5,q6⟩:=(hr b hb).out;obtain ⟨bk,a7,ag⟩:=ae.ap id _ q1;rw [hg] at a7;simp only [Option.some.injEq] at a7;subst a7;have cY:=bF.del L id;have dr:=mQ (fun x L y L1 h=>fL es x L y L1 h) _ _ _ _ hm;have iu:L'.get id=none:=by
       cases hq:L'.get id with
       |none=>rfl
       |some b=>have:=dr.get _ _ hq;rw [J.ja,if_pos rfl] at this;simp at this
      have bA:(aG b.el off len).length=len:=by simp [aG];omega
      have gj: ∀(i:Nat) (x:AV),(aG b.el off len)[i]? =some x→b.el[off+i]? =some x:=by
       intro i x hi;simp only [aG,List.getElem?_take,List.getElem?_drop] at hi;split at hi
       ·exact hi
       ·simp at hi
      refine ⟨?_,fun _=>rfl,fun h=>by simp at h⟩
      simp only [bw];rcases Nat.eq_zero_or_pos len with da|zl
      ·subst da;have:ys=[]:=by
        have h0:aG b.el off 0=[]:=by simp [aG]
        rw [h0] at hm;simp [dz] at hm;exact hm.1
       subst this;exact .cQ _ _
      ·cases loc with
       |aQ=>have:=ag.aQ rfl;rw [this] at q3;simp at q3;omega
       |at_ c b0=>
        simp only at q6;rcases q6 with q6|⟨h1,h2⟩
        ·omega
        obtain ⟨arr,T,fr,k1,k2,k3,k4⟩:=ag.here c b0 rfl
        let g:Nat→Nat→Value:=fun i j=>arr.getD (b0+(off+i)*b.sz+j) undef
        have cE: ∀(i:Nat) (x:AV) (j:Nat),(aG b.el off len)[i]? =some x→j<x.cells.length→b0+(off+i)*b.sz+j<arr.size:=by
         intro i x j hi hj;have bJ:=gj i x hi
         have cp:i<len:=by rw [←bA];exact (List.getElem?_eq_some_iff.1 hi).1
         rw [ag.sized _ _ bJ] at hj;have hle:=cT (n:=b.sz) (show off+i<b.el.length by omega)
         omega
        have cC: ∀(i:Nat) (x:AV) (j:Nat) (c:AV),(aG b.el off len)[i]? =some x→x.cells[j]? =some c→R w (L.del id) (aF φL (L.del id)) AL c (g i j):=by
         intro i x j c' hi hj
         have az:=cE i x j hi (List.getElem?_eq_some_iff.1 hj).1;have:g i j=arr[b0+(off+i)*b.sz+j]:=by
          simp only [g,Array.getD_eq_getD_getElem?,Array.getElem?_eq_getElem az,Option.getD_some]
         rw [this];exact ((k4 _ _ _ _ _ (gj i x hi) hj (Array.getElem?_eq_getElem az)).1).mono (db cY)
        obtain ⟨l1,s1,r1⟩:=r6 (A' :=A') (es:=es) (fun x vs L φL AL y L1=>r7 es x vs L φL AL A' y L1) _ g _ _ _ _ _ (er ae cY) cC hm (fun c hc=>by
         obtain ⟨k1,k2⟩:=hk c hc;exact ⟨k1,fun ho=>by rw [gh dr];exact k2 (bM ho)⟩)
        rw [bA] at l1;have hmul:(off+len)*b.sz≤b.el.length*b.sz:=Nat.mul_le_mul_right _ q3;have zm:(off+len)*b.sz=off*b.sz+len*b.sz:=Nat.add_mul _ _ _;have gn:=FR.fz (A:=A') (bW ys) c (b0+off*b.sz) cap b.sz arr T fr k1 (fun hA=>rZ ae q1 iu (hk c hA)) (by rw [l1];exact q4) (by rw [l1];omega)
         (fun i a ha=>by
          have hi:i<(aG b.el off len).length:=by rw [bA,←l1];exact (List.getElem?_eq_some_iff.1 ha).1
          rw [s1 i _ a (List.getElem?_eq_getElem hi) ha];exact ag.sized _ _ (gj i _ (List.getElem?_eq_getElem hi)))
         (fun j v hj hv=>by
          rw [l1] at hj;have eC:0<b.sz:=by
           rcases Nat.eq_zero_or_pos b.sz with h|h
           ·rw [h] at hj;simp at hj
           ·exact h
          have zn:j/b.sz<len:=Nat.div_lt_of_lt_mul (by rw [Nat.mul_comm];exact hj)
          have pA:j % b.sz<b.sz:=Nat.mod_lt _ eC;have zo:j=(j/b.sz)*b.sz+j % b.sz:=by rw [Nat.mul_comm];exact (Nat.div_add_mod j b.sz).symm
          have b4:off+j/b.sz<b.el.length:=by omega
          have hx:=List.getElem?_eq_getElem b4;have cx:=ag.sized _ _ hx;have e:b0+off*b.sz+j=b0+(off+j/b.sz)*b.sz+j % b.sz:=by rw [Nat.add_mul];omega
          rw [e] at hv;exact (k4 _ _ _ _ v hx (List.getElem?_eq_getElem (show j % b.sz<_ by rw [cx];exact pA)) hv).2)
         (fun i a j c' v ha hc hv=>by
          have e:b0+off*b.sz+i*b.sz+j=b0+(off+i)*b.sz+j:=by rw [Nat.add_mul];omega
          rw [e] at hv;have:g i j=v:=by simp only [g,Array.getD_eq_getD_getElem?,hv,Option.getD_some]
          rw [←this];exact r1 i a j c' ha hc)
        rw [l1] at gn;rw [h1];exact gn
     ·simp at ht
    ·simp at ht
   ·simp at ht
  |_=>simp [aR] at ht
 |pt es=>
  cases x with
  |fe z o=>
   simp only [aR,Option.some.injEq,Prod.mk.injEq] at ht;obtain ⟨rfl,rfl⟩:=ht;exact ⟨hx.eT.shrink fun c hc=>(hk c hc).1,fun _=>rfl,fun h=>by simp at h⟩
  |ptr id ad idx off=>
   rcases idx with _|idx
   rotate_left
   ·simp [aR] at ht
   rcases off with _|off
   rotate_left
   ·simp [aR] at ht
   simp only [aR] at ht;split at ht
   ·rename_i pr sz pu z hb;split at ht
    ·rename_i y' L' hm
     simp only [Option.some.injEq,Prod.mk.injEq] at ht;obtain ⟨rfl,rfl⟩:=ht;refine ⟨?_,fun _=>rfl,fun h=>by simp at h⟩
     have hg:=(J.bz hb).1;obtain ⟨bQ,_,hr⟩:=hx.fE;obtain ⟨c,b0,q1,rfl⟩:=hr _ hb;obtain ⟨bk,a7,ag⟩:=ae.ap id _ q1;rw [hg] at a7;simp only [Option.some.injEq] at a7;subst a7;obtain ⟨arr,T,fr,k1,k2,k3,k4⟩:=ag.here c b0 rfl;have cY:=bF.del L id;have dr:=fL es _ _ _ _ hm;have iu:L'.get id=none:=by
      cases hq:L'.get id with
      |none=>rfl
      |some b=>have:=dr.get _ _ hq;rw [J.ja,if_pos rfl] at this;simp at this
     have cz:z.cells.length=sz:=ag.sized 0 z rfl;simp only [List.length_singleton,Nat.one_mul] at k3
     let vs:List Value:=(arr.extract b0 (b0+sz)).toList
     have dM:vs.length=sz:=by simp [vs];omega
     have gk: ∀j u,vs[j]? =some u→arr[b0+j]? =some u:=by
      intro j u hu;simp only [vs,Array.getElem?_toList,Array.getElem?_extract] at hu;split at hu
      ·exact hu
      ·simp at hu
     obtain ⟨l1,r1⟩:=r7 es z vs _ _ _ A' _ _ (er ae cY) (by rw [dM,cz]) (fun j c' u hj hu=>((k4 0 z j c' u rfl hj (by simpa using gk j u hu)).1).mono (db cY)) hm (fun c hc=>by
      obtain ⟨k1,k2⟩:=hk c hc;exact ⟨k1,fun ho=>by rw [gh dr];exact k2 (bM ho)⟩)
     have:=FR.fe (A:=A') (bw y') 0 c b0 arr T fr k1 (fun hA=>rZ ae q1 iu (hk c hA)) (by rw [l1,cz];exact k3)
      (fun j v hj hv=>by
       rw [l1] at hj;exact (k4 0 z j _ v rfl (List.getElem?_eq_getElem hj) (by simpa using hv)).2)
      (fun j c' v hc hv=>by
       have hj:j<sz:=by rw [←cz,←l1];exact (List.getElem?_eq_some_iff.1 hc).1
       exact r1 j c' v hc (by simp only [vs,Array.getElem?_toList,Array.getElem?_extract];rw [if_pos (by omega)];exact hv))
     simpa [bw] using this
    ·simp at ht
   ·simp at ht
  |_=>simp [aR] at ht
 termination_by (SizeOf.sizeOf sh,0)
theorem r7 (es:List Sh) (x:AV) (vs:List Value) (L:J) (φL:af) (AL A' :aj) (y:AV) (L1:J) (ae:St w L φL AL) (hl:x.cells.length=vs.length)
 (hx: ∀(j:Nat) (c:AV) (u:Value),x.cells[j]? =some c→vs[j]? =some u→R w L φL AL c u) (ht:a_ es x L=some (y,L1)) (hk: ∀c,A' c→gone φL AL L1 c):
 (bw y).cells.length=x.cells.length∧ ∀(j:Nat) (c:AV) (u:Value),(bw y).cells[j]? =some c→vs[j]? =some u→FR w A' c u:=by
 by_cases bZ: ∃cs,x= .agg cs
 ·obtain ⟨cs,rfl⟩:=bZ;obtain ⟨aY,hc,rfl⟩:=lA ht;exact pB es cs vs L φL AL A' aY L1 ae hl hx hc hk
 ·have dE: ∀cs,x≠ .agg cs:=fun cs h=>bZ ⟨cs,h⟩;obtain ⟨e,rfl,cD⟩:=jD dE ht;by_cases hu:x= .undef
  ·subst hu;have fW:vs=[]:=List.eq_nil_of_length_eq_zero (by simpa [AV.cells] using hl.symm)
   subst fW;obtain ⟨_,_,h4⟩:=mR e .undef undef L φL AL A' y L1 ae (.fr _ _ (.undef _)) cD hk
   exact ⟨by rw [h4 rfl],by simp⟩
  ·have eJ:=cells_one hu dE;rw [eJ] at hl;obtain ⟨v,rfl⟩: ∃v,vs=[v]:=by
    match vs,hl with
    |[v],_=>exact ⟨v,rfl⟩
   obtain ⟨h2,h3,_⟩:=mR e x v L φL AL A' y L1 ae (hx 0 x v (by rw [eJ];rfl) rfl) cD hk
   refine ⟨by rw [h3 hu,eJ];rfl,fun j c u hj aN=> ?_⟩
   rw [h3 hu] at hj;cases j with
   |zero=>simp at hj aN;subst hj;subst aN;exact h2
   |succ j=>simp at hj
 termination_by (SizeOf.sizeOf es,1)
theorem pB (es:List Sh) (cs:List AV) (vs:List Value) (L:J) (φL:af) (AL A' :aj) (ys:List AV) (L1:J) (ae:St w L φL AL) (hl:cs.length=vs.length)
 (hx: ∀(j:Nat) (c:AV) (u:Value),cs[j]? =some c→vs[j]? =some u→R w L φL AL c u) (ht:cu es cs L=some (ys,L1)) (hk: ∀c,A' c→gone φL AL L1 c):
 (bW ys).length=cs.length∧ ∀(j:Nat) (c:AV) (u:Value),(bW ys)[j]? =some c→vs[j]? =some u→FR w A' c u:=by
 match es,cs,ht with
 |[],[],ht=>
  simp only [cu,Option.some.injEq,Prod.mk.injEq] at ht;obtain ⟨rfl,rfl⟩:=ht;exact ⟨rfl,by simp [bW]⟩
 |e::es,x::cs,ht=>
  simp only [cu] at ht;split at ht
  ·rename_i y L' h1
   split at ht
   ·rename_i aW di h2
    simp only [Option.some.injEq,Prod.mk.injEq] at ht;obtain ⟨rfl,rfl⟩:=ht;have dO:=py e x L y L' h1
    have dr:=pz es cs L' aW di h2
    match vs,hl with
    |v::vs,hl=>
     obtain ⟨r1,_,_⟩:=mR e x v L φL AL A' y L' ae (hx 0 x v rfl rfl) h1 (fun c hc=>px dr (hk c hc))
     obtain ⟨l2,r2⟩:=pB es cs vs L' (aF φL L') AL A' aW di (er ae dO) (by simpa using hl) (fun j c u hj hu=>(hx (j+1) c u hj hu).mono (db dO)) h2 (fun c hc=>by
      obtain ⟨k1,k2⟩:=hk c hc;exact ⟨k1,fun ho=>by rw [gh dr];exact k2 (bM ho)⟩)
     refine ⟨by simp [bW,l2],fun j c u hj hu=> ?_⟩
     cases j with
     |zero=>simp [bW] at hj hu;subst hj;subst hu;exact r1
     |succ j=>exact r2 j c u (by simpa [bW] using hj) hu
   ·simp at ht
  ·simp at ht
 |[],_::_,ht=>simp [cu] at ht
 |_::_,[],ht=>simp [cu] at ht
 termination_by (SizeOf.sizeOf es,0)
end
end bB
end Go.VS
namespace Go.VS
section zp
variable {w:World} {H:J} {φ :af} {A:aj}
theorem mapM_some {α β :Type} {f: α →Option β}: ∀{xs:List α} {ys:List β},xs.mapM f=some ys→ys.length=xs.length∧ ∀(i:Nat) (x: α) (y: β),xs[i]? =some x→ys[i]? =some y→f x=some y
 |[],ys,h=>by simp at h;subst h;simp
 |x::xs,ys,h=>by
  simp only [List.mapM_cons,Option.bind_eq_bind,Option.bind_eq_some_iff,Option.pure_def,Option.some.injEq] at h;obtain ⟨y,h1,aW,h2,rfl⟩:=h;obtain ⟨hl,hp⟩:=mapM_some h2;refine ⟨by simp [hl],fun i a b ha hb=> ?_⟩
  cases i with
  |zero=>simp at ha hb;subst ha;subst hb;exact h1
  |succ i=>exact hp i a b ha hb
def fM (φ :af) (A:aj):aj:=fun c=>A c∧ ¬Ow φ c
def lB (w:World) (H:J) (φ :af) (A:aj) (n:Nat):Prop:= ∀(x:AV) (v:Value) (y:AV),R w H φ A x v→aZ n H x=some y→
 FR w (fM φ A) y v∧(e9 x=false→FR w A y v)∧((∀cs,x≠ .agg cs)→x≠ .undef→y.cells=[y])∧(x= .undef→y= .undef)
def r8 (w:World) (H:J) (φ :af) (A:aj) (n:Nat):Prop:= ∀(x:AV) (vs:List Value) (y:AV),x.cells.length=vs.length→
 (∀(j:Nat) (c:AV) (u:Value),x.cells[j]? =some c→vs[j]? =some u→R w H φ A c u)→aZ n H x=some y→
 y.cells.length=x.cells.length∧ ∀(j:Nat) (c:AV) (u:Value),y.cells[j]? =some c→vs[j]? =some u→FR w (fM φ A) c u
theorem pC: ∀{xs:List AV},mh xs=false→ ∀(i:Nat) (x:AV),xs[i]? =some x→e9 x=false
 |[],_,i,x,h=>by simp at h
 |y::ys,hl,i,x,h=>by
  simp only [mh,Bool.or_eq_false_iff] at hl;cases i with
  |zero=>simp at h;subst h;exact hl.1
  |succ i=>exact pC hl.2 i x h
theorem r9 {n:Nat} (hV:lB w H φ A n) (zq: ∀m,n=m+1→lB w H φ A m):r8 w H φ A n:=by
 intro x vs y hl hx hs;by_cases bZ: ∃cs,x= .agg cs
 ·obtain ⟨cs,rfl⟩:=bZ;cases n with
  |zero=>simp [aZ] at hs
  |succ n=>
   simp only [aZ,Option.map_eq_some_iff] at hs;obtain ⟨ys,hm,rfl⟩:=hs;obtain ⟨l1,p1⟩:=mapM_some hm;refine ⟨l1,fun j c u hj hu=> ?_⟩;have dZ:j<cs.length:=by rw [←l1];exact (List.getElem?_eq_some_iff.1 hj).1
   have hc:=List.getElem?_eq_getElem dZ;exact (zq n rfl _ _ _ (hx j _ u hc hu) (p1 j _ c hc hj)).1
 ·have dE: ∀cs,x≠ .agg cs:=fun cs h=>bZ ⟨cs,h⟩;by_cases hu:x= .undef
  ·subst hu;have fW:vs=[]:=List.eq_nil_of_length_eq_zero (by simpa [AV.cells] using hl.symm)
   subst fW;have:=(hV .undef undef y (.fr _ _ (.undef _)) hs).2.2.2 rfl;subst this;exact ⟨rfl,by simp⟩
  ·have eJ:=cells_one hu dE;rw [eJ] at hl;obtain ⟨v,rfl⟩: ∃v,vs=[v]:=by
    match vs,hl with
    |[v],_=>exact ⟨v,rfl⟩
   obtain ⟨h1,_,h3,_⟩:=hV x v y (hx 0 x v (by rw [eJ];rfl) rfl) hs
   have h3:=h3 dE hu;refine ⟨by rw [h3,eJ];rfl,fun j c u hj aN=> ?_⟩
   rw [h3] at hj;cases j with
   |zero=>simp at hj aN;subst hj;subst aN;exact h1
   |succ j=>simp at hj
theorem r_ (ae:St w H φ A): ∀n,lB w H φ A n∧r8 w H φ A n
 |0=>by
  have h0:lB w H φ A 0:=fun x v y _ hs=>by simp [aZ] at hs
  exact ⟨h0,r9 h0 (fun m h=>by omega)⟩
 |n+1=>by
  obtain ⟨hV,hE⟩:=r_ ae n;have key:lB w H φ A (n+1):=by
   have bA: ∀c,fM φ A c→A c:=fun c h=>h.1;have sa: ∀c,Ow φ c→ ¬fM φ A c:=fun c h hl=>hl.2 h;have same: ∀{x:AV} {v:Value},FR w A x v→x.cells=[x]→FR w (fM φ A) x v∧(e9 x=false→FR w A x v)∧((∀cs,x≠ .agg cs)→x≠ .undef→x.cells=[x])∧(x= .undef→x= .undef):=
    fun h hc=>⟨h.shrink bA,fun _=>h,fun _ _=>hc,fun h=>h⟩
   intro x v y hx hs;cases x with
   |undef=>simp only [aZ,Option.some.injEq] at hs;subst hs;exact ⟨.undef _,fun _=> .undef _,fun _ h=>absurd rfl h,fun h=>h⟩
   |int k n=>simp only [aZ,Option.some.injEq] at hs;subst hs;cases hx with|fr _ _ h=>exact same h rfl
   |bool b=>simp only [aZ,Option.some.injEq] at hs;subst hs;cases hx with|fr _ _ h=>exact same h rfl
   |str s=>simp only [aZ,Option.some.injEq] at hs;subst hs;cases hx with|fr _ _ h=>exact same h rfl
   |ct b=>simp only [aZ,Option.some.injEq] at hs;subst hs;cases hx with|fr _ _ h=>exact same h rfl
   |dG=>simp only [aZ,Option.some.injEq] at hs;subst hs;cases hx with|fr _ _ h=>exact same h rfl
   |fz xs=>simp only [aZ,Option.some.injEq] at hs;subst hs;cases hx with|fr _ _ h=>exact same h rfl
   |fe x o=>simp only [aZ,Option.some.injEq] at hs;subst hs;cases hx with|fr _ _ h=>exact same h rfl
   |own sz xs=>simp [aZ] at hs
   |dy sz x=>simp [aZ] at hs
   |aA xs=>simp [aZ] at hs
   |nil=>
    simp only [aZ,Option.some.injEq] at hs;subst hs;have:=hx.dh;subst this;exact ⟨.cQ _ _,fun _=> .cQ _ _,fun _ _=>rfl,fun h=>by simp at h⟩
   |e0=>
    simp only [aZ,Option.some.injEq] at hs;subst hs;obtain ⟨a,rfl⟩:=hx.eU;exact ⟨.cQ _ _,fun _=> .cQ _ _,fun _ _=>rfl,fun h=>by simp at h⟩
   |agg cs=>
    simp only [aZ,Option.map_eq_some_iff] at hs;obtain ⟨ys,hm,rfl⟩:=hs;obtain ⟨l1,p1⟩:=mapM_some hm;obtain ⟨vs,rfl,hl,ho,hp⟩:=hx.fX;have hc: ∀(i:Nat) (z:AV) (u:Value),ys[i]? =some z→vs[i]? =some u→ ∃c,cs[i]? =some c∧R w H φ A c u∧aZ n H c=some z:=by
     intro i z u hz hu;have cp:i<cs.length:=by rw [←l1];exact (List.getElem?_eq_some_iff.1 hz).1
     have hc:=List.getElem?_eq_getElem cp;exact ⟨_,hc,hp i _ u hc hu,p1 i _ z hc hz⟩
    refine ⟨.agg _ _ (by rw [l1,hl]) ho fun i z u hz hu=> ?_,fun hlen=> .agg _ _ (by rw [l1,hl]) ho fun i z u hz hu=> ?_,fun h _=>absurd rfl (h cs),fun h=>by simp at h⟩
    ·obtain ⟨c,h1,h2,h3⟩:=hc i z u hz hu;exact (hV c u z h2 h3).1
    ·obtain ⟨c,h1,h2,h3⟩:=hc i z u hz hu;exact (hV c u z h2 h3).2.1 (pC (by simpa [e9] using hlen) i c h1)
   |fn f cs=>
    simp only [aZ,Option.map_eq_some_iff] at hs;obtain ⟨ys,hm,rfl⟩:=hs;obtain ⟨l1,p1⟩:=mapM_some hm;obtain ⟨vs,rfl,hl,hp⟩:=hx.kU;have hc: ∀(i:Nat) (z:AV) (u:Value),ys[i]? =some z→vs[i]? =some u→ ∃c,cs[i]? =some c∧R w H φ A c u∧aZ n H c=some z:=by
     intro i z u hz hu;have cp:i<cs.length:=by rw [←l1];exact (List.getElem?_eq_some_iff.1 hz).1
     have hc:=List.getElem?_eq_getElem cp;exact ⟨_,hc,hp i _ u hc hu,p1 i _ z hc hz⟩
    refine ⟨.fn _ _ _ (by rw [l1,hl]) fun i z u hz hu=> ?_,fun hlen=> .fn _ _ _ (by rw [l1,hl]) fun i z u hz hu=> ?_,fun _ _=>rfl,fun h=>by simp at h⟩
    ·obtain ⟨c,h1,h2,h3⟩:=hc i z u hz hu;exact (hV c u z h2 h3).1
    ·obtain ⟨c,h1,h2,h3⟩:=hc i z u hz hu;exact (hV c u z h2 h3).2.1 (pC (by simpa [e9] using hlen) i c h1)
   |ptr id ad idx off=>
    simp only [aZ] at hs;split at hs
    ·rename_i b hb;split at hs
     ·rename_i x' bJ
      simp only [Option.map_eq_some_iff] at hs;obtain ⟨y',hy,rfl⟩:=hs;have hg:=(J.bz hb).1;obtain ⟨bQ,_,hr⟩:=hx.fE;obtain ⟨c,b0,q1,rfl⟩:=hr _ hb;obtain ⟨bk,a7,ag⟩:=ae.ap id _ q1;rw [hg] at a7;simp only [Option.some.injEq] at a7;subst a7;obtain ⟨arr,T,fr,k1,k2,k3,k4⟩:=ag.here c b0 rfl;have zr:idx<b.el.length:=(List.getElem?_eq_some_iff.1 bJ).1;have hle:=cT (n:=b.sz) zr;have cx:=ag.sized _ _ bJ
      let o:=b0+idx*b.sz
      let vs:List Value:=(arr.extract o (o+b.sz)).toList
      have dM:vs.length=b.sz:=by simp [vs,o];omega
      have gk: ∀j u,vs[j]? =some u→arr[o+j]? =some u:=by
       intro j u hu;simp only [vs,Array.getElem?_toList,Array.getElem?_extract] at hu;split at hu
       ·exact hu
       ·simp at hu
      obtain ⟨l1,r1⟩:=hE x' vs y' (by rw [dM,cx]) (fun j c' u hj hu=>(k4 idx x' j c' u bJ hj (gk j u hu)).1) hy
      refine ⟨?_,fun h=>by simp [e9] at h,fun _ _=>rfl,fun h=>by simp at h⟩
      refine FR.fe y' off c o arr T fr k1 (sa c ⟨id,b0,q1⟩) (by rw [l1,cx];omega) (fun j v hj hv=> ?_) (fun j c' v hc hv=> ?_)
      ·rw [l1] at hj;exact (k4 idx x' j _ v bJ (List.getElem?_eq_getElem hj) hv).2
      ·have hj:j<b.sz:=by rw [←cx,←l1];exact (List.getElem?_eq_some_iff.1 hc).1
       exact r1 j c' v hc (by simp only [vs,Array.getElem?_toList,Array.getElem?_extract];rw [if_pos (by omega)];exact hv)
     ·simp at hs
    ·simp at hs
   |ref id ad off len=>
    simp only [aZ] at hs;split at hs
    ·rename_i b hb;split at hs
     ·rename_i CK;simp only [Option.map_eq_some_iff] at hs;obtain ⟨ys,hm,rfl⟩:=hs;obtain ⟨l1,p1⟩:=mapM_some hm;have hg:=(J.bz hb).1;obtain ⟨bQ,_,hr⟩:=hx.dq;obtain ⟨loc,a0,cap,q1,rfl,q3,q4,q5,q6⟩:=(hr b hb).out;obtain ⟨bk,a7,ag⟩:=ae.ap id _ q1;rw [hg] at a7;simp only [Option.some.injEq] at a7;subst a7;have bA:(aG b.el off len).length=len:=by simp [aG];omega
      have gj: ∀(i:Nat) (x:AV),(aG b.el off len)[i]? =some x→b.el[off+i]? =some x:=by
       intro i x hi;simp only [aG,List.getElem?_take,List.getElem?_drop] at hi;split at hi
       ·exact hi
       ·simp at hi
      rw [bA] at l1;refine ⟨?_,fun h=>by simp [e9] at h,fun _ _=>rfl,fun h=>by simp at h⟩
      rcases Nat.eq_zero_or_pos len with da|zl
      ·subst da;have:=List.eq_nil_of_length_eq_zero l1;subst this;exact .cQ _ _
      ·cases loc with
       |aQ=>have:=ag.aQ rfl;rw [this] at q3;simp at q3;omega
       |at_ c b0=>
        simp only at q6;rcases q6 with q6|⟨h1,h2⟩
        ·omega
        obtain ⟨arr,T,fr,k1,k2,k3,k4⟩:=ag.here c b0 rfl;have hmul:(off+len)*b.sz≤b.el.length*b.sz:=Nat.mul_le_mul_right _ q3;have zm:(off+len)*b.sz=off*b.sz+len*b.sz:=Nat.add_mul _ _ _;have sb: ∀(i:Nat) (a:AV),ys[i]? =some a→a.cells.length=b.sz∧ ∀(j:Nat) (c' :AV) (v:Value),a.cells[j]? =some c' →arr[b0+(off+i)*b.sz+j]? =some v→FR w (fM φ A) c' v:=by
         intro i a ha;have hi:i<len:=by rw [←l1];exact (List.getElem?_eq_some_iff.1 ha).1
         have hx:=List.getElem?_eq_getElem (l:=aG b.el off len) (by rw [bA];exact hi)
         have bJ:=gj i _ hx
         have cx:=ag.sized _ _ bJ;have hle:=cT (n:=b.sz) (show off+i<b.el.length by omega)
         let o:=b0+(off+i)*b.sz
         let vs:List Value:=(arr.extract o (o+b.sz)).toList
         have dM:vs.length=b.sz:=by simp [vs,o];omega
         have gk: ∀j u,vs[j]? =some u→arr[o+j]? =some u:=by
          intro j u hu;simp only [vs,Array.getElem?_toList,Array.getElem?_extract] at hu;split at hu
          ·exact hu
          ·simp at hu
         obtain ⟨l2,r2⟩:=hE _ vs a (by rw [dM,cx]) (fun j c' u hj hu=>(k4 _ _ j c' u bJ hj (gk j u hu)).1) (p1 i _ a hx ha)
         refine ⟨by rw [l2,cx],fun j c' v hc hv=>r2 j c' v hc ?_⟩
         have hj:j<b.sz:=by rw [←cx,←l2];exact (List.getElem?_eq_some_iff.1 hc).1
         simp only [vs,Array.getElem?_toList,Array.getElem?_extract];rw [if_pos (by omega)];exact hv
        have gn:=FR.fz (A:=fM φ A) ys c (b0+off*b.sz) cap b.sz arr T fr k1 (sa c ⟨id,b0,q1⟩) (by rw [l1];exact q4) (by rw [l1];omega)
         (fun i a ha=>(sb i a ha).1)
         (fun j v hj hv=>by
          rw [l1] at hj;have eC:0<b.sz:=by
           rcases Nat.eq_zero_or_pos b.sz with h|h
           ·rw [h] at hj;simp at hj
           ·exact h
          have zn:j/b.sz<len:=Nat.div_lt_of_lt_mul (by rw [Nat.mul_comm];exact hj)
          have pA:j % b.sz<b.sz:=Nat.mod_lt _ eC;have zo:j=(j/b.sz)*b.sz+j % b.sz:=by rw [Nat.mul_comm];exact (Nat.div_add_mod j b.sz).symm
          have b4:off+j/b.sz<b.el.length:=by omega
          have hx:=List.getElem?_eq_getElem b4;have cx:=ag.sized _ _ hx;have e:b0+off*b.sz+j=b0+(off+j/b.sz)*b.sz+j % b.sz:=by rw [Nat.add_mul];omega
          rw [e] at hv;exact (k4 _ _ _ _ v hx (List.getElem?_eq_getElem (show j % b.sz<_ by rw [cx];exact pA)) hv).2)
         (fun i a j c' v ha hc hv=>by
          have e:b0+off*b.sz+i*b.sz+j=b0+(off+i)*b.sz+j:=by rw [Nat.add_mul];omega
          rw [e] at hv;exact (sb i a ha).2 j c' v hc hv)
        rw [l1] at gn;rw [h1];exact gn
     ·simp at hs
    ·simp at hs
  exact ⟨key,r9 key (fun m h=>by have:m=n:=by omega
                                 subst this;exact hV)⟩
end zp
end Go.VS
namespace Go.VS
theorem sd: ∀(ys:List AV) (L:J),(∀(i:Nat) (z:AV),ys[i]? =some z→ ∀L,aI z L=(z,L))→aJ ys L=(ys,L)
 |[],L,_=>rfl
 |y::ys,L,h=>by
  have h1:=h 0 y rfl L;have h2:=sd ys L (fun i z hz=>h (i+1) z hz);simp only [aJ,h1,h2]
theorem mS (H:J): ∀(n:Nat) (x y:AV),aZ n H x=some y→ ∀L,aI y L=(y,L)
 |0,x,y,h,L=>by simp [aZ] at h
 |n+1,x,y,h,L=>by
  cases x with
  |agg cs=>
   simp only [aZ,Option.map_eq_some_iff] at h;obtain ⟨ys,hm,rfl⟩:=h;obtain ⟨l1,p1⟩:=mapM_some hm;have:=sd ys L (fun i z hz=>by
    have cp:i<cs.length:=by rw [←l1];exact (List.getElem?_eq_some_iff.1 hz).1
    exact mS H n _ z (p1 i _ z (List.getElem?_eq_getElem cp) hz))
   simp only [aI,this]
  |fn f cs=>simp only [aZ,Option.map_eq_some_iff] at h;obtain ⟨ys,_,rfl⟩:=h;rfl
  |ref id ad off len=>
   simp only [aZ] at h;split at h
   ·split at h
    ·simp only [Option.map_eq_some_iff] at h;obtain ⟨ys,_,rfl⟩:=h;rfl
    ·simp at h
   ·simp at h
  |ptr id ad idx off=>
   simp only [aZ] at h;split at h
   ·split at h
    ·simp only [Option.map_eq_some_iff] at h;obtain ⟨ys,_,rfl⟩:=h;rfl
    ·simp at h
   ·simp at h
  |own sz xs=>simp [aZ] at h
  |dy sz xs=>simp [aZ] at h
  |aA xs=>simp [aZ] at h
  |_=>simp only [aZ,Option.some.injEq] at h;subst h;rfl
def iv (H:J) (φ :af) (L0:J) (aD:af) (a x:AV):Prop:=
 ∃k kv bk,kR x=some (k,kv)∧L0.ap k kv=some bk∧(∃loc,aD k=some loc)∧(dS a=none→bk.el=[])∧
  ∀id ad,dS a=some (id,ad)→ ∃b c b0,H.ap id ad=some b∧bk.sz=b.sz∧bk.el.length=b.el.length∧ φ id=some (.at_ c b0)∧aD k=some (.at_ c b0)
def ca (H:J) (φ :af) (L0:J) (aD:af):List Mode→List AV→List AV→Prop
 | .io::ms,a::as,x::xs=>iv H φ L0 aD a x∧ca H φ L0 aD ms as xs
 |_::ms,_::as,_::xs=>ca H φ L0 aD ms as xs
 |_,_,_=>True
theorem J.se {L L1:J} (h:bF L L1) {id ad:Nat} {b:bC} (hb:L1.ap id ad=some b):L.ap id ad=some b:=by
 obtain ⟨h1,h2⟩:=J.bz hb;have:=J.gJ (h.get id b h1)
 rwa [h2] at this
theorem pD {L L1:J} (h: ∀id b,L.get id=some b→L1.get id=some b) {id ad:Nat} {b:bC} (hb:L.ap id ad=some b):L1.ap id ad=some b:=by
 obtain ⟨h1,h2⟩:=J.bz hb;have:=J.gJ (h id b h1)
 rwa [h2] at this
theorem iv.mono {H H' :J} {φ :af} {L0 L1:J} {aD φ1:af} {a x:AV} (hl:bF H H') (bD: ∀id b,L0.get id=some b→L1.get id=some b) (b6: ∀id loc,aD id=some loc→ φ1 id=some loc)
 (h:iv H' (aF φ H') L0 aD a x):iv H φ L1 φ1 a x:=by
 obtain ⟨k,kv,bk,h1,h2,⟨loc,lC⟩,h3,h4⟩:=h;refine ⟨k,kv,bk,h1,pD bD h2,⟨loc,b6 _ _ lC⟩,h3,fun id ad hr=> ?_⟩;obtain ⟨b,c,b0,q1,q2,q3,q4,q5⟩:=h4 id ad hr;exact ⟨b,c,b0,J.se hl q1,q2,q3,(dt q4).1,b6 _ _ q5⟩
theorem ca.mono {H H' :J} {φ :af} {L0 L1:J} {aD φ1:af} (hl:bF H H') (bD: ∀id b,L0.get id=some b→L1.get id=some b) (b6: ∀id loc,aD id=some loc→ φ1 id=some loc):
 ∀{ms:List Mode} {as xs:List AV},ca H' (aF φ H') L0 aD ms as xs→ca H φ L1 φ1 ms as xs
 |[],_,_,_=>by simp [ca]
 | .io::ms,a::as,x::xs,h=>by
  simp only [ca] at h⊢;exact ⟨h.1.mono hl bD b6,ca.mono hl bD b6 h.2⟩
 | .val::ms,a::as,x::xs,h=>by
  simp only [ca] at h⊢;exact ca.mono hl bD b6 h
 | .e8::ms,a::as,x::xs,h=>by
  simp only [ca] at h⊢;exact ca.mono hl bD b6 h
 |m::ms,[],_,_=>by cases m<;>simp [ca]
 |m::ms,_::_,[],_=>by cases m<;>simp [ca]
section bB
variable {w:World} {A:aj}
theorem pE {H:J} {φ :af} {L:J} {φL:af} (hd:b5 w H φ A L φL A) (sz:Nat) {a:AV} {u:Value} (hv: ∃p cap,u= .slice p 0 cap) (hr:dS a=none):
 ∃ φ1,ci w H φ A L φL A H (L.new sz true []) φ1∧R w (L.new sz true []) φ1 A (.ref L.bs.length L.st 0 0) u∧iv H φ (L.new sz true []) φ1 a (.ref L.bs.length L.st 0 0):=by
 obtain ⟨p,cap,rfl⟩:=hv;have m:=newAt (ci.refl hd) (sz:=sz) (fx:=true) (el:=[]) (loc:= .aQ) (by simp) (fun _=>rfl) (by simp)
 have hg:=J.en L sz true [];refine ⟨_,m,.ref _ _ _ _ _ (Nat.lt_succ_self _) ⟨_,_,rfl⟩ fun b hb=> ?_,_,_,_,rfl,J.gJ hg,⟨.aQ,by simp⟩,fun _=>rfl,fun id ad h=>by rw [hr] at h;simp at h⟩
 have:=kl hg hb;subst this;exact ⟨.aQ,p,cap,by simp,rfl,by simp,Nat.zero_le _,by simp,rfl,fun h=>by simp at h⟩
theorem zt {H:J} {φ :af} {L:J} {φL:af} (hd:b5 w H φ A L φL A) {sh:List Sh} {a:AV} {u:Value} (ha:R w H φ A a u) {z:AV} {H1:J} (hz:fq .io sh a H=some (z,H1)):
 (∃sz xs φ1,z= .own sz xs∧ci w H φ A L φL A H1 ((aJ xs L).2.new sz true (aJ xs L).1) φ1∧
  R w ((aJ xs L).2.new sz true (aJ xs L).1) φ1 A (.ref (aJ xs L).2.bs.length (aJ xs L).2.st 0 (aJ xs L).1.length) u∧
  iv H φ ((aJ xs L).2.new sz true (aJ xs L).1) φ1 a (.ref (aJ xs L).2.bs.length (aJ xs L).2.st 0 (aJ xs L).1.length))∨
 (∃sz x φ1,z= .dy sz x∧ci w H φ A L φL A H1 (aI z L).2 φ1∧R w (aI z L).2 φ1 A (aI z L).1 u∧iv H φ (aI z L).2 φ1 a (aI z L).1):=by
 cases a with
 |nil=>
  simp only [fq,Option.some.injEq,Prod.mk.injEq] at hz;obtain ⟨rfl,rfl⟩:=hz;obtain ⟨φ1,h1,h2,h3⟩:=pE hd (iQ sh).length (a:= .nil) ⟨none,0,ha.dh⟩ rfl;exact .inl ⟨_,_,φ1,rfl,h1,h2,h3⟩
 |e0=>
  simp only [fq,Option.some.injEq,Prod.mk.injEq] at hz;obtain ⟨rfl,rfl⟩:=hz;obtain ⟨a0,ly⟩:=ha.eU;obtain ⟨φ1,h1,h2,h3⟩:=pE hd (iQ sh).length (a:= .e0) ⟨a0,0,ly⟩ rfl;exact .inl ⟨_,_,φ1,rfl,h1,h2,h3⟩
 |ref id ad off len=>
  simp only [fq] at hz;split at hz
  ·rename_i b hb;obtain ⟨bQ,_,hr⟩:=ha.dq;obtain ⟨loc,a0,cap,q1,rfl,q3,q4,q5,q6⟩:=(hr b hb).out;split at hz
   ·rename_i da;subst da;simp only [Option.some.injEq,Prod.mk.injEq] at hz;obtain ⟨rfl,rfl⟩:=hz;obtain ⟨φ1,h1,h2,h3⟩:=pE hd (iQ sh).length (a:= .ref id ad off 0) ⟨a0,cap,rfl⟩ (by simp [dS])
    exact .inl ⟨_,_,φ1,rfl,h1,h2,h3⟩
   ·rename_i da;split at hz
    ·rename_i zu;obtain ⟨rfl,hlen⟩:=zu;obtain ⟨e,rfl,ht⟩:=jD (by simp) hz
     cases e with
     |sc=>simp [aR,dA] at ht
     |pt es=>simp [aR] at ht
     |sl es=>
      simp only [aR,hb] at ht;split at ht
      ·rename_i hc;obtain ⟨c1,c2,c3⟩:=hc;split at ht
       ·rename_i ys L' hm
        simp only [Option.some.injEq,Prod.mk.injEq] at ht;obtain ⟨rfl,rfl⟩:=ht;left;have hg:=(J.bz hb).1;obtain ⟨bk,a7,ag⟩:=hd.sl.ap id _ q1;rw [hg] at a7;simp only [Option.some.injEq] at a7;subst a7;have cY:=bF.del H id;have b7:b5 w (H.del id) (aF φ (H.del id)) A L φL A:=⟨er hd.sl cY,hd.sh,fun c hc=>hd.cg c (bM hc),fun c hc=>hd.eH c (bM hc)⟩
        have bA:aG b.el 0 len=b.el:=by simp [aG,hlen]
        rw [bA] at hm;cases loc with
        |aQ=>have:=ag.aQ rfl;rw [this] at hlen;simp at hlen;omega
        |at_ c b0=>
        simp only at q6;rcases q6 with q6|⟨h1,h2⟩
        ·omega
        obtain ⟨arr,T,fr,k1,k2,k3,k4⟩:=ag.here c b0 rfl
        let g:Nat→Nat→Value:=fun i j=>arr.getD (b0+i*b.sz+j) undef
        have cC: ∀(i:Nat) (x:AV) (j:Nat) (y:AV),b.el[i]? =some x→x.cells[j]? =some y→R w (H.del id) (aF φ (H.del id)) A y (g i j):=by
         intro i x j y hi hj;have dZ:j<b.sz:=by rw [←ag.sized _ _ hi];exact (List.getElem?_eq_some_iff.1 hj).1
         have hle:=cT (n:=b.sz) (List.getElem?_eq_some_iff.1 hi).1;have az:b0+i*b.sz+j<arr.size:=by omega
         have:g i j=arr[b0+i*b.sz+j]:=by
          simp only [g,Array.getD_eq_getD_getElem?,Array.getElem?_eq_getElem az,Option.getD_some]
         rw [this];exact ((k4 _ _ _ _ _ hi hj (Array.getElem?_eq_getElem az)).1).mono (db cY)
        obtain ⟨φ1,m,l1,s1,r1⟩:=pg (w:=w) (es:=es) (fun x vs L φL AL H φ AH y L1 a H1=>mO es x vs L φL AL H φ AH y L1 a H1) _ g _ _ _ _ _ _ _ _ _ _ b7 cC hm rfl (.inl fun _ h=>h)
        have lz: ∀(i:Nat) (a:AV),(aJ ys L).1[i]? =some a→a.cells.length=b.sz:=by
         intro i a ha;have cp:i<b.el.length:=by rw [←l1];exact (List.getElem?_eq_some_iff.1 ha).1
         have jb:=List.getElem?_eq_getElem cp;rw [s1 i _ a jb ha];exact ag.sized _ _ jb
        have M:=mM (off:=0) (n:=len) hd hb c2 rfl q1 (fun c' pv arr' T' fc hl hh i j v hi hj hv=>by
         simp only [Loc.at_.injEq] at hl;obtain ⟨rfl,rfl⟩:=hl;rw [k1] at hh;simp only [Option.some.injEq,Obj.cells.injEq] at hh;obtain ⟨rfl,_,_⟩:=hh;simp only [Nat.zero_add] at hv;simp only [g,Array.getD_eq_getD_getElem?,hv,Option.getD_some]) m (by rw [l1,hlen]) lz r1 true (.at_ c b0) (.inr ⟨c,b0,rfl,by simp⟩)
        rw [c1] at M;have mT:=J.en (aJ ys L).2 es.length true (aJ ys L).1;refine ⟨_,_,_,rfl,M,?_,_,_,_,rfl,J.gJ mT,⟨.at_ c b0,by simp⟩,fun h=>by simp [dS,da] at h,fun gI iw h=> ?_⟩
        ·refine .ref _ _ _ _ _ (Nat.lt_succ_self _) ⟨a0,cap,by rw [l1,hlen]⟩ fun b' aw=> ?_
         have:=kl mT aw;subst this;refine ⟨.at_ c b0,a0,cap,by simp,by rw [l1,hlen],by simp,by omega,by simp only;omega,?_⟩
         refine Or.inr ⟨by rw [h1];simp,?_⟩
         rw [c1] at h2;simpa using h2
        ·simp only [dS,da,if_false,Option.some.injEq,Prod.mk.injEq] at h;obtain ⟨rfl,rfl⟩:=h;exact ⟨b,c,b0,hb,c1.symm,l1,q1,by simp⟩
       ·simp at ht
      ·simp at ht
    ·simp at hz
  ·simp at hz
 |ptr id ad idx off=>
  simp only [fq] at hz;obtain ⟨e,rfl,ht⟩:=jD (by simp) hz
  cases e with
  |sc=>simp [aR,dA] at ht
  |sl es=>simp [aR] at ht
  |pt es=>
   rcases idx with _|idx
   rotate_left
   ·simp [aR] at ht
   rcases off with _|off
   rotate_left
   ·simp [aR] at ht
   simp only [aR] at ht;split at ht
   ·rename_i pr sz pu z' hb
    split at ht
    ·rename_i y' L' hm
     simp only [Option.some.injEq,Prod.mk.injEq] at ht;obtain ⟨rfl,rfl⟩:=ht;right;have hg:=(J.bz hb).1;obtain ⟨bQ,_,hr⟩:=ha.fE;obtain ⟨c,b0,q1,rfl⟩:=hr _ hb;obtain ⟨bk,a7,ag⟩:=hd.sl.ap id _ q1;rw [hg] at a7;simp only [Option.some.injEq] at a7;subst a7;obtain ⟨arr,T,fr,k1,k2,k3,k4⟩:=ag.here c b0 rfl;have cY:=bF.del H id;have b7:b5 w (H.del id) (aF φ (H.del id)) A L φL A:=⟨er hd.sl cY,hd.sh,fun c hc=>hd.cg c (bM hc),fun c hc=>hd.eH c (bM hc)⟩
     have cz:z'.cells.length=sz:=ag.sized 0 z' rfl
     simp only [List.length_singleton,Nat.one_mul] at k3
     let vs:List Value:=(arr.extract b0 (b0+sz)).toList
     have dM:vs.length=sz:=by simp [vs];omega
     have gk: ∀j u,vs[j]? =some u→arr[b0+j]? =some u:=by
      intro j u hu;simp only [vs,Array.getElem?_toList,Array.getElem?_extract] at hu;split at hu
      ·exact hu
      ·simp at hu
     obtain ⟨φ1,m,l1,r1⟩:=mO es z' vs _ _ _ _ _ _ _ _ _ _ b7 (by rw [dM,cz]) (fun j c' u hj hu=>((k4 0 z' j c' u rfl hj (by simpa using gk j u hu)).1).mono (db cY)) hm rfl (.inl fun _ h=>h)
     have M:=mM (as:=[(aI y' L).1]) (n:=1) (off:=0) (sz:=sz) (loc' := .at_ c b0) (g:=fun i j=>vs.getD j undef) hd hb (by simp) rfl q1 (fun c' pv arr' T' fc hl hh i j v hi hj hv=>by
      simp only [Loc.at_.injEq] at hl;obtain ⟨rfl,rfl⟩:=hl;rw [k1] at hh;simp only [Option.some.injEq,Obj.cells.injEq] at hh;obtain ⟨rfl,_,_⟩:=hh;have jC:i=0:=by omega
      subst jC;simp only [Nat.zero_mul,Nat.add_zero] at hv;have:vs[j]? =some v:=by
       simp only [vs,Array.getElem?_toList,Array.getElem?_extract];rw [if_pos (by omega)];exact hv
      simp [List.getD,this]) m rfl (fun i a ha=>by
      cases i with
      |zero=>simp at ha;subst ha;rw [l1,cz]
      |succ i=>simp at ha) (fun i a j c' ha hc=>by
      cases i with
      |zero=>
       simp at ha;subst ha;have hj:j<vs.length:=by rw [dM,←cz,←l1];exact (List.getElem?_eq_some_iff.1 hc).1
       have:=r1 j c' vs[j] hc (List.getElem?_eq_getElem hj)
       simpa [List.getD,hj] using this
      |succ i=>simp at ha) false (.inr ⟨c,b0,rfl,by simp⟩)
     have mT:=J.en (aI y' L).2 sz false [(aI y' L).1]
     refine ⟨_,_,_,rfl,M,?_,_,_,_,rfl,J.gJ mT,⟨.at_ c b0,by simp⟩,fun h=>by simp [dS] at h,fun gI iw h=> ?_⟩
     ·refine .ptr _ _ _ _ _ (Nat.lt_succ_self _) ⟨_,rfl⟩ fun b' aw=>⟨c,b0,by simp,?_⟩
      simp
     ·simp only [dS,Option.some.injEq,Prod.mk.injEq] at h;obtain ⟨rfl,rfl⟩:=h;exact ⟨_,c,b0,hb,rfl,rfl,q1,by simp⟩
    ·simp at ht
   ·simp at ht
 |_=>simp [fq] at hz
end bB
end Go.VS
