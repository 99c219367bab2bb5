import Derived.Test.YtmbfhipfcjmhmaaGreatVaA
namespace Go.VS
theorem An (lg cap:Nat) (h:cap<lg):Builtin.nextslicecap lg cap≤2*lg+512:=by
 have g: ∀(r c:Nat),c≤2*lg+512→Builtin.growBy lg r c≤2*lg+512:=by
  intro r;induction r with
  |zero=>intro c hc;exact hc
  |succ r ih=>
   intro c hc;simp only [Builtin.growBy];split
   ·exact hc
   ·exact ih _ (by omega)
 unfold Builtin.nextslicecap;split
 ·omega
 ·split
  ·omega
  ·exact g _ _ (by omega)
section ops
variable {P:Program} {E:aK} (hE: ∀t ti,E t=some ti→aU P t ti)
variable {w:World} {G:J} {φ :ag} {A:aj}
theorem pZ {t:TypeId} {ti:TI} (h:aU P t ti) (hn: ∀k,ti.aw≠ .it k) (w:World): ∃d,(underlying t).run P w= .ok d w∧(∀k,d≠ .int k):=by
 obtain ⟨i,d,z,_,hd,_,_,_,_,_,_,_,_,bm,_⟩:=h.out;exact ⟨d,run_underlying hd w,fun k hk=>hn k (by rw [←bm,hk];rfl)⟩
structure Ao (P:Program) (w:World) (G:J) (φ :ag) (A:aj) (xs:List AV) (v:Value) (sz:Nat) (cs:Array Value):Prop where
 len:(Builtin.lenOf v).run P w= .ok xs.length w
 run: ∀m,m≤xs.length→(Builtin.firstCells sz m v).run P w= .ok (cs.extract 0 (m*sz)) w
 size:cs.size=xs.length*sz
 rel: ∀(i:Nat) (x:AV) (j:Nat) (y:AV) (u:Value),xs[i]? =some x→x.cells[j]? =some y→cs[i*sz+j]? =some u→R w G φ A y u∧u.oneCell' =true
 one: ∀u∈cs.toList,u.oneCell' =true
theorem lh {H0:J} (ae:St w G φ A) (hX:bg H0 G) {x:AV} {v:Value} {xs:List AV} {sz:Nat} (hx:R w G φ A x v) (h:cC H0 x=some xs) (hs:bD sz xs=true) (hz:0<sz):
 ∃cs,Ao P w G φ A xs v sz cs:=by
 by_cases s8: ∃s,x= .str s
 ·obtain ⟨s,rfl⟩:=s8;obtain ⟨b,rfl,rfl⟩:=hx.fb;simp only [cC,Option.some.injEq] at h;have ca:xs.length=b.size:=by rw [←h,List.length_map];exact Array.length_toList
  refine ⟨b.data.map fun c=> .int .u8 c.toNat,by simp [Builtin.lenOf,ca],fun m hm=> ?_,?_,fun i x j y u hi hy hu=> ?_,fun u hu=> ?_⟩
  ·have aC:sz=1∨xs=[]:=by
    rcases xs with _|⟨y,ys⟩
    ·exact .inr rfl
    ·left;have:=iP (i:=0) hs rfl;have hy:(b.data.toList.map fun c:UInt8=>AV.int .u8 c.toNat)[0]? =some y:=by rw [h];rfl
     simp only [List.getElem?_map,Option.map_eq_some_iff] at hy;obtain ⟨c,_,rfl⟩:=hy;exact this.symm
   simp only [Builtin.firstCells,Sem.run_pure];congr 1;rcases aC with rfl|rfl
   ·rw [ByteArray.data_extract,Nat.mul_one];apply Array.ext';simp
   ·simp at hm;subst hm;rw [ByteArray.data_extract];apply Array.ext';simp
  ·rcases xs with _|⟨y,ys⟩
   ·rw [Array.size_map,List.length_nil,Nat.zero_mul];exact ca.symm
   ·have:=iP (i:=0) hs rfl;have hy:(b.data.toList.map fun c:UInt8=>AV.int .u8 c.toNat)[0]? =some y:=by rw [h];rfl
    simp only [List.getElem?_map,Option.map_eq_some_iff] at hy;obtain ⟨c,_,rfl⟩:=hy;have h1:sz=1:=this.symm;subst h1;rw [Nat.mul_one,ca,Array.size_map];rfl
  ·rw [←h] at hi;simp only [List.getElem?_map,Option.map_eq_some_iff] at hi;obtain ⟨c,hc,rfl⟩:=hi;have h1:=iP hs (i:=i) (x:= .int .u8 c.toNat) (by rw [←h];simp [hc])
   have h1:sz=1:=h1.symm;subst h1;cases j with
   |zero=>
    simp only [AV.cells,List.getElem?_cons_zero,Option.some.injEq] at hy;subst hy;simp only [Nat.mul_one,Nat.add_zero,Array.getElem?_map,Option.map_eq_some_iff] at hu;obtain ⟨c',eg,rfl⟩:=hu;have:b.data[i]? =some c:=by simpa using hc
    rw [this] at eg;simp only [Option.some.injEq] at eg;subst eg;exact ⟨.fr _ _ (.int _ _),rfl⟩
   |succ j=>simp [AV.cells] at hy
  ·simp only [Array.toList_map,List.mem_map] at hu;obtain ⟨c,_,rfl⟩:=hu;rfl
 ·have bG:=pY ae hX hx h hs (fun s hs=>s8 ⟨s,hs⟩);obtain ⟨cs,c1,c2,c3,c4⟩:=bG.cells (P:=P) hz;refine ⟨cs,?_,fun m hm=> ?_,c2,c3,c4⟩
  ·rcases bG.out with ⟨rfl,a,cap,rfl⟩|⟨c,o,cap,arr,T,fr,rfl,_⟩<;>simp [Builtin.lenOf]
  ·rcases bG.out with ⟨rfl,a,cap,rfl⟩|⟨c,o,cap,arr,T,fr,rfl,h1,h2,_⟩
   ·simp at hm;subst hm;have:cs= #[]:=Array.eq_empty_of_size_eq_zero (by simpa using c2)
    subst this;cases a with
    |none=>simp [Builtin.firstCells]
    |some a=>simp [Builtin.firstCells,loadCells,loadCellsFrom]
   ·simp only [Builtin.firstCells] at c1⊢;have hle:m*sz≤xs.length*sz:=Nat.mul_le_mul_right _ hm;rw [l5 P h1 o (xs.length*sz) h2] at c1;rw [l5 P h1 o (m*sz) (by omega)]
    simp only [Result.ok.injEq,and_true] at c1;congr 1;rw [←c1];simp only [Array.extract_extract];congr 1<;>omega
theorem run_append_grow {t tx e:TypeId} {ti te fB:TI} (ht:aU P t ti) (hu:ti.aw= .sl e) (bz:aU P e te) (cV:aU P tx fB) (gM: ∀k,fB.aw≠ .it k) (tys:Array TypeId) (h0:tys[0]? =some t) (h1:tys[1]? =some tx) (ty:TypeId)
 {base:Option Addr} {sLen sCap:Nat} {x:Value} {n:Nat} {iu jC:Array Value} (hlen:(Builtin.lenOf x).run P w= .ok n w) (hS:(Builtin.firstCells te.sz sLen (.slice base sLen sCap)).run P w.drew= .ok iu w.drew)
 (hX:(Builtin.firstCells te.sz n x).run P w.drew= .ok jC w.drew) (sS:iu.size=sLen*te.sz) (sX:jC.size=n*te.sz) (mb:sCap<sLen+n) (gj:roomy (sLen+n) te.bytes=true):
 ∃cap arr,sLen+n≤cap∧(Builtin.append_ tys ty #[.slice base sLen sCap,x]).run P w= .ok (.slice (some ⟨w.heap.size,0,none⟩) (sLen+n) cap) (w.drew.alloc (.cells arr e))∧arr.size=cap*te.sz∧
  ∀j,j<(sLen+n)*te.sz→arr[j]? =(iu ++ jC)[j]? :=by
 obtain ⟨d,hd,p0⟩:=pZ cV gM w;obtain ⟨inf,i1,i2,_⟩:=bz.typeInfo w;obtain ⟨zv,z1,z2,_⟩:=bz.zeroValue w.drew;simp only [roomy,Bool.and_eq_true,decide_eq_true_eq] at gj;obtain ⟨r1,r2⟩:=gj;have s9:(match d with| .int _=>true|_=>false)=false:=by cases d<;>first|rfl|exact absurd rfl (p0 _)
 have hb: ¬(Builtin.nextslicecap (sLen+n) sCap*inf.bytes>2^48):=by
  rw [i2];have h2:=An (sLen+n) sCap mb;have h3:Builtin.nextslicecap (sLen+n) sCap*te.bytes≤(2*(sLen+n)+512)*te.bytes:=Nat.mul_le_mul_right _ h2;have h4:(2*(sLen+n)+512)*te.bytes≤2*((sLen+n+512)*te.bytes):=by
   rw [←Nat.mul_assoc];exact Nat.mul_le_mul_right _ (by omega)
  omega
 have nz: ¬(((sLen+n:Nat):Int)>IntKind.i64.max):=by have:IntKind.i64.max=9223372036854775807:=rfl;omega
 let q:Question:= .appendCap (sLen+n) sCap e
 let cap:=q.cut (w.tape w.drawn q)
 have gd:sLen+n≤cap:=Nat.le_add_right _ _
 let arr:=iu ++ jC ++ Builtin.zeroCells zv.cells (cap-(sLen+n))
 have iQ:(Builtin.zeroCells zv.cells (cap-(sLen+n))).size=(cap-(sLen+n))*te.sz:=by simp [Builtin.zeroCells,z2]
 refine ⟨cap,arr,gd,?_,?_,fun j hj=> ?_⟩
 ·unfold Builtin.append_;simp only [h0,h1,List.getElem?_toArray,List.getElem?_cons_zero,List.getElem?_cons_succ,Sem.run_bind,ht.sl w hu,Result.andThen_ok,bz.sizeOf,hd,Sem.run_pure];have nA: ¬(sLen+n≤sCap):=by omega
  obtain ⟨Ap,p6,Aq,_⟩:=bz.typeInfo w.drew;simp only [Bool.false_eq_true,if_false,Bool.not_false,if_true,Sem.run_bind,hlen,Result.andThen_ok,nA,i1,nz,false_and,hb,run_choose,Question.forced,World.drew_eq,p6,run_askRoom];show ((Builtin.firstCells te.sz sLen (.slice base sLen sCap)).run P w.drew).andThen _=_;simp only [hS,hX,Result.andThen_ok,z1,Sem.run_bind,newRow,run_newObj,Sem.run_pure,World.alloc_eq];rfl
 ·simp only [arr,Array.size_append,sS,sX,iQ];rw [←Nat.add_mul,←Nat.add_mul];congr 1;omega
 ·have:j<(iu ++ jC).size:=by simp only [Array.size_append,sS,sX];rw [←Nat.add_mul];exact hj
  simp only [arr];rw [Array.getElem?_append_left this]
end ops
end Go.VS
namespace Go.VS
section ops
variable {P:Program} {E:aK} (hE: ∀t ti,E t=some ti→aU P t ti)
variable {w:World} {G:J} {φ :ag} {A:aj}
theorem li (ae:St w G φ A):Out w G φ A w.drew G φ A:=
 have aS:bM w G φ A w.drew G φ A:=⟨fun c a t fr hc hn=>⟨⟨fr,hc⟩,hn⟩,Nat.le_refl _,fun i b' au _=>⟨b',au,rfl,rfl,rfl,rfl,fun loc hl=>hl⟩,fun c _=>rfl⟩
 ⟨⟨ae.inj,ae.own,ae.b7,fun id loc h=>by
  obtain ⟨b,hb,af⟩:=ae.ap id loc h;refine ⟨b,hb,af.ad,af.sized,af.aP,fun c b0 hl=> ?_⟩;obtain ⟨arr,T,fr,h1,h2,h3,h4⟩:=af.here c b0 hl;exact ⟨arr,T,fr,h1,h2,h3,fun i x j y v hx hy hv=>⟨(h4 i x j y v hx hy hv).1.mono aS,(h4 i x j y v hx hy hv).2⟩⟩⟩,
  ⟨rfl,rfl,rfl,Nat.le_refl _,fun _ _ _=>rfl,fun _ _=>rfl,fun _ h=> .inl h⟩,aS,fun _ h _=>h⟩
theorem bn.of {H0 H' :J} {r:Result Next} {x:AV} {v:Value} {w' :World} {ak:ag} {A' :aj} (hr:r= .ok (.value v) w') (hx:R w' G ak A' x v) (ho:Out w G φ A w' G ak A')
 (br: ∀id loc,ak id=some loc→ φ id=some loc∨(H0.bs.length≤id∧id<H'.bs.length)):bn w G φ A H0 H' r x:=⟨_,v,w',ak,A',hr,.inl rfl,hx,ho,br⟩
include hE in
theorem tc {H0 H' :J} (ae:St w G φ A) (hX:bg H' G) (bB:H0.bs.length<H'.bs.length→ φ H0.bs.length=none) {t tx:TypeId} {tys:Array TypeId} {ty:TypeId} (h0:tys[0]? =some t) (h1:tys[1]? =some tx) {te fB:TI} (bz:cD E t=some te)
 (cV:E tx=some fB) {k:IntKind} (hit:fB.aw= .it k) {n:Int} {z:AV} {a b:Value} (hs:R w G φ A .nil a) (hx:R w G φ A (.int .i64 n) b) (h:lR te n H0=some (z,H')):
 bn w G φ A H0 H' ((do pure (.value (←Builtin.append_ tys ty #[a,b])):Sem Next).run P w) z:=by
 obtain ⟨ti,e,ht,hu,cF⟩:=kd bz;have e1:=hs.du;have e2:=hx.ct;subst e1;subst e2;unfold lR at h;split at h
 rotate_left
 ·simp at h
 rename_i zA hz;split at h
 rotate_left
 ·simp at h
 rename_i hcnd;obtain ⟨c0,c2,c3⟩:=hcnd;obtain ⟨inf,i1,i2,_⟩:=(hE _ _ cF).typeInfo w;simp only [roomy,Bool.and_eq_true,decide_eq_true_eq] at c2;obtain ⟨r1,r2⟩:=c2;have hn:IntKind.i64.wrap n=n:=IntWalk.i64_in n (by omega)
 have e1:(n.toNat+512)*te.bytes=n.toNat*te.bytes+512*te.bytes:=Nat.add_mul _ _ _;have hb: ¬(n*(inf.bytes:Int)>2^48):=by
  rw [i2];have e2:n*((te.bytes:Int))=((n.toNat*te.bytes:Nat):Int):=by
   rw [Int.natCast_mul,Int.toNat_of_nonneg (by omega)]
  rw [e2];omega
 have hd:=(hE _ _ cV).lY (w:=w) hit;have t1: ¬(IntKind.i64.wrap n<0):=by rw [hn];omega
 have au: ¬(IntKind.i64.wrap n*(inf.bytes:Int)>2^48):=by rw [hn];exact hb
 by_cases p7:n=0
 ·rw [if_pos p7] at h;simp only [Option.some.injEq,Prod.mk.injEq] at h;obtain ⟨rfl,rfl⟩:=h;subst p7;refine bn.val ae ?_ (.fr _ _ .nil);unfold Builtin.append_;simp only [h0,h1,List.getElem?_toArray,List.getElem?_cons_zero,List.getElem?_cons_succ,Sem.run_bind,(hE _ _ ht).sl w hu,Result.andThen_ok,(hE _ _ cF).sizeOf,hd,Sem.run_pure,asInt,asIntOf];simp only [t1,if_true,if_false,Sem.run_bind,Sem.run_pure,Result.andThen_ok,i1,au];rw [hn];simp
 ·rw [if_neg p7] at h;simp only [Option.some.injEq,Prod.mk.injEq] at h;obtain ⟨rfl,rfl⟩:=h;have cW:=li ae;obtain ⟨zv,z1,z2,z3,z5⟩:=sU (hE _ _ cF) hz w.drew;obtain ⟨Ap,p6,Aq,_⟩:=(hE _ _ cF).typeInfo w.drew
  let q:Question:= .appendCap n.toNat 0 e
  let cap:=q.cut (w.tape w.drawn q)
  have gd:n.toNat≤cap:=Nat.le_add_right _ _
  let arr:=Builtin.zeroCells zv.cells n.toNat ++ Builtin.zeroCells zv.cells (cap-n.toNat)
  have iQ: ∀m,(Builtin.zeroCells zv.cells m).size=m*te.sz:=fun m=>by simp [Builtin.zeroCells,z2]
  have tg:Builtin.nextslicecap n.toNat 0=n.toNat:=by unfold Builtin.nextslicecap;rw [if_pos (by omega)]
  have cP: ¬(n.toNat*inf.bytes>2^48):=by rw [i2];omega
  have nz: ¬((n.toNat:Int)>IntKind.i64.max):=by have:IntKind.i64.max=9223372036854775807:=rfl;omega
  have aI: ¬(n.toNat*te.sz=0):=by
   intro h0;rcases Nat.mul_eq_zero.1 h0 with h0|h0<;>omega
  have cU:(Builtin.append_ tys ty #[.slice none 0 0,.int .i64 n]).run P w= .ok (.slice (some ⟨w.heap.size,0,none⟩) n.toNat cap) (w.drew.alloc (.cells arr e)):=by
   unfold Builtin.append_;simp only [h0,h1,List.getElem?_toArray,List.getElem?_cons_zero,List.getElem?_cons_succ,Sem.run_bind,(hE _ _ ht).sl w hu,Result.andThen_ok,(hE _ _ cF).sizeOf,hd,Sem.run_pure,asInt,asIntOf];simp only [t1,if_true,if_false,Sem.run_bind,Sem.run_pure,Result.andThen_ok,i1,au];rw [hn];have nA: ¬(n.toNat≤0):=by omega
   have mc: ¬(Builtin.nextslicecap n.toNat 0*inf.bytes>2^48):=by rw [tg];exact cP
   simp only [Nat.zero_add];rw [if_neg nA];simp only [if_false,Sem.run_bind,Sem.run_pure,Result.andThen_ok,i1,nz,false_and,mc,run_choose,Question.forced,World.drew_eq,p6,run_askRoom,Builtin.firstCells,aI,z1,newRow,run_newObj,World.alloc_eq,Array.empty_append,Bool.not_true,Bool.false_eq_true];rfl
  have df:arr.size=cap*te.sz:=by
   simp only [arr,Array.size_append,iQ];rw [←Nat.add_mul];congr 1;omega
  have cJ: ∀(i:Nat) (x:AV),(List.replicate n.toNat zA)[i]? =some x→x.cells.length=te.sz:=by
   intro i x hx;simp only [List.getElem?_replicate] at hx;split at hx
   ·simp only [Option.some.injEq] at hx;subst hx;exact z3
   ·simp at hx
  have eO: ∀(i:Nat) (x:AV) (j:Nat) (y:AV) (v:Value),(List.replicate n.toNat zA)[i]? =some x→x.cells[j]? =some y→arr[i*te.sz+j]? =some v→R w.drew G φ A y v∧v.oneCell' =true:=by
   intro i x j y v hx hy hv;simp only [List.getElem?_replicate] at hx;split at hx
   ·rename_i hi;simp only [Option.some.injEq] at hx;subst hx;have hj:j<te.sz:=by rw [←z3];exact (List.getElem?_eq_some_iff.1 hy).1
    have az:i*te.sz+j<n.toNat*te.sz:=by have:=c9 (n:=te.sz) hi;omega
    simp only [arr] at hv;rw [Array.getElem?_append_left (by rw [iQ];exact az)] at hv
    have bA:zv.cells[j]? =some v:=by
     refine l9 z2 hi hj ?_;rw [←hv];simp only [Builtin.zeroCells,z2]
    have:=z5 w.drew A j y v hy bA;exact ⟨.fr _ _ this.1,this.2⟩
   ·simp at hx
  obtain ⟨ak,A',bq,aV,br⟩:=j_ (arr:=arr) e cW.st hX (bB (by simp [J.new])) cJ (by rw [df];simpa using Nat.mul_le_mul_right _ gd) eO
  have hg:=hX.1 _ _ (J.eB H0 te.sz false (List.replicate n.toNat zA));exact bn.of (by simp only [Sem.run_bind,cU,Result.andThen_ok,Sem.run_pure];rfl) (ka hg (Nat.lt_of_lt_of_le (Nat.lt_succ_self _) hX.2) aV (by simp) gd (by simpa using gd) (by rw [lf,df];exact Nat.le_refl _)) (cW.trans ae bq) br
include hE in
theorem p8 {H0 H' :J} (ae:St w G φ A) (gk:bg H0 G) (hX:bg H' G) (bB:H0.bs.length<H'.bs.length→ φ H0.bs.length=none) {t tx:TypeId} {tys:Array TypeId} {ty:TypeId} (h0:tys[0]? =some t) (h1:tys[1]? =some tx) {te fB:TI} (bz:cD E t=some te)
 (cV:E tx=some fB) (gM: ∀k,fB.aw≠ .it k) {s x z:AV} {a b:Value} (hs:R w G φ A s a) (hx:R w G φ A x b) (hq:s= .nil∨s= .e0) (h:ec te s x H0=some (z,H')):
 bn w G φ A H0 H' ((do pure (.value (←Builtin.append_ tys ty #[a,b])):Sem Next).run P w) z:=by
 obtain ⟨ti,e,ht,hu,cF⟩:=kd bz;obtain ⟨base,rfl⟩: ∃base,a= .slice base 0 0:=by
  rcases hq with rfl|rfl
  ·exact ⟨none,hs.du⟩
  ·obtain ⟨a0,rfl⟩:=hs.fc;exact ⟨a0,rfl⟩
 unfold ec at h;split at h
 ·simp at h
 ·rename_i xs eD;split at h
  ·simp at h
  ·rename_i aC;simp only [Bool.not_eq_true',Bool.not_eq_false] at aC;split at h
   ·simp at h
   ·rename_i hz;have hz:0<te.sz:=by omega
    obtain ⟨cs,dg⟩:=lh (P:=P) ae gk hx eD aC hz;have tj:xs.length=0→bn w G φ A H0 H0 ((do pure (.value (←Builtin.append_ tys ty #[.slice base 0 0,b])):Sem Next).run P w) s:=by
     intro hl;refine bn.val ae ?_ hs;obtain ⟨d,hd,p0⟩:=pZ (hE _ _ cV) gM w;have hc:=dg.run 0 (by omega)
     have dh:=dg.len;rw [hl] at dh;simp only [Nat.zero_mul,Array.extract_zero] at hc;unfold Builtin.append_;simp only [h0,h1,List.getElem?_toArray,List.getElem?_cons_zero,List.getElem?_cons_succ,Sem.run_bind,(hE _ _ ht).sl w hu,Result.andThen_ok,(hE _ _ cF).sizeOf,hd,Sem.run_pure];simp only [Bool.false_eq_true,if_false,Bool.not_false,if_true,Sem.run_bind,dh,Result.andThen_ok,Nat.add_zero,Nat.le_refl,hc];cases base with
     |none=>simp
     |some p=>simp [storeCells]
    have tn: ∀{v:Nat},0<xs.length→roomy xs.length te.bytes=true→bg (H0.new te.sz false xs) G→ φ H0.bs.length=none→v=xs.length→
     bn w G φ A H0 (H0.new te.sz false xs) ((do pure (.value (←Builtin.append_ tys ty #[.slice base 0 0,b])):Sem Next).run P w) (.ref H0.bs.length H0.st 0 xs.length):=by
     intro v hl hr hX Ar _;have cW:=li ae;have hc:(Builtin.firstCells te.sz 0 (.slice base 0 0)).run P w.drew= .ok #[] w.drew:=by
      cases base with
      |none=>simp [Builtin.firstCells]
      |some p=>simp [Builtin.firstCells,loadCells,loadCellsFrom]
     obtain ⟨a7,fN⟩:=lh (P:=P) cW.st gk (hx.mono cW.bF) eD aC hz;have dJ:=fN.run xs.length (Nat.le_refl _);rw [←fN.size] at dJ;simp only [Array.extract_size] at dJ;obtain ⟨cap,arr,k1,k2,k3,k4⟩:=run_append_grow (P:=P) (w:=w) (hE _ _ ht) hu (hE _ _ cF) (hE _ _ cV) gM tys h0 h1 ty dg.len hc dJ (by simp) fN.size (by omega) (by simpa using hr)
     simp only [Nat.zero_add] at k1 k2 k4;have cJ: ∀(i:Nat) (x:AV),xs[i]? =some x→x.cells.length=te.sz:=fun i x hi=>iP aC hi;have hle:xs.length*te.sz≤cap*te.sz:=Nat.mul_le_mul_right _ k1;obtain ⟨ak,A',bq,aV,br⟩:=j_ (arr:=arr) e cW.st hX Ar cJ (by rw [k3];exact hle) (fun i x j y v hi hy hv=>by
      have cy:i<xs.length:=(List.getElem?_eq_some_iff.1 hi).1;have d_:j<x.cells.length:=(List.getElem?_eq_some_iff.1 hy).1;have:=cJ i x hi;have:=c9 (n:=te.sz) cy;rw [k4 _ (by omega)] at hv
      simp only [Array.empty_append] at hv;exact fN.rel i x j y v hi hy hv)
     have hg:=hX.1 _ _ (J.eB H0 te.sz false xs);exact bn.of (by simp [k2]) (ka hg (Nat.lt_of_lt_of_le (Nat.lt_succ_self _) hX.2) aV (Nat.le_refl _) k1 k1 (by
      have:=lf w.drew arr e;rw [this,k3];exact Nat.le_refl _)) (cW.trans ae bq) br
    rcases hq with rfl|rfl
    ·simp only at h;split at h
     ·rename_i hl;simp only [Option.some.injEq,Prod.mk.injEq] at h;obtain ⟨rfl,rfl⟩:=h;exact tj hl
     ·rename_i hl;split at h
      ·rename_i hr;simp only [Option.some.injEq,Prod.mk.injEq] at h;obtain ⟨rfl,rfl⟩:=h;exact tn (by omega) hr hX (bB (by simp [J.new])) rfl
      ·simp at h
    ·simp only at h;split at h
     ·rename_i hl;simp only [Option.some.injEq,Prod.mk.injEq] at h;obtain ⟨rfl,rfl⟩:=h;exact tj hl
     ·rename_i hl;split at h
      ·rename_i hr;simp only [Option.some.injEq,Prod.mk.injEq] at h;obtain ⟨rfl,rfl⟩:=h;exact tn (by omega) hr hX (bB (by simp [J.new])) rfl
      ·simp at h
include hE in
theorem As {H0 H' :J} (ae:St w G φ A) (gk:bg H0 G) (hX:bg H' G) (bB:H0.bs.length<H'.bs.length→ φ H0.bs.length=none) {src dst:TypeId} {x z:AV} {a:Value} (hx:R w G φ A x a)
 (h:(match (generalizing:=false) E src,E dst,x with
 |some _,some td,.int _ n=>match td.aw with
  | .it k=>some (AV.int k (k.wrap n),H0)
  |_=>none
 |some _,some td,.str l=>match td.aw with
  | .str=>some (.str l,H0)
  | .sl e=>match E e with
   |some te=>match te.aw with
    | .it .u8=>if te.sz=1∧te.bytes=1∧l.length≤2^45 then some (.ref H0.bs.length H0.st 0 l.length,H0.new 1 false (l.map fun b=> .int .u8 b.toNat)) else none
    |_=>none
   |none=>none
  |_=>none
 |some ts,some td,x=>match ts.aw,td.aw with
  | .sl e,.str=>match E e with
   |some te=>match te.aw with
    | .it .u8=>match cC H0 x with
     |some xs=>if te.sz=1 then (match ((bytesOf xs).map AV.str) with|some v=>some (v,H0)|none=>none) else none
     |none=>none
    |_=>none
   |none=>none
  |_,_=>none
 |_,_,_=>none)=some (z,H')):bn w G φ A H0 H' ((do pure (.value (←convert src dst a)):Sem Next).run P w) z:=by
 have e9:(∃s,x= .str s)∨ ∀s,x≠ .str s:=by
  by_cases h: ∃s,x= .str s
  ·exact .inl h
  ·exact .inr fun s hs=>h ⟨s,hs⟩
 split at h
 ·rename_i ts td k n h1 h2;have e1:=hx.ct;subst e1;split at h
  ·rename_i k' hu
   simp only [Option.some.injEq,Prod.mk.injEq] at h;obtain ⟨rfl,rfl⟩:=h;obtain ⟨i,d,zz,_,hd,_⟩:=(hE _ _ h1).out;refine bn.val ae ?_ (.fr _ _ (.int _ _));simp only [Sem.run_bind,convert,run_underlying hd,(hE _ _ h2).lY w hu,Result.andThen_ok];cases d<;>rfl
  ·simp at h
 ·rename_i ts td l h1 h2;obtain ⟨s,rfl,rfl⟩:=hx.fb;obtain ⟨i,d,zz,_,hd,_⟩:=(hE _ _ h1).out;split at h
  ·rename_i hu;simp only [Option.some.injEq,Prod.mk.injEq] at h;obtain ⟨rfl,rfl⟩:=h;refine bn.val ae ?_ hx;simp only [Sem.run_bind,convert,run_underlying hd,(hE _ _ h2).jw w hu,Result.andThen_ok];cases d<;>rfl
  ·rename_i e hu;split at h
   ·rename_i te h3;split at h
    ·rename_i p9;split at h
     ·rename_i hc;simp only [Option.some.injEq,Prod.mk.injEq] at h;obtain ⟨rfl,rfl⟩:=h;have hl:s.data.toList.length=s.size:=Array.length_toList;have cW:=li ae
      let q:Question:= .appendCap s.size 0 e
      let cap:=q.cut (w.tape w.drawn q)
      have gd:s.size≤cap:=Nat.le_add_right _ _
      let arr:Array Value:=(s.data.map fun b=>Value.int .u8 b.toNat) ++ Array.replicate (cap-s.size) (.int .u8 0)
      have df:arr.size=cap:=by
       simp only [arr,Array.size_append,Array.size_map,Array.size_replicate];have:s.data.size=s.size:=rfl;omega
      obtain ⟨ak,A',bq,aV,br⟩:=sT (arr:=arr) (arr.size,arr.size+1) e cW.st hX (bB (by simp [J.new])) (fun i x hi=>by
       simp only [List.getElem?_map,Option.map_eq_some_iff] at hi;obtain ⟨c,_,rfl⟩:=hi;rfl) (by rw [List.length_map,hl,df];omega) (fun j hj h=>by have:=h.1;have hp:pad 1=0:=rfl;simp only at this;omega) (fun i x j y v hi hy hv=>by
       simp only [List.getElem?_map,Option.map_eq_some_iff] at hi;obtain ⟨c,hc,rfl⟩:=hi;cases j with
       |zero=>
        simp only [AV.cells,List.getElem?_cons_zero,Option.some.injEq] at hy;subst hy;simp only [Nat.mul_one,Nat.add_zero] at hv;have hi:i<s.data.size:=by rw [←Array.length_toList];exact (List.getElem?_eq_some_iff.1 hc).1
        simp only [arr] at hv;rw [Array.getElem?_append_left (by simpa using hi)] at hv
        simp only [Array.getElem?_map,Option.map_eq_some_iff] at hv;obtain ⟨c',eg,rfl⟩:=hv;have:s.data[i]? =some c:=by simpa using hc
        rw [this] at eg;simp only [Option.some.injEq] at eg;subst eg;exact ⟨.fr _ _ (.int _ _),rfl⟩
       |succ j=>simp [AV.cells] at hy)
      have hg:=hX.1 _ _ (J.eB H0 1 false (s.data.toList.map fun b=>AV.int .u8 b.toNat));have cU:(convert src dst (.string s)).run P w= .ok (.slice (some ⟨w.heap.size,0,none⟩) s.size cap) (w.drew.alloc (.cells arr e (arr.size,arr.size+1))):=by
       have e2:(convert src dst (.string s)).run P w=(Conv.stringToBytes e s).run P w:=by
        simp only [convert,Sem.run_bind,run_underlying hd,(hE _ _ h2).sl w hu,Result.andThen_ok];have:=(hE _ _ h3).lY w p9;cases d<;>simp [this]
       rw [e2];unfold Conv.stringToBytes;simp only [Sem.run_bind,run_choose,Question.forced,Bool.false_eq_true,if_false,World.drew_eq,Result.andThen_ok,newRow,run_newObj,World.alloc_eq,Sem.run_pure];have gn:((w.drew.alloc (.cells arr e)).shape? w.drew.heap.size)=some (e,arr.size):=by
        unfold World.shape?;rw [heap_alloc_new]
       simp only [markStringish,Sem.run_bind,run_shape,Result.andThen_ok];rw [show (w.drew.alloc (.cells ((s.data.map fun b=>Value.int .u8 b.toNat) ++ Array.replicate (q.cut (w.tape w.drawn q)-s.size) (.int .u8 0)) e))=w.drew.alloc (.cells arr e) from rfl];rw [gn];simp only [run_freeze,Result.andThen_ok];congr 1;unfold World.freeze;simp only [Nat.one_ne_zero,if_false];have: ∀(h:Array Obj) (o:Obj) (f:Obj→Obj),(h.push o).modify h.size f=h.push (f o):=by
        intro h o f;apply Array.ext
        ·simp
        ·intro i h1 h2;simp only [Array.getElem_modify,Array.getElem_push];simp at h1;by_cases hi:h.size=i
         ·subst hi;simp
         ·have:i<h.size:=by omega
          simp [hi,this]
       show ({w.drew.alloc (.cells arr e) with heap:=(w.drew.heap.push (.cells arr e)).modify w.drew.heap.size _}:World)=_;rw [this];rfl
      refine bn.of (by simp [cU];rfl) ?_ (cW.trans ae bq) br
      rw [hl];exact ka hg (Nat.lt_of_lt_of_le (Nat.lt_succ_self _) hX.2) aV (by simp [hl]) gd (by simp [hl];exact gd) (by
       have:aR (w.drew.alloc (.cells arr e (arr.size,arr.size+1))) w.heap.size=arr.size:=by
        unfold aR;rw [show w.heap.size=w.drew.heap.size from rfl,heap_alloc_new]
       rw [this,df];simp)
     ·simp at h
    ·simp at h
   ·simp at h
  ·simp at h
 ·rename_i x o1 o2 x' ts td h1 h2 Eb nB
  replace nB: ∀s,x≠AV.str s:=by
   rcases e9 with ⟨s,rfl⟩|hn
   ·exact (nB s rfl).elim
   ·exact hn
  split at h
  ·rename_i e ea bm;split at h
   ·rename_i te h3;split at h
    ·rename_i p9;split at h
     ·rename_i xs eD;split at h
      ·split at h
       ·rename_i v hv;simp only [Option.some.injEq,Prod.mk.injEq] at h;obtain ⟨rfl,rfl⟩:=h;simp only [Option.map_eq_some_iff] at hv;obtain ⟨l,hl,rfl⟩:=hv;obtain ⟨u,hu,hr⟩:=Am hE ae gk hx eD hl nB;refine bn.val ae ?_ hr;have ha: ∃a0 l0 c0,a= .slice a0 l0 c0:=by
         obtain ⟨ns,nC,_⟩:=s7 hl;have bG:=pY ae gk hx eD (sz:=1) (by rw [nC];simp [bD,AV.cells]) nB
         rcases bG.out with ⟨_,a0,c0,rfl⟩|⟨c,o,cap,arr,T,fr,rfl,_⟩
         ·exact ⟨_,_,_,rfl⟩
         ·exact ⟨_,_,_,rfl⟩
        obtain ⟨a0,l0,c0,rfl⟩:=ha;have e3:=(hE _ _ h3).lY w p9;simp only [Sem.run_bind,convert,(hE _ _ h1).sl w ea,(hE _ _ h2).jw w bm,Result.andThen_ok];cases a0<;>simp [e3,hu]
       ·simp at h
      ·simp at h
     ·simp at h
    ·simp at h
   ·simp at h
  ·simp at h
 ·simp at h
end ops
end Go.VS
namespace Go.VS
section ops
variable {P:Program} {E:aK} (hE: ∀t ti,E t=some ti→aU P t ti)
variable {w:World} {G:J} {φ :ag} {A:aj}
theorem bn.gp {H0 H' :J} {sv:Sem Value} {x:AV} (ae:St w G φ A) (h: ∃v,sv.run P w= .ok v w∧R w G φ A x v):bn w G φ A H0 H' ((do pure (.value (←sv)):Sem Next).run P w) x:=by
 obtain ⟨v,hv,hx⟩:=h;exact bn.val ae (by simp [hv]) hx
include hE in
theorem tp {H0 H' :J} (ae:St w G φ A) (gk:bg H0 G) (hX:bg H' G) (bB:H0.bs.length<H'.bs.length→ φ H0.bs.length=none) {o:Oper} {s:ah} {ρ :Operand→Value} {z:AV} (hq:et o.op=true)
 (aW: ∀y∈o.op.operands,R w G φ A (ev s y) (ρ y)) (h:aQ E o.op s H0=some (z,H')):bn w G φ A H0 H' ((execOp ρ o).run P w) z:=by
 obtain ⟨dst,op,type,pos,after,guard⟩:=o;simp only at hq aW h;cases op with
 |move x=>
  simp only [aQ,Option.some.injEq,Prod.mk.injEq] at h;obtain ⟨rfl,rfl⟩:=h;exact bn.val ae rfl (aW x (by simp [Op.operands]))
 |assign x=>
  simp only [aQ,Option.some.injEq,Prod.mk.injEq] at h;obtain ⟨rfl,rfl⟩:=h;exact bn.val ae rfl (aW x (by simp [Op.operands]))
 |pick c a b=>
  have hc:=aW c (by simp [Op.operands])
  have ha:=aW a (by simp [Op.operands])
  have hb:=aW b (by simp [Op.operands])
  simp only [aQ] at h;split at h
  ·rename_i t ht;rw [ht] at hc;have e1:=hc.fK;simp only [Option.some.injEq,Prod.mk.injEq] at h;obtain ⟨rfl,rfl⟩:=h;refine bn.val ae (v:=if t then ρ a else ρ b) (by simp [execOp,asBool,e1]) ?_
   cases t
   ·exact hb
   ·exact ha
  ·simp at h
 |binOp op t x y ty=>
  have hx:=aW x (by simp [Op.operands])
  have hy:=aW y (by simp [Op.operands])
  simp only [aQ] at h;have key: ∀z,aN E op t (ev s x) (ev s y)=some z→((∃u,y= .const u)∨ ∀e,ev s y≠ .cB e)→bn w G φ A H0 H0 ((execOp ρ {dst,op:= .binOp op t x y ty,type,pos,after,guard}).run P w) z:=
   fun z hz hc=>bn.gp ae (zK hE hx hy x y hc hz)
  split at h
  ·rename_i u;split at h
   ·rename_i v hv;simp only [Option.some.injEq,Prod.mk.injEq] at h;obtain ⟨rfl,rfl⟩:=h;exact key _ hv (.inl ⟨u,rfl⟩)
   ·simp at h
  ·split at h
   ·simp at h
   ·rename_i he;split at h
    ·rename_i v hv;simp only [Option.some.injEq,Prod.mk.injEq] at h;obtain ⟨rfl,rfl⟩:=h;exact key _ hv (.inr he)
    ·simp at h
 |unOp op t x=>
  have hx:=aW x (by simp [Op.operands])
  simp only [aQ] at h;split at h
  ·rename_i v hv;simp only [Option.some.injEq,Prod.mk.injEq] at h;obtain ⟨rfl,rfl⟩:=h;exact bn.gp ae (zB P hx hv)
  ·simp at h
 |extract x i=>
  have hx:=aW x (by simp [Op.operands])
  simp only [aQ] at h;split at h
  ·rename_i vs di;rw [di] at hx;obtain ⟨us,ea,hl,hp⟩:=hx.nn;split at h
   ·rename_i v hv;simp only [Option.some.injEq,Prod.mk.injEq] at h;obtain ⟨rfl,rfl⟩:=h;have hi:i<us.size:=by rw [←hl];exact (List.getElem?_eq_some_iff.1 hv).1
    exact bn.gp ae ⟨us[i],by simp [Instr.extract,ea,Array.getElem?_eq_getElem hi],hp i _ _ hv (Array.getElem?_eq_getElem hi)⟩
   ·simp at h
  ·simp at h
 |nilCheck x=>
  have hx:=aW x (by simp [Op.operands])
  simp only [aQ] at h;split at h
  ·rename_i a b c d hv;rw [hv] at hx;split at h
   ·rename_i bl hb;simp only [Option.some.injEq,Prod.mk.injEq] at h;obtain ⟨rfl,rfl⟩:=h;obtain ⟨_,_,hp⟩:=hx.gf;obtain ⟨c0,b0,_,cG⟩:=hp _ (gk.ap hb);exact bn.val ae (by simp only [execOp,cG];rfl) (by rw [cG] at hx;exact hx)
   ·simp at h
  ·rename_i y o hv;rw [hv] at hx;simp only [Option.some.injEq,Prod.mk.injEq] at h;obtain ⟨rfl,rfl⟩:=h;obtain ⟨c,p,arr,T,fr,cG,_⟩:=fw hx.fw;exact bn.val ae (by simp only [execOp,cG];rfl) (by rw [cG] at hx;exact hx)
  ·simp at h
 |convert src dst x=>
  have hx:=aW x (by simp [Op.operands])
  simp only [aQ] at h;exact As hE ae gk hX bB hx h
 |field t x f=>
  have hx:=aW x (by simp [Op.operands])
  simp only [aQ] at h;exact bn.gp ae (zR hE hx h)
 |fieldAddr t x f=>
  have hx:=aW x (by simp [Op.operands])
  simp only [aQ] at h;exact bn.gp ae (zG hE gk hx h)
 |indexAddr t x i=>
  have hx:=aW x (by simp [Op.operands])
  have hi:=aW i (by simp [Op.operands])
  simp only [aQ] at h;exact bn.gp ae (zQ hE gk hx hi h)
 |index t x i=>
  have hx:=aW x (by simp [Op.operands])
  have hi:=aW i (by simp [Op.operands])
  simp only [aQ] at h;exact bn.gp ae (zS hE hx hi h)
 |load t x=>
  have hx:=aW x (by simp [Op.operands])
  simp only [aQ] at h;exact bn.gp ae (sN hE ae gk hx h)
 |alloc t=>
  simp only [aQ] at h;exact z8 hE ae hX bB h
 |box t x=>
  have hx:=aW x (by simp [Op.operands])
  simp only [aQ] at h;exact z_ hE ae hX bB hx h
 |build t parts=>
  have hp: ∀p∈parts.toList,R w G φ A (ev s p.2) (ρ p.2):=fun p hp=>aW p.2 (by simp [Op.operands];exact ⟨p.1,by simpa using hp⟩)
  simp only [aQ] at h;exact bn.gp ae (Ag hE hp h)
 |buildSlice t len parts=>
  have hp: ∀p∈parts.toList,R w G φ A (ev s p.2) (ρ p.2):=fun p hp=>aW p.2 (by simp [Op.operands];exact ⟨p.1,by simpa using hp⟩)
  simp only [aQ] at h;exact Ah hE ae hX bB hp h
 |makeSlice t l c=>
  have hl:=aW l (by simp [Op.operands])
  have hc:=aW c (by simp [Op.operands])
  simp only [aQ] at h;exact Ab hE ae hX bB hl hc h
 |slice t x lo hi mx=>
  have hx:=aW x (by simp [Op.operands])
  have p_: ∀(q:Option Operand) (r:Option Int),(∀y,q=some y→R w G φ A (ev s y) (ρ y))→eK (q.map (ev s))=some r→fM r (q.map ρ):=by
   intro q r hq hr;refine zT (w:=w) (G:=G) (φ := φ) (A:=A) hr ?_;cases q with
   |none=>exact .inl ⟨rfl,rfl⟩
   |some y=>exact .inr ⟨_,_,rfl,rfl,hq y rfl⟩
  simp only [aQ] at h;split at h
  ·rename_i l' h' m' e1 e2 e3
   split at h
   ·rename_i v hv;simp only [Option.some.injEq,Prod.mk.injEq] at h;obtain ⟨rfl,rfl⟩:=h;refine bn.gp ae (zX hE gk hx (p_ lo l' (fun y hy=>aW y ?_) e1) (p_ hi h' (fun y hy=>aW y ?_) e2) (p_ mx m' (fun y hy=>aW y ?_) e3) hv)<;>simp [Op.operands,hy]
   ·simp at h
  ·simp at h
 |makeFunc fn first cap=>
  cases fn with
  |func f=>
   simp only [aQ] at h;split at h
   ·rename_i hf;simp only [Option.some.injEq,Prod.mk.injEq] at h;obtain ⟨rfl,rfl⟩:=h;have Au:first= #[]:=Array.eq_empty_of_size_eq_zero hf
    subst Au;refine bn.gp ae ⟨.func (.func f) #[] (cap.map ρ),by simp [Instr.makeFunc],R.fn f (cap.toList.map (ev s)) (cap.map ρ) (by simp) fun i x v hx hv=> ?_⟩
    simp only [List.getElem?_map,Option.map_eq_some_iff,Array.getElem?_map,Array.getElem?_toList] at hx hv;obtain ⟨y,hy,rfl⟩:=hx;obtain ⟨y',fg,rfl⟩:=hv;rw [hy] at fg;simp only [Option.some.injEq] at fg;subst fg;exact aW y (by simp [Op.operands];exact Array.mem_of_getElem? hy)
   ·simp at h
  |_=>simp [aQ] at h
 |_=>simp [et] at hq
end ops
end Go.VS
namespace Go.VS
structure iR (w:World) (c:Nat) (o:Obj) (w' :World):Prop where
 here:w'.heap[c]? =some o
 other: ∀k,k≠c→w'.heap[k]? =w.heap[k]?
 size:w'.heap.size=w.heap.size
 os:w'.os=w.os
 tape:w'.tape=w.tape
 output:w'.output=w.output
theorem tq {w:World} {c:Nat} {arr:Array Value} {T:TypeId} {fr:Nat×Nat} (h:w.heap[c]? =some (.cells arr T fr)) (p:Nat) (v:Value):
 iR w c (.cells (arr.setIfInBounds p v) T fr) (w.setCell ⟨c,p,none⟩ v):=by
 refine ⟨?_,fun k hk=> ?_,by simp,rfl,rfl,rfl⟩
 ·simp only [World.setCell,Array.getElem?_modify,if_true,h,Option.map_some];rfl
 ·simp only [World.setCell,Array.getElem?_modify];rw [if_neg (fun e=>hk e.symm)]
theorem nD (P:Program) (c p:Nat) (T:TypeId) (fr:Nat×Nat): ∀(vs:List Value) (i:Nat) (arr:Array Value) (w:World),w.heap[c]? =some (.cells arr T fr)→
 (∀j,j<arr.size→ ¬(fr.1≤j∧j<fr.2))→p+i+vs.length≤arr.size→(∀u∈vs,u.oneCell' =true)→
 ∃w' arr',(storeCells ⟨c,p,none⟩ vs i).run P w= .ok () w' ∧iR w c (.cells arr' T fr) w' ∧arr'.size=arr.size∧
  ∀m,arr'[m]? =if p+i≤m∧m<p+i+vs.length then vs[m-(p+i)]? else arr[m]?
 |[],i,arr,w,h,_,_,_=>⟨w,arr,by simp [storeCells],⟨h,fun _ _=>rfl,rfl,rfl,rfl,rfl⟩,rfl,fun m=>by rw [if_neg (by simp only [List.length_nil];omega)]⟩
 |v::vs,i,arr,w,h,hf,hl,ho=>by
  simp only [List.length_cons] at hl;have az:p+i<arr.size:=by omega
  have hc:w.cell? ⟨c,p+i,none⟩=some arr[p+i]:=by rw [nr h];exact Array.getElem?_eq_getElem az
  have ey:w.frozen? ⟨c,p+i,none⟩=false:=by
   unfold World.frozen?;simp only [h];have:=hf (p+i) az;simp only [Bool.and_eq_false_iff,decide_eq_false_iff_not];by_cases h1:fr.1≤p+i
   ·right;exact fun h2=>this ⟨h1,h2⟩
   ·left;exact h1
  have hu:=tq h (p+i) v;obtain ⟨w',arr',e1,e2,e3,e4⟩:=nD P c p T fr vs (i+1) (arr.setIfInBounds (p+i) v) (w.setCell ⟨c,p+i,none⟩ v) hu.here (by simpa using hf) (by simp;omega) (fun u hu=>ho u (by simp [hu]))
  refine ⟨w',arr',?_,⟨e2.here,fun k hk=>(e2.other k hk).trans (hu.other k hk),e2.size.trans hu.size,e2.os.trans hu.os,e2.tape.trans hu.tape,e2.output.trans hu.output⟩,by rw [e3];simp,fun m=> ?_⟩
  ·simp only [storeCells,Sem.run_bind,ie,run_store P w ⟨c,p+i,none⟩ v .plain (ho v (by simp)),hc,ey,Bool.false_eq_true,if_false,Result.andThen_ok]
   exact e1
  ·rw [e4,Array.getElem?_setIfInBounds];simp only [List.length_cons];by_cases hm:m=p+i
   ·subst hm;rw [if_neg (by omega)]
    simp only [if_true];rw [if_pos az,if_pos (by omega)]
    simp
   ·by_cases jz:p+(i+1)≤m∧m<p+(i+1)+vs.length
    ·rw [if_pos jz,if_pos (by omega)]
     obtain ⟨q,rfl⟩: ∃q,m=p+i+1+q:=⟨m-(p+i+1),by omega⟩
     have e1:p+i+1+q-(p+(i+1))=q:=by omega
     have e2:p+i+1+q-(p+i)=q+1:=by omega
     rw [e1,e2];rfl
    ·rw [if_neg jz,if_neg (by omega),if_neg (by omega)]
theorem J.iv {H:J} {id:Nat} {b0 b:bu} (h:H.get id=some b0) (k:Nat):(H.aZ id b).get k=if k=id then some b else H.get k:=by
 have az:=J.gb h;unfold J.aZ J.get;simp only [List.getElem?_set];by_cases hk:id=k
 ·subst hk;simp [az]
 ·rw [if_neg hk,if_neg (fun e=>hk e.symm)]
section ops
variable {P:Program} {E:aK}
variable {w:World} {H:J} {φ :ag} {A:aj}
def cz (w:World) (H:J) (φ :ag) (A:aj) (H' :J) (r:Result Next) (x:AV):Prop:=
 ∃n v w' ak A',r= .ok n w' ∧(n= .value v∨(n= .skip∧v=undef))∧R w' H' ak A' x v∧Out w H φ A w' H' ak A'
theorem nE (ae:St w H φ A) {id:Nat} {b b' :bu} {c b0:Nat} (hg:H.get id=some b) (aV: φ id=some (.at_ c b0)) (hv:b'.ad=b.ad) (hs:b'.sz=b.sz) (hf:b'.fix=b.fix) (hl:b'.el.length=b.el.length)
 {arr arr' :Array Value} {T:TypeId} {fr:Nat×Nat} {w' :World} (hc:w.heap[c]? =some (.cells arr T fr)) (hu:iR w c (.cells arr' T fr) w') (aC:arr'.size=arr.size)
 (ej: ∀(i:Nat) (x:AV),b'.el[i]? =some x→x.cells.length=b.sz)
 (iO: ∀(i:Nat) (x:AV) (j:Nat) (y:AV) (v:Value),b'.el[i]? =some x→x.cells[j]? =some y→arr'[b0+i*b.sz+j]? =some v→R w H φ A y v∧v.oneCell' =true):
 Out w H φ A w' (H.aZ id b') φ A:=by
 have me: ∀k,aR w' k=aR w k:=by
  intro k;unfold aR;by_cases hk:k=c
  ·subst hk;rw [hu.here,hc];exact aC
  ·rw [hu.other k hk]
 have gg:ga w φ w' φ :=⟨hu.os,hu.tape,hu.output,by rw [hu.size];exact Nat.le_refl _,fun k _ hk=>hu.other k (fun e=>hk (e▸⟨id,b0,aV⟩)),fun k _=>me k,fun k hk=> .inl hk⟩
 have aS:bM w H φ A w' (H.aZ id b') φ A:=by
  refine ⟨fun k a t r hk hn=>⟨⟨r,by rw [hu.other k (fun e=>hn (e▸ae.own c ⟨id,b0,aV⟩))];exact hk⟩,hn⟩,Nat.le_refl _,fun i bb hb _=> ?_,fun k _=>me k⟩
  rw [J.iv hg] at hb;split at hb
  ·rename_i hi;subst hi;simp only [Option.some.injEq] at hb;subst hb;exact ⟨b,hg,hv.symm,hs,hf,hl,fun loc h=>h⟩
  ·exact ⟨bb,hb,rfl,rfl,rfl,rfl,fun loc h=>h⟩
 refine ⟨⟨ae.inj,ae.own,fun k hk=>by rw [hu.size];exact ae.b7 k hk,fun i loc dw=> ?_⟩,gg,aS,fun k hk _=>hk⟩
 obtain ⟨bb,lj,af⟩:=ae.ap i loc dw;by_cases hi:i=id
 ·subst hi;rw [hg] at lj;simp only [Option.some.injEq] at lj;subst lj;rw [aV] at dw;simp only [Option.some.injEq] at dw;subst dw;obtain ⟨a0,t0,r0,k1,k2,k3,k4⟩:=af.here c b0 rfl;rw [hc] at k1;simp only [Option.some.injEq,Obj.cells.injEq] at k1;obtain ⟨rfl,rfl,rfl⟩:=k1;refine ⟨b',by rw [J.iv hg,if_pos rfl],by rw [hv];exact af.ad,fun j x hx=>by rw [hs];exact ej j x hx,by simp,fun c' b1 he=> ?_⟩
  simp only [Loc.at_.injEq] at he;obtain ⟨rfl,rfl⟩:=he;refine ⟨arr',T,fr,hu.here,by rw [hs,aC];exact k2,by rw [hl,hs,aC];exact k3,fun j x m y v hx hy cG=> ?_⟩
  rw [hs] at cG;obtain ⟨h1,h2⟩:=iO j x m y v hx hy cG;exact ⟨h1.mono aS,h2⟩
 ·refine ⟨bb,by rw [J.iv hg,if_neg hi];exact lj,af.ad,af.sized,af.aP,fun c' b1 he=> ?_⟩
  subst he;have aI:c' ≠c:=by rintro rfl;exact hi (ae.inj _ _ _ _ _ dw aV)
  obtain ⟨a0,t0,r0,k1,k2,k3,k4⟩:=af.here c' b1 rfl
  exact ⟨a0,t0,r0,by rw [hu.other c' aI];exact k1,k2,k3,fun j x m y v hx hy cG=>⟨(k4 j x m y v hx hy cG).1.mono aS,(k4 j x m y v hx hy cG).2⟩⟩
theorem nF (ae:St w H φ A) {id:Nat} {b b' :bu} (hg:H.get id=some b) (hv:b'.ad=H.st)
 {c b0:Nat} {arr' :Array Value} {T:TypeId} {fr:Nat×Nat} {w' :World} (hc:Ow φ c∧(∃bx,φ id=some (.at_ c bx))∨w.heap.size≤c) (hu:w'.heap[c]? =some (.cells arr' T fr))
 (nG: ∀k,k<w.heap.size→k≠c→w'.heap[k]? =w.heap[k]?) (nH:w.heap.size≤w'.heap.size) (Av:w'.os=w.os) (Aw:w'.tape=w.tape) (bq:w'.output=w.output)
 (cv:c<w.heap.size→arr'.size=aR w c) (ey: ∀j,j<arr'.size+pad b'.sz→ ¬(fr.1≤j∧j<fr.2)) (ll:b0+b'.el.length*b'.sz≤arr'.size)
 (ej: ∀(i:Nat) (x:AV),b'.el[i]? =some x→x.cells.length=b'.sz)
 (iO: ∀(i:Nat) (x:AV) (j:Nat) (y:AV) (v:Value),b'.el[i]? =some x→x.cells[j]? =some y→arr'[b0+i*b'.sz+j]? =some v→R w H φ A y v∧v.oneCell' =true):
 Out w H φ A w' ⟨H.st+1,H.bs.set id (some b')⟩ (fun i=>if i=id then some (.at_ c b0) else φ i) (fun k=>A k∨k=c):=by
 have bp: ∀k,(J.mk (H.st+1) (H.bs.set id (some b'))).get k=if k=id then some b' else H.get k:=fun k=>J.iv hg k
 have me: ∀k,k<w.heap.size→aR w' k=aR w k:=by
  intro k hk;by_cases eP:k=c
  ·subst eP;rw [←cv hk];unfold aR;rw [hu]
  ·unfold aR;rw [nG k hk eP]
 have ez: ∀k,Ow (fun i=>if i=id then some (.at_ c b0) else φ i) k→Ow φ k∨k=c:=by
  rintro k ⟨i,bb,h⟩;try simp only at h
  split at h
  ·simp only [Option.some.injEq,Loc.at_.injEq] at h;exact .inr h.1.symm
  ·exact .inl ⟨i,bb,h⟩
 have gN:c<w'.heap.size:=ew hu;have gg:ga w φ w' (fun i=>if i=id then some (.at_ c b0) else φ i):=by
  refine ⟨Av,Aw,bq,nH,fun k hk hn=>nG k hk (fun e=> ?_),me,fun k hk=> ?_⟩
  ·subst e;rcases hc with h|h
   ·exact hn h.1
   ·omega
  ·rcases ez k hk with h|rfl
   ·exact .inl h
   ·rcases hc with h|h
    ·exact .inl h.1
    ·exact .inr h
 have aS:bM w H φ A w' ⟨H.st+1,H.bs.set id (some b')⟩ (fun i=>if i=id then some (.at_ c b0) else φ i) (fun k=>A k∨k=c):=by
  refine ⟨fun k a t r hk hn=> ?_,Nat.le_succ _,fun i bb hb az=> ?_,fun k hk=>me k (Ow.lt ae hk)⟩
  ·have az:=ew hk;have eP:k≠c:=by
    rintro rfl;rcases hc with h|h
    ·exact hn (ae.own _ h.1)
    ·omega
   exact ⟨⟨r,by rw [nG k az eP];exact hk⟩,fun h=>by rcases h with h|h;exact hn h;exact eP h⟩
  ·rw [bp] at hb;split at hb
   ·simp only [Option.some.injEq] at hb;subst hb;omega
   ·rename_i hi;exact ⟨bb,hb,rfl,rfl,rfl,rfl,fun loc h=>by rw [if_neg hi];exact h⟩
 refine ⟨⟨fun i i' k b1 b2 h1 h2=> ?_,fun k hk=> ?_,fun k hk=> ?_,fun i loc dw=> ?_⟩,gg,aS,fun k hk _=> .inl hk⟩
 ·try simp only at h1 h2
  have key: ∀{i k b1},i≠id→ φ i=some (.at_ k b1)→k≠c:=by
   rintro i k b1 hi h rfl;rcases hc with ⟨_,bx,h2⟩|h2
   ·exact hi (ae.inj _ _ _ _ _ h h2)
   ·have:=Ow.lt ae ⟨i,b1,h⟩;omega
  split at h1
  ·rename_i hi;split at h2
   ·rename_i fL;omega
   ·rename_i fL;simp only [Option.some.injEq,Loc.at_.injEq] at h1;exact absurd h1.1.symm (key fL h2)
  ·rename_i hi;split at h2
   ·simp only [Option.some.injEq,Loc.at_.injEq] at h2;exact absurd h2.1.symm (key hi h1)
   ·exact ae.inj _ _ _ _ _ h1 h2
 ·rcases ez k hk with h|h
  ·exact .inl (ae.own k h)
  ·exact .inr h
 ·rcases hk with h|rfl
  ·have:=ae.b7 k h;omega
  ·exact gN
 ·try simp only at dw
  split at dw
  ·rename_i hi;subst hi;simp only [Option.some.injEq] at dw;subst dw;refine ⟨b',by rw [bp,if_pos rfl],by rw [hv];exact Nat.lt_succ_self _,ej,by simp,fun c' b1 he=> ?_⟩
   simp only [Loc.at_.injEq] at he;obtain ⟨rfl,rfl⟩:=he;refine ⟨arr',T,fr,hu,ey,ll,fun j x m y v hx hy cG=> ?_⟩;obtain ⟨h1,h2⟩:=iO j x m y v hx hy cG;exact ⟨h1.mono aS,h2⟩
  ·rename_i hi;obtain ⟨bb,lj,af⟩:=ae.ap i loc dw;refine ⟨bb,by rw [bp,if_neg hi];exact lj,Nat.lt_succ_of_lt af.ad,af.sized,af.aP,fun c' b1 he=> ?_⟩
   subst he;have aI:c' ≠c:=by
    rintro rfl;rcases hc with ⟨_,bx,h2⟩|h2
    ·exact hi (ae.inj _ _ _ _ _ dw h2)
    ·have:=Ow.lt ae ⟨i,b1,dw⟩;omega
   obtain ⟨a0,t0,r0,k1,k2,k3,k4⟩:=af.here c' b1 rfl
   exact ⟨a0,t0,r0,by rw [nG c' (ew k1) aI];exact k1,k2,k3,fun j x m y v hx hy cG=>⟨(k4 j x m y v hx hy cG).1.mono aS,(k4 j x m y v hx hy cG).2⟩⟩
end ops
end Go.VS
namespace Go.VS
theorem Ax {y v y' :AV} {off:Nat} (h:hG y off v=some y') (hv:en v=true):off+v.cells.length≤y.cells.length∧y'.cells=splice y.cells off v.cells:=by
 cases y with
 |agg cs=>
  simp only [hG] at h;split at h
  ·rename_i hle;simp only [Option.some.injEq] at h;subst h;exact ⟨hle,rfl⟩
  ·simp at h
 |undef=>simp [hG] at h
 |_=>
  cases v<;>simp only [hG] at h<;>first
   |(simp at h;done)
   |(simp [en,db] at hv;done)
   |(split at h
     ·rename_i ho;simp only [Option.some.injEq] at h;subst h;subst ho;exact ⟨by simp [AV.cells],by simp [AV.cells,splice]⟩
     ·simp at h)
section ops
variable {P:Program} {E:aK} (hE: ∀t ti,E t=some ti→aU P t ti)
variable {w:World} {H:J} {φ :ag} {A:aj}
include hE in
theorem Ay {H' :J} (ae:St w H φ A) {t:TypeId} {x v z:AV} {a u:Value} (hx:R w H φ A x a) (hv:R w H φ A v u)
 (h:(match (generalizing:=false) E t with
 |some ti=>match (generalizing:=false) x with
  | .ptr id ad idx off=>match H.ap id ad with
   |some b=>match b.el[idx]? with
    |some y=>if v.cells.length=ti.sz∧en v then match hG y off v with
     |some y' =>some (AV.aD [],H.aZ id {b with el:=b.el.set idx y' })
     |none=>none
     else none
    |none=>none
   |none=>none
  |_=>none
 |none=>none)=some (z,H')):cz w H φ A H' ((do Instr.storeAt t a u;pure .skip:Sem Next).run P w) z:=by
 split at h
 ·rename_i ti h1;split at h
  ·rename_i id ad idx off;split at h
   ·rename_i b hb;split at h
    ·rename_i y hy;split at h
     ·rename_i hc;split at h
      ·rename_i y' hw
       simp only [Option.some.injEq,Prod.mk.injEq] at h;obtain ⟨rfl,rfl⟩:=h;obtain ⟨_,_,hp⟩:=hx.gf;obtain ⟨c,b0,aV,rfl⟩:=hp b hb;obtain ⟨b1,cx,af⟩:=ae.ap id _ aV;have hg:=(J.bd hb).1;rw [hg] at cx;simp only [Option.some.injEq] at cx;subst cx;obtain ⟨arr,T,fr,k1,k2,k3,k4⟩:=af.here c b0 rfl;obtain ⟨w1,w2⟩:=Ax hw hc.2;obtain ⟨m1,m2⟩:=hv.cells (pQ hc.2);have m3:=hv.np hc.2;have cy:idx<b.el.length:=(List.getElem?_eq_some_iff.1 hy).1;have hle:=c9 (n:=b.sz) cy;have cA:=af.sized idx y hy;obtain ⟨w',arr',e1,e2,e3,e4⟩:=nD P c (b0+idx*b.sz+off) T fr u.cells.toList 0 arr w k1 (fun j hj=>k2 j (by omega)) (by simp;omega) (fun q hq=>by
        obtain ⟨k,hk⟩:=List.getElem?_of_mem hq;exact m3 k q (by simpa using hk))
       have Az:y'.cells.length=b.sz:=by rw [w2,j9 _ _ _ w1,cA]
       have fO: ∀(i:Nat) (q:AV),(b.el.set idx y')[i]? =some q→(i=idx∧q=y')∨(i≠idx∧b.el[i]? =some q):=by
        intro i q hq;rw [List.getElem?_set] at hq;split at hq
        ·rename_i hi;first
          |(rw [if_pos cy] at hq;simp only [Option.some.injEq] at hq;exact .inl ⟨hi.symm,hq.symm⟩)
          |(simp only [Option.some.injEq] at hq;exact .inl ⟨hi.symm,hq.symm⟩)
        ·rename_i hi;exact .inr ⟨fun e=>hi e.symm,hq⟩
       have bq:=nE (b' :={b with el:=b.el.set idx y' }) ae hg aV rfl rfl rfl (by simp) k1 e2 e3
        (fun i q hq=>by rcases fO i q hq with ⟨rfl,rfl⟩|⟨_,hq⟩;exact Az;exact af.sized i q hq)
        (fun i q j s v' hq hs bA=>by
         rw [e4] at bA;simp only [Nat.add_zero,Array.length_toList] at bA;rcases fO i q hq with ⟨rfl,rfl⟩|⟨aI,hq⟩
         ·rw [w2,pP _ _ _ w1] at hs;rw [m1] at hs;by_cases hj:off≤j∧j<off+u.cells.size
          ·rw [if_pos hj] at hs;rw [if_pos (by omega)] at bA
           have e5:b0+i*b.sz+j-(b0+i*b.sz+off)=j-off:=by omega
           rw [e5] at bA;exact ⟨m2 _ _ _ hs (by simpa using bA),m3 _ _ (by simpa using bA)⟩
          ·rw [if_neg hj] at hs;rw [if_neg (by omega)] at bA
           exact k4 i y j s v' hy hs bA
         ·have qa:i<b.el.length:=(List.getElem?_eq_some_iff.1 hq).1;have d_:j<q.cells.length:=(List.getElem?_eq_some_iff.1 hs).1;have tv:=af.sized i q hq;rw [if_neg (by
           intro hh;rcases Nat.lt_or_gt_of_ne aI with h1|h1
           ·have:=c9 (n:=b.sz) h1;omega
           ·have:=c9 (n:=b.sz) h1;omega)] at bA
          exact k4 i q j s v' hq hs bA)
       refine ⟨.skip,undef,w',φ,A,?_,.inr ⟨rfl,rfl⟩,.fr _ _ (.aD [] #[] rfl (by simp)),bq⟩
       have aC: ¬(u.cells.size≠ti.sz):=by rw [←m1];simp [hc.1]
       simp only [Instr.storeAt,Instr.sureAddr,storeVar,Sem.run_bind,Sem.run_pure,Result.andThen_ok,(hE _ _ h1).sizeOf,aC,if_false,e1]
      ·simp at h
     ·simp at h
    ·simp at h
   ·simp at h
  ·simp at h
 ·simp at h
theorem qb (ae:St w H φ A) {id ad off len:Nat} {a:Value} (hx:R w H φ A (.ref id ad off len) a) {b:bu} (hb:H.ap id ad=some b) {at_ n:Nat} (h1:at_+n≤b.el.length) (h2:off≤at_) (hn:0<n) (_hlen:0<len∨b.el.length≤off+len∨True)
 {xs:List AV} (ca:xs.length=n) {cs:Array Value} (aC:cs.size=n*b.sz) (jy: ∀u∈cs.toList,u.oneCell' =true) (ej: ∀(i:Nat) (x:AV),xs[i]? =some x→x.cells.length=b.sz)
 (b8: ∀(i:Nat) (x:AV) (j:Nat) (y:AV) (u:Value),xs[i]? =some x→x.cells[j]? =some y→cs[i*b.sz+j]? =some u→R w H φ A y u∧u.oneCell' =true):
 ∃c b0 cap w',φ id=some (.at_ c b0)∧a= .slice (some ⟨c,b0+off*b.sz,none⟩) len cap∧b.el.length≤off+cap∧(storeCells ⟨c,b0+at_*b.sz,none⟩ cs.toList).run P w= .ok () w' ∧
  Out w H φ A w' (H.aZ id {b with el:=splice b.el at_ xs}) φ A:=by
 obtain ⟨_,_,hr⟩:=hx.dC;obtain ⟨loc,a0,cap,q1,rfl,q3,q4,q5,q6⟩:=(hr b hb).out;cases loc with
 |aP=>simp only at q6;rw [q6.1] at h1;simp at h1;omega
 |at_ c b0=>
  simp only at q6;rcases q6 with q6|⟨rfl,q7⟩
  ·omega
  ·obtain ⟨b1,cx,af⟩:=ae.ap id _ q1;have hg:=(J.bd hb).1;rw [hg] at cx;simp only [Option.some.injEq] at cx;subst cx;obtain ⟨arr,T,fr,k1,k2,k3,k4⟩:=af.here c b0 rfl;have hle:at_*b.sz+n*b.sz≤b.el.length*b.sz:=by rw [←Nat.add_mul];exact Nat.mul_le_mul_right _ h1
   obtain ⟨w',arr',e1,e2,e3,e4⟩:=nD P c (b0+at_*b.sz) T fr cs.toList 0 arr w k1 (fun j hj=>k2 j (by omega)) (by simp [aC];omega) jy
   have mf: ∀(i:Nat) (q:AV),(splice b.el at_ xs)[i]? =some q→(at_≤i∧i<at_+n∧xs[i-at_]? =some q)∨(¬(at_≤i∧i<at_+n)∧b.el[i]? =some q):=by
    intro i q hq;rw [pP _ _ _ (by omega),ca] at hq
    split at hq
    ·rename_i hi;exact .inl ⟨hi.1,hi.2,hq⟩
    ·rename_i hi;exact .inr ⟨hi,hq⟩
   refine ⟨c,b0,cap,w',q1,rfl,q5,e1,nE (b' :={b with el:=splice b.el at_ xs}) ae hg q1 rfl rfl rfl (by simp only;rw [j9 _ _ _ (by omega)]) k1 e2 e3 (fun i q hq=> ?_) (fun i q j s v' hq hs bA=> ?_)⟩
   ·rcases mf i q hq with ⟨_,_,h⟩|⟨_,h⟩
    ·exact ej _ _ h
    ·exact af.sized i q h
   ·rw [e4] at bA;simp only [Nat.add_zero,Array.length_toList,aC] at bA;have d_:j<q.cells.length:=(List.getElem?_eq_some_iff.1 hs).1;rcases mf i q hq with ⟨i1,i2,h⟩|⟨hi,h⟩
    ·have tv:=ej _ _ h;have e5:i*b.sz=at_*b.sz+(i-at_)*b.sz:=by rw [←Nat.add_mul];congr 1;omega
     have e6:=c9 (n:=b.sz) (show i-at_<n by omega)
     rw [if_pos (by omega)] at bA
     have e7:b0+i*b.sz+j-(b0+at_*b.sz)=(i-at_)*b.sz+j:=by omega
     rw [e7] at bA;exact b8 _ q j s v' h hs (by simpa using bA)
    ·have tv:=af.sized _ _ h;rw [if_neg (by
      intro hh;rcases Nat.lt_or_ge i at_ with h1|h1
      ·have:=c9 (n:=b.sz) h1;omega
      ·have h2:at_+n≤i:=by omega
       have:=Nat.mul_le_mul_right b.sz h2;rw [Nat.add_mul] at this;omega)] at bA
     exact k4 i q j s v' h hs bA
end ops
end Go.VS
namespace Go.VS
theorem qc (cs:List AV) (k:Nat) (_h:k≤cs.length):splice cs k []=cs:=by
 unfold splice;simp
section ops
variable {P:Program} {E:aK} (hE: ∀t ti,E t=some ti→aU P t ti)
variable {w:World} {H:J} {φ :ag} {A:aj}
theorem AA (ae:St w H φ A) {H' :J} (hg: ∀id,H'.get id=H.get id) (hs:H'.st=H.st):Out w H φ A w H' φ A:=by
 have aS:bM w H φ A w H' φ A:=⟨fun c a t fr hc hn=>⟨⟨fr,hc⟩,hn⟩,by rw [hs];exact Nat.le_refl _,fun id b hb _=>⟨b,by rw [←hg];exact hb,rfl,rfl,rfl,rfl,fun _ h=>h⟩,fun _ _=>rfl⟩
 refine ⟨⟨ae.inj,ae.own,ae.b7,fun id loc h=> ?_⟩,.refl _ _,aS,fun _ h _=>h⟩;obtain ⟨b,hb,af⟩:=ae.ap id loc h;refine ⟨b,by rw [hg];exact hb,by rw [hs];exact af.ad,af.sized,af.aP,fun c b0 hl=> ?_⟩
 obtain ⟨arr,T,fr,h1,h2,h3,h4⟩:=af.here c b0 hl;exact ⟨arr,T,fr,h1,h2,h3,fun i x j y v hx hy hv=>⟨(h4 i x j y v hx hy hv).1.mono aS,(h4 i x j y v hx hy hv).2⟩⟩
theorem qd (ae:St w H φ A) {id:Nat} {b:bu} (hg:H.get id=some b):Out w H φ A w (H.aZ id b) φ A:=
 AA ae (fun k=>by
  rw [J.iv hg];split
  ·rename_i h;rw [h,hg]
  ·rfl) rfl
theorem qe {t tx e:TypeId} {ti te fB:TI} (ht:aU P t ti) (hu:ti.aw= .sl e) (bz:aU P e te) (cV:aU P tx fB) (gM: ∀k,fB.aw≠ .it k) (tys:Array TypeId) (h0:tys[0]? =some t) (h1:tys[1]? =some tx) (ty:TypeId)
 {base:Option Addr} {sLen sCap:Nat} {x:Value} {n:Nat} {jC:Array Value} {w' :World} (hlen:(Builtin.lenOf x).run P w= .ok n w)
 (hX:(Builtin.firstCells te.sz n x).run P w= .ok jC w) (mb:sLen+n≤sCap) (ae:match base with|some a=>(storeCells (a.add (sLen*te.sz)) jC.toList).run P w= .ok () w' |none=>w' =w):
 (Builtin.append_ tys ty #[.slice base sLen sCap,x]).run P w= .ok (.slice base (sLen+n) sCap) w' :=by
 obtain ⟨d,hd,p0⟩:=pZ cV gM w;unfold Builtin.append_;simp only [h0,h1,List.getElem?_toArray,List.getElem?_cons_zero,List.getElem?_cons_succ,Sem.run_bind,ht.sl w hu,Result.andThen_ok,bz.sizeOf,hd,Sem.run_pure];simp only [Bool.false_eq_true,if_false,Bool.not_false,if_true,Sem.run_bind,hlen,Result.andThen_ok,mb,hX];cases base with
 |none=>simp only at ae;subst ae;rfl
 |some a=>simp only at ae⊢;simp only [Sem.run_bind,ae,Result.andThen_ok,Sem.run_pure]
include hE in
theorem AB {H' :J} (ae:St w H φ A) {t tx:TypeId} {tys:Array TypeId} {ty:TypeId} (h0:tys[0]? =some t) (h1:tys[1]? =some tx) {te fB:TI} (bz:cD E t=some te)
 (cV:E tx=some fB) (gM: ∀k,fB.aw≠ .it k) {id ad off len:Nat} {x z:AV} {a b:Value} (hs:R w H φ A (.ref id ad off len) a) (hx:R w H φ A x b) (h:ec te (.ref id ad off len) x H=some (z,H')):
 cz w H φ A H' ((do pure (.value (←Builtin.append_ tys ty #[a,b])):Sem Next).run P w) z:=by
 obtain ⟨ti,e,ht,hu,cF⟩:=kd bz;unfold ec at h;split at h
 ·simp at h
 ·rename_i xs eD;split at h
  ·simp at h
  ·rename_i aC;simp only [Bool.not_eq_true',Bool.not_eq_false] at aC;split at h
   ·simp at h
   ·rename_i hz;have hz:0<te.sz:=by omega
    obtain ⟨cs,dg⟩:=lh (P:=P) ae (bg.refl H) hx eD aC hz;have nI:=dg.run xs.length (Nat.le_refl _);rw [←dg.size,Array.extract_size] at nI;obtain ⟨hv,_,hr⟩:=hs.dC;have cJ: ∀(i:Nat) (x:AV),xs[i]? =some x→x.cells.length=te.sz:=fun i x hi=>iP aC hi;simp only at h;split at h
    ·simp at h
    ·rename_i bk hb;have hg:=(J.bd hb).1;split at h
     ·simp at h
     ·rename_i cv;simp only [ne_eq,Decidable.not_not] at cv;obtain ⟨loc,a0,cap,q1,rfl,q3,q4,q5,q6⟩:=(hr bk hb).out;split at h
      ·rename_i ll;simp only [Option.some.injEq,Prod.mk.injEq] at h;obtain ⟨rfl,rfl⟩:=h;by_cases hn:xs.length=0
       ·have mg:xs=[]:=List.eq_nil_of_length_eq_zero hn;subst mg;have hcs:cs= #[]:=Array.eq_empty_of_size_eq_zero (by simpa using dg.size)
        subst hcs;have cU:=qe (P:=P) (w:=w) (w' :=w) (base:=a0) (sLen:=len) (sCap:=cap) (hE _ _ ht) hu (hE _ _ cF) (hE _ _ cV) gM tys h0 h1 ty dg.len nI (by simpa using q4) (by cases a0<;>simp [storeCells])
        have ho:Out w H φ A w (H.aZ id {bk with el:=splice bk.el (off+len) []}) φ A:=by
         rw [qc _ _ q3];exact qd ae hg
        exact ⟨_,_,w,φ,A,by simp only [Sem.run_bind,cU,Result.andThen_ok,Sem.run_pure];rfl,.inl rfl,hs.mono ho.bF,ho⟩
       ·obtain ⟨c,b0,dZ,w',p1,p2,p3,p4,p5⟩:=qb (P:=P) ae hs hb (at_:=off+len) (n:=xs.length) ll (by omega) (by omega) (.inr (.inr trivial)) rfl (cs:=cs) (by rw [cv];exact dg.size) dg.one
         (fun i x hi=>by rw [cv];exact cJ i x hi) (fun i x j y u hi hy hu=>dg.rel i x j y u hi hy (by rw [←cv];exact hu))
        simp only [Value.slice.injEq,true_and] at p2;obtain ⟨rfl,rfl⟩:=p2;have cU:=qe (P:=P) (w:=w) (w' :=w') (base:=some ⟨c,b0+off*bk.sz,none⟩) (sLen:=len) (sCap:=cap) (hE _ _ ht) hu (hE _ _ cF) (hE _ _ cV) gM tys h0 h1 ty dg.len nI (by omega) (by
         simp only [ie];have:b0+off*bk.sz+len*te.sz=b0+(off+len)*bk.sz:=by rw [←cv,Nat.add_mul];omega
         rw [this];exact p4)
        refine ⟨_,_,w',φ,A,by simp only [Sem.run_bind,cU,Result.andThen_ok,Sem.run_pure];rfl,.inl rfl,?_,p5⟩
        refine .ref _ _ _ _ _ (Nat.lt_of_lt_of_le hv p5.bF.st) ⟨_,_,rfl⟩ fun b' au=> ?_
        have cu:=(J.bd au).1
        rw [J.iv hg,if_pos rfl] at cu;simp only [Option.some.injEq] at cu;subst cu;have ln:(splice bk.el (off+len) xs).length=bk.el.length:=j9 _ _ _ ll;refine ⟨.at_ c b0,_,_,p1,rfl,by simp only [ln];omega,by omega,by simp only [ln];omega,?_⟩
        simp only;rw [p1] at q1;simp only [Option.some.injEq] at q1;subst q1;simp only at q6;rcases q6 with q6|⟨_,q7⟩
        ·omega
        ·right;exact ⟨by first|rfl|trivial,by rw [p5.post.aR c (Ow.lt ae ⟨id,b0,p1⟩)];exact q7⟩
      ·rename_i ll;split at h
       ·simp at h
       ·rename_i qf;split at h
        ·rename_i hc;obtain ⟨c1,c2⟩:=hc;simp only [Option.some.injEq,Prod.mk.injEq] at h;obtain ⟨rfl,rfl⟩:=h;have hn:0<xs.length:=by
          rcases Nat.eq_zero_or_pos xs.length with h|h
          ·rw [h] at ll;omega
          ·exact h
         have mh: ∀(i:Nat) (x:AV),(aB bk.el off len ++ xs)[i]? =some x→x.cells.length=bk.sz:=by
          intro i x hi;rw [List.getElem?_append] at hi;split at hi
          ·simp only [aB,List.getElem?_take,List.getElem?_drop] at hi;split at hi
           ·obtain ⟨b1,cx,af⟩:=ae.ap id _ q1;rw [hg] at cx;simp only [Option.some.injEq] at cx;subst cx;exact af.sized _ _ hi
           ·simp at hi
          ·rw [cv];exact cJ _ _ hi
         have bH:(aB bk.el off len).length=len:=by simp [aB];omega
         by_cases mb:len+xs.length≤cap
         ·
          cases loc with
          |aP=>
           simp only at q6;have:=q6.2 (by simpa using qf)
           omega
          |at_ c b0=>
           simp only at q6;rcases q6 with q6|⟨rfl,q7⟩
           ·omega
           ·obtain ⟨b1,cx,af⟩:=ae.ap id _ q1;rw [hg] at cx;simp only [Option.some.injEq] at cx;subst cx;obtain ⟨arr,T,fr,k1,k2,k3,k4⟩:=af.here c b0 rfl;have mj:aR w c=arr.size:=by unfold aR;rw [k1]
            rw [mj] at q7;have hle:(off+len)*bk.sz+xs.length*bk.sz≤(off+cap)*bk.sz:=by rw [←Nat.add_mul];exact Nat.mul_le_mul_right _ (by omega)
            have hcs:cs.size=xs.length*bk.sz:=by rw [cv];exact dg.size
            obtain ⟨w',arr',e1,e2,e3,e4⟩:=nD P c (b0+(off+len)*bk.sz) T fr cs.toList 0 arr w k1 (fun j hj=>k2 j (by omega)) (by simp [hcs];omega) dg.one
            have cU:=qe (P:=P) (w:=w) (w' :=w') (base:=some ⟨c,b0+off*bk.sz,none⟩) (sLen:=len) (sCap:=cap) (hE _ _ ht) hu (hE _ _ cF) (hE _ _ cV) gM tys h0 h1 ty dg.len nI mb (by
             simp only [ie];have:b0+off*bk.sz+len*te.sz=b0+(off+len)*bk.sz:=by rw [←cv,Nat.add_mul];omega
             rw [this];exact e1)
            have hmul:off*bk.sz+len*bk.sz=(off+len)*bk.sz:=(Nat.add_mul _ _ _).symm;have ho:=nF (b' :=⟨H.st,bk.sz,false,aB bk.el off len ++ xs⟩) (c:=c) (b0:=b0+off*bk.sz) (arr' :=arr') (T:=T) (fr:=fr) (w' :=w') ae hg rfl (.inl ⟨⟨id,b0,q1⟩,b0,q1⟩) e2.here (fun k _ hk=>e2.other k hk) (by rw [e2.size];exact Nat.le_refl _) e2.os e2.tape e2.output
             (fun _=>by rw [e3,mj]) (by rw [e3];exact k2) (by
              rw [List.length_append,bH,e3];have:(len+xs.length)*bk.sz=len*bk.sz+xs.length*bk.sz:=Nat.add_mul _ _ _;show b0+off*bk.sz+(len+xs.length)*bk.sz≤arr.size;omega) mh (fun i x j y v hi hy bA=>by
              dsimp only at bA;rw [e4] at bA;simp only [Nat.add_zero,Array.length_toList,hcs] at bA;have d_:j<x.cells.length:=(List.getElem?_eq_some_iff.1 hy).1;have ca:=mh i x hi;rw [List.getElem?_append] at hi;split at hi
              ·rename_i cy;rw [bH] at cy;simp only [aB,List.getElem?_take,List.getElem?_drop] at hi;split at hi
               ·have:=c9 (n:=bk.sz) cy;rw [if_neg (by omega)] at bA
                exact k4 (off+i) x j y v hi hy (by rw [←bA];congr 1;rw [Nat.add_mul];omega)
               ·first|(cases hi;done)|(exact absurd cy ‹_›)
              ·rename_i cy;rw [bH] at hi cy;have AD:i-len<xs.length:=(List.getElem?_eq_some_iff.1 hi).1;have h7:i*bk.sz=len*bk.sz+(i-len)*bk.sz:=by rw [←Nat.add_mul];congr 1;omega
               have h8:=c9 (n:=bk.sz) AD;rw [if_pos (by omega)] at bA
               refine dg.rel _ x j y v hi hy ?_;rw [←bA,←cv,Array.getElem?_toList];congr 1;omega)
            refine ⟨_,_,w',_,_,by simp only [Sem.run_bind,cU,Result.andThen_ok,Sem.run_pure];rfl,.inl rfl,?_,ho⟩
            refine .ref _ _ _ _ _ (Nat.lt_succ_self _) ⟨_,_,rfl⟩ fun b' au=> ?_
            have cu:=(J.bd au).1
            rw [show (J.mk (H.st+1) (H.bs.set id (some ⟨H.st,bk.sz,false,aB bk.el off len ++ xs⟩))).get id=_ from J.iv hg id,if_pos rfl] at cu;simp only [Option.some.injEq] at cu;subst cu;refine ⟨.at_ c (b0+off*bk.sz),_,_,by simp,rfl,by simp [bH],by omega,by simp [bH];omega,?_⟩
            refine Or.inr ⟨by simp,?_⟩
            dsimp only;have:aR w' c=arr.size:=by unfold aR;rw [e2.here];exact e3
            rw [this,Nat.zero_add];have:(off+cap)*bk.sz=off*bk.sz+cap*bk.sz:=Nat.add_mul _ _ _;omega
         ·
          have cW:=li ae;obtain ⟨iu,t1,t2⟩: ∃iu:Array Value,(Builtin.firstCells te.sz len (.slice a0 len cap)).run P w.drew= .ok iu w.drew∧iu.size=len*te.sz∧
           ∀(i:Nat) (x:AV) (j:Nat) (y:AV) (v:Value),(aB bk.el off len)[i]? =some x→x.cells[j]? =some y→iu[i*te.sz+j]? =some v→R w.drew H φ A y v∧v.oneCell' =true:=by
           have AE:cC H (.ref id ad off len)=some (aB bk.el off len):=by simp only [cC,hb];rw [if_pos c1]
           have AF:bD te.sz (aB bk.el off len)=true:=by
            rw [bD,List.all_eq_true];intro q hq;obtain ⟨k,hk⟩:=List.getElem?_of_mem hq;have:=mh k q (by rw [List.getElem?_append_left (List.getElem?_eq_some_iff.1 hk).1];exact hk)
            simp [this,cv]
           obtain ⟨a7,fN⟩:=lh (P:=P) cW.st (bg.refl H) (hs.mono cW.bF) AE AF hz;have dJ:=fN.run len (by rw [bH];exact Nat.le_refl _)
           have tw:a7.size=len*te.sz:=by rw [fN.size,bH]
           rw [←tw,Array.extract_size] at dJ;exact ⟨a7,dJ,tw,fN.rel⟩
          obtain ⟨t2,t3⟩:=t2;obtain ⟨a7,fN⟩:=lh (P:=P) cW.st (bg.refl H) (hx.mono cW.bF) eD aC hz;have dJ:=fN.run xs.length (Nat.le_refl _);rw [←fN.size,Array.extract_size] at dJ;obtain ⟨dZ,arr,k1,k2,k3,k4⟩:=run_append_grow (P:=P) (w:=w) (hE _ _ ht) hu (hE _ _ cF) (hE _ _ cV) gM tys h0 h1 ty (base:=a0) (sLen:=len) (sCap:=cap) dg.len t1 dJ t2 fN.size (by omega) c2
          have hle:(len+xs.length)*te.sz≤dZ*te.sz:=Nat.mul_le_mul_right _ k1
          have ho:=nF (b' :=⟨H.st,bk.sz,false,aB bk.el off len ++ xs⟩) (c:=w.drew.heap.size) (b0:=0) (arr' :=arr) (T:=e) (fr:=(0,0)) (w' :=w.drew.alloc (.cells arr e)) cW.st hg rfl (.inr (Nat.le_refl _)) (heap_alloc_new _ _) (fun k hk _=>heap_alloc_old _ _ hk) (by simp) rfl rfl rfl
           (fun h=>absurd h (Nat.lt_irrefl _)) (fun j _ h=>absurd h.2 (Nat.not_lt_zero j)) (by rw [List.length_append,bH,k3,cv];omega) mh (fun i x j y v hi hy bA=>by
            have d_:j<x.cells.length:=(List.getElem?_eq_some_iff.1 hy).1;have ca:=mh i x hi;have cy:i<len+xs.length:=by have:=(List.getElem?_eq_some_iff.1 hi).1;rw [List.length_append,bH] at this;exact this
            have h9:=c9 (n:=te.sz) cy;simp only [cv,Nat.zero_add] at bA ca
            rw [k4 _ (by omega)] at bA
            rw [List.getElem?_append,bH] at hi;split at hi
            ·rename_i qa;have:=c9 (n:=te.sz) qa;rw [Array.getElem?_append_left (by omega)] at bA
             exact t3 i x j y v hi hy bA
            ·rename_i qa;have h7:i*te.sz=len*te.sz+(i-len)*te.sz:=by rw [←Nat.add_mul];congr 1;omega
             rw [Array.getElem?_append_right (by omega)] at bA
             exact fN.rel _ x j y v hi hy (by rw [←bA];congr 1;omega))
          have AG:=cW.trans ae ho;refine ⟨_,_,_,_,_,by simp only [Sem.run_bind,k2,Result.andThen_ok,Sem.run_pure];rfl,.inl rfl,?_,AG⟩
          refine .ref _ _ _ _ _ (Nat.lt_succ_self _) ⟨_,_,rfl⟩ fun b' au=> ?_
          have cu:=(J.bd au).1
          rw [show (J.mk (H.st+1) (H.bs.set id (some ⟨H.st,bk.sz,false,aB bk.el off len ++ xs⟩))).get id=_ from J.iv hg id,if_pos rfl] at cu;simp only [Option.some.injEq] at cu;subst cu;refine ⟨.at_ w.drew.heap.size 0,_,_,by simp,rfl,by simp [bH],k1,by simp [bH];omega,?_⟩
          refine Or.inr ⟨by simp,?_⟩
          dsimp only;rw [lf,k3,cv];simp
        ·simp at h
end ops
end Go.VS
namespace Go.VS
section ops
variable {P:Program} {E:aK} (hE: ∀t ti,E t=some ti→aU P t ti)
variable {w:World} {H:J} {φ :ag} {A:aj}
theorem cz.same {r:Result Next} {x:AV} {v:Value} {H' :J} (hr:r= .ok (.value v) w) (hx:R w H φ A x v) (ho:Out w H φ A w H' φ A):cz w H φ A H' r x:=
 ⟨_,v,w,φ,A,hr,.inl rfl,hx.mono ho.bF,ho⟩
include hE in
theorem AI {H' :J} (ae:St w H φ A) {t:TypeId} {tys:Array TypeId} {ty:TypeId} (h0:tys[0]? =some t) {te:TI} (bz:cD E t=some te) {d x z:AV} {a b:Value} (hs:R w H φ A d a) (hx:R w H φ A x b)
 (h:pr te d x H=some (z,H')):cz w H φ A H' ((do pure (.value (←Builtin.copy_ tys ty #[a,b])):Sem Next).run P w) z:=by
 obtain ⟨ti,e,ht,hu,cF⟩:=kd bz;unfold pr at h;split at h
 ·simp at h
 ·rename_i xs eD;split at h
  ·simp at h
  ·rename_i aC;simp only [Bool.or_eq_true,Bool.not_eq_true',beq_iff_eq,not_or,Bool.not_eq_false] at aC;obtain ⟨aC,hz⟩:=aC;have hz:0<te.sz:=by omega
   obtain ⟨cs,dg⟩:=lh (P:=P) ae (bg.refl H) hx eD aC hz;have cU: ∀(base:Option Addr) (ke tz:Nat) (w' :World),(match base with|some a=>(storeCells a ((cs.extract 0 (min xs.length ke*te.sz)).toList)).run P w= .ok () w' |none=>w' =w)→
    (Builtin.copy_ tys ty #[.slice base ke tz,b]).run P w= .ok (.int .i64 (min xs.length ke:Nat)) w' :=by
    intro base ke tz w' hw
    have hc:=dg.run (min xs.length ke) (Nat.min_le_left _ _);unfold Builtin.copy_;simp only [h0,List.getElem?_toArray,List.getElem?_cons_zero,List.getElem?_cons_succ,Sem.run_bind,(hE _ _ ht).sl w hu,Result.andThen_ok,dg.len,(hE _ _ cF).sizeOf];rw [show Nat.min xs.length ke=min xs.length ke from rfl,hc];simp only [Result.andThen_ok];cases base with
    |none=>simp only at hw;subst hw;rfl
    |some a=>simp only at hw;simp only [Sem.run_bind,hw,Result.andThen_ok,Sem.run_pure,goInt]
   have hzero: ∀base cap,(Builtin.copy_ tys ty #[.slice base 0 cap,b]).run P w= .ok (.int .i64 0) w:=by
    intro base cap;have:=cU base 0 cap w (by cases base<;>simp [storeCells])
    simpa using this
   split at h
   ·simp only [Option.some.injEq,Prod.mk.injEq] at h;obtain ⟨rfl,rfl⟩:=h;have:=hs.du;subst this;exact cz.same (by simp [hzero]) (.fr _ _ (.int _ _)) (.refl ae)
   ·simp only [Option.some.injEq,Prod.mk.injEq] at h;obtain ⟨rfl,rfl⟩:=h;obtain ⟨a0,rfl⟩:=hs.fc;exact cz.same (by simp [hzero]) (.fr _ _ (.int _ _)) (.refl ae)
   ·rename_i id ad off len;split at h
    ·simp at h
    ·rename_i bk hb;have hg:=(J.bd hb).1;split at h
     ·rename_i hc;simp only [Option.some.injEq,Prod.mk.injEq] at h;obtain ⟨rfl,rfl⟩:=h;have ek:(xs.take len).length=min xs.length len:=by rw [List.length_take,Nat.min_comm]
      by_cases hn:min xs.length len=0
      ·have:xs.take len=[]:=List.eq_nil_of_length_eq_zero (by omega)
       rw [this,qc _ _ (by omega),hn]
       obtain ⟨_,⟨a0,c0,rfl⟩,hr⟩:=hs.dC;have:=cU a0 len c0 w (by rw [hn];cases a0<;>simp [storeCells])
       rw [hn] at this;exact cz.same (by simp [this]) (.fr _ _ (.int _ _)) (qd ae hg)
      ·have ln:(cs.extract 0 (min xs.length len*te.sz)).size=min xs.length len*te.sz:=by
        have:=dg.size;have h2:min xs.length len*te.sz≤xs.length*te.sz:=Nat.mul_le_mul_right _ (Nat.min_le_left _ _);simp;omega
       obtain ⟨c,b0,cap,w',p1,p2,p3,p4,p5⟩:=qb (P:=P) ae hs hb (at_:=off) (n:=min xs.length len) (by omega) (Nat.le_refl _) (by omega) (.inr (.inr trivial)) ek (cs:=cs.extract 0 (min xs.length len*te.sz))
        (by rw [hc.1];exact ln) (fun u hu=>dg.one u (by rw [Array.toList_extract,List.extract_eq_take_drop] at hu;exact List.mem_of_mem_drop (List.mem_of_mem_take hu)))
        (fun i x hi=>by
         rw [List.getElem?_take] at hi;split at hi
         ·rw [hc.1];exact iP aC hi
         ·simp at hi)
        (fun i x j y u hi hy hu=>by
         rw [List.getElem?_take] at hi;split at hi
         ·rw [Array.getElem?_extract] at hu;split at hu
          ·rw [hc.1] at hu;exact dg.rel i x j y u hi hy (by rw [←hu];congr 1;omega)
          ·simp at hu
         ·simp at hi)
       subst p2;have:=cU (some ⟨c,b0+off*bk.sz,none⟩) len cap w' p4
       exact ⟨_,_,w',φ,A,by simp only [Sem.run_bind,this,Result.andThen_ok,Sem.run_pure],.inl rfl,.fr _ _ (.int _ _),p5⟩
     ·simp at h
   ·simp at h
include hE in
theorem AJ {H' :J} (ae:St w H φ A) {t:TypeId} {tys:Array TypeId} {ty:TypeId} (h0:tys[0]? =some t) {te:TI} (bz:cD E t=some te) {d z:AV} {a:Value} (hs:R w H φ A d a)
 (h:kS te d H=some (z,H')):cz w H φ A H' ((do pure (.value (←Builtin.clear_ tys ty #[a])):Sem Next).run P w) z:=by
 obtain ⟨ti,e,ht,hu,cF⟩:=kd bz;have hzero: ∀a0 cap,(Builtin.clear_ tys ty #[.slice a0 0 cap]).run P w= .ok (.tuple #[]) w:=by
  intro a0 cap;unfold Builtin.clear_;simp only [h0,List.getElem?_toArray,List.getElem?_cons_zero,Sem.run_bind,(hE _ _ ht).sl w hu,Result.andThen_ok];cases a0<;>rfl
 have qg:R w H φ A (.aD []) (.tuple #[]):= .fr _ _ (.aD [] #[] rfl (by simp))
 unfold kS at h;split at h
 ·simp only [Option.some.injEq,Prod.mk.injEq] at h;obtain ⟨rfl,rfl⟩:=h;have:=hs.du;subst this;exact cz.same (by simp [hzero]) qg (.refl ae)
 ·simp only [Option.some.injEq,Prod.mk.injEq] at h;obtain ⟨rfl,rfl⟩:=h;obtain ⟨a0,rfl⟩:=hs.fc;exact cz.same (by simp [hzero]) qg (.refl ae)
 ·rename_i id ad off len;split at h
  ·rename_i bk zA hb hz;have hg:=(J.bd hb).1;split at h
   ·rename_i hc;simp only [Option.some.injEq,Prod.mk.injEq] at h;obtain ⟨rfl,rfl⟩:=h;by_cases hn:len=0
    ·subst hn;obtain ⟨_,_,hr⟩:=hs.dC;obtain ⟨loc,a1,cap,_,rfl,_⟩:=(hr bk hb).out;rw [List.replicate_zero,qc _ _ (by omega)]
     exact cz.same (by simp [hzero]) qg (qd ae hg)
    ·obtain ⟨zv,z1,z2,z3,z4,_,z5⟩:=kb (hE _ _ cF) hz w;have hcs: ∀(i j:Nat) (u:Value),i<len→j<te.sz→(Builtin.zeroCells zv.cells len)[i*te.sz+j]? =some u→zv.cells[j]? =some u:=by
      intro i j u hi hj hu;refine l9 z2 hi hj ?_;rw [←hu];unfold Builtin.zeroCells;rw [z2]
     have nH:(Builtin.zeroCells zv.cells len).size=len*te.sz:=by simp [Builtin.zeroCells,z2]
     have qh:0<te.sz:=by
      rcases Nat.eq_zero_or_pos te.sz with h|h
      ·rw [h] at hc;have:=hc.2.2;simp at this
      ·exact h
     obtain ⟨c,b0,cap,w',p1,p2,p3,p4,p5⟩:=qb (P:=P) ae hs hb (at_:=off) (n:=len) (by omega) (Nat.le_refl _) (by omega) (.inr (.inr trivial)) (xs:=List.replicate len zA) (by simp) (cs:=Builtin.zeroCells zv.cells len)
      (by rw [hc.1];exact nH) (fun u hu=>by
       obtain ⟨k,hk⟩:=List.getElem?_of_mem hu;rw [Array.getElem?_toList] at hk;have ma:k<len*te.sz:=by rw [←nH];exact (Array.getElem?_eq_some_iff.1 hk).1
       have jB:k/te.sz*te.sz+k % te.sz=k:=by rw [Nat.mul_comm];exact Nat.div_add_mod k te.sz
       have:=hcs (k/te.sz) (k % te.sz) u (sZ ma qh) (Nat.mod_lt k qh) (by rw [jB];exact hk)
       have d_:k % te.sz<te.zero.length:=by rw [z4];exact Nat.mod_lt k qh
       exact (z5 w A _ _ u (List.getElem?_eq_getElem d_) this).2)
      (fun i x hi=>by
       rw [List.getElem?_replicate] at hi;split at hi
       ·simp only [Option.some.injEq] at hi;subst hi;rw [z3,z4,hc.1]
       ·simp at hi)
      (fun i x j y u hi hy hu=>by
       rw [List.getElem?_replicate] at hi;split at hi
       ·rename_i cy;simp only [Option.some.injEq] at hi;subst hi;rw [z3] at hy;have hj:j<te.sz:=by rw [←z4];exact (List.getElem?_eq_some_iff.1 hy).1
        rw [hc.1] at hu;have:=z5 w A j y u hy (hcs i j u cy hj hu);exact ⟨.fr _ _ this.1,this.2⟩
       ·simp at hi)
     subst p2;refine ⟨_,_,w',φ,A,?_,.inl rfl,.fr _ _ (.aD [] #[] rfl (by simp)),p5⟩
     have:(Builtin.clear_ tys ty #[.slice (some ⟨c,b0+off*bk.sz,none⟩) len cap]).run P w= .ok (.tuple #[]) w' :=by
      unfold Builtin.clear_;simp only [h0,List.getElem?_toArray,List.getElem?_cons_zero,Sem.run_bind,(hE _ _ ht).sl w hu,Result.andThen_ok];cases len with
      |zero=>exact absurd rfl hn
      |succ n=>simp only [z1,Result.andThen_ok,p4,Sem.run_pure]
     simp only [Sem.run_bind,this,Result.andThen_ok,Sem.run_pure]
   ·simp at h
  ·simp at h
 ·simp at h
include hE in
theorem tC {t:TypeId} {tys:Array TypeId} {ty:TypeId} (h0:tys[0]? =some t) {x:AV} {a:Value} (hs:R w H φ A x a) {n:Nat} {H0:J} (_hX:bg H0 H) (h:lenOf H0 x=some n) {ti:TI} (ht:E t=some ti) (hu:(∃e,ti.aw= .sl e∧ ∀s,x≠ .str s)∨(ti.aw= .str∧ ∃s,x= .str s)):
 (Builtin.len_ tys ty #[a]).run P w= .ok (.int .i64 n) w:=by
 unfold Builtin.len_;simp only [h0,List.getElem?_toArray,List.getElem?_cons_zero,Sem.run_bind];rcases hu with ⟨e,hu,hn⟩|⟨hu,s,rfl⟩
 ·simp only [(hE _ _ ht).sl w hu,Result.andThen_ok];cases x with
  |nil=>simp [lenOf] at h;subst h;have:=hs.du;subst this;rfl
  |e0=>simp [lenOf] at h;subst h;obtain ⟨a0,rfl⟩:=hs.fc;rfl
  |fz xs=>simp [lenOf] at h;subst h;have:=hs.ei;cases this<;>rfl
  |ref id ad off len=>
   simp only [lenOf,Option.some.injEq] at h;subst h;obtain ⟨_,⟨a1,cap,rfl⟩,_⟩:=hs.dC;rfl
  |str s=>exact absurd rfl (hn s)
  |_=>simp [lenOf] at h
 ·obtain ⟨b,rfl,hb⟩:=hs.fb;simp only [lenOf,Option.some.injEq] at h;subst h;simp only [(hE _ _ ht).jw w hu,Result.andThen_ok,Sem.run_pure,goInt];rw [←hb];simp
end ops
end Go.VS
namespace Go.VS
theorem J.jD {H H' :J} (h:H' =H∨ ∃sz fx el,H' =H.new sz fx el):bg H H' ∧(∀id b,H'.get id=some b→b.ad<H.st→H.get id=some b)∧H.bs.length≤H'.bs.length:=by
 rcases h with rfl|⟨sz,fx,el,rfl⟩
 ·exact ⟨bg.refl _,fun _ _ h _=>h,Nat.le_refl _⟩
 ·refine ⟨J.pO H sz fx el,fun id b hg hv=> ?_,by simp [J.new]⟩
  by_cases br:id<H.bs.length
  ·rw [J.sQ H sz fx el br] at hg;exact hg
  ·have hl:=J.gb hg;have:id=H.bs.length:=by simp [J.new] at hl;omega
   subst this;rw [J.eB] at hg;simp only [Option.some.injEq] at hg;subst hg;exact absurd hv (Nat.lt_irrefl _)
theorem tD {E:aK} {op:Op} {s:ah} {H H' :J} {z:AV} (hq:et op=true) (h:aQ E op s H=some (z,H')):H' =H∨ ∃sz fx el,H' =H.new sz fx el:=by
 have nC: ¬ ∃t a v,op= .store t a v:=by
  rintro ⟨t,a,v,rfl⟩;have:et (.store t a v)=false:=rfl;rw [this] at hq;simp at hq
 cases op with
 |makeFunc fn first cap=>
  cases fn<;>simp only [aQ] at h
  ·split at h
   ·simp only [Option.some.injEq,Prod.mk.injEq] at h;exact .inl h.2.symm
   ·simp at h
  all_goals simp at h
 |_=>(simp only [aQ] at h<;>(repeat' split at h)<;>first
  |(simp at h;done)
  |(simp only [Option.some.injEq,Prod.mk.injEq] at h;first|exact .inl h.2.symm|exact .inr ⟨_,_,_,h.2.symm⟩|exact absurd ⟨_,_,_,rfl⟩ nC)
  |exact absurd ⟨_,_,_,rfl⟩ nC)
section ops
variable {P:Program} {E:aK} (hE: ∀t ti,E t=some ti→aU P t ti)
variable {w:World} {H:J} {φ :ag} {A:aj}
theorem St.new (ae:St w H φ A) {id:Nat} (h:H.bs.length≤id): φ id=none:=by
 cases hp: φ id with
 |none=>rfl
 |some loc=>
  obtain ⟨b,hb,_⟩:=ae.ap id loc hp;have:=J.gb hb;omega
theorem jE (ae:St w H φ A) {H' :J} (hx:bg H H') (ho: ∀id b,H'.get id=some b→b.ad<H.st→H.get id=some b):Out w H φ A w H' φ A:=by
 have aS:bM w H φ A w H' φ A:=⟨fun c a t fr hc hn=>⟨⟨fr,hc⟩,hn⟩,hx.2,fun id b hb hv=>⟨b,ho id b hb hv,rfl,rfl,rfl,rfl,fun _ h=>h⟩,fun _ _=>rfl⟩
 refine ⟨⟨ae.inj,ae.own,ae.b7,fun id loc h=> ?_⟩,.refl _ _,aS,fun _ h _=>h⟩;obtain ⟨b,hb,af⟩:=ae.ap id loc h;refine ⟨b,hx.1 _ _ hb,Nat.lt_of_lt_of_le af.ad hx.2,af.sized,af.aP,fun c b0 hl=> ?_⟩;obtain ⟨arr,T,fr,h1,h2,h3,h4⟩:=af.here c b0 hl;exact ⟨arr,T,fr,h1,h2,h3,fun i x j y v hx hy hv=>⟨(h4 i x j y v hx hy hv).1.mono aS,(h4 i x j y v hx hy hv).2⟩⟩
theorem cz.ml (ae:St w H φ A) {H' :J} (he:H' =H∨ ∃sz fx el,H' =H.new sz fx el) {r:Result Next} {z:AV} (h:bn w H' φ A H H' r z):cz w H φ A H' r z:=by
 obtain ⟨n,v,w',ak,A',h1,h2,h3,h4,_⟩:=h;obtain ⟨e1,e2,_⟩:=J.jD he;exact ⟨n,v,w',ak,A',h1,h2,h3,(jE ae e1 e2).trans ae h4⟩
include hE in
theorem AK {H' :J} (ae:St w H φ A) {o:Oper} {s:ah} {ρ :Operand→Value} {z:AV} (aW: ∀y∈o.op.operands,R w H φ A (ev s y) (ρ y)) (h:aQ E o.op s H=some (z,H')):
 cz w H φ A H' ((execOp ρ o).run P w) z:=by
 by_cases hq:et o.op=true
 ·have he:=tD hq h;obtain ⟨e1,e2,_⟩:=J.jD he;have ho:=jE ae e1 e2;exact cz.ml ae he (tp hE ho.st e1 (bg.refl _) (fun _=>ae.new (Nat.le_refl _)) hq (fun y hy=>(aW y hy).mono ho.bF) h)
 ·obtain ⟨dst,op,type,pos,after,guard⟩:=o;cases op with
  |store t x v=>
   have hx:=aW x (by simp [Op.operands])
   have hv:=aW v (by simp [Op.operands])
   simp only [aQ] at h;exact Ay hE ae hx hv h
  |_=>first|(simp [et] at hq;done)|(simp [aQ] at h;done)
theorem mm {op:Value→Value→Sem Value} {f:AV→AV→Option AV} (bC: ∀a b x y z,R w H φ A a x→R w H φ A b y→f a b=some z→ ∃v,(op x y).run P w= .ok v w∧R w H φ A z v):
 ∀(rest:List AV) (vs:List Value) (x:AV) (v:Value) (z:AV),rest.length=vs.length→(∀(i:Nat) (a:AV) (u:Value),rest[i]? =some a→vs[i]? =some u→R w H φ A a u)→R w H φ A x v→rest.foldlM f x=some z→
 ∃u,(vs.foldlM op v).run P w= .ok u w∧R w H φ A z u
 |[],[],x,v,z,_,_,hx,h=>by simp at h;subst h;exact ⟨v,by simp,hx⟩
 |[],_::_,_,_,_,h,_,_,_=>by simp at h
 |_::_,[],_,_,_,h,_,_,_=>by simp at h
 |a::rest,b::vs,x,v,z,hl,hr,hx,h=>by
  simp only [List.foldlM_cons] at h;cases hf:f x a with
  |none=>simp [hf] at h
  |some y=>
   simp only [hf,Option.bind_eq_bind,Option.bind_some] at h;obtain ⟨u,hu,hy⟩:=bC _ _ _ _ _ hx (hr 0 a b rfl rfl) hf;obtain ⟨q,hq,hz⟩:=mm bC rest vs y u z (by simpa using hl) (fun i a u h1 h2=>hr (i+1) a u h1 h2) hy h
   exact ⟨q,by simp [hu,hq],hz⟩
include hE in
theorem AM {H' :J} (ae:St w H φ A) {b:Builtin} {tys:Array TypeId} {ty:TypeId} {consts:Array Bool} {args:List AV} {vs:Array Value} {z:AV} (hl:args.length=vs.size)
 (aW: ∀(i:Nat) (a:AV) (u:Value),args[i]? =some a→vs[i]? =some u→R w H φ A a u) (h:cS E b tys args H=some (z,H')):
 cz w H φ A H' ((builtin b tys ty consts vs).run P w) z:=by
 unfold cS at h;split at h
 ·rename_i x;obtain ⟨a,rfl⟩: ∃a,vs= #[a]:=by
   have h1:vs.size=1:=hl.symm;exact ⟨vs[0],by apply Array.ext;simp [h1];intro i h1 h2;simp at h2;subst h2;rfl⟩
  have hx:=aW 0 x a rfl rfl;split at h
  ·rename_i ti n ht hn;obtain ⟨t,h0,ht⟩:=Option.bind_eq_some_iff.1 ht;have key: ∀{q:AV×J},some q=some (z,H')→q=(AV.int .i64 n,H)→((∃e,ti.aw= .sl e∧ ∀s,x≠ .str s)∨(ti.aw= .str∧ ∃s,x= .str s))→cz w H φ A H' ((builtin .len tys ty consts #[a]).run P w) z:=by
    intro q hq qi hu;subst qi;simp only [Option.some.injEq,Prod.mk.injEq] at hq;obtain ⟨rfl,rfl⟩:=hq;have:=tC (tys:=tys) (ty:=ty) hE h0 hx (bg.refl H) hn ht hu;exact cz.same (by simp [builtin,this]) (.fr _ _ (.int _ _)) (.refl ae)
   split at h
   ·rename_i s hu;exact key h rfl (.inr ⟨hu,s,rfl⟩)
   ·simp at h
   ·rename_i e hu aI;exact key h rfl (.inl ⟨e,hu,fun s hs=>aI s hs⟩)
   ·simp at h
  ·simp at h
 ·rename_i s x;obtain ⟨a,b,rfl⟩: ∃a b,vs= #[a,b]:=by
   have h1:vs.size=2:=hl.symm;exact ⟨vs[0],vs[1],by apply Array.ext;simp [h1];intro i h1 h2;simp at h2;rcases i with _|_|i;rfl;rfl;omega⟩
  have hs:=aW 0 s a rfl rfl;have hx:=aW 1 x b rfl rfl;split at h
  ·rename_i t h0;split at h
   ·rename_i te tx bz cV;obtain ⟨t2,h1,cV⟩:=Option.bind_eq_some_iff.1 cV;by_cases hit: ∃k,tx.aw= .it k
    ·obtain ⟨k,hit⟩:=hit;rw [hit] at h;simp only at h;split at h
     ·rename_i n;have he:H' =H∨ ∃sz fx el,H' =H.new sz fx el:=by
       unfold lR at h;repeat' split at h
       all_goals first
        |(simp at h;done)
        |(simp only [Option.some.injEq,Prod.mk.injEq] at h;first|exact .inl h.2.symm|exact .inr ⟨_,_,_,h.2.symm⟩)
      obtain ⟨e1,e2,_⟩:=J.jD he;have ho:=jE ae e1 e2;exact cz.ml ae he (tc hE ho.st (bg.refl _) (fun _=>ae.new (Nat.le_refl _)) h0 h1 bz cV hit (hs.mono ho.bF) (hx.mono ho.bF) h)
     ·simp at h
    have nJ: ∀k,tx.aw≠ .it k:=fun k hk=>hit ⟨k,hk⟩;replace h:ec te s x H=some (z,H'):=by
     split at h
     ·rename_i k hk;exact absurd hk (nJ k)
     ·exact h
    cases s with
    |ref id ad off len=>exact AB hE ae h0 h1 bz cV nJ hs hx h
    |nil=>
     have he:H' =H∨ ∃sz fx el,H' =H.new sz fx el:=by
      simp only [ec] at h;repeat' split at h
      all_goals first
       |(simp at h;done)
       |(simp only [Option.some.injEq,Prod.mk.injEq] at h;first|exact .inl h.2.symm|exact .inr ⟨_,_,_,h.2.symm⟩)
     obtain ⟨e1,e2,_⟩:=J.jD he;have ho:=jE ae e1 e2;exact cz.ml ae he (p8 hE ho.st e1 (bg.refl _) (fun _=>ae.new (Nat.le_refl _)) h0 h1 bz cV nJ (hs.mono ho.bF) (hx.mono ho.bF) (.inl rfl) h)
    |e0=>
     have he:H' =H∨ ∃sz fx el,H' =H.new sz fx el:=by
      simp only [ec] at h;repeat' split at h
      all_goals first
       |(simp at h;done)
       |(simp only [Option.some.injEq,Prod.mk.injEq] at h;first|exact .inl h.2.symm|exact .inr ⟨_,_,_,h.2.symm⟩)
     obtain ⟨e1,e2,_⟩:=J.jD he;have ho:=jE ae e1 e2;exact cz.ml ae he (p8 hE ho.st e1 (bg.refl _) (fun _=>ae.new (Nat.le_refl _)) h0 h1 bz cV nJ (hs.mono ho.bF) (hx.mono ho.bF) (.inr rfl) h)
    |_=>(simp only [ec] at h;(repeat' split at h)<;>simp at h)
   ·simp at h
  ·simp at h
 ·rename_i d x;obtain ⟨a,b,rfl⟩: ∃a b,vs= #[a,b]:=by
   have h1:vs.size=2:=hl.symm;exact ⟨vs[0],vs[1],by apply Array.ext;simp [h1];intro i h1 h2;simp at h2;rcases i with _|_|i;rfl;rfl;omega⟩
  split at h
  ·rename_i te bz;obtain ⟨t,h0,bz⟩:=Option.bind_eq_some_iff.1 bz;exact AI hE ae h0 bz (aW 0 d a rfl rfl) (aW 1 x b rfl rfl) h
  ·simp at h
 ·rename_i d;obtain ⟨a,rfl⟩: ∃a,vs= #[a]:=by
   have h1:vs.size=1:=hl.symm;exact ⟨vs[0],by apply Array.ext;simp [h1];intro i h1 h2;simp at h2;subst h2;rfl⟩
  split at h
  ·rename_i te bz;obtain ⟨t,h0,bz⟩:=Option.bind_eq_some_iff.1 bz;exact AJ hE ae h0 bz (aW 0 d a rfl rfl) h
  ·simp at h
 ·split at h
  ·rename_i v hv;simp only [Option.some.injEq,Prod.mk.injEq] at h;obtain ⟨rfl,rfl⟩:=h;cases args with
   |nil=>simp [kT] at hv
   |cons x rest=>
    obtain ⟨a,us,ea⟩: ∃a us,vs.toList=a::us:=by
     cases cQ:vs.toList with
     |nil=>have:=congrArg List.length cQ;simp at this;simp [this] at hl
     |cons a us=>exact ⟨a,us,rfl⟩
    have hlen:rest.length=us.length:=by have:=congrArg List.length ea;simp at this;simp at hl;omega
    have bp: ∀(i:Nat) (u:Value),(a::us)[i]? =some u→vs[i]? =some u:=fun i u hu=>by rw [←ea] at hu;simpa using hu
    obtain ⟨u,hu,hz⟩:=mm (P:=P) (op:=Builtin.min2) (f:=fun a b=>match a,b with| .int k x,.int _ y=>some (.int k (if y<x then y else x))|_,_=>none) (fun a b x y z ha hb hf=>by
     split at hf
     ·have e1:=ha.ct;have e2:=hb.ct;subst e1;subst e2;simp only [Option.some.injEq] at hf;subst hf;exact ⟨_,by simp [Builtin.min2],.fr _ _ (.int _ _)⟩
     ·simp at hf) rest us x a v hlen (fun i p q hp hq=>aW (i+1) p q hp (bp (i+1) q hq)) (aW 0 x a rfl (bp 0 a rfl)) hv
    exact cz.same (by simp [builtin,Builtin.min_,ea,hu]) hz (.refl ae)
  ·simp at h
 ·split at h
  ·rename_i v hv;simp only [Option.some.injEq,Prod.mk.injEq] at h;obtain ⟨rfl,rfl⟩:=h;cases args with
   |nil=>simp [kU] at hv
   |cons x rest=>
    obtain ⟨a,us,ea⟩: ∃a us,vs.toList=a::us:=by
     cases cQ:vs.toList with
     |nil=>have:=congrArg List.length cQ;simp at this;simp [this] at hl
     |cons a us=>exact ⟨a,us,rfl⟩
    have hlen:rest.length=us.length:=by have:=congrArg List.length ea;simp at this;simp at hl;omega
    have bp: ∀(i:Nat) (u:Value),(a::us)[i]? =some u→vs[i]? =some u:=fun i u hu=>by rw [←ea] at hu;simpa using hu
    obtain ⟨u,hu,hz⟩:=mm (P:=P) (op:=Builtin.max2) (f:=fun a b=>match a,b with| .int k x,.int _ y=>some (.int k (if y>x then y else x))|_,_=>none) (fun a b x y z ha hb hf=>by
     split at hf
     ·have e1:=ha.ct;have e2:=hb.ct;subst e1;subst e2;simp only [Option.some.injEq] at hf;subst hf;exact ⟨_,by simp [Builtin.max2],.fr _ _ (.int _ _)⟩
     ·simp at hf) rest us x a v hlen (fun i p q hp hq=>aW (i+1) p q hp (bp (i+1) q hq)) (aW 0 x a rfl (bp 0 a rfl)) hv
    exact cz.same (by simp [builtin,Builtin.max_,ea,hu]) hz (.refl ae)
  ·simp at h
 ·obtain ⟨a,rfl⟩: ∃a,vs= #[a]:=by
   have h1:vs.size=1:=hl.symm;exact ⟨vs[0],by apply Array.ext;simp [h1];intro i h1 h2;simp at h2;subst h2;rfl⟩
  have hx:=(aW 0 .nil a rfl rfl).du;subst hx;split at h
  ·rename_i ti ht;obtain ⟨t,h0,ht⟩:=Option.bind_eq_some_iff.1 ht;split at h
   ·rename_i e hu;simp only [Option.some.injEq,Prod.mk.injEq] at h;obtain ⟨rfl,rfl⟩:=h;have hc:(Builtin.cap_ tys ty #[.slice none 0 0]).run P w= .ok (.int .i64 0) w:=by
     unfold Builtin.cap_;simp only [h0,List.getElem?_toArray,List.getElem?_cons_zero,Sem.run_bind,(hE _ _ ht).sl w hu,Result.andThen_ok];rfl
    exact cz.same (by simp [builtin,hc]) (.fr _ _ (.int _ _)) (.refl ae)
   ·simp at h
  ·simp at h
 ·simp at h
end ops
end Go.VS
namespace Go.VS
def aF (φ :ag) (L:J):ag:=fun id=>if (L.get id).isSome then φ id else none
theorem J.jF (H:J) (id k:Nat):(H.del id).get k=if k=id then none else H.get k:=by
 unfold J.del J.get;simp only [List.getElem?_set];by_cases hk:id=k
 ·subst hk;simp only [if_true];split<;>rfl
 ·rw [if_neg hk,if_neg (fun e=>hk e.symm)]
structure bL (L L1:J):Prop where
 get: ∀id b,L1.get id=some b→L.get id=some b
 st:L1.st=L.st
 len:L1.bs.length=L.bs.length
theorem bL.refl (L:J):bL L L:=⟨fun _ _ h=>h,rfl,rfl⟩
theorem bL.trans {L L1 L2:J} (h:bL L L1) (k:bL L1 L2):bL L L2:=⟨fun id b hb=>h.get id b (k.get id b hb),k.st.trans h.st,k.len.trans h.len⟩
theorem bL.del (L:J) (id:Nat):bL L (L.del id):=⟨fun k b h=>by rw [J.jF] at h;split at h;simp at h;exact h,rfl,by simp [J.del]⟩
theorem dD {φ :ag} {L:J} {id:Nat} {loc:Loc} (h:aF φ L id=some loc): φ id=some loc∧ ∃b,L.get id=some b:=by
 unfold aF at h;split at h
 ·rename_i hs;exact ⟨h,Option.isSome_iff_exists.1 hs⟩
 ·simp at h
theorem gO {φ :ag} {L L1:J} (h:bL L L1):aF (aF φ L) L1=aF φ L1:=by
 funext id
 unfold aF;cases h1:L1.get id with
 |none=>simp
 |some b=>simp [h.get id b h1]
theorem bO {φ :ag} {L:J} {c:Nat} (h:Ow (aF φ L) c):Ow φ c:=by
 obtain ⟨id,b,h⟩:=h;exact ⟨id,b,(dD h).1⟩
section bI
variable {w:World}
theorem dj {L L1:J} {φ :ag} {A:aj} (hl:bL L L1):bM w L φ A w L1 (aF φ L1) A:=by
 refine ⟨fun c a t fr hc hn=>⟨⟨fr,hc⟩,hn⟩,by rw [hl.st];exact Nat.le_refl _,fun id b hb _=>⟨b,hl.get id b hb,rfl,rfl,rfl,rfl,fun loc h=> ?_⟩,fun _ _=>rfl⟩
 unfold aF;rw [hb];simpa using h
theorem eE {L L1:J} {φ :ag} {A:aj} (ae:St w L φ A) (hl:bL L L1):St w L1 (aF φ L1) A:=by
 refine ⟨fun i i' c b b' h h' =>ae.inj _ _ _ _ _ (dD h).1 (dD h').1,fun c hc=>ae.own c (bO hc),ae.b7,fun id loc h=> ?_⟩
 obtain ⟨h1,b,hb⟩:=dD h;obtain ⟨b',au,af⟩:=ae.ap id loc h1;rw [hl.get id b hb] at au;simp only [Option.some.injEq] at au;subst au;refine ⟨b,hb,by rw [hl.st];exact af.ad,af.sized,af.aP,fun c b0 he=> ?_⟩
 obtain ⟨arr,T,fr,k1,k2,k3,k4⟩:=af.here c b0 he;exact ⟨arr,T,fr,k1,k2,k3,fun i x j y v hx hy hv=>⟨(k4 i x j y v hx hy hv).1.mono (dj hl),(k4 i x j y v hx hy hv).2⟩⟩
structure cb (w:World) (L:J) (φL:ag) (AL:aj) (H:J) (φ :ag) (AH:aj):Prop where
 sl:St w L φL AL
 sh:St w H φ AH
 ck: ∀c,Ow φL c→ ¬Ow φ c
 fh: ∀c,Ow φL c→AH c
structure cq (w:World) (L:J) (φL:ag) (AL:aj) (H:J) (φ :ag) (AH:aj) (L1:J) (H1:J) (φ1:ag):Prop where
 less:bL L L1
 bI:cb w L1 (aF φL L1) AL H1 φ1 AH
 eh:bM w H φ AH w H1 φ1 AH
 oh: ∀c,Ow φ1 c→Ow φ c∨(Ow φL c∧ ¬Ow (aF φL L1) c)
 iT: ∀c,Ow φ c→Ow φ1 c
 hlen:H.bs.length≤H1.bs.length
 bp: ∀id b,H.get id=some b→H1.get id=some b
 cd: ∀id loc,φ id=some loc→ φ1 id=some loc
theorem cq.refl {L:J} {φL:ag} {AL:aj} {H:J} {φ :ag} {AH:aj} (h:cb w L φL AL H φ AH):cq w L φL AL H φ AH L H φ :=by
 refine ⟨.refl _,⟨eE h.sl (.refl _),h.sh,fun c hc=>h.ck c (bO hc),fun c hc=>h.fh c (bO hc)⟩,.refl _ _ _ _,fun c hc=> .inl hc,fun c hc=>hc,Nat.le_refl _,fun _ _ h=>h,fun _ _ h=>h⟩
theorem cq.trans {L L1 L2:J} {φL:ag} {AL:aj} {H H1 H2:J} {φ φ1 bf:ag} {AH:aj} (h:cq w L φL AL H φ AH L1 H1 φ1) (k:cq w L1 (aF φL L1) AL H1 φ1 AH L2 H2 bf):cq w L φL AL H φ AH L2 H2 bf:=by
 have hr:=gO (φ := φL) k.less;refine ⟨h.less.trans k.less,by rw [←hr];exact k.bI,h.eh.trans k.eh (fun _ _=>rfl),fun c hc=> ?_,fun c hc=>k.iT c (h.iT c hc),Nat.le_trans h.hlen k.hlen,fun id b hb=>k.bp id b (h.bp id b hb),fun id loc hl=>k.cd id loc (h.cd id loc hl)⟩
 rcases k.oh c hc with h1|⟨h1,h2⟩
 ·rcases h.oh c h1 with h3|⟨h3,h4⟩
  ·exact .inl h3
  ·refine .inr ⟨h3,fun h5=>h4 ?_⟩;rw [←hr] at h5;exact bO h5
 ·rw [hr] at h2;exact .inr ⟨bO h1,h2⟩
theorem newAt {L L1:J} {φL:ag} {AL:aj} {H H1:J} {φ φ1:ag} {AH:aj} (m:cq w L φL AL H φ AH L1 H1 φ1) {sz:Nat} {fx:Bool} {el:List AV} {loc:Loc}
 (ej: ∀(i:Nat) (x:AV),el[i]? =some x→x.cells.length=sz) (hv:loc= .aP→el=[])
 (fi: ∀c b0,loc= .at_ c b0→Ow φL c∧ ¬Ow (aF φL L1) c∧ ¬Ow φ1 c∧AH c∧ ∃arr T fr,w.heap[c]? =some (.cells arr T fr)∧(∀j,j<arr.size+pad sz→ ¬(fr.1≤j∧j<fr.2))∧b0+el.length*sz≤arr.size∧
  ∀(i:Nat) (x:AV) (j:Nat) (y:AV) (v:Value),el[i]? =some x→x.cells[j]? =some y→arr[b0+i*sz+j]? =some v→R w H1 φ1 AH y v∧v.oneCell' =true):
 cq w L φL AL H φ AH L1 (H1.new sz fx el) (fun i=>if i=H1.bs.length then some loc else φ1 i):=by
 have gn:=m.bI.sh;have bB:=St.new gn (Nat.le_refl H1.bs.length);have hx:=J.pO H1 sz fx el;have hold: ∀id b,(H1.new sz fx el).get id=some b→b.ad<H1.st→H1.get id=some b:=(J.jD (.inr ⟨sz,fx,el,rfl⟩)).2.1;have aS:bM w H1 φ1 AH w (H1.new sz fx el) (fun i=>if i=H1.bs.length then some loc else φ1 i) AH:=by
  refine ⟨fun c a t fr hc hn=>⟨⟨fr,hc⟩,hn⟩,hx.2,fun id b hb az=>⟨b,hold id b hb az,rfl,rfl,rfl,rfl,fun l hl=> ?_⟩,fun _ _=>rfl⟩;rw [if_neg (by rintro rfl;rw [bB] at hl;simp at hl)];exact hl
 have ez: ∀c,Ow (fun i=>if i=H1.bs.length then some loc else φ1 i) c→Ow φ1 c∨ ∃b0,loc= .at_ c b0:=by
  rintro c ⟨i,b,h⟩;try simp only at h
  split at h
  ·simp only [Option.some.injEq] at h;exact .inr ⟨b,h⟩
  ·exact .inl ⟨i,b,h⟩
 refine ⟨m.less,⟨m.bI.sl,⟨fun i i' c b b' h1 h2=> ?_,fun c hc=> ?_,gn.b7,fun i l hl=> ?_⟩,fun c hc ho=> ?_,m.bI.fh⟩,m.eh.trans aS (fun _ _=>rfl),fun c hc=> ?_,fun c hc=> ?_,?_,fun id b hb=>hx.1 _ _ (m.bp id b hb),fun id l hl=> ?_⟩
 ·try simp only at h1 h2
  split at h1
  ·rename_i hi;split at h2
   ·rename_i fL;omega
   ·simp only [Option.some.injEq] at h1;exact absurd ⟨i',b',h2⟩ (fi c b h1).2.2.1
  ·split at h2
   ·simp only [Option.some.injEq] at h2;exact absurd ⟨i,b,h1⟩ (fi c b' h2).2.2.1
   ·exact gn.inj _ _ _ _ _ h1 h2
 ·rcases ez c hc with h|⟨b0,h⟩
  ·exact gn.own c h
  ·exact (fi c b0 h).2.2.2.1
 ·try simp only at hl
  split at hl
  ·rename_i hi;subst hi;simp only [Option.some.injEq] at hl;subst hl;refine ⟨_,J.eB _ _ _ _,Nat.lt_succ_self _,ej,hv,fun c b0 he=> ?_⟩;obtain ⟨_,_,_,_,arr,T,fr,k1,k2,k3,k4⟩:=fi c b0 he;exact ⟨arr,T,fr,k1,k2,k3,fun j x q y v bQ hy cG=>⟨(k4 j x q y v bQ hy cG).1.mono aS,(k4 j x q y v bQ hy cG).2⟩⟩
  ·obtain ⟨bb,hb,af⟩:=gn.ap i l hl;refine ⟨bb,hx.1 _ _ hb,Nat.lt_of_lt_of_le af.ad hx.2,af.sized,af.aP,fun c b0 he=> ?_⟩;obtain ⟨arr,T,fr,k1,k2,k3,k4⟩:=af.here c b0 he;exact ⟨arr,T,fr,k1,k2,k3,fun j x q y v bQ hy cG=>⟨(k4 j x q y v bQ hy cG).1.mono aS,(k4 j x q y v bQ hy cG).2⟩⟩
 ·rcases ez c ho with h|⟨b0,h⟩
  ·exact m.bI.ck c hc h
  ·exact (fi c b0 h).2.1 hc
 ·rcases ez c hc with h|⟨b0,h⟩
  ·exact m.oh c h
  ·exact .inr ⟨(fi c b0 h).1,(fi c b0 h).2.1⟩
 ·obtain ⟨i,b,h⟩:=m.iT c hc
  exact ⟨i,b,by show (if i=H1.bs.length then some loc else φ1 i)=_;rw [if_neg (by rintro rfl;rw [bB] at h;simp at h)];exact h⟩
 ·simp only [J.new,List.length_append,List.length_singleton];exact Nat.le_succ_of_le m.hlen
 ·have:=m.cd id l hl;rw [if_neg (by rintro rfl;rw [bB] at this;simp at this)];exact this
end bI
end Go.VS
namespace Go.VS
section bI
variable {w:World}
theorem tE {L H:J} {φL φ :ag} {AL AH:aj} {x:AV} {v:Value} (hp:dT x=true) (h:R w L φL AL x v):R w H φ AH x v:=by
 cases x with
 |undef=>exact .fr _ _ (.undef _)
 |int k n=>have:=h.ct;subst this;exact .fr _ _ (.int _ _)
 |bool b=>have:=h.fK;subst this;exact .fr _ _ (.bool _)
 |str s=>obtain ⟨b,rfl,rfl⟩:=h.fb;exact .fr _ _ (.str _)
 |cB b=>rcases h.k_ with ⟨rfl,rfl⟩|⟨rfl,t,u,rfl⟩;exact .fr _ _ .kZ;exact .fr _ _ (.err _ _)
 |eb=>cases h with|fr _ _ h=>cases h;exact .fr _ _ .eb
 |_=>simp [dT] at hp
theorem tF {x:AV} (hp:dT x=true) (H:J):aL x H=(x,H):=by
 cases x<;>first|rfl|simp [dT] at hp
def gP (AL AH:aj) (y:AV):Prop:=(∀c,AH c→AL c)∨cZ y=true
def eF (AL AH:aj) (ys:List AV):Prop:=(∀c,AH c→AL c)∨hI ys=true
theorem eF.cons {AL AH:aj} {y:AV} {ys:List AV} (h:eF AL AH (y::ys)):gP AL AH y∧eF AL AH ys:=by
 rcases h with h|h
 ·exact ⟨.inl h,.inl h⟩
 ·simp only [hI,Bool.and_eq_true] at h;exact ⟨.inr h.1,.inr h.2⟩
theorem qj {es:List Sh} (hE: ∀(x:AV) (vs:List Value) (L:J) (φL:ag) (AL:aj) (H:J) (φ :ag) (AH:aj) (y:AV) (L1:J) (a:AV) (H1:J),cb w L φL AL H φ AH→x.cells.length=vs.length→
 (∀(j:Nat) (c:AV) (u:Value),x.cells[j]? =some c→vs[j]? =some u→R w L φL AL c u)→a8 es x L=some (y,L1)→aL y H=(a,H1)→gP AL AH y→
 ∃ φ1,cq w L φL AL H φ AH L1 H1 φ1∧a.cells.length=x.cells.length∧ ∀(j:Nat) (c:AV) (u:Value),a.cells[j]? =some c→vs[j]? =some u→R w H1 φ1 AH c u):
 ∀(xs:List AV) (g:Nat→Nat→Value) (L:J) (φL:ag) (AL:aj) (H:J) (φ :ag) (AH:aj) (ys:List AV) (L1:J) (as:List AV) (H1:J),cb w L φL AL H φ AH→
  (∀(i:Nat) (x:AV) (j:Nat) (c:AV),xs[i]? =some x→x.cells[j]? =some c→R w L φL AL c (g i j))→dS (a8 es) xs L=some (ys,L1)→aM ys H=(as,H1)→eF AL AH ys→
  ∃ φ1,cq w L φL AL H φ AH L1 H1 φ1∧as.length=xs.length∧(∀(i:Nat) (x a:AV),xs[i]? =some x→as[i]? =some a→a.cells.length=x.cells.length)∧
   ∀(i:Nat) (a:AV) (j:Nat) (c:AV),as[i]? =some a→a.cells[j]? =some c→R w H1 φ1 AH c (g i j)
 |[],g,L,φL,AL,H,φ,AH,ys,L1,as,H1,hd,_,ht,hw,_=>by
  simp only [dS,Option.some.injEq,Prod.mk.injEq] at ht;obtain ⟨rfl,rfl⟩:=ht;simp only [aM,Prod.mk.injEq] at hw;obtain ⟨rfl,rfl⟩:=hw;exact ⟨φ,.refl hd,rfl,by simp,by simp⟩
 |x::xs,g,L,φL,AL,H,φ,AH,ys,L1,as,H1,hd,hr,ht,hw,hk=>by
  simp only [dS] at ht;split at ht
  ·rename_i y L' h1
   split at ht
   ·rename_i aX dE h2
    simp only [Option.some.injEq,Prod.mk.injEq] at ht;obtain ⟨rfl,rfl⟩:=ht;obtain ⟨k1,k2⟩:=hk.cons;simp only [aM,Prod.mk.injEq] at hw;obtain ⟨rfl,rfl⟩:=hw
    let vs:List Value:=(List.range x.cells.length).map (g 0)
    obtain ⟨φ1,m1,l1,r1⟩:=hE x vs L φL AL H φ AH y L' _ _ hd (by simp [vs]) (fun j c u hj hu=>by
     have d_:j<x.cells.length:=(List.getElem?_eq_some_iff.1 hj).1;have:vs[j]? =some (g 0 j):=by simp [vs,d_]
     rw [this] at hu;simp only [Option.some.injEq] at hu;subst hu;exact hr 0 x j c rfl hj) h1 rfl k1
    obtain ⟨bf,m2,l2,s2,r2⟩:=qj hE xs (fun i j=>g (i+1) j) L' (aF φL L') AL _ φ1 AH aX dE _ _ m1.bI (fun i x' j c hi hj=>(hr (i+1) x' j c hi hj).mono (dj m1.less)) h2 rfl k2
    refine ⟨bf,m1.trans m2,by simp [l2],fun i x' a hx ha=> ?_,fun i a j c ha hc=> ?_⟩
    ·cases i with
     |zero=>simp at hx ha;subst hx;subst ha;exact l1
     |succ i=>exact s2 i x' a hx ha
    ·cases i with
     |zero=>
      simp only [List.getElem?_cons_zero,Option.some.injEq] at ha;subst ha;have hj:j<x.cells.length:=by rw [←l1];exact (List.getElem?_eq_some_iff.1 hc).1
      exact (r1 j c (g 0 j) hc (by simp [vs,hj])).mono m2.eh
     |succ i=>exact r2 i a j c ha hc
   ·simp at ht
  ·simp at ht
theorem nK {L:J} {φL:ag} {AL:aj} {H:J} {φ :ag} {AH:aj} (hd:cb w L φL AL H φ AH) {id ad:Nat} {b:bu} (hb:L.ap id ad=some b) {off n:Nat} (hle:off+n≤b.el.length) {sz:Nat} (hs:b.sz=sz) {loc:Loc} (aV: φL id=some loc)
 {L1:J} {as:List AV} {H1:J} {g:Nat→Nat→Value} {φ1:ag} (hg: ∀c b0 arr T fr,loc= .at_ c b0→w.heap[c]? =some (.cells arr T fr)→ ∀(i j:Nat) (v:Value),i<n→j<sz→arr[b0+(off+i)*sz+j]? =some v→g i j=v)
 (m:cq w (L.del id) (aF φL (L.del id)) AL H φ AH L1 H1 φ1) (hl:as.length=n) (ej: ∀(i:Nat) (a:AV),as[i]? =some a→a.cells.length=sz)
 (hr: ∀(i:Nat) (a:AV) (j:Nat) (c:AV),as[i]? =some a→a.cells[j]? =some c→R w H1 φ1 AH c (g i j)) (fx:Bool) (loc' :Loc) (iU:loc' = .aP∧n=0∨ ∃c b0,loc= .at_ c b0∧loc' = .at_ c (b0+off*sz)):
 cq w L φL AL H φ AH L1 (H1.new sz fx as) (fun i=>if i=H1.bs.length then some loc' else φ1 i):=by
 have qk:=(J.bd hb).1;have ql:=(bL.del L id).trans m.less;have iV:aF (aF φL (L.del id)) L1=aF φL L1:=gO m.less;have m' :cq w L φL AL H φ AH L1 H1 φ1:=by
  refine ⟨ql,by have:=m.bI;rwa [iV] at this,m.eh,fun c hc=> ?_,m.iT,m.hlen,m.bp,m.cd⟩
  rcases m.oh c hc with h|⟨h1,h2⟩
  ·exact .inl h
  ·rw [iV] at h2;exact .inr ⟨bO h1,h2⟩
 refine newAt m' ej (fun hv=> ?_) (fun c b1 he=> ?_)
 ·rcases iU with ⟨_,h0⟩|⟨c,b0,_,h2⟩
  ·exact List.eq_nil_of_length_eq_zero (by omega)
  ·rw [h2] at hv;simp at hv
 ·rcases iU with ⟨h1,_⟩|⟨c',b0,h1,h2⟩
  ·rw [h1] at he;simp at he
  ·rw [h2] at he;simp only [Loc.at_.injEq] at he;obtain ⟨rfl,rfl⟩:=he;subst h1;have kf:Ow φL c' :=⟨id,b0,aV⟩
   have qm: ¬Ow (aF φL L1) c' :=by
    rintro ⟨i,bb,hi⟩;obtain ⟨dK,bk,a_⟩:=dD hi;have:=hd.sl.inj _ _ _ _ _ dK aV;subst this;have:=m.less.get _ _ a_;rw [J.jF,if_pos rfl] at this;simp at this
   refine ⟨kf,qm,fun ho=> ?_,hd.fh _ kf,?_⟩
   ·rcases m.oh c' ho with h|⟨⟨i,bb,hi⟩,_⟩
    ·exact hd.ck c' kf h
    ·obtain ⟨dK,bk,a_⟩:=dD hi;have:=hd.sl.inj _ _ _ _ _ dK aV;subst this;rw [J.jF,if_pos rfl] at a_;simp at a_
   ·obtain ⟨bk,a_,af⟩:=hd.sl.ap id _ aV;rw [qk] at a_;simp only [Option.some.injEq] at a_;subst a_;obtain ⟨arr,T,fr,k1,k2,k3,k4⟩:=af.here c' b0 rfl
    have hmul:off*sz+n*sz≤b.el.length*sz:=by rw [←Nat.add_mul];exact Nat.mul_le_mul_right _ hle
    refine ⟨arr,T,fr,k1,by rw [hs] at k2;exact k2,by rw [hl];rw [hs] at k3;omega,fun i a j c v ha hc hv=> ?_⟩
    have hi:i<n:=by rw [←hl];exact (List.getElem?_eq_some_iff.1 ha).1
    have hj:j<sz:=by rw [←ej i a ha];exact (List.getElem?_eq_some_iff.1 hc).1
    have e:b0+off*sz+i*sz+j=b0+(off+i)*sz+j:=by rw [Nat.add_mul];omega
    rw [e] at hv;have qn:=hg c' b0 arr T fr rfl k1 i j v hi hj hv
    refine ⟨by rw [←qn];exact hr i a j c ha hc,?_⟩
    have bG:off+i<b.el.length:=by omega
    have hx:=List.getElem?_eq_getElem bG;have ca:=af.sized _ _ hx;exact (k4 (off+i) _ j _ v hx (List.getElem?_eq_getElem (by omega)) (by rw [hs];exact hv)).2
end bI
end Go.VS
namespace Go.VS
section bI
variable {w:World}
theorem cells_one {x:AV} (h1:x≠ .undef) (h2: ∀cs,x≠ .agg cs):x.cells=[x]:=by
 cases x<;>first|rfl|exact absurd rfl h1|exact absurd rfl (h2 _)
theorem lp {H:J} {id ad:Nat} {b b' :bu} (h:H.get id=some b) (h' :H.ap id ad=some b'):b' =b:=by
 have:=(J.bd h').1;rw [h] at this;simp only [Option.some.injEq] at this;exact this.symm
mutual
theorem nL (sh:Sh) (x:AV) (v:Value) (L:J) (φL:ag) (AL:aj) (H:J) (φ :ag) (AH:aj) (y:AV) (L1:J) (a:AV) (H1:J) (hd:cb w L φL AL H φ AH) (hx:R w L φL AL x v)
 (ht:aT sh x L=some (y,L1)) (hw:aL y H=(a,H1)) (hk:gP AL AH y): ∃ φ1,cq w L φL AL H φ AH L1 H1 φ1∧R w H1 φ1 AH a v∧(x≠ .undef→a.cells=[a])∧(x= .undef→a= .undef):=by
 cases sh with
 |sc=>
  simp only [aT] at ht;split at ht
  ·rename_i hp;simp only [Option.some.injEq,Prod.mk.injEq] at ht;obtain ⟨rfl,rfl⟩:=ht;rw [tF hp] at hw;simp only [Prod.mk.injEq] at hw;obtain ⟨rfl,rfl⟩:=hw;exact ⟨φ,.refl hd,tE hp hx,fun hu=>cells_one hu (by rintro cs rfl;simp [dT] at hp),fun h=>h⟩
  ·simp at ht
 |sl es=>
  have mn: ∀{v0:Option Addr},v= .slice v0 0 0→aL (.own es.length []) H=(a,H1)→L1=L→ ∃ φ1,cq w L φL AL H φ AH L1 H1 φ1∧R w H1 φ1 AH a v∧a.cells=[a]:=by
   intro v0 hv hw hL;subst hL;simp only [aL,aM,Prod.mk.injEq] at hw;obtain ⟨rfl,rfl⟩:=hw;have m:=newAt (cq.refl hd) (sz:=es.length) (fx:=false) (el:=[]) (loc:= .aP) (by simp) (fun _=>rfl) (by simp)
   refine ⟨_,m,?_,rfl⟩;refine .ref _ _ _ _ _ (Nat.lt_succ_self _) ⟨_,_,hv⟩ fun b hb=> ?_;have:=lp (J.eB H es.length false []) hb;subst this;exact ⟨.aP,v0,0,by simp,hv,by simp,Nat.le_refl _,by simp,rfl,fun _=>rfl⟩
  cases x with
  |nil=>
   simp only [aT,Option.some.injEq,Prod.mk.injEq] at ht;obtain ⟨rfl,rfl⟩:=ht;obtain ⟨φ1,h1,h2,h3⟩:=mn hx.du hw rfl;exact ⟨φ1,h1,h2,fun _=>h3,fun h=>by simp at h⟩
  |e0=>
   simp only [aT,Option.some.injEq,Prod.mk.injEq] at ht;obtain ⟨rfl,rfl⟩:=ht;obtain ⟨a0,mo⟩:=hx.fc;obtain ⟨φ1,h1,h2,h3⟩:=mn mo hw rfl;exact ⟨φ1,h1,h2,fun _=>h3,fun h=>by simp at h⟩
  |fz xs=>
   simp only [aT,Option.some.injEq,Prod.mk.injEq] at ht;obtain ⟨rfl,rfl⟩:=ht;simp only [aL,Prod.mk.injEq] at hw;obtain ⟨rfl,rfl⟩:=hw;rcases hk with hk|hk
   ·exact ⟨φ,.refl hd,.fr _ _ (hx.ei.shrink hk),fun _=>rfl,fun h=>by simp at h⟩
   ·simp [cZ] at hk
  |ref id ad off len=>
   simp only [aT] at ht;split at ht
   ·rename_i b hb;split at ht
    ·rename_i hc;obtain ⟨c1,c2,c3⟩:=hc;split at ht
     ·rename_i ys L' hm
      simp only [Option.some.injEq,Prod.mk.injEq] at ht;obtain ⟨rfl,rfl⟩:=ht;simp only [aL,Prod.mk.injEq] at hw;obtain ⟨rfl,rfl⟩:=hw;have hg:=(J.bd hb).1;obtain ⟨bN,_,hr⟩:=hx.dC;obtain ⟨loc,a0,cap,q1,rfl,q3,q4,q5,q6⟩:=(hr b hb).out;obtain ⟨bk,a_,af⟩:=hd.sl.ap id _ q1;rw [hg] at a_;simp only [Option.some.injEq] at a_;subst a_;have bR:eF AL AH ys:=by
       rcases hk with h|h
       ·exact .inl h
       ·exact .inr (by simpa [cZ] using h)
      have dl:=bL.del L id;have cf:cb w (L.del id) (aF φL (L.del id)) AL H φ AH:=⟨eE hd.sl dl,hd.sh,fun c hc=>hd.ck c (bO hc),fun c hc=>hd.fh c (bO hc)⟩
      have bH:(aB b.el off len).length=len:=by simp [aB];omega
      have gQ: ∀(i:Nat) (x:AV),(aB b.el off len)[i]? =some x→b.el[off+i]? =some x:=by
       intro i x hi;simp only [aB,List.getElem?_take,List.getElem?_drop] at hi;split at hi
       ·exact hi
       ·simp at hi
      let g:Nat→Nat→Value:=match loc with
       | .aP=>fun _ _=>undef
       | .at_ c b0=>fun i j=>match w.heap[c]? with
        |some (.cells arr _ _)=>arr.getD (b0+(off+i)*es.length+j) undef
        |_=>undef
      have b8: ∀(i:Nat) (x:AV) (j:Nat) (c:AV),(aB b.el off len)[i]? =some x→x.cells[j]? =some c→R w (L.del id) (aF φL (L.del id)) AL c (g i j):=by
       intro i x j c hi hj;have bQ:=gQ i x hi
       have cy:i<len:=by rw [←bH];exact (List.getElem?_eq_some_iff.1 hi).1
       cases loc with
       |aP=>have:=af.aP rfl;rw [this] at bQ;simp at bQ
       |at_ c0 b0=>
        obtain ⟨arr,T,fr,k1,k2,k3,k4⟩:=af.here c0 b0 rfl;have d_:j<b.sz:=by rw [←af.sized _ _ bQ];exact (List.getElem?_eq_some_iff.1 hj).1
        have hle:=c9 (n:=b.sz) (show off+i<b.el.length by omega)
        have az:b0+(off+i)*b.sz+j<arr.size:=by omega
        have:g i j=arr[b0+(off+i)*b.sz+j]:=by
         simp only [g,k1,←c1,Array.getD_eq_getD_getElem?,Array.getElem?_eq_getElem az,Option.getD_some]
        rw [this];exact ((k4 _ _ _ _ _ bQ hj (Array.getElem?_eq_getElem az)).1).mono (dj dl)
      obtain ⟨φ1,m,l1,s1,r1⟩:=qj (w:=w) (es:=es) (fun x vs L φL AL H φ AH y L1 a H1=>nM es x vs L φL AL H φ AH y L1 a H1) _ g _ _ _ _ _ _ _ _ _ _ cf b8 hm rfl bR
      rw [bH] at l1;have mq: ∀(i:Nat) (a:AV),(aM ys H).1[i]? =some a→a.cells.length=b.sz:=by
       intro i a ha;have cy:i<(aB b.el off len).length:=by rw [bH,←l1];exact (List.getElem?_eq_some_iff.1 ha).1
       have jG:=List.getElem?_eq_getElem cy;rw [s1 i _ a jG ha];exact af.sized _ _ (gQ i _ jG)
      have qo: ∀c b0 arr T fr,loc= .at_ c b0→w.heap[c]? =some (.cells arr T fr)→ ∀(i j:Nat) (v:Value),i<len→j<b.sz→arr[b0+(off+i)*b.sz+j]? =some v→g i j=v:=by
       intro c b0 arr T fr hl hh i j v _ _ hv;subst hl;simp only [g,hh,←c1,Array.getD_eq_getD_getElem?,hv,Option.getD_some]
      let loc' :Loc:=match loc with
       | .aP=> .aP
       | .at_ c b0=>if cap=0 then .aP else .at_ c (b0+off*b.sz)
      have iU:loc' = .aP∧len=0∨ ∃c b0,loc= .at_ c b0∧loc' = .at_ c (b0+off*b.sz):=by
       cases loc with
       |aP=>left;refine ⟨rfl,?_⟩;have:=af.aP rfl;rw [this] at q3;simp at q3;omega
       |at_ c b0=>
        by_cases dx:cap=0
        ·left;exact ⟨by simp [loc',dx],by omega⟩
        ·right;exact ⟨c,b0,rfl,by simp [loc',dx]⟩
      have M:=nK hd hb c2 rfl q1 qo m l1 mq r1 false loc' iU
      rw [c1] at M;refine ⟨_,M,?_,fun _=>rfl,fun h=>by simp at h⟩
      refine .ref _ _ _ _ _ (Nat.lt_succ_self _) ⟨a0,cap,by rw [l1]⟩ fun b' au=> ?_
      have:=lp (J.eB (aM ys H).2 es.length false (aM ys H).1) au;subst this;refine ⟨loc',a0,cap,by simp,by rw [l1],by simp,by omega,by simp only;omega,?_⟩
      cases loc with
      |aP=>
       simp only at q6;have cL:len=0:=by have:=af.aP rfl;rw [this] at q3;simp at q3;omega
       refine ⟨List.eq_nil_of_length_eq_zero (by rw [l1,cL]),fun _=> ?_⟩
       rcases c3 with c3|c3
       ·exact q6.2 c3
       ·omega
      |at_ c b0=>
       simp only at q6;by_cases dx:cap=0
       ·simp only [loc',dx,if_true];exact ⟨List.eq_nil_of_length_eq_zero (by omega),fun _=>by first|trivial|omega|rfl⟩
       ·simp only [loc',dx,if_false];rcases q6 with q6|⟨h1,h2⟩
        ·exact absurd q6 dx
        ·refine Or.inr ⟨by rw [h1];simp,?_⟩
         rw [c1] at h2⊢;have:(off+cap)*es.length=off*es.length+cap*es.length:=Nat.add_mul _ _ _;simp only [Nat.zero_add];omega
     ·simp at ht
    ·simp at ht
   ·simp at ht
  |_=>simp [aT] at ht
 |pt es=>
  cases x with
  |fe z o=>
   simp only [aT,Option.some.injEq,Prod.mk.injEq] at ht;obtain ⟨rfl,rfl⟩:=ht;simp only [aL,Prod.mk.injEq] at hw;obtain ⟨rfl,rfl⟩:=hw;rcases hk with hk|hk
   ·exact ⟨φ,.refl hd,.fr _ _ (hx.fw.shrink hk),fun _=>rfl,fun h=>by simp at h⟩
   ·simp [cZ] at hk
  |ptr id ad idx off=>
   rcases idx with _|idx
   rotate_left
   ·simp [aT] at ht
   rcases off with _|off
   rotate_left
   ·simp [aT] at ht
   simp only [aT] at ht;split at ht
   ·rename_i qp sz qq z hb;split at ht
    ·rename_i y' L' hm
     simp only [Option.some.injEq,Prod.mk.injEq] at ht;obtain ⟨rfl,rfl⟩:=ht;simp only [aL,Prod.mk.injEq] at hw;obtain ⟨rfl,rfl⟩:=hw;have hg:=(J.bd hb).1;obtain ⟨bN,_,hr⟩:=hx.gf;obtain ⟨c,b0,q1,rfl⟩:=hr _ hb;obtain ⟨bk,a_,af⟩:=hd.sl.ap id _ q1;rw [hg] at a_;simp only [Option.some.injEq] at a_;subst a_;obtain ⟨arr,T,fr,k1,k2,k3,k4⟩:=af.here c b0 rfl;have bR:gP AL AH y' :=by
      rcases hk with h|h
      ·exact .inl h
      ·exact .inr (by simpa [cZ] using h)
     have dl:=bL.del L id;have cf:cb w (L.del id) (aF φL (L.del id)) AL H φ AH:=⟨eE hd.sl dl,hd.sh,fun c hc=>hd.ck c (bO hc),fun c hc=>hd.fh c (bO hc)⟩
     have cK:z.cells.length=sz:=af.sized 0 z rfl;simp only [List.length_singleton,Nat.one_mul] at k3
     let vs:List Value:=(arr.extract b0 (b0+sz)).toList
     have di:vs.length=sz:=by simp [vs];omega
     have gR: ∀j u,vs[j]? =some u→arr[b0+j]? =some u:=by
      intro j u hu;simp only [vs,Array.getElem?_toList,Array.getElem?_extract] at hu;split at hu
      ·exact hu
      ·simp at hu
     obtain ⟨φ1,m,l1,r1⟩:=nM es z vs _ _ _ _ _ _ _ _ _ _ cf (by rw [di,cK]) (fun j c' u hj hu=>((k4 0 z j c' u rfl hj (by simpa using gR j u hu)).1).mono (dj dl)) hm rfl bR
     have M:=nK (as:=[(aL y' H).1]) (n:=1) (off:=0) (sz:=sz) (loc' := .at_ c b0) (g:=fun i j=>vs.getD j undef) hd hb (by simp) rfl q1 (fun c' qt arr' T' dW hl hh i j v hi hj hv=>by
      simp only [Loc.at_.injEq] at hl;obtain ⟨rfl,rfl⟩:=hl;rw [k1] at hh;simp only [Option.some.injEq,Obj.cells.injEq] at hh;obtain ⟨rfl,_,_⟩:=hh;have kg:i=0:=by omega
      subst kg;simp only [Nat.zero_mul,Nat.add_zero] at hv;have:vs[j]? =some v:=by
       simp only [vs,Array.getElem?_toList,Array.getElem?_extract];rw [if_pos (by omega)];exact hv
      simp [List.getD,this]) m rfl (fun i a ha=>by
      cases i with
      |zero=>simp at ha;subst ha;rw [l1,cK]
      |succ i=>simp at ha) (fun i a j c' ha hc=>by
      cases i with
      |zero=>
       simp at ha;subst ha;have hj:j<vs.length:=by rw [di,←cK,←l1];exact (List.getElem?_eq_some_iff.1 hc).1
       have:=r1 j c' vs[j] hc (List.getElem?_eq_getElem hj)
       simpa [List.getD,hj] using this
      |succ i=>simp at ha) false (.inr ⟨c,b0,rfl,by simp⟩)
     refine ⟨_,M,?_,fun _=>rfl,fun h=>by simp at h⟩
     refine .ptr _ _ _ _ _ (Nat.lt_succ_self _) ⟨_,rfl⟩ fun b' au=>⟨c,b0,by simp,?_⟩
     simp
    ·simp at ht
   ·simp at ht
  |_=>simp [aT] at ht
 termination_by (SizeOf.sizeOf sh,0)
theorem nM (es:List Sh) (x:AV) (vs:List Value) (L:J) (φL:ag) (AL:aj) (H:J) (φ :ag) (AH:aj) (y:AV) (L1:J) (a:AV) (H1:J) (hd:cb w L φL AL H φ AH) (hl:x.cells.length=vs.length)
 (hx: ∀(j:Nat) (c:AV) (u:Value),x.cells[j]? =some c→vs[j]? =some u→R w L φL AL c u) (ht:a8 es x L=some (y,L1)) (hw:aL y H=(a,H1)) (hk:gP AL AH y):
 ∃ φ1,cq w L φL AL H φ AH L1 H1 φ1∧a.cells.length=x.cells.length∧ ∀(j:Nat) (c:AV) (u:Value),a.cells[j]? =some c→vs[j]? =some u→R w H1 φ1 AH c u:=by
 by_cases b9: ∃cs,x= .agg cs
 ·obtain ⟨cs,rfl⟩:=b9;have cM: ∃a7,cE es cs L=some (a7,L1)∧y= .agg a7:=by
   match es,ht with
   |[],ht=>
    simp only [a8] at ht;split at ht
    ·rename_i a7 L' hc
     simp only [Option.some.injEq,Prod.mk.injEq] at ht;obtain ⟨rfl,rfl⟩:=ht;exact ⟨a7,hc,rfl⟩
    ·simp at ht
   |[e],ht=>
    simp only [a8] at ht;split at ht
    ·rename_i a7 L' hc
     simp only [Option.some.injEq,Prod.mk.injEq] at ht;obtain ⟨rfl,rfl⟩:=ht;exact ⟨a7,hc,rfl⟩
    ·simp at ht
   |e::e' ::es,ht=>
    simp only [a8] at ht;split at ht
    ·rename_i a7 L' hc
     simp only [Option.some.injEq,Prod.mk.injEq] at ht;obtain ⟨rfl,rfl⟩:=ht;exact ⟨a7,hc,rfl⟩
    ·simp at ht
  obtain ⟨a7,hc,rfl⟩:=cM;simp only [aL,Prod.mk.injEq] at hw;obtain ⟨rfl,rfl⟩:=hw;have bR:eF AL AH a7:=by
   rcases hk with h|h
   ·exact .inl h
   ·exact .inr (by simpa [cZ] using h)
  exact qu es cs vs L φL AL H φ AH a7 L1 _ _ hd hl hx hc rfl bR
 ·have dY: ∀cs,x≠ .agg cs:=fun cs h=>b9 ⟨cs,h⟩
  match es,ht with
  |[e],ht=>
   have cM:aT e x L=some (y,L1):=by
    cases x<;>first|(simpa only [a8] using ht)|exact absurd rfl (dY _)
   by_cases hu:x= .undef
   ·subst hu;have gG:vs=[]:=List.eq_nil_of_length_eq_zero (by simpa [AV.cells] using hl.symm)
    subst gG;obtain ⟨φ1,m,_,_,h4⟩:=nL e .undef undef L φL AL H φ AH y L1 a H1 hd (.fr _ _ (.undef _)) cM hw hk
    exact ⟨φ1,m,by rw [h4 rfl],by simp⟩
   ·have dm:=cells_one hu dY;rw [dm] at hl;obtain ⟨v,rfl⟩: ∃v,vs=[v]:=by
     match vs,hl with
     |[v],_=>exact ⟨v,rfl⟩
    obtain ⟨φ1,m,h2,h3,_⟩:=nL e x v L φL AL H φ AH y L1 a H1 hd (hx 0 x v (by rw [dm];rfl) rfl) cM hw hk
    refine ⟨φ1,m,by rw [h3 hu,dm];rfl,fun j c u hj aO=> ?_⟩
    rw [h3 hu] at hj;cases j with
    |zero=>simp at hj aO;subst hj;subst aO;exact h2
    |succ j=>simp at hj
  |[],ht=>cases x<;>first|(simp [a8] at ht;done)|exact absurd rfl (dY _)
  |_::_::_,ht=>cases x<;>first|(simp [a8] at ht;done)|exact absurd rfl (dY _)
 termination_by (SizeOf.sizeOf es,1)
theorem qu (es:List Sh) (cs:List AV) (vs:List Value) (L:J) (φL:ag) (AL:aj) (H:J) (φ :ag) (AH:aj) (ys:List AV) (L1:J) (as:List AV) (H1:J) (hd:cb w L φL AL H φ AH) (hl:cs.length=vs.length)
 (hx: ∀(j:Nat) (c:AV) (u:Value),cs[j]? =some c→vs[j]? =some u→R w L φL AL c u) (ht:cE es cs L=some (ys,L1)) (hw:aM ys H=(as,H1)) (hk:eF AL AH ys):
 ∃ φ1,cq w L φL AL H φ AH L1 H1 φ1∧as.length=cs.length∧ ∀(j:Nat) (c:AV) (u:Value),as[j]? =some c→vs[j]? =some u→R w H1 φ1 AH c u:=by
 match es,cs,ht with
 |[],[],ht=>
  simp only [cE,Option.some.injEq,Prod.mk.injEq] at ht;obtain ⟨rfl,rfl⟩:=ht;simp only [aM,Prod.mk.injEq] at hw;obtain ⟨rfl,rfl⟩:=hw;exact ⟨φ,.refl hd,rfl,by simp⟩
 |e::es,x::cs,ht=>
  simp only [cE] at ht;split at ht
  ·rename_i y L' h1
   split at ht
   ·rename_i aX dE h2
    simp only [Option.some.injEq,Prod.mk.injEq] at ht;obtain ⟨rfl,rfl⟩:=ht;simp only [aM,Prod.mk.injEq] at hw;obtain ⟨rfl,rfl⟩:=hw;obtain ⟨k1,k2⟩:=hk.cons
    match vs,hl with
    |v::vs,hl=>
     obtain ⟨φ1,m1,r1,_,_⟩:=nL e x v L φL AL H φ AH y L' _ _ hd (hx 0 x v rfl rfl) h1 rfl k1
     obtain ⟨bf,m2,l2,r2⟩:=qu es cs vs L' (aF φL L') AL _ φ1 AH aX dE _ _ m1.bI (by simpa using hl) (fun j c u hj hu=>(hx (j+1) c u hj hu).mono (dj m1.less)) h2 rfl k2
     refine ⟨bf,m1.trans m2,by simp [l2],fun j c u hj hu=> ?_⟩
     cases j with
     |zero=>simp at hj hu;subst hj;subst hu;exact r1.mono m2.eh
     |succ j=>exact r2 j c u hj hu
   ·simp at ht
  ·simp at ht
 |[],_::_,ht=>simp [cE] at ht
 |_::_,[],ht=>simp [cE] at ht
 termination_by (SizeOf.sizeOf es,0)
end
end bI
end Go.VS
namespace Go.VS
section bI
variable {w:World}
theorem R.nN {H:J} {φ :ag} {A A' :aj} (hA: ∀c,A' c→A c) {x:AV} {v:Value} (h:R w H φ A x v):R w H φ A' x v:=
 h.mono ⟨fun c _arr _T fr hc hn=>⟨⟨fr,hc⟩,fun h=>hn (hA c h)⟩,Nat.le_refl _,fun _id b h _=>⟨b,h,rfl,rfl,rfl,rfl,fun _ h=>h⟩,fun _ _=>rfl⟩
theorem mr {es:List Sh} {cs:List AV} {L L1:J} {y:AV} (ht:a8 es (.agg cs) L=some (y,L1)): ∃a7,cE es cs L=some (a7,L1)∧y= .agg a7:=by
 match es,ht with
 |[],ht=>
  simp only [a8] at ht;split at ht
  ·rename_i a7 L' hc
   simp only [Option.some.injEq,Prod.mk.injEq] at ht;obtain ⟨rfl,rfl⟩:=ht;exact ⟨a7,hc,rfl⟩
  ·simp at ht
 |[e],ht=>
  simp only [a8] at ht;split at ht
  ·rename_i a7 L' hc
   simp only [Option.some.injEq,Prod.mk.injEq] at ht;obtain ⟨rfl,rfl⟩:=ht;exact ⟨a7,hc,rfl⟩
  ·simp at ht
 |e::e' ::es,ht=>
  simp only [a8] at ht;split at ht
  ·rename_i a7 L' hc
   simp only [Option.some.injEq,Prod.mk.injEq] at ht;obtain ⟨rfl,rfl⟩:=ht;exact ⟨a7,hc,rfl⟩
  ·simp at ht
theorem kj {es:List Sh} {x:AV} (hx: ∀cs,x≠ .agg cs) {L L1:J} {y:AV} (ht:a8 es x L=some (y,L1)): ∃e,es=[e]∧aT e x L=some (y,L1):=by
 match es,ht with
 |[e],ht=>
  refine ⟨e,rfl,?_⟩;cases x<;>first|(simpa only [a8] using ht)|exact absurd rfl (hx _)
 |[],ht=>cases x<;>first|(simp [a8] at ht;done)|exact absurd rfl (hx _)
 |_::_::_,ht=>cases x<;>first|(simp [a8] at ht;done)|exact absurd rfl (hx _)
theorem tG {es:List Sh} {x:AV} {v:Value} {L:J} {φL:ag} {AL:aj} {H:J} {φ :ag} {AH:aj} {y:AV} {L1:J} {a:AV} {H1:J} (hd:cb w L φL AL H φ AH) (hx:R w L φL AL x v)
 (ht:a8 es x L=some (y,L1)) (hw:aL y H=(a,H1)) (hk:gP AL AH y): ∃ φ1,cq w L φL AL H φ AH L1 H1 φ1∧R w H1 φ1 AH a v:=by
 by_cases b9: ∃cs,x= .agg cs
 ·obtain ⟨cs,rfl⟩:=b9;obtain ⟨a7,hc,rfl⟩:=mr ht;simp only [aL,Prod.mk.injEq] at hw;obtain ⟨rfl,rfl⟩:=hw;have bR:eF AL AH a7:=by
   rcases hk with h|h
   ·exact .inl h
   ·exact .inr (by simpa [cZ] using h)
  obtain ⟨vs,rfl,hl,ho,hp⟩:=hx.gH;obtain ⟨φ1,m,l1,r1⟩:=qu es cs vs.toList L φL AL H φ AH a7 L1 _ _ hd (by simpa using hl) (fun j c u hj hu=>hp j c u hj (by simpa using hu)) hc rfl bR
  exact ⟨φ1,m,.agg _ _ (by rw [l1,hl]) ho fun i x v hx hv=>r1 i x v hx (by simpa using hv)⟩
 ·obtain ⟨e,rfl,cM⟩:=kj (fun cs h=>b9 ⟨cs,h⟩) ht;obtain ⟨φ1,m,r,_⟩:=nL e x v L φL AL H φ AH y L1 a H1 hd hx cM hw hk
  exact ⟨φ1,m,r⟩
def gone (φ :ag) (A:aj) (L1:J):aj:=fun c=>A c∧(Ow φ c→Ow (aF φ L1) c)
theorem qv {φ :ag} {A:aj} {L L1:J} (h:bL L L1) {c:Nat} (hc:gone φ A L1 c):gone φ A L c:=
 ⟨hc.1,fun ho=>by
  obtain ⟨i,b,hi⟩:=hc.2 ho;obtain ⟨h1,bk,h2⟩:=dD hi;exact ⟨i,b,by simp [aF,h.get _ _ h2,h1]⟩⟩
theorem tH {w:World} {L L1:J} {φ :ag} {A:aj} (ae:St w L φ A) {id c b0:Nat} (h: φ id=some (.at_ c b0)) (hn:L1.get id=none): ¬gone φ A L1 c:=by
 rintro ⟨_,h2⟩;obtain ⟨i,b,hi⟩:=h2 ⟨id,b0,h⟩;obtain ⟨h1,bk,h3⟩:=dD hi;have:=ae.inj _ _ _ _ _ h1 h;subst this;rw [hn] at h3;simp at h3
theorem AN {x:AV} (hp:dT x=true):bE x=x:=by
 cases x<;>first|rfl|simp [dT] at hp
theorem AO {L:J} {φL:ag} {AL A' :aj} {x:AV} {v:Value} (hp:dT x=true) (h:R w L φL AL x v):FR w A' x v:=by
 cases x with
 |undef=>exact .undef _
 |int k n=>have:=h.ct;subst this;exact .int _ _
 |bool b=>have:=h.fK;subst this;exact .bool _
 |str s=>obtain ⟨b,rfl,rfl⟩:=h.fb;exact .str _
 |cB b=>rcases h.k_ with ⟨rfl,rfl⟩|⟨rfl,t,u,rfl⟩;exact .kZ;exact .err _ _
 |eb=>cases h with|fr _ _ h=>cases h;exact .eb
 |_=>simp [dT] at hp
theorem nO {f:AV→J→Option (AV×J)} (hf: ∀x L y L1,f x L=some (y,L1)→bL L L1): ∀(xs:List AV) (L:J) (ys:List AV) (L1:J),dS f xs L=some (ys,L1)→bL L L1
 |[],L,ys,L1,h=>by simp [dS] at h;obtain ⟨_,rfl⟩:=h;exact .refl _
 |x::xs,L,ys,L1,h=>by
  simp only [dS] at h;split at h
  ·rename_i y L' h1
   split at h
   ·rename_i aX dE h2
    simp only [Option.some.injEq,Prod.mk.injEq] at h;obtain ⟨_,rfl⟩:=h;exact (hf _ _ _ _ h1).trans (nO hf xs L' aX _ h2)
   ·simp at h
  ·simp at h
mutual
theorem qw: ∀(sh:Sh) (x:AV) (L:J) (y:AV) (L1:J),aT sh x L=some (y,L1)→bL L L1
 | .sc,x,L,y,L1,ht=>by
  simp only [aT] at ht;split at ht
  ·simp only [Option.some.injEq,Prod.mk.injEq] at ht;obtain ⟨_,rfl⟩:=ht;exact .refl _
  ·simp at ht
 | .sl es,x,L,y,L1,ht=>by
  cases x with
  |ref id ad off len=>
   simp only [aT] at ht;split at ht
   ·split at ht
    ·split at ht
     ·rename_i ys L' hm
      simp only [Option.some.injEq,Prod.mk.injEq] at ht;obtain ⟨_,rfl⟩:=ht;exact (bL.del L id).trans (nO (fun x L y L1 h=>fC es x L y L1 h) _ _ _ _ hm)
     ·simp at ht
    ·simp at ht
   ·simp at ht
  |_=>first
   |(simp [aT] at ht;done)
   |(simp only [aT,Option.some.injEq,Prod.mk.injEq] at ht;obtain ⟨_,rfl⟩:=ht;exact .refl _)
 | .pt es,x,L,y,L1,ht=>by
  cases x with
  |fe z o=>simp only [aT,Option.some.injEq,Prod.mk.injEq] at ht;obtain ⟨_,rfl⟩:=ht;exact .refl _
  |ptr id ad idx off=>
   rcases idx with _|idx
   rotate_left
   ·simp [aT] at ht
   rcases off with _|off
   rotate_left
   ·simp [aT] at ht
   simp only [aT] at ht;split at ht
   ·split at ht
    ·rename_i y' L' hm
     simp only [Option.some.injEq,Prod.mk.injEq] at ht;obtain ⟨_,rfl⟩:=ht;exact (bL.del L id).trans (fC es _ _ _ _ hm)
    ·simp at ht
   ·simp at ht
  |_=>simp [aT] at ht
 termination_by sh=>(SizeOf.sizeOf sh,0)
theorem fC: ∀(es:List Sh) (x:AV) (L:J) (y:AV) (L1:J),a8 es x L=some (y,L1)→bL L L1
 |es,x,L,y,L1,ht=>by
  by_cases b9: ∃cs,x= .agg cs
  ·obtain ⟨cs,rfl⟩:=b9;obtain ⟨a7,hc,_⟩:=mr ht;exact qx es cs L a7 L1 hc
  ·obtain ⟨e,rfl,cM⟩:=kj (fun cs h=>b9 ⟨cs,h⟩) ht;exact qw e x L y L1 cM
 termination_by es=>(SizeOf.sizeOf es,1)
theorem qx: ∀(es:List Sh) (cs:List AV) (L:J) (ys:List AV) (L1:J),cE es cs L=some (ys,L1)→bL L L1
 |[],[],L,ys,L1,ht=>by simp [cE] at ht;obtain ⟨_,rfl⟩:=ht;exact .refl _
 |e::es,x::cs,L,ys,L1,ht=>by
  simp only [cE] at ht;split at ht
  ·rename_i y L' h1
   split at ht
   ·rename_i aX dE h2
    simp only [Option.some.injEq,Prod.mk.injEq] at ht;obtain ⟨_,rfl⟩:=ht;exact (qw e x L y L' h1).trans (qx es cs L' aX _ h2)
   ·simp at ht
  ·simp at ht
 |[],_::_,_,_,_,ht=>by simp [cE] at ht
 |_::_,[],_,_,_,ht=>by simp [cE] at ht
 termination_by es=>(SizeOf.sizeOf es,0)
end
theorem tI {es:List Sh} {A' :aj} (hE: ∀(x:AV) (vs:List Value) (L:J) (φL:ag) (AL:aj) (y:AV) (L1:J),St w L φL AL→x.cells.length=vs.length→
 (∀(j:Nat) (c:AV) (u:Value),x.cells[j]? =some c→vs[j]? =some u→R w L φL AL c u)→a8 es x L=some (y,L1)→(∀c,A' c→gone φL AL L1 c)→
 (bE y).cells.length=x.cells.length∧ ∀(j:Nat) (c:AV) (u:Value),(bE y).cells[j]? =some c→vs[j]? =some u→FR w A' c u):
 ∀(xs:List AV) (g:Nat→Nat→Value) (L:J) (φL:ag) (AL:aj) (ys:List AV) (L1:J),St w L φL AL→
  (∀(i:Nat) (x:AV) (j:Nat) (c:AV),xs[i]? =some x→x.cells[j]? =some c→R w L φL AL c (g i j))→dS (a8 es) xs L=some (ys,L1)→(∀c,A' c→gone φL AL L1 c)→
  (bU ys).length=xs.length∧(∀(i:Nat) (x a:AV),xs[i]? =some x→(bU ys)[i]? =some a→a.cells.length=x.cells.length)∧
   ∀(i:Nat) (a:AV) (j:Nat) (c:AV),(bU ys)[i]? =some a→a.cells[j]? =some c→FR w A' c (g i j)
 |[],g,L,φL,AL,ys,L1,hd,_,ht,hk=>by
  simp only [dS,Option.some.injEq,Prod.mk.injEq] at ht;obtain ⟨rfl,rfl⟩:=ht;exact ⟨rfl,by simp,by simp [bU]⟩
 |x::xs,g,L,φL,AL,ys,L1,hd,hr,ht,hk=>by
  simp only [dS] at ht;split at ht
  ·rename_i y L' h1
   split at ht
   ·rename_i aX dE h2
    simp only [Option.some.injEq,Prod.mk.injEq] at ht;obtain ⟨rfl,rfl⟩:=ht
    let vs:List Value:=(List.range x.cells.length).map (g 0)
    have da:=fC es x L y L' h1
    have dh:=nO (fun x L y L1 h=>fC es x L y L1 h) _ _ _ _ h2;obtain ⟨l1,r1⟩:=hE x vs L φL AL y L' hd (by simp [vs]) (fun j c u hj hu=>by
     have d_:j<x.cells.length:=(List.getElem?_eq_some_iff.1 hj).1;have:vs[j]? =some (g 0 j):=by simp [vs,d_]
     rw [this] at hu;simp only [Option.some.injEq] at hu;subst hu;exact hr 0 x j c rfl hj) h1 (fun c hc=>qv dh (hk c hc))
    obtain ⟨l2,s2,r2⟩:=tI hE xs (fun i j=>g (i+1) j) L' (aF φL L') AL aX dE (eE hd da) (fun i x' j c hi hj=>(hr (i+1) x' j c hi hj).mono (dj da)) h2 (fun c hc=>by
     obtain ⟨k1,k2⟩:=hk c hc;exact ⟨k1,fun ho=>by rw [gO dh];exact k2 (bO ho)⟩)
    refine ⟨by simp [bU,l2],fun i x' a hx ha=> ?_,fun i a j c ha hc=> ?_⟩
    ·cases i with
     |zero=>simp [bU] at hx ha;subst hx;subst ha;exact l1
     |succ i=>simp [bU] at hx ha;exact s2 i x' a hx ha
    ·cases i with
     |zero=>
      simp only [bU,List.getElem?_cons_zero,Option.some.injEq] at ha;subst ha;have hj:j<x.cells.length:=by rw [←l1];exact (List.getElem?_eq_some_iff.1 hc).1
      exact r1 j c (g 0 j) hc (by simp [vs,hj])
     |succ i=>exact r2 i a j c (by simpa [bU] using ha) hc
   ·simp at ht
  ·simp at ht
mutual
theorem nP (sh:Sh) (x:AV) (v:Value) (L:J) (φL:ag) (AL A' :aj) (y:AV) (L1:J) (ae:St w L φL AL) (hx:R w L φL AL x v)
 (ht:aT sh x L=some (y,L1)) (hk: ∀c,A' c→gone φL AL L1 c):FR w A' (bE y) v∧(x≠ .undef→(bE y).cells=[bE y])∧(x= .undef→bE y= .undef):=by
 cases sh with
 |sc=>
  simp only [aT] at ht;split at ht
  ·rename_i hp;simp only [Option.some.injEq,Prod.mk.injEq] at ht;obtain ⟨rfl,rfl⟩:=ht;rw [AN hp];exact ⟨AO hp hx,fun hu=>cells_one hu (by rintro cs rfl;simp [dT] at hp),fun h=>h⟩
  ·simp at ht
 |sl es=>
  cases x with
  |nil=>
   simp only [aT,Option.some.injEq,Prod.mk.injEq] at ht;obtain ⟨rfl,rfl⟩:=ht;have:=hx.du;subst this;exact ⟨.c8 _ _,fun _=>rfl,fun h=>by simp at h⟩
  |e0=>
   simp only [aT,Option.some.injEq,Prod.mk.injEq] at ht;obtain ⟨rfl,rfl⟩:=ht;obtain ⟨a0,rfl⟩:=hx.fc;exact ⟨.c8 _ _,fun _=>rfl,fun h=>by simp at h⟩
  |fz xs=>
   simp only [aT,Option.some.injEq,Prod.mk.injEq] at ht;obtain ⟨rfl,rfl⟩:=ht;exact ⟨hx.ei.shrink fun c hc=>(hk c hc).1,fun _=>rfl,fun h=>by simp at h⟩
  |ref id ad off len=>
   simp only [aT] at ht;split at ht
   ·rename_i b hb;split at ht
    ·rename_i hc;obtain ⟨c1,c2,c3⟩:=hc;split at ht
     ·rename_i ys L' hm
      simp only [Option.some.injEq,Prod.mk.injEq] at ht;obtain ⟨rfl,rfl⟩:=ht;have hg:=(J.bd hb).1;obtain ⟨bN,_,hr⟩:=hx.dC;obtain ⟨loc,a0,cap,q1,rfl,q3,q4,q5,q6⟩:=(hr b hb).out;obtain ⟨bk,a_,af⟩:=ae.ap id _ q1;rw [hg] at a_;simp only [Option.some.injEq] at a_;subst a_;have dl:=bL.del L id;have dh:=nO (fun x L y L1 h=>fC es x L y L1 h) _ _ _ _ hm;have iW:L'.get id=none:=by
       cases hq:L'.get id with
       |none=>rfl
       |some b=>have:=dh.get _ _ hq;rw [J.jF,if_pos rfl] at this;simp at this
      have bH:(aB b.el off len).length=len:=by simp [aB];omega
      have gQ: ∀(i:Nat) (x:AV),(aB b.el off len)[i]? =some x→b.el[off+i]? =some x:=by
       intro i x hi;simp only [aB,List.getElem?_take,List.getElem?_drop] at hi;split at hi
       ·exact hi
       ·simp at hi
      refine ⟨?_,fun _=>rfl,fun h=>by simp at h⟩
      simp only [bE];rcases Nat.eq_zero_or_pos len with cL|AP
      ·subst cL;have:ys=[]:=by
        have h0:aB b.el off 0=[]:=by simp [aB]
        rw [h0] at hm;simp [dS] at hm;exact hm.1
       subst this;exact .c8 _ _
      ·cases loc with
       |aP=>have:=af.aP rfl;rw [this] at q3;simp at q3;omega
       |at_ c b0=>
        simp only at q6;rcases q6 with q6|⟨h1,h2⟩
        ·omega
        obtain ⟨arr,T,fr,k1,k2,k3,k4⟩:=af.here c b0 rfl
        let g:Nat→Nat→Value:=fun i j=>arr.getD (b0+(off+i)*b.sz+j) undef
        have cH: ∀(i:Nat) (x:AV) (j:Nat),(aB b.el off len)[i]? =some x→j<x.cells.length→b0+(off+i)*b.sz+j<arr.size:=by
         intro i x j hi hj;have bQ:=gQ i x hi
         have cy:i<len:=by rw [←bH];exact (List.getElem?_eq_some_iff.1 hi).1
         rw [af.sized _ _ bQ] at hj;have hle:=c9 (n:=b.sz) (show off+i<b.el.length by omega)
         omega
        have b8: ∀(i:Nat) (x:AV) (j:Nat) (c:AV),(aB b.el off len)[i]? =some x→x.cells[j]? =some c→R w (L.del id) (aF φL (L.del id)) AL c (g i j):=by
         intro i x j c' hi hj
         have az:=cH i x j hi (List.getElem?_eq_some_iff.1 hj).1;have:g i j=arr[b0+(off+i)*b.sz+j]:=by
          simp only [g,Array.getD_eq_getD_getElem?,Array.getElem?_eq_getElem az,Option.getD_some]
         rw [this];exact ((k4 _ _ _ _ _ (gQ i x hi) hj (Array.getElem?_eq_getElem az)).1).mono (dj dl)
        obtain ⟨l1,s1,r1⟩:=tI (A' :=A') (es:=es) (fun x vs L φL AL y L1=>tJ es x vs L φL AL A' y L1) _ g _ _ _ _ _ (eE ae dl) b8 hm (fun c hc=>by
         obtain ⟨k1,k2⟩:=hk c hc;exact ⟨k1,fun ho=>by rw [gO dh];exact k2 (bO ho)⟩)
        rw [bH] at l1;have hmul:(off+len)*b.sz≤b.el.length*b.sz:=Nat.mul_le_mul_right _ q3;have AQ:(off+len)*b.sz=off*b.sz+len*b.sz:=Nat.add_mul _ _ _;have gS:=FR.fz (A:=A') (bU ys) c (b0+off*b.sz) cap b.sz arr T fr k1 (fun hA=>tH ae q1 iW (hk c hA)) (by rw [l1];exact q4) (by rw [l1];omega)
         (fun i a ha=>by
          have hi:i<(aB b.el off len).length:=by rw [bH,←l1];exact (List.getElem?_eq_some_iff.1 ha).1
          rw [s1 i _ a (List.getElem?_eq_getElem hi) ha];exact af.sized _ _ (gQ i _ (List.getElem?_eq_getElem hi)))
         (fun j v hj hv=>by
          rw [l1] at hj;have e9:0<b.sz:=by
           rcases Nat.eq_zero_or_pos b.sz with h|h
           ·rw [h] at hj;simp at hj
           ·exact h
          have AR:j/b.sz<len:=Nat.div_lt_of_lt_mul (by rw [Nat.mul_comm];exact hj)
          have qy:j % b.sz<b.sz:=Nat.mod_lt _ e9;have AS:j=(j/b.sz)*b.sz+j % b.sz:=by rw [Nat.mul_comm];exact (Nat.div_add_mod j b.sz).symm
          have bG:off+j/b.sz<b.el.length:=by omega
          have hx:=List.getElem?_eq_getElem bG;have ca:=af.sized _ _ hx;have e:b0+off*b.sz+j=b0+(off+j/b.sz)*b.sz+j % b.sz:=by rw [Nat.add_mul];omega
          rw [e] at hv;exact (k4 _ _ _ _ v hx (List.getElem?_eq_getElem (show j % b.sz<_ by rw [ca];exact qy)) hv).2)
         (fun i a j c' v ha hc hv=>by
          have e:b0+off*b.sz+i*b.sz+j=b0+(off+i)*b.sz+j:=by rw [Nat.add_mul];omega
          rw [e] at hv;have:g i j=v:=by simp only [g,Array.getD_eq_getD_getElem?,hv,Option.getD_some]
          rw [←this];exact r1 i a j c' ha hc)
        rw [l1] at gS;rw [h1];exact gS
     ·simp at ht
    ·simp at ht
   ·simp at ht
  |_=>simp [aT] at ht
 |pt es=>
  cases x with
  |fe z o=>
   simp only [aT,Option.some.injEq,Prod.mk.injEq] at ht;obtain ⟨rfl,rfl⟩:=ht;exact ⟨hx.fw.shrink fun c hc=>(hk c hc).1,fun _=>rfl,fun h=>by simp at h⟩
  |ptr id ad idx off=>
   rcases idx with _|idx
   rotate_left
   ·simp [aT] at ht
   rcases off with _|off
   rotate_left
   ·simp [aT] at ht
   simp only [aT] at ht;split at ht
   ·rename_i qp sz qq z hb;split at ht
    ·rename_i y' L' hm
     simp only [Option.some.injEq,Prod.mk.injEq] at ht;obtain ⟨rfl,rfl⟩:=ht;refine ⟨?_,fun _=>rfl,fun h=>by simp at h⟩
     have hg:=(J.bd hb).1;obtain ⟨bN,_,hr⟩:=hx.gf;obtain ⟨c,b0,q1,rfl⟩:=hr _ hb;obtain ⟨bk,a_,af⟩:=ae.ap id _ q1;rw [hg] at a_;simp only [Option.some.injEq] at a_;subst a_;obtain ⟨arr,T,fr,k1,k2,k3,k4⟩:=af.here c b0 rfl;have dl:=bL.del L id;have dh:=fC es _ _ _ _ hm;have iW:L'.get id=none:=by
      cases hq:L'.get id with
      |none=>rfl
      |some b=>have:=dh.get _ _ hq;rw [J.jF,if_pos rfl] at this;simp at this
     have cK:z.cells.length=sz:=af.sized 0 z rfl;simp only [List.length_singleton,Nat.one_mul] at k3
     let vs:List Value:=(arr.extract b0 (b0+sz)).toList
     have di:vs.length=sz:=by simp [vs];omega
     have gR: ∀j u,vs[j]? =some u→arr[b0+j]? =some u:=by
      intro j u hu;simp only [vs,Array.getElem?_toList,Array.getElem?_extract] at hu;split at hu
      ·exact hu
      ·simp at hu
     obtain ⟨l1,r1⟩:=tJ es z vs _ _ _ A' _ _ (eE ae dl) (by rw [di,cK]) (fun j c' u hj hu=>((k4 0 z j c' u rfl hj (by simpa using gR j u hu)).1).mono (dj dl)) hm (fun c hc=>by
      obtain ⟨k1,k2⟩:=hk c hc;exact ⟨k1,fun ho=>by rw [gO dh];exact k2 (bO ho)⟩)
     have:=FR.fe (A:=A') (bE y') 0 c b0 arr T fr k1 (fun hA=>tH ae q1 iW (hk c hA)) (by rw [l1,cK];exact k3)
      (fun j v hj hv=>by
       rw [l1] at hj;exact (k4 0 z j _ v rfl (List.getElem?_eq_getElem hj) (by simpa using hv)).2)
      (fun j c' v hc hv=>by
       have hj:j<sz:=by rw [←cK,←l1];exact (List.getElem?_eq_some_iff.1 hc).1
       exact r1 j c' v hc (by simp only [vs,Array.getElem?_toList,Array.getElem?_extract];rw [if_pos (by omega)];exact hv))
     simpa [bE] using this
    ·simp at ht
   ·simp at ht
  |_=>simp [aT] at ht
 termination_by (SizeOf.sizeOf sh,0)
theorem tJ (es:List Sh) (x:AV) (vs:List Value) (L:J) (φL:ag) (AL A' :aj) (y:AV) (L1:J) (ae:St w L φL AL) (hl:x.cells.length=vs.length)
 (hx: ∀(j:Nat) (c:AV) (u:Value),x.cells[j]? =some c→vs[j]? =some u→R w L φL AL c u) (ht:a8 es x L=some (y,L1)) (hk: ∀c,A' c→gone φL AL L1 c):
 (bE y).cells.length=x.cells.length∧ ∀(j:Nat) (c:AV) (u:Value),(bE y).cells[j]? =some c→vs[j]? =some u→FR w A' c u:=by
 by_cases b9: ∃cs,x= .agg cs
 ·obtain ⟨cs,rfl⟩:=b9;obtain ⟨a7,hc,rfl⟩:=mr ht;exact qz es cs vs L φL AL A' a7 L1 ae hl hx hc hk
 ·have dY: ∀cs,x≠ .agg cs:=fun cs h=>b9 ⟨cs,h⟩;obtain ⟨e,rfl,cM⟩:=kj dY ht;by_cases hu:x= .undef
  ·subst hu;have gG:vs=[]:=List.eq_nil_of_length_eq_zero (by simpa [AV.cells] using hl.symm)
   subst gG;obtain ⟨_,_,h4⟩:=nP e .undef undef L φL AL A' y L1 ae (.fr _ _ (.undef _)) cM hk
   exact ⟨by rw [h4 rfl],by simp⟩
  ·have dm:=cells_one hu dY;rw [dm] at hl;obtain ⟨v,rfl⟩: ∃v,vs=[v]:=by
    match vs,hl with
    |[v],_=>exact ⟨v,rfl⟩
   obtain ⟨h2,h3,_⟩:=nP e x v L φL AL A' y L1 ae (hx 0 x v (by rw [dm];rfl) rfl) cM hk
   refine ⟨by rw [h3 hu,dm];rfl,fun j c u hj aO=> ?_⟩
   rw [h3 hu] at hj;cases j with
   |zero=>simp at hj aO;subst hj;subst aO;exact h2
   |succ j=>simp at hj
 termination_by (SizeOf.sizeOf es,1)
theorem qz (es:List Sh) (cs:List AV) (vs:List Value) (L:J) (φL:ag) (AL A' :aj) (ys:List AV) (L1:J) (ae:St w L φL AL) (hl:cs.length=vs.length)
 (hx: ∀(j:Nat) (c:AV) (u:Value),cs[j]? =some c→vs[j]? =some u→R w L φL AL c u) (ht:cE es cs L=some (ys,L1)) (hk: ∀c,A' c→gone φL AL L1 c):
 (bU ys).length=cs.length∧ ∀(j:Nat) (c:AV) (u:Value),(bU ys)[j]? =some c→vs[j]? =some u→FR w A' c u:=by
 match es,cs,ht with
 |[],[],ht=>
  simp only [cE,Option.some.injEq,Prod.mk.injEq] at ht;obtain ⟨rfl,rfl⟩:=ht;exact ⟨rfl,by simp [bU]⟩
 |e::es,x::cs,ht=>
  simp only [cE] at ht;split at ht
  ·rename_i y L' h1
   split at ht
   ·rename_i aX dE h2
    simp only [Option.some.injEq,Prod.mk.injEq] at ht;obtain ⟨rfl,rfl⟩:=ht;have da:=qw e x L y L' h1
    have dh:=qx es cs L' aX dE h2
    match vs,hl with
    |v::vs,hl=>
     obtain ⟨r1,_,_⟩:=nP e x v L φL AL A' y L' ae (hx 0 x v rfl rfl) h1 (fun c hc=>qv dh (hk c hc))
     obtain ⟨l2,r2⟩:=qz es cs vs L' (aF φL L') AL A' aX dE (eE ae da) (by simpa using hl) (fun j c u hj hu=>(hx (j+1) c u hj hu).mono (dj da)) h2 (fun c hc=>by
      obtain ⟨k1,k2⟩:=hk c hc;exact ⟨k1,fun ho=>by rw [gO dh];exact k2 (bO ho)⟩)
     refine ⟨by simp [bU,l2],fun j c u hj hu=> ?_⟩
     cases j with
     |zero=>simp [bU] at hj hu;subst hj;subst hu;exact r1
     |succ j=>exact r2 j c u (by simpa [bU] using hj) hu
   ·simp at ht
  ·simp at ht
 |[],_::_,ht=>simp [cE] at ht
 |_::_,[],ht=>simp [cE] at ht
 termination_by (SizeOf.sizeOf es,0)
end
end bI
end Go.VS
namespace Go.VS
section AT
variable {w:World} {H:J} {φ :ag} {A:aj}
theorem mapM_some {α β :Type} {f: α →Option β}: ∀{xs:List α} {ys:List β},xs.mapM f=some ys→ys.length=xs.length∧ ∀(i:Nat) (x: α) (y: β),xs[i]? =some x→ys[i]? =some y→f x=some y
 |[],ys,h=>by simp at h;subst h;simp
 |x::xs,ys,h=>by
  simp only [List.mapM_cons,Option.bind_eq_bind,Option.bind_eq_some_iff,Option.pure_def,Option.some.injEq] at h;obtain ⟨y,h1,aX,h2,rfl⟩:=h;obtain ⟨hl,hp⟩:=mapM_some h2;refine ⟨by simp [hl],fun i a b ha hb=> ?_⟩
  cases i with
  |zero=>simp at ha hb;subst ha;subst hb;exact h1
  |succ i=>exact hp i a b ha hb
def gq (φ :ag) (A:aj):aj:=fun c=>A c∧ ¬Ow φ c
def mu (w:World) (H:J) (φ :ag) (A:aj) (n:Nat):Prop:= ∀(x:AV) (v:Value) (y:AV),R w H φ A x v→aY n H x=some y→
 FR w (gq φ A) y v∧(fI x=false→FR w A y v)∧((∀cs,x≠ .agg cs)→x≠ .undef→y.cells=[y])∧(x= .undef→y= .undef)
def tK (w:World) (H:J) (φ :ag) (A:aj) (n:Nat):Prop:= ∀(x:AV) (vs:List Value) (y:AV),x.cells.length=vs.length→
 (∀(j:Nat) (c:AV) (u:Value),x.cells[j]? =some c→vs[j]? =some u→R w H φ A c u)→aY n H x=some y→
 y.cells.length=x.cells.length∧ ∀(j:Nat) (c:AV) (u:Value),y.cells[j]? =some c→vs[j]? =some u→FR w (gq φ A) c u
theorem qA: ∀{xs:List AV},nl xs=false→ ∀(i:Nat) (x:AV),xs[i]? =some x→fI x=false
 |[],_,i,x,h=>by simp at h
 |y::ys,hl,i,x,h=>by
  simp only [nl,Bool.or_eq_false_iff] at hl;cases i with
  |zero=>simp at h;subst h;exact hl.1
  |succ i=>exact qA hl.2 i x h
theorem tL {n:Nat} (hV:mu w H φ A n) (AU: ∀m,n=m+1→mu w H φ A m):tK w H φ A n:=by
 intro x vs y hl hx hs;by_cases b9: ∃cs,x= .agg cs
 ·obtain ⟨cs,rfl⟩:=b9;cases n with
  |zero=>simp [aY] at hs
  |succ n=>
   simp only [aY,Option.map_eq_some_iff] at hs;obtain ⟨ys,hm,rfl⟩:=hs;obtain ⟨l1,p1⟩:=mapM_some hm;refine ⟨l1,fun j c u hj hu=> ?_⟩;have d_:j<cs.length:=by rw [←l1];exact (List.getElem?_eq_some_iff.1 hj).1
   have hc:=List.getElem?_eq_getElem d_;exact (AU n rfl _ _ _ (hx j _ u hc hu) (p1 j _ c hc hj)).1
 ·have dY: ∀cs,x≠ .agg cs:=fun cs h=>b9 ⟨cs,h⟩;by_cases hu:x= .undef
  ·subst hu;have gG:vs=[]:=List.eq_nil_of_length_eq_zero (by simpa [AV.cells] using hl.symm)
   subst gG;have:=(hV .undef undef y (.fr _ _ (.undef _)) hs).2.2.2 rfl;subst this;exact ⟨rfl,by simp⟩
  ·have dm:=cells_one hu dY;rw [dm] at hl;obtain ⟨v,rfl⟩: ∃v,vs=[v]:=by
    match vs,hl with
    |[v],_=>exact ⟨v,rfl⟩
   obtain ⟨h1,_,h3,_⟩:=hV x v y (hx 0 x v (by rw [dm];rfl) rfl) hs
   have h3:=h3 dY hu;refine ⟨by rw [h3,dm];rfl,fun j c u hj aO=> ?_⟩
   rw [h3] at hj;cases j with
   |zero=>simp at hj aO;subst hj;subst aO;exact h1
   |succ j=>simp at hj
theorem tM (ae:St w H φ A): ∀n,mu w H φ A n∧tK w H φ A n
 |0=>by
  have h0:mu w H φ A 0:=fun x v y _ hs=>by simp [aY] at hs
  exact ⟨h0,tL h0 (fun m h=>by omega)⟩
 |n+1=>by
  obtain ⟨hV,hE⟩:=tM ae n;have key:mu w H φ A (n+1):=by
   have bH: ∀c,gq φ A c→A c:=fun c h=>h.1;have tN: ∀c,Ow φ c→ ¬gq φ A c:=fun c h hl=>hl.2 h;have same: ∀{x:AV} {v:Value},FR w A x v→x.cells=[x]→FR w (gq φ A) x v∧(fI x=false→FR w A x v)∧((∀cs,x≠ .agg cs)→x≠ .undef→x.cells=[x])∧(x= .undef→x= .undef):=
    fun h hc=>⟨h.shrink bH,fun _=>h,fun _ _=>hc,fun h=>h⟩
   intro x v y hx hs;cases x with
   |undef=>simp only [aY,Option.some.injEq] at hs;subst hs;exact ⟨.undef _,fun _=> .undef _,fun _ h=>absurd rfl h,fun h=>h⟩
   |int k n=>simp only [aY,Option.some.injEq] at hs;subst hs;cases hx with|fr _ _ h=>exact same h rfl
   |bool b=>simp only [aY,Option.some.injEq] at hs;subst hs;cases hx with|fr _ _ h=>exact same h rfl
   |str s=>simp only [aY,Option.some.injEq] at hs;subst hs;cases hx with|fr _ _ h=>exact same h rfl
   |cB b=>simp only [aY,Option.some.injEq] at hs;subst hs;cases hx with|fr _ _ h=>exact same h rfl
   |eb=>simp only [aY,Option.some.injEq] at hs;subst hs;cases hx with|fr _ _ h=>exact same h rfl
   |fz xs=>simp only [aY,Option.some.injEq] at hs;subst hs;cases hx with|fr _ _ h=>exact same h rfl
   |fe x o=>simp only [aY,Option.some.injEq] at hs;subst hs;cases hx with|fr _ _ h=>exact same h rfl
   |own sz xs=>simp [aY] at hs
   |dQ sz x=>simp [aY] at hs
   |aD xs=>simp [aY] at hs
   |nil=>
    simp only [aY,Option.some.injEq] at hs;subst hs;have:=hx.du;subst this;exact ⟨.c8 _ _,fun _=> .c8 _ _,fun _ _=>rfl,fun h=>by simp at h⟩
   |e0=>
    simp only [aY,Option.some.injEq] at hs;subst hs;obtain ⟨a,rfl⟩:=hx.fc;exact ⟨.c8 _ _,fun _=> .c8 _ _,fun _ _=>rfl,fun h=>by simp at h⟩
   |agg cs=>
    simp only [aY,Option.map_eq_some_iff] at hs;obtain ⟨ys,hm,rfl⟩:=hs;obtain ⟨l1,p1⟩:=mapM_some hm;obtain ⟨vs,rfl,hl,ho,hp⟩:=hx.gH;have hc: ∀(i:Nat) (z:AV) (u:Value),ys[i]? =some z→vs[i]? =some u→ ∃c,cs[i]? =some c∧R w H φ A c u∧aY n H c=some z:=by
     intro i z u hz hu;have cy:i<cs.length:=by rw [←l1];exact (List.getElem?_eq_some_iff.1 hz).1
     have hc:=List.getElem?_eq_getElem cy;exact ⟨_,hc,hp i _ u hc hu,p1 i _ z hc hz⟩
    refine ⟨.agg _ _ (by rw [l1,hl]) ho fun i z u hz hu=> ?_,fun hlen=> .agg _ _ (by rw [l1,hl]) ho fun i z u hz hu=> ?_,fun h _=>absurd rfl (h cs),fun h=>by simp at h⟩
    ·obtain ⟨c,h1,h2,h3⟩:=hc i z u hz hu;exact (hV c u z h2 h3).1
    ·obtain ⟨c,h1,h2,h3⟩:=hc i z u hz hu;exact (hV c u z h2 h3).2.1 (qA (by simpa [fI] using hlen) i c h1)
   |fn f cs=>
    simp only [aY,Option.map_eq_some_iff] at hs;obtain ⟨ys,hm,rfl⟩:=hs;obtain ⟨l1,p1⟩:=mapM_some hm;obtain ⟨vs,rfl,hl,hp⟩:=hx.lX;have hc: ∀(i:Nat) (z:AV) (u:Value),ys[i]? =some z→vs[i]? =some u→ ∃c,cs[i]? =some c∧R w H φ A c u∧aY n H c=some z:=by
     intro i z u hz hu;have cy:i<cs.length:=by rw [←l1];exact (List.getElem?_eq_some_iff.1 hz).1
     have hc:=List.getElem?_eq_getElem cy;exact ⟨_,hc,hp i _ u hc hu,p1 i _ z hc hz⟩
    refine ⟨.fn _ _ _ (by rw [l1,hl]) fun i z u hz hu=> ?_,fun hlen=> .fn _ _ _ (by rw [l1,hl]) fun i z u hz hu=> ?_,fun _ _=>rfl,fun h=>by simp at h⟩
    ·obtain ⟨c,h1,h2,h3⟩:=hc i z u hz hu;exact (hV c u z h2 h3).1
    ·obtain ⟨c,h1,h2,h3⟩:=hc i z u hz hu;exact (hV c u z h2 h3).2.1 (qA (by simpa [fI] using hlen) i c h1)
   |ptr id ad idx off=>
    simp only [aY] at hs;split at hs
    ·rename_i b hb;split at hs
     ·rename_i x' bQ
      simp only [Option.map_eq_some_iff] at hs;obtain ⟨y',hy,rfl⟩:=hs;have hg:=(J.bd hb).1;obtain ⟨bN,_,hr⟩:=hx.gf;obtain ⟨c,b0,q1,rfl⟩:=hr _ hb;obtain ⟨bk,a_,af⟩:=ae.ap id _ q1;rw [hg] at a_;simp only [Option.some.injEq] at a_;subst a_;obtain ⟨arr,T,fr,k1,k2,k3,k4⟩:=af.here c b0 rfl;have AW:idx<b.el.length:=(List.getElem?_eq_some_iff.1 bQ).1;have hle:=c9 (n:=b.sz) AW;have ca:=af.sized _ _ bQ
      let o:=b0+idx*b.sz
      let vs:List Value:=(arr.extract o (o+b.sz)).toList
      have di:vs.length=b.sz:=by simp [vs,o];omega
      have gR: ∀j u,vs[j]? =some u→arr[o+j]? =some u:=by
       intro j u hu;simp only [vs,Array.getElem?_toList,Array.getElem?_extract] at hu;split at hu
       ·exact hu
       ·simp at hu
      obtain ⟨l1,r1⟩:=hE x' vs y' (by rw [di,ca]) (fun j c' u hj hu=>(k4 idx x' j c' u bQ hj (gR j u hu)).1) hy
      refine ⟨?_,fun h=>by simp [fI] at h,fun _ _=>rfl,fun h=>by simp at h⟩
      refine FR.fe y' off c o arr T fr k1 (tN c ⟨id,b0,q1⟩) (by rw [l1,ca];omega) (fun j v hj hv=> ?_) (fun j c' v hc hv=> ?_)
      ·rw [l1] at hj;exact (k4 idx x' j _ v bQ (List.getElem?_eq_getElem hj) hv).2
      ·have hj:j<b.sz:=by rw [←ca,←l1];exact (List.getElem?_eq_some_iff.1 hc).1
       exact r1 j c' v hc (by simp only [vs,Array.getElem?_toList,Array.getElem?_extract];rw [if_pos (by omega)];exact hv)
     ·simp at hs
    ·simp at hs
   |ref id ad off len=>
    simp only [aY] at hs;split at hs
    ·rename_i b hb;split at hs
     ·rename_i Ec;simp only [Option.map_eq_some_iff] at hs;obtain ⟨ys,hm,rfl⟩:=hs;obtain ⟨l1,p1⟩:=mapM_some hm;have hg:=(J.bd hb).1;obtain ⟨bN,_,hr⟩:=hx.dC;obtain ⟨loc,a0,cap,q1,rfl,q3,q4,q5,q6⟩:=(hr b hb).out;obtain ⟨bk,a_,af⟩:=ae.ap id _ q1;rw [hg] at a_;simp only [Option.some.injEq] at a_;subst a_;have bH:(aB b.el off len).length=len:=by simp [aB];omega
      have gQ: ∀(i:Nat) (x:AV),(aB b.el off len)[i]? =some x→b.el[off+i]? =some x:=by
       intro i x hi;simp only [aB,List.getElem?_take,List.getElem?_drop] at hi;split at hi
       ·exact hi
       ·simp at hi
      rw [bH] at l1;refine ⟨?_,fun h=>by simp [fI] at h,fun _ _=>rfl,fun h=>by simp at h⟩
      rcases Nat.eq_zero_or_pos len with cL|AP
      ·subst cL;have:=List.eq_nil_of_length_eq_zero l1;subst this;exact .c8 _ _
      ·cases loc with
       |aP=>have:=af.aP rfl;rw [this] at q3;simp at q3;omega
       |at_ c b0=>
        simp only at q6;rcases q6 with q6|⟨h1,h2⟩
        ·omega
        obtain ⟨arr,T,fr,k1,k2,k3,k4⟩:=af.here c b0 rfl;have hmul:(off+len)*b.sz≤b.el.length*b.sz:=Nat.mul_le_mul_right _ q3;have AQ:(off+len)*b.sz=off*b.sz+len*b.sz:=Nat.add_mul _ _ _;have tO: ∀(i:Nat) (a:AV),ys[i]? =some a→a.cells.length=b.sz∧ ∀(j:Nat) (c' :AV) (v:Value),a.cells[j]? =some c' →arr[b0+(off+i)*b.sz+j]? =some v→FR w (gq φ A) c' v:=by
         intro i a ha;have hi:i<len:=by rw [←l1];exact (List.getElem?_eq_some_iff.1 ha).1
         have hx:=List.getElem?_eq_getElem (l:=aB b.el off len) (by rw [bH];exact hi)
         have bQ:=gQ i _ hx
         have ca:=af.sized _ _ bQ;have hle:=c9 (n:=b.sz) (show off+i<b.el.length by omega)
         let o:=b0+(off+i)*b.sz
         let vs:List Value:=(arr.extract o (o+b.sz)).toList
         have di:vs.length=b.sz:=by simp [vs,o];omega
         have gR: ∀j u,vs[j]? =some u→arr[o+j]? =some u:=by
          intro j u hu;simp only [vs,Array.getElem?_toList,Array.getElem?_extract] at hu;split at hu
          ·exact hu
          ·simp at hu
         obtain ⟨l2,r2⟩:=hE _ vs a (by rw [di,ca]) (fun j c' u hj hu=>(k4 _ _ j c' u bQ hj (gR j u hu)).1) (p1 i _ a hx ha)
         refine ⟨by rw [l2,ca],fun j c' v hc hv=>r2 j c' v hc ?_⟩
         have hj:j<b.sz:=by rw [←ca,←l2];exact (List.getElem?_eq_some_iff.1 hc).1
         simp only [vs,Array.getElem?_toList,Array.getElem?_extract];rw [if_pos (by omega)];exact hv
        have gS:=FR.fz (A:=gq φ A) ys c (b0+off*b.sz) cap b.sz arr T fr k1 (tN c ⟨id,b0,q1⟩) (by rw [l1];exact q4) (by rw [l1];omega)
         (fun i a ha=>(tO i a ha).1)
         (fun j v hj hv=>by
          rw [l1] at hj;have e9:0<b.sz:=by
           rcases Nat.eq_zero_or_pos b.sz with h|h
           ·rw [h] at hj;simp at hj
           ·exact h
          have AR:j/b.sz<len:=Nat.div_lt_of_lt_mul (by rw [Nat.mul_comm];exact hj)
          have qy:j % b.sz<b.sz:=Nat.mod_lt _ e9;have AS:j=(j/b.sz)*b.sz+j % b.sz:=by rw [Nat.mul_comm];exact (Nat.div_add_mod j b.sz).symm
          have bG:off+j/b.sz<b.el.length:=by omega
          have hx:=List.getElem?_eq_getElem bG;have ca:=af.sized _ _ hx;have e:b0+off*b.sz+j=b0+(off+j/b.sz)*b.sz+j % b.sz:=by rw [Nat.add_mul];omega
          rw [e] at hv;exact (k4 _ _ _ _ v hx (List.getElem?_eq_getElem (show j % b.sz<_ by rw [ca];exact qy)) hv).2)
         (fun i a j c' v ha hc hv=>by
          have e:b0+off*b.sz+i*b.sz+j=b0+(off+i)*b.sz+j:=by rw [Nat.add_mul];omega
          rw [e] at hv;exact (tO i a ha).2 j c' v hc hv)
        rw [l1] at gS;rw [h1];exact gS
     ·simp at hs
    ·simp at hs
  exact ⟨key,tL key (fun m h=>by have:m=n:=by omega
                                 subst this;exact hV)⟩
end AT
end Go.VS
namespace Go.VS
theorem tP: ∀(ys:List AV) (L:J),(∀(i:Nat) (z:AV),ys[i]? =some z→ ∀L,aL z L=(z,L))→aM ys L=(ys,L)
 |[],L,_=>rfl
 |y::ys,L,h=>by
  have h1:=h 0 y rfl L;have h2:=tP ys L (fun i z hz=>h (i+1) z hz);simp only [aM,h1,h2]
theorem nQ (H:J): ∀(n:Nat) (x y:AV),aY n H x=some y→ ∀L,aL y L=(y,L)
 |0,x,y,h,L=>by simp [aY] at h
 |n+1,x,y,h,L=>by
  cases x with
  |agg cs=>
   simp only [aY,Option.map_eq_some_iff] at h;obtain ⟨ys,hm,rfl⟩:=h;obtain ⟨l1,p1⟩:=mapM_some hm;have:=tP ys L (fun i z hz=>by
    have cy:i<cs.length:=by rw [←l1];exact (List.getElem?_eq_some_iff.1 hz).1
    exact nQ H n _ z (p1 i _ z (List.getElem?_eq_getElem cy) hz))
   simp only [aL,this]
  |fn f cs=>simp only [aY,Option.map_eq_some_iff] at h;obtain ⟨ys,_,rfl⟩:=h;rfl
  |ref id ad off len=>
   simp only [aY] at h;split at h
   ·split at h
    ·simp only [Option.map_eq_some_iff] at h;obtain ⟨ys,_,rfl⟩:=h;rfl
    ·simp at h
   ·simp at h
  |ptr id ad idx off=>
   simp only [aY] at h;split at h
   ·split at h
    ·simp only [Option.map_eq_some_iff] at h;obtain ⟨ys,_,rfl⟩:=h;rfl
    ·simp at h
   ·simp at h
  |own sz xs=>simp [aY] at h
  |dQ sz xs=>simp [aY] at h
  |aD xs=>simp [aY] at h
  |_=>simp only [aY,Option.some.injEq] at h;subst h;rfl
def iX (H:J) (φ :ag) (L0:J) (aE:ag) (a x:AV):Prop:=
 ∃k kv bk,lT x=some (k,kv)∧L0.ap k kv=some bk∧(∃loc,aE k=some loc)∧(er a=none→bk.el=[])∧
  ∀id ad,er a=some (id,ad)→ ∃b c b0,H.ap id ad=some b∧bk.sz=b.sz∧bk.el.length=b.el.length∧ φ id=some (.at_ c b0)∧aE k=some (.at_ c b0)
def cm (H:J) (φ :ag) (L0:J) (aE:ag):List Mode→List AV→List AV→Prop
 | .io::ms,a::as,x::xs=>iX H φ L0 aE a x∧cm H φ L0 aE ms as xs
 |_::ms,_::as,_::xs=>cm H φ L0 aE ms as xs
 |_,_,_=>True
theorem J.tQ {L L1:J} (h:bL L L1) {id ad:Nat} {b:bu} (hb:L1.ap id ad=some b):L.ap id ad=some b:=by
 obtain ⟨h1,h2⟩:=J.bd hb;have:=J.ic (h.get id b h1)
 rwa [h2] at this
theorem qB {L L1:J} (h: ∀id b,L.get id=some b→L1.get id=some b) {id ad:Nat} {b:bu} (hb:L.ap id ad=some b):L1.ap id ad=some b:=by
 obtain ⟨h1,h2⟩:=J.bd hb;have:=J.ic (h id b h1)
 rwa [h2] at this
theorem iX.mono {H H' :J} {φ :ag} {L0 L1:J} {aE φ1:ag} {a x:AV} (hl:bL H H') (bp: ∀id b,L0.get id=some b→L1.get id=some b) (cd: ∀id loc,aE id=some loc→ φ1 id=some loc)
 (h:iX H' (aF φ H') L0 aE a x):iX H φ L1 φ1 a x:=by
 obtain ⟨k,kv,bk,h1,h2,⟨loc,mv⟩,h3,h4⟩:=h;refine ⟨k,kv,bk,h1,qB bp h2,⟨loc,cd _ _ mv⟩,h3,fun id ad hr=> ?_⟩;obtain ⟨b,c,b0,q1,q2,q3,q4,q5⟩:=h4 id ad hr;exact ⟨b,c,b0,J.tQ hl q1,q2,q3,(dD q4).1,cd _ _ q5⟩
theorem cm.mono {H H' :J} {φ :ag} {L0 L1:J} {aE φ1:ag} (hl:bL H H') (bp: ∀id b,L0.get id=some b→L1.get id=some b) (cd: ∀id loc,aE id=some loc→ φ1 id=some loc):
 ∀{ms:List Mode} {as xs:List AV},cm H' (aF φ H') L0 aE ms as xs→cm H φ L1 φ1 ms as xs
 |[],_,_,_=>by simp [cm]
 | .io::ms,a::as,x::xs,h=>by
  simp only [cm] at h⊢;exact ⟨h.1.mono hl bp cd,cm.mono hl bp cd h.2⟩
 | .val::ms,a::as,x::xs,h=>by
  simp only [cm] at h⊢;exact cm.mono hl bp cd h
 | .fH::ms,a::as,x::xs,h=>by
  simp only [cm] at h⊢;exact cm.mono hl bp cd h
 |m::ms,[],_,_=>by cases m<;>simp [cm]
 |m::ms,_::_,[],_=>by cases m<;>simp [cm]
section bI
variable {w:World} {A:aj}
theorem qC {H:J} {φ :ag} {L:J} {φL:ag} (hd:cb w H φ A L φL A) (sz:Nat) {a:AV} {u:Value} (hv: ∃p cap,u= .slice p 0 cap) (hr:er a=none):
 ∃ φ1,cq w H φ A L φL A H (L.new sz true []) φ1∧R w (L.new sz true []) φ1 A (.ref L.bs.length L.st 0 0) u∧iX H φ (L.new sz true []) φ1 a (.ref L.bs.length L.st 0 0):=by
 obtain ⟨p,cap,rfl⟩:=hv;have m:=newAt (cq.refl hd) (sz:=sz) (fx:=true) (el:=[]) (loc:= .aP) (by simp) (fun _=>rfl) (by simp)
 have hg:=J.eB L sz true [];refine ⟨_,m,.ref _ _ _ _ _ (Nat.lt_succ_self _) ⟨_,_,rfl⟩ fun b hb=> ?_,_,_,_,rfl,J.ic hg,⟨.aP,by simp⟩,fun _=>rfl,fun id ad h=>by rw [hr] at h;simp at h⟩
 have:=lp hg hb;subst this;exact ⟨.aP,p,cap,by simp,rfl,by simp,Nat.zero_le _,by simp,rfl,fun h=>by simp at h⟩
theorem AX {H:J} {φ :ag} {L:J} {φL:ag} (hd:cb w H φ A L φL A) {sh:List Sh} {a:AV} {u:Value} (ha:R w H φ A a u) {z:AV} {H1:J} (hz:fV .io sh a H=some (z,H1)):
 (∃sz xs φ1,z= .own sz xs∧cq w H φ A L φL A H1 ((aM xs L).2.new sz true (aM xs L).1) φ1∧
  R w ((aM xs L).2.new sz true (aM xs L).1) φ1 A (.ref (aM xs L).2.bs.length (aM xs L).2.st 0 (aM xs L).1.length) u∧
  iX H φ ((aM xs L).2.new sz true (aM xs L).1) φ1 a (.ref (aM xs L).2.bs.length (aM xs L).2.st 0 (aM xs L).1.length))∨
 (∃sz x φ1,z= .dQ sz x∧cq w H φ A L φL A H1 (aL z L).2 φ1∧R w (aL z L).2 φ1 A (aL z L).1 u∧iX H φ (aL z L).2 φ1 a (aL z L).1):=by
 cases a with
 |nil=>
  simp only [fV,Option.some.injEq,Prod.mk.injEq] at hz;obtain ⟨rfl,rfl⟩:=hz;obtain ⟨φ1,h1,h2,h3⟩:=qC hd (ju sh).length (a:= .nil) ⟨none,0,ha.du⟩ rfl;exact .inl ⟨_,_,φ1,rfl,h1,h2,h3⟩
 |e0=>
  simp only [fV,Option.some.injEq,Prod.mk.injEq] at hz;obtain ⟨rfl,rfl⟩:=hz;obtain ⟨a0,mo⟩:=ha.fc;obtain ⟨φ1,h1,h2,h3⟩:=qC hd (ju sh).length (a:= .e0) ⟨a0,0,mo⟩ rfl;exact .inl ⟨_,_,φ1,rfl,h1,h2,h3⟩
 |ref id ad off len=>
  simp only [fV] at hz;split at hz
  ·rename_i b hb;obtain ⟨bN,_,hr⟩:=ha.dC;obtain ⟨loc,a0,cap,q1,rfl,q3,q4,q5,q6⟩:=(hr b hb).out;split at hz
   ·rename_i cL;subst cL;simp only [Option.some.injEq,Prod.mk.injEq] at hz;obtain ⟨rfl,rfl⟩:=hz;obtain ⟨φ1,h1,h2,h3⟩:=qC hd (ju sh).length (a:= .ref id ad off 0) ⟨a0,cap,rfl⟩ (by simp [er])
    exact .inl ⟨_,_,φ1,rfl,h1,h2,h3⟩
   ·rename_i cL;split at hz
    ·rename_i AY;obtain ⟨rfl,hlen⟩:=AY;obtain ⟨e,rfl,ht⟩:=kj (by simp) hz
     cases e with
     |sc=>simp [aT,dT] at ht
     |pt es=>simp [aT] at ht
     |sl es=>
      simp only [aT,hb] at ht;split at ht
      ·rename_i hc;obtain ⟨c1,c2,c3⟩:=hc;split at ht
       ·rename_i ys L' hm
        simp only [Option.some.injEq,Prod.mk.injEq] at ht;obtain ⟨rfl,rfl⟩:=ht;left;have hg:=(J.bd hb).1;obtain ⟨bk,a_,af⟩:=hd.sl.ap id _ q1;rw [hg] at a_;simp only [Option.some.injEq] at a_;subst a_;have dl:=bL.del H id;have cf:cb w (H.del id) (aF φ (H.del id)) A L φL A:=⟨eE hd.sl dl,hd.sh,fun c hc=>hd.ck c (bO hc),fun c hc=>hd.fh c (bO hc)⟩
        have bH:aB b.el 0 len=b.el:=by simp [aB,hlen]
        rw [bH] at hm;cases loc with
        |aP=>have:=af.aP rfl;rw [this] at hlen;simp at hlen;omega
        |at_ c b0=>
        simp only at q6;rcases q6 with q6|⟨h1,h2⟩
        ·omega
        obtain ⟨arr,T,fr,k1,k2,k3,k4⟩:=af.here c b0 rfl
        let g:Nat→Nat→Value:=fun i j=>arr.getD (b0+i*b.sz+j) undef
        have b8: ∀(i:Nat) (x:AV) (j:Nat) (y:AV),b.el[i]? =some x→x.cells[j]? =some y→R w (H.del id) (aF φ (H.del id)) A y (g i j):=by
         intro i x j y hi hj;have d_:j<b.sz:=by rw [←af.sized _ _ hi];exact (List.getElem?_eq_some_iff.1 hj).1
         have hle:=c9 (n:=b.sz) (List.getElem?_eq_some_iff.1 hi).1;have az:b0+i*b.sz+j<arr.size:=by omega
         have:g i j=arr[b0+i*b.sz+j]:=by
          simp only [g,Array.getD_eq_getD_getElem?,Array.getElem?_eq_getElem az,Option.getD_some]
         rw [this];exact ((k4 _ _ _ _ _ hi hj (Array.getElem?_eq_getElem az)).1).mono (dj dl)
        obtain ⟨φ1,m,l1,s1,r1⟩:=qj (w:=w) (es:=es) (fun x vs L φL AL H φ AH y L1 a H1=>nM es x vs L φL AL H φ AH y L1 a H1) _ g _ _ _ _ _ _ _ _ _ _ cf b8 hm rfl (.inl fun _ h=>h)
        have mq: ∀(i:Nat) (a:AV),(aM ys L).1[i]? =some a→a.cells.length=b.sz:=by
         intro i a ha;have cy:i<b.el.length:=by rw [←l1];exact (List.getElem?_eq_some_iff.1 ha).1
         have jG:=List.getElem?_eq_getElem cy;rw [s1 i _ a jG ha];exact af.sized _ _ jG
        have M:=nK (off:=0) (n:=len) hd hb c2 rfl q1 (fun c' qt arr' T' dW hl hh i j v hi hj hv=>by
         simp only [Loc.at_.injEq] at hl;obtain ⟨rfl,rfl⟩:=hl;rw [k1] at hh;simp only [Option.some.injEq,Obj.cells.injEq] at hh;obtain ⟨rfl,_,_⟩:=hh;simp only [Nat.zero_add] at hv;simp only [g,Array.getD_eq_getD_getElem?,hv,Option.getD_some]) m (by rw [l1,hlen]) mq r1 true (.at_ c b0) (.inr ⟨c,b0,rfl,by simp⟩)
        rw [c1] at M;have nR:=J.eB (aM ys L).2 es.length true (aM ys L).1;refine ⟨_,_,_,rfl,M,?_,_,_,_,rfl,J.ic nR,⟨.at_ c b0,by simp⟩,fun h=>by simp [er,cL] at h,fun e8 fD h=> ?_⟩
        ·refine .ref _ _ _ _ _ (Nat.lt_succ_self _) ⟨a0,cap,by rw [l1,hlen]⟩ fun b' au=> ?_
         have:=lp nR au;subst this;refine ⟨.at_ c b0,a0,cap,by simp,by rw [l1,hlen],by simp,by omega,by simp only;omega,?_⟩
         refine Or.inr ⟨by rw [h1];simp,?_⟩
         rw [c1] at h2;simpa using h2
        ·simp only [er,cL,if_false,Option.some.injEq,Prod.mk.injEq] at h;obtain ⟨rfl,rfl⟩:=h;exact ⟨b,c,b0,hb,c1.symm,l1,q1,by simp⟩
       ·simp at ht
      ·simp at ht
    ·simp at hz
  ·simp at hz
 |ptr id ad idx off=>
  simp only [fV] at hz;obtain ⟨e,rfl,ht⟩:=kj (by simp) hz
  cases e with
  |sc=>simp [aT,dT] at ht
  |sl es=>simp [aT] at ht
  |pt es=>
   rcases idx with _|idx
   rotate_left
   ·simp [aT] at ht
   rcases off with _|off
   rotate_left
   ·simp [aT] at ht
   simp only [aT] at ht;split at ht
   ·rename_i qp sz qq z' hb
    split at ht
    ·rename_i y' L' hm
     simp only [Option.some.injEq,Prod.mk.injEq] at ht;obtain ⟨rfl,rfl⟩:=ht;right;have hg:=(J.bd hb).1;obtain ⟨bN,_,hr⟩:=ha.gf;obtain ⟨c,b0,q1,rfl⟩:=hr _ hb;obtain ⟨bk,a_,af⟩:=hd.sl.ap id _ q1;rw [hg] at a_;simp only [Option.some.injEq] at a_;subst a_;obtain ⟨arr,T,fr,k1,k2,k3,k4⟩:=af.here c b0 rfl;have dl:=bL.del H id;have cf:cb w (H.del id) (aF φ (H.del id)) A L φL A:=⟨eE hd.sl dl,hd.sh,fun c hc=>hd.ck c (bO hc),fun c hc=>hd.fh c (bO hc)⟩
     have cK:z'.cells.length=sz:=af.sized 0 z' rfl
     simp only [List.length_singleton,Nat.one_mul] at k3
     let vs:List Value:=(arr.extract b0 (b0+sz)).toList
     have di:vs.length=sz:=by simp [vs];omega
     have gR: ∀j u,vs[j]? =some u→arr[b0+j]? =some u:=by
      intro j u hu;simp only [vs,Array.getElem?_toList,Array.getElem?_extract] at hu;split at hu
      ·exact hu
      ·simp at hu
     obtain ⟨φ1,m,l1,r1⟩:=nM es z' vs _ _ _ _ _ _ _ _ _ _ cf (by rw [di,cK]) (fun j c' u hj hu=>((k4 0 z' j c' u rfl hj (by simpa using gR j u hu)).1).mono (dj dl)) hm rfl (.inl fun _ h=>h)
     have M:=nK (as:=[(aL y' L).1]) (n:=1) (off:=0) (sz:=sz) (loc' := .at_ c b0) (g:=fun i j=>vs.getD j undef) hd hb (by simp) rfl q1 (fun c' qt arr' T' dW hl hh i j v hi hj hv=>by
      simp only [Loc.at_.injEq] at hl;obtain ⟨rfl,rfl⟩:=hl;rw [k1] at hh;simp only [Option.some.injEq,Obj.cells.injEq] at hh;obtain ⟨rfl,_,_⟩:=hh;have kg:i=0:=by omega
      subst kg;simp only [Nat.zero_mul,Nat.add_zero] at hv;have:vs[j]? =some v:=by
       simp only [vs,Array.getElem?_toList,Array.getElem?_extract];rw [if_pos (by omega)];exact hv
      simp [List.getD,this]) m rfl (fun i a ha=>by
      cases i with
      |zero=>simp at ha;subst ha;rw [l1,cK]
      |succ i=>simp at ha) (fun i a j c' ha hc=>by
      cases i with
      |zero=>
       simp at ha;subst ha;have hj:j<vs.length:=by rw [di,←cK,←l1];exact (List.getElem?_eq_some_iff.1 hc).1
       have:=r1 j c' vs[j] hc (List.getElem?_eq_getElem hj)
       simpa [List.getD,hj] using this
      |succ i=>simp at ha) false (.inr ⟨c,b0,rfl,by simp⟩)
     have nR:=J.eB (aL y' L).2 sz false [(aL y' L).1]
     refine ⟨_,_,_,rfl,M,?_,_,_,_,rfl,J.ic nR,⟨.at_ c b0,by simp⟩,fun h=>by simp [er] at h,fun e8 fD h=> ?_⟩
     ·refine .ptr _ _ _ _ _ (Nat.lt_succ_self _) ⟨_,rfl⟩ fun b' au=>⟨c,b0,by simp,?_⟩
      simp
     ·simp only [er,Option.some.injEq,Prod.mk.injEq] at h;obtain ⟨rfl,rfl⟩:=h;exact ⟨_,c,b0,hb,rfl,rfl,q1,by simp⟩
    ·simp at ht
   ·simp at ht
 |_=>simp [fV] at hz
end bI
end Go.VS
