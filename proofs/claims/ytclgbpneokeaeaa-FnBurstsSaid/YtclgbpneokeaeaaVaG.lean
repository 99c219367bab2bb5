import Derived.Test.YtclgbpneokeaeaaVaE
import Derived.Shelf.SlSortCmp.InsertionK
import Derived.Sort.AssemblyPlain
import Derived.Below
import Derived.Lib.Repeat
import Derived.Lib.SlicesCompact
namespace Go.VS
open Go.Sort Go.Proofs
def j7 (sz:Nat) (z:List Int):Prop:=z.length=sz∧ -2305843009213693952≤z.headD 0∧z.headD 0≤2305843009213693952
instance (sz:Nat) (z:List Int):Decidable (j7 sz z):=by unfold j7;infer_instance
abbrev ZR (sz:Nat):={z:List Int // j7 sz z}
theorem AQ (sz:Nat):j7 sz (List.replicate sz 0):=by
 refine ⟨by simp,?_⟩
 cases sz<;>simp [List.replicate]
instance (sz:Nat):Inhabited (ZR sz):=⟨⟨List.replicate sz 0,AQ sz⟩⟩
def gy {sz:Nat} (x:ZR sz):List Value:=x.1.map (Value.int .i64)
def nj {sz:Nat} (x:ZR sz):Int:=x.1.headD 0
def j8 {sz:Nat} (x y:ZR sz):Int:=nj x-nj y
theorem pV {sz:Nat} (x y:ZR sz):ltOf j8 x y=decide (nj x<nj y):=by
 unfold ltOf j8;rw [Bool.eq_iff_iff,decide_eq_true_eq,decide_eq_true_eq];omega
theorem AR (sz:Nat):SWO (ltOf (j8 (sz:=sz))) where
 irrefl x:=by rw [pV];simp
 trans x y z h1 h2:=by rw [pV] at*;simp at*;omega
 ntrans x y z h1 h2:=by rw [pV] at*;simp at*;omega
def iK {sz:Nat} (d:Array (ZR sz)):Array (ZR sz):=pdq (ltOf j8) d 0 d.size (Lib.bitLen d.size) true true
theorem AS {sz:Nat} (d:Array (ZR sz)):PermIn 0 d.size d (iK d)∧SortedIn (ltOf j8) 0 d.size (iK d):=
 pdq_sorts (ltOf j8) (AR sz) d 0 d.size (Lib.bitLen d.size) true true (Nat.zero_le _) (Nat.le_refl _) (Or.inl rfl)
def eC {sz:Nat} (z:ZR sz):AV:= .agg (z.1.map (AV.int .i64))
structure pW (P:Program) (f g:FuncId) (sz:Nat):Prop where
 can:gi P f
 eq: ∀(ap off cap:Nat) (d:Array (ZR sz)) (w:World),HoldsK gy sz w ap off d→ap<w.heap.size→d.size<4611686018427387904→
  Calls P f #[.slice (some ⟨ap,off,none⟩) d.size cap,.func (.func g) #[] #[]] w fun e w' =>e= .returned (.tuple #[])∧ ∃n os,w' =sortWorldK gy sz w ap off n (iK d) os
 none: ∀(p:Option Addr) (cap:Nat) (fv:Value) (w:World),Calls P f #[.slice p 0 cap,fv] w fun e w' =>e= .returned (.tuple #[])∧w' =w
theorem wA {w:World} {G:J} {φ :af} {A:ah} (ae:St w G φ A) (os:Array Obj):Out w G φ A (grow w os) G φ A:=by
 have old: ∀c,c<w.heap.size→(grow w os).heap[c]? =w.heap[c]? :=fun c hc=>by
  show (w.heap ++ os)[c]? =_;rw [Array.getElem?_append_left hc]
 have aP:bF w G φ A (grow w os) G φ A:=⟨fun c a t fr hc hn=>⟨⟨fr,by rw [old c (dO hc)];exact hc⟩,hn⟩,Nat.le_refl _,
  fun i b' aw _=>⟨b',aw,rfl,rfl,rfl,rfl,fun loc hl=>hl⟩,fun c hc=>by unfold aY;rw [old c (Ow.lt ae hc)]⟩
 have az:w.heap.size≤(grow w os).heap.size:=by show _≤(w.heap ++ os).size;simp
 refine ⟨⟨ae.inj,ae.own,fun c hc=>Nat.lt_of_lt_of_le (ae.bV c hc) az,fun i loc hl=> ?_⟩,
  ⟨rfl,rfl,rfl,az,fun c hc _=>old c hc,fun c hc=>by unfold aY;rw [old c hc],fun c hc=> .inl hc⟩,aP,fun c hc _=>hc⟩
 obtain ⟨b',cy,aw⟩:=ae.ap i loc hl;refine ⟨b',cy,aw.ad,aw.sized,aw.aN,fun c b0 h=> ?_⟩;obtain ⟨a,t,fr,h1,h2,h3,h4⟩:=aw.here c b0 h;exact ⟨a,t,fr,by rw [old c (dO h1)];exact h1,h2,h3,fun i x j y v hx hy hv=>⟨(h4 i x j y v hx hy hv).1.mono aP,(h4 i x j y v hx hy hv).2⟩⟩
theorem wB {w:World} {G:J} {φ :af} {A:ah} (ae:St w G φ A) (n:Nat):Out w G φ A (Sort.ahead w n) G φ A:=by
 have aP:bF w G φ A (Sort.ahead w n) G φ A:=⟨fun c arr T fr hc hn=>⟨⟨fr,hc⟩,hn⟩,Nat.le_refl _,fun id b h _=>⟨b,h,rfl,rfl,rfl,rfl,fun _ h=>h⟩,fun _ _=>rfl⟩;have jl:St (Sort.ahead w n) G φ A:=by
  refine ⟨ae.inj,ae.own,ae.bV,fun id loc hl=> ?_⟩;obtain ⟨b,hb,ag⟩:=ae.ap id loc hl;refine ⟨b,hb,ag.ad,ag.sized,ag.aN,fun c b0 he=> ?_⟩;obtain ⟨arr,T,fr,k1,k2,k3,k4⟩:=ag.here c b0 he;exact ⟨arr,T,fr,k1,k2,k3,fun i x j y v hx hy hv=>⟨(k4 i x j y v hx hy hv).1.mono aP,(k4 i x j y v hx hy hv).2⟩⟩
 exact ⟨jl,⟨rfl,rfl,rfl,Nat.le_refl _,fun _ _ _=>rfl,fun _ _=>rfl,fun _ h=> .inl h⟩,aP,fun _ h _=>h⟩
theorem wC {w:World} {c:Nat} {arr:Array Value} {T:TypeId} {fr:Nat×Nat} (h:w.heap[c]? =some (.cells arr T fr)) (f:Array Value→Array Value):iv w c (.cells (f arr) T fr) (mapBlock w c f):=by
 refine ⟨?_,fun k hk=> ?_,by show (w.heap.modify c (onCells f)).size=_;simp,rfl,rfl,rfl⟩
 ·show (w.heap.modify c (onCells f))[c]? =_;rw [Array.getElem?_modify,if_pos rfl,h];rfl
 ·show (w.heap.modify c (onCells f))[k]? =_;rw [Array.getElem?_modify,if_neg (fun e=>hk e.symm)]
theorem wD {sz:Nat} (x:ZR sz) (r:Nat) (h:r<sz):(gy x)[r]! = .int .i64 (x.1[r]'(by rw [x.2.1];exact h)):=by
 have hl:r<(gy x).length:=by unfold gy;rw [List.length_map,x.2.1];exact h
 rw [getElem!_pos _ r hl];simp [gy]
theorem pX {sz:Nat} (x:ZR sz):(eC x).cells=x.1.map (AV.int .i64):=rfl
theorem pY {sz:Nat} (x:ZR sz):(eC x).cells.length=sz:=by rw [pX,List.length_map,x.2.1]
theorem AT {sz:Nat} (x:ZR sz) {j:Nat} {y:AV} (h:(eC x).cells[j]? =some y): ∃hj:j<sz,y= .int .i64 (x.1[j]'(by rw [x.2.1];exact hj)):=by
 have hj:j<sz:=by rw [←pY x];exact (List.getElem?_eq_some_iff.1 h).1
 refine ⟨hj,?_⟩;rw [pX,List.getElem?_map,List.getElem?_eq_getElem (by rw [x.2.1];exact hj)] at h
 simpa using h.symm
theorem wE {sz q r:Nat} (h:r<sz):(q*sz+r)/sz=q∧(q*sz+r) % sz=r:=by
 constructor
 ·rw [Nat.mul_comm,Nat.mul_add_div (by omega),Nat.div_eq_of_lt h,Nat.add_zero]
 ·rw [Nat.mul_comm,Nat.mul_add_mod,Nat.mod_eq_of_lt h]
theorem wF {q n sz r:Nat} (hq:q<n) (hr:r<sz):q*sz+r<n*sz:=by
 have:=Nat.mul_le_mul_right sz (show q+1≤n from hq);rw [Nat.add_mul,Nat.one_mul] at this;omega
theorem AU {P:Program} {f g:FuncId} {sz:Nat} (hs:pW P f g sz) {H:J} {id ad off:Nat} {b:bw} {zs:List (ZR sz)} (hb:H.ap id ad=some b) (az:b.sz=sz) (h0:0<zs.length) (hz:0<sz) (hle:off+zs.length≤b.el.length) (bO:aD b.el off zs.length=zs.map eC) (hlen:zs.length<1152921504606846976):
 b_ P f [.ref id ad off zs.length,.fn g []] H (fun v1 H1=>v1= .ay []∧H1=H.aZ id {b with el:=splice b.el off ((iK zs.toArray).toList.map eC)}):=by
 refine ⟨hs.can,fun w A φ us ae hl cr=> ?_⟩;obtain ⟨u0,u1,rfl⟩: ∃u0 u1,us= #[u0,u1]:=by
  match us,hl with
  |⟨[u0,u1]⟩,_=>exact ⟨u0,u1,rfl⟩
 have hx:R w H φ A (.ref id ad off zs.length) u0:=cr 0 _ _ rfl rfl;have hf:R w H φ A (.fn g []) u1:=cr 1 _ _ rfl rfl;obtain rfl:u1= .func (.func g) #[] #[]:=by
  cases hf with
  |fr _ _ h=>cases h with|fn _ _ vs h2 _=>rw [Array.eq_empty_of_size_eq_zero (show vs.size=0 from h2.symm)]
  |fn _ _ vs h2 _=>rw [Array.eq_empty_of_size_eq_zero (show vs.size=0 from h2.symm)]
 obtain ⟨c,b0,cap,aU,rfl,k1,k2,k3,k4⟩:=lJ hx hb h0;have hg:=(J.bp hb).1;obtain ⟨b',aw,ag⟩:=ae.ap id _ aU;rw [hg] at aw;simp only [Option.some.injEq] at aw;subst aw;obtain ⟨arr,T,fr,m1,m2,m3,m4⟩:=ag.here c b0 rfl;rw [az] at m3 m4⊢;have bz: ∀i (hi:i<zs.length),b.el[off+i]? =some (eC zs[i]):=fun i hi=>by
  have:=congrArg (fun l=>l[i]?) bO;simp only [aD,List.getElem?_map,List.getElem?_eq_getElem hi,Option.map_some] at this;rw [List.getElem?_take_of_lt hi,List.getElem?_drop] at this;exact this
 have ko: ∀i r,b0+(off+i)*sz+r=b0+off*sz+(i*sz+r):=fun i r=>by rw [Nat.add_mul];omega
 have lQ:(off+zs.length)*sz≤b.el.length*sz:=Nat.mul_le_mul_right sz hle;have Df:(off+zs.length)*sz=off*sz+zs.length*sz:=Nat.add_mul ..;have hH:HoldsK gy sz w c (b0+off*sz) zs.toArray:=by
  intro t ht;rw [size_flatK] at ht;have ct:t<zs.length*sz:=by simpa using ht
  have hq:t/sz<zs.length:=Nat.div_lt_of_lt_mul (by rw [Nat.mul_comm];exact ct)
  have hr:t % sz<sz:=Nat.mod_lt _ hz;have lO:t/sz*sz+t % sz=t:=by rw [Nat.mul_comm];exact Nat.div_add_mod t sz
  have ax:b0+off*sz+t<arr.size:=by omega
  have hv:=Array.getElem?_eq_getElem ax;have hc:(eC zs[t/sz]).cells[t % sz]? =some (.int .i64 ((zs[t/sz]).1[t % sz]'(by rw [(zs[t/sz]).2.1];exact hr))):=by
   rw [pX,List.getElem?_map,List.getElem?_eq_getElem (by rw [(zs[t/sz]).2.1];exact hr)];rfl
  have hR:=(m4 (off+t/sz) _ (t % sz) _ _ (bz _ hq) hc (by rw [ko,lO];exact hv)).1.cg
  refine ⟨?_,?_⟩
  ·unfold World.cell?;simp only [m1,Option.isSome_none,Bool.false_eq_true,if_false];rw [hv,hR,get_flatK _ _ _ _ ht];have e1:zs.toArray[t/sz]! =zs[t/sz]:=by rw [getElem!_pos _ _ (by simpa using hq)];simp
   rw [e1,wD _ _ hr];rfl
  ·unfold World.frozen?;simp only [m1];have:=m2 _ ax;obtain ⟨lo,hi⟩:=fr;simp only at this⊢;rw [Bool.and_eq_false_iff,decide_eq_false_iff_not,decide_eq_false_iff_not];omega
 have wG:=hs.eq c (b0+off*sz) cap zs.toArray w hH (dO m1) (by simpa using (show zs.length<4611686018427387904 by omega))
 rw [show zs.toArray.size=zs.length from by simp] at wG
 refine wG.mono fun e w' he=> ?_
 obtain ⟨rfl,n,os,rfl⟩:=he;have AW:=(AS zs.toArray).1.1;have ej:(iK zs.toArray).size=zs.length:=by rw [AW];simp
 generalize iK zs.toArray=d' at ej⊢
 have gn:(splice b.el off (d'.toList.map eC)).length=b.el.length:=by
  unfold splice;simp only [List.length_append,List.length_take,List.length_drop,List.length_map,Array.length_toList,ej];omega
 have bm: ∀i x,(splice b.el off (d'.toList.map eC))[i]? =some x→(i<off∧b.el[i]? =some x)∨(∃q,∃hq:q<zs.length,i=off+q∧x=eC (d'[q]'(by omega)))∨(off+zs.length≤i∧b.el[i]? =some x):=fun i x hx=>by
  unfold splice at hx;rw [List.append_assoc] at hx;by_cases h1:i<off
  ·rw [List.getElem?_append_left (by simp;omega),List.getElem?_take_of_lt h1] at hx
   exact .inl ⟨h1,hx⟩
  ·rw [List.getElem?_append_right (by simp;omega)] at hx
   have e1:(b.el.take off).length=off:=by simp;omega
   rw [e1] at hx;by_cases h2:i-off<zs.length
   ·rw [List.getElem?_append_left (by simp [ej];omega),List.getElem?_map] at hx
    refine .inr (.inl ⟨i-off,h2,by omega,?_⟩)
    rw [List.getElem?_eq_getElem (by simp [ej];omega)] at hx
    simpa using hx.symm
   ·rw [List.getElem?_append_right (by simp [ej];omega),List.getElem?_drop] at hx
    refine .inr (.inr ⟨by omega,?_⟩)
    rw [←hx];congr 1;simp [ej];omega
 have o1:=wB ae n;have pZ:iv (Sort.ahead w n) c (.cells (putCells _root_.id (b0+off*sz) (flatK gy sz d') arr) T fr) (putRowK gy sz (Sort.ahead w n) c (b0+off*sz) d'):=wC (w:=Sort.ahead w n) m1 _;have ly: ∀(i:Nat) (x:AV) (j:Nat) (y:AV) (v:Value),b.el[i]? =some x→x.cells[j]? =some y→arr[b0+i*sz+j]? =some v→R (Sort.ahead w n) H φ A y v∧v.oneCell' =true:=fun i x j y v h1 h2 h3=>
  ⟨(m4 i x j y v h1 h2 h3).1.mono o1.bM,(m4 i x j y v h1 h2 h3).2⟩
 have ia: ∀(i:Nat) (x:AV),b.el[i]? =some x→x.cells.length=sz:=fun i x hx=>by rw [ag.sized i x hx,az]
 have o2:Out (Sort.ahead w n) H φ A (putRowK gy sz (Sort.ahead w n) c (b0+off*sz) d') (H.aZ id {b with el:=splice b.el off (d'.toList.map eC)}) φ A:=by
  refine lW (b' :={b with el:=splice b.el off (d'.toList.map eC)}) o1.st hg aU rfl rfl rfl gn m1 pZ (by unfold putCells;simp) (fun i x hx=> ?_) (fun i x j y v hx hy hv=> ?_)
  ·rw [az];rcases bm i x hx with ⟨_,h⟩|⟨q,hq,_,rfl⟩|⟨_,h⟩
   ·exact ia i x h
   ·exact pY _
   ·exact ia i x h
  ·simp only [az] at hv;unfold putCells at hv;rw [Array.getElem?_mapIdx,size_flatK,ej] at hv;have hj:j<sz:=by
    have h1:=(List.getElem?_eq_some_iff.1 hy).1;rcases bm i x hx with ⟨_,h⟩|⟨q,hq,_,rfl⟩|⟨_,h⟩
    ·rw [ia i x h] at h1;exact h1
    ·rw [pY] at h1;exact h1
    ·rw [ia i x h] at h1;exact h1
   rcases bm i x hx with ⟨h1,h⟩|⟨q,hq,rfl,rfl⟩|⟨h1,h⟩
   ·have:=wF (sz:=sz) h1 hj;cases ha:arr[b0+i*sz+j]? with
    |none=>rw [ha] at hv;simp at hv
    |some u=>rw [ha] at hv;simp only [Option.map_some,Option.some.injEq] at hv;rw [if_neg (by omega)] at hv;subst hv;exact ly i x j y u h hy ha
   ·have hr:=wF (sz:=sz) hq hj;obtain ⟨u6,rfl⟩:=AT _ hy;rw [ko] at hv;cases ha:arr[b0+off*sz+(q*sz+j)]? with
    |none=>rw [ha] at hv;simp at hv
    |some u=>
     rw [ha] at hv;simp only [Option.map_some,Option.some.injEq,_root_.id] at hv;rw [if_pos (by omega),show b0+off*sz+(q*sz+j)-(b0+off*sz)=q*sz+j by omega,get_flatK _ _ _ _ (by rw [ej];exact hr),(wE hj).1,(wE hj).2,getElem!_pos d' q (by omega),wD _ _ hj] at hv
     subst hv;exact ⟨.fr _ _ (.int _ _),rfl⟩
   ·have:(off+zs.length)*sz≤i*sz:=Nat.mul_le_mul_right sz h1;cases ha:arr[b0+i*sz+j]? with
    |none=>rw [ha] at hv;simp at hv
    |some u=>rw [ha] at hv;simp only [Option.map_some,Option.some.injEq] at hv;rw [if_neg (by omega)] at hv;subst hv;exact ly i x j y u h hy ha
 have o3:=wA o2.st os;exact ⟨.ay [],_,φ,A,(o1.trans ae o2).trans ae o3,.fr _ _ (.ay [] #[] rfl (by simp)),rfl,by rw [az]⟩
theorem AX {P:Program} {f g:FuncId} {sz:Nat} (hs:pW P f g sz) {H:J} {v:AV} (hv:v= .nil∨v= .e0∨ ∃id ad off,v= .ref id ad off 0):b_ P f [v,.fn g []] H (fun v1 H1=>v1= .ay []∧H1=H):=by
 refine ⟨hs.can,fun w A φ us ae hl cr=> ?_⟩;obtain ⟨u0,u1,rfl⟩: ∃u0 u1,us= #[u0,u1]:=by
  match us,hl with
  |⟨[u0,u1]⟩,_=>exact ⟨u0,u1,rfl⟩
 have hx:R w H φ A v u0:=cr 0 _ _ rfl rfl;obtain ⟨p,cap,rfl⟩: ∃p cap,u0= .slice p 0 cap:=by
  rcases hv with rfl|rfl|⟨id,ad,off,rfl⟩
  ·cases hx with|fr _ _ h=>cases h;exact ⟨_,_,rfl⟩
  ·cases hx with|fr _ _ h=>cases h;exact ⟨_,_,rfl⟩
  ·exact hx.c7.2.1
 refine (hs.none p cap u1 w).mono fun e w' he=> ?_
 obtain ⟨rfl,rfl⟩:=he;exact ⟨.ay [],H,φ,A,.refl ae,.fr _ _ (.ay [] #[] rfl (by simp)),rfl,rfl⟩
structure wH (P:Program) (f:FuncId):Prop where
 can:gi P f
 eq: ∀(s:ByteArray) (c:Nat) (w:World),c≤9223372036854775807→s.size*c≤140737488355328→Calls P f #[.string s,.int .i64 c] w fun e w' =>e= .returned (.string ⟨(Lib.repeatL s.data.toList c).toArray⟩)∧Go.RowKit.Below w.heap.size w w'
theorem AY {w w' :World} {G:J} {φ :af} {A:ah} (ae:St w G φ A) (hb:Go.RowKit.Below w.heap.size w w'):Out w G φ A w' G φ A:=by
 have old: ∀c,c<w.heap.size→w'.heap[c]? =w.heap[c]? :=hb.block;have aP:bF w G φ A w' G φ A:=⟨fun c a t fr hc hn=>⟨⟨fr,by rw [old c (dO hc)];exact hc⟩,hn⟩,Nat.le_refl _,
  fun i b' aw _=>⟨b',aw,rfl,rfl,rfl,rfl,fun loc hl=>hl⟩,fun c hc=>by unfold aY;rw [old c (Ow.lt ae hc)]⟩
 refine ⟨⟨ae.inj,ae.own,fun c hc=>Nat.lt_of_lt_of_le (ae.bV c hc) hb.size,fun i loc hl=> ?_⟩,
  ⟨hb.os,hb.tape,hb.output,hb.size,fun c hc _=>old c hc,fun c hc=>by unfold aY;rw [old c hc],fun c hc=> .inl hc⟩,aP,fun c hc _=>hc⟩
 obtain ⟨b',cy,aw⟩:=ae.ap i loc hl;refine ⟨b',cy,aw.ad,aw.sized,aw.aN,fun c b0 h=> ?_⟩;obtain ⟨a,t,fr,h1,h2,h3,h4⟩:=aw.here c b0 h;exact ⟨a,t,fr,by rw [old c (dO h1)];exact h1,h2,h3,fun i x j y v hx hy hv=>⟨(h4 i x j y v hx hy hv).1.mono aP,(h4 i x j y v hx hy hv).2⟩⟩
theorem AZ {P:Program} {f:FuncId} (hs:wH P f) {H:J} {l:List UInt8} {c:Nat} (hc:c≤9223372036854775807) (hl:l.length*c≤140737488355328):b_ P f [.str l,.int .i64 c] H (fun v1 H1=>v1= .str (Lib.repeatL l c)∧H1=H):=by
 refine ⟨hs.can,fun w A φ us ae hlen cr=> ?_⟩;obtain ⟨u0,u1,rfl⟩: ∃u0 u1,us= #[u0,u1]:=by
  match us,hlen with
  |⟨[u0,u1]⟩,_=>exact ⟨u0,u1,rfl⟩
 have hx:R w H φ A (.str l) u0:=cr 0 _ _ rfl rfl;have hy:R w H φ A (.int .i64 c) u1:=cr 1 _ _ rfl rfl;obtain rfl:=hy.cg;obtain ⟨s,rfl,rfl⟩:=hx.et;refine (hs.eq s c w hc (by simpa [←Lib.size_eq] using hl)).mono fun e w' he=> ?_
 obtain ⟨rfl,hb⟩:=he;exact ⟨.str (Lib.repeatL s.data.toList c),H,φ,A,AY ae hb,.fr _ _ (by simpa using FR.str (w:=w') (A:=A) ⟨(Lib.repeatL s.data.toList c).toArray⟩),rfl,rfl⟩
structure p0 (P:Program) (f:FuncId):Prop where
 can:gi P f
 eq: ∀(ap off cap:Nat) (zs:List Int) (w:World),Holds (Value.int .i64) w ap off zs.toArray→ap<w.heap.size→zs.length<4611686018427387904→
  Calls P f #[.slice (some ⟨ap,off,none⟩) zs.length cap] w fun e w' =>e= .returned (.tuple #[])∧ ∃n os,w' =grow (putRow (Value.int .i64) (Sort.ahead w n) ap off (zs.mergeSort fun x y=>decide (x≤y)).toArray) os
 none: ∀(p:Option Addr) (cap:Nat) (w:World),Calls P f #[.slice p 0 cap] w fun e w' =>e= .returned (.tuple #[])∧w' =w
def fP (zs:List Int):List Int:=zs.mergeSort fun x y=>decide (x≤y)
theorem A7 (zs:List Int):(fP zs).Perm zs:=List.mergeSort_perm _ _
theorem p6 (zs:List Int):(fP zs).length=zs.length:=(A7 zs).length_eq
theorem A8 {w:World} {H:J} {φ :af} {A:ah} {id ad off n m cap:Nat} {a:Option Addr} (h:R w H φ A (.ref id ad off n) (.slice a n cap)) (hm:m≤n):R w H φ A (.ref id ad off m) (.slice a m cap):=by
 obtain ⟨h1,_,h3⟩:=h.c7;refine .ref id ad off m _ h1 ⟨_,_,rfl⟩ fun b hb=> ?_;obtain ⟨loc,a',eA,k1,k2,k3,k4,k5,k6⟩:=(h3 b hb).out;simp only [Value.slice.injEq,true_and] at k2;obtain ⟨rfl,rfl⟩:=k2;exact ⟨loc,_,_,k1,rfl,by omega,by omega,k5,k6⟩
theorem wI {w:World} {H:J} {φ :af} {A:ah} {id ad off:Nat} {b:bw} {zs:List Int} {u0:Value} (ae:St w H φ A) (hx:R w H φ A (.ref id ad off zs.length) u0) (hb:H.ap id ad=some b) (az:b.sz=1) (h0:0<zs.length) (hle:off+zs.length≤b.el.length) (bO:aD b.el off zs.length=zs.map (AV.int .i64)):
 ∃c o cap,u0= .slice (some ⟨c,o,none⟩) zs.length cap∧zs.length≤cap∧c<w.heap.size∧Holds (Value.int .i64) w c o zs.toArray∧
  ∀n (d' :List Int),d'.length=zs.length→Out w H φ A (putRow (Value.int .i64) (Sort.ahead w n) c o d'.toArray) (H.aZ id {b with el:=splice b.el off (d'.map (AV.int .i64))}) φ A:=by
 obtain ⟨c,b0,cap,aU,rfl,k1,k2,k3,k4⟩:=lJ hx hb h0;have hg:=(J.bp hb).1;obtain ⟨b',aw,ag⟩:=ae.ap id _ aU;rw [hg] at aw;simp only [Option.some.injEq] at aw;subst aw;obtain ⟨arr,T,fr,m1,m2,m3,m4⟩:=ag.here c b0 rfl;rw [az] at m3 m4⊢;have bz: ∀i (hi:i<zs.length),b.el[off+i]? =some (AV.int .i64 zs[i]):=fun i hi=>by
  have:=congrArg (fun l=>l[i]?) bO;simp only [aD,List.getElem?_map,List.getElem?_eq_getElem hi,Option.map_some] at this;rw [List.getElem?_take_of_lt hi,List.getElem?_drop] at this;exact this
 have hH:Holds (Value.int .i64) w c (b0+off*1) zs.toArray:=by
  intro t ht;have ct:t<zs.length:=by simpa using ht
  have ax:b0+off*1+t<arr.size:=by omega
  have hv:=Array.getElem?_eq_getElem ax;have hR:=(m4 (off+t) _ 0 (AV.int .i64 zs[t]) _ (bz _ ct) rfl (by rw [show b0+(off+t)*1+0=b0+off*1+t by omega];exact hv)).1.cg
  refine ⟨?_,?_⟩
  ·unfold World.cell?;simp only [m1,Option.isSome_none,Bool.false_eq_true,if_false];rw [hv,hR,getElem!_pos _ _ (by simpa using ct)]
   simp
  ·unfold World.frozen?;simp only [m1];have:=m2 _ ax;obtain ⟨lo,hi⟩:=fr;simp only at this⊢;rw [Bool.and_eq_false_iff,decide_eq_false_iff_not,decide_eq_false_iff_not];omega
 refine ⟨c,b0+off*1,cap,rfl,k2,dO m1,hH,fun n d' ej=> ?_⟩
 have gn:(splice b.el off (d'.map (AV.int .i64))).length=b.el.length:=by
  unfold splice;simp only [List.length_append,List.length_take,List.length_drop,List.length_map,ej];omega
 have bm: ∀i x,(splice b.el off (d'.map (AV.int .i64)))[i]? =some x→(i<off∧b.el[i]? =some x)∨(∃q,∃hq:q<zs.length,i=off+q∧x=AV.int .i64 (d'[q]'(by omega)))∨(off+zs.length≤i∧b.el[i]? =some x):=fun i x hx=>by
  unfold splice at hx;rw [List.append_assoc] at hx;by_cases h1:i<off
  ·rw [List.getElem?_append_left (by simp;omega),List.getElem?_take_of_lt h1] at hx
   exact .inl ⟨h1,hx⟩
  ·rw [List.getElem?_append_right (by simp;omega)] at hx
   have e1:(b.el.take off).length=off:=by simp;omega
   rw [e1] at hx;by_cases h2:i-off<zs.length
   ·rw [List.getElem?_append_left (by simp [ej];omega),List.getElem?_map] at hx
    refine .inr (.inl ⟨i-off,h2,by omega,?_⟩)
    rw [List.getElem?_eq_getElem (by omega)] at hx
    simpa using hx.symm
   ·rw [List.getElem?_append_right (by simp [ej];omega),List.getElem?_drop] at hx
    refine .inr (.inr ⟨by omega,?_⟩)
    rw [←hx];congr 1;simp [ej];omega
 have o1:=wB ae n;have pZ:iv (Sort.ahead w n) c (.cells (putCells (Value.int .i64) (b0+off*1) d'.toArray arr) T fr) (putRow (Value.int .i64) (Sort.ahead w n) c (b0+off*1) d'.toArray):=wC (w:=Sort.ahead w n) m1 _;have ly: ∀(i:Nat) (x:AV) (j:Nat) (y:AV) (v:Value),b.el[i]? =some x→x.cells[j]? =some y→arr[b0+i*1+j]? =some v→R (Sort.ahead w n) H φ A y v∧v.oneCell' =true:=fun i x j y v h1 h2 h3=>
  ⟨(m4 i x j y v h1 h2 h3).1.mono o1.bM,(m4 i x j y v h1 h2 h3).2⟩
 have ia: ∀(i:Nat) (x:AV),b.el[i]? =some x→x.cells.length=1:=fun i x hx=>by rw [ag.sized i x hx,az]
 have o2:Out (Sort.ahead w n) H φ A (putRow (Value.int .i64) (Sort.ahead w n) c (b0+off*1) d'.toArray) (H.aZ id {b with el:=splice b.el off (d'.map (AV.int .i64))}) φ A:=by
  refine lW (b' :={b with el:=splice b.el off (d'.map (AV.int .i64))}) o1.st hg aU rfl rfl rfl gn m1 pZ (by unfold putCells;simp) (fun i x hx=> ?_) (fun i x j y v hx hy hv=> ?_)
  ·rw [az];rcases bm i x hx with ⟨_,h⟩|⟨q,hq,_,rfl⟩|⟨_,h⟩
   ·exact ia i x h
   ·rfl
   ·exact ia i x h
  ·simp only [az] at hv;unfold putCells at hv;rw [Array.getElem?_mapIdx] at hv;have hj:j<1:=by
    have h1:=(List.getElem?_eq_some_iff.1 hy).1;rcases bm i x hx with ⟨_,h⟩|⟨q,hq,_,rfl⟩|⟨_,h⟩
    ·rw [ia i x h] at h1;exact h1
    ·exact h1
    ·rw [ia i x h] at h1;exact h1
   obtain rfl:j=0:=by omega
   rcases bm i x hx with ⟨h1,h⟩|⟨q,hq,rfl,rfl⟩|⟨h1,h⟩
   ·cases ha:arr[b0+i*1+0]? with
    |none=>rw [ha] at hv;simp at hv
    |some u=>rw [ha] at hv;simp only [Option.map_some,Option.some.injEq] at hv;rw [if_neg (by omega)] at hv;subst hv;exact ly i x 0 y u h hy ha
   ·obtain rfl:y=AV.int .i64 (d'[q]'(by omega)):=by
     have:(AV.int .i64 (d'[q]'(by omega))).cells[0]? =some (AV.int .i64 (d'[q]'(by omega))):=rfl
     rw [this] at hy;exact (Option.some.inj hy).symm
    cases ha:arr[b0+(off+q)*1+0]? with
    |none=>rw [ha] at hv;simp at hv
    |some u=>
     rw [ha] at hv;simp only [Option.map_some,Option.some.injEq] at hv;rw [if_pos (by simp [ej];omega),show b0+(off+q)*1+0-(b0+off*1)=q by omega,getElem!_pos _ q (by simp;omega)] at hv
     subst hv;simp only [List.getElem_toArray];exact ⟨.fr _ _ (.int _ _),rfl⟩
   ·cases ha:arr[b0+i*1+0]? with
    |none=>rw [ha] at hv;simp at hv
    |some u=>rw [ha] at hv;simp only [Option.map_some,Option.some.injEq] at hv;rw [if_neg (by simp [ej];omega)] at hv;subst hv;exact ly i x 0 y u h hy ha
 have o3:=o1.trans ae o2;rw [az] at o3;exact o3
theorem A9 {P:Program} {f:FuncId} (hs:p0 P f) {H:J} {id ad off:Nat} {b:bw} {zs:List Int} (hb:H.ap id ad=some b) (az:b.sz=1) (h0:0<zs.length) (hle:off+zs.length≤b.el.length) (bO:aD b.el off zs.length=zs.map (AV.int .i64)) (hlen:zs.length<1152921504606846976):
 b_ P f [.ref id ad off zs.length] H (fun v1 H1=>v1= .ay []∧H1=H.aZ id {b with el:=splice b.el off ((fP zs).map (AV.int .i64))}):=by
 refine ⟨hs.can,fun w A φ us ae hl cr=> ?_⟩;obtain ⟨u0,rfl⟩: ∃u0,us= #[u0]:=by
  match us,hl with
  |⟨[u0]⟩,_=>exact ⟨u0,rfl⟩
 have hx:R w H φ A (.ref id ad off zs.length) u0:=cr 0 _ _ rfl rfl;obtain ⟨c,o,cap,rfl,_,k3,k4,k5⟩:=wI ae hx hb az h0 hle bO;refine (hs.eq c o cap zs w k4 k3 (by omega)).mono fun e w' he=> ?_
 obtain ⟨rfl,n,os,rfl⟩:=he;have o1:=k5 n (fP zs) (p6 zs);have o3:=wA o1.st os;exact ⟨.ay [],_,φ,A,o1.trans ae o3,.fr _ _ (.ay [] #[] rfl (by simp)),rfl,rfl⟩
theorem A_ {P:Program} {f:FuncId} (hs:p0 P f) {H:J} {v:AV} (hv:v= .nil∨v= .e0∨ ∃id ad off,v= .ref id ad off 0):b_ P f [v] H (fun v1 H1=>v1= .ay []∧H1=H):=by
 refine ⟨hs.can,fun w A φ us ae hl cr=> ?_⟩;obtain ⟨u0,rfl⟩: ∃u0,us= #[u0]:=by
  match us,hl with
  |⟨[u0]⟩,_=>exact ⟨u0,rfl⟩
 have hx:R w H φ A v u0:=cr 0 _ _ rfl rfl;obtain ⟨p,cap,rfl⟩: ∃p cap,u0= .slice p 0 cap:=by
  rcases hv with rfl|rfl|⟨id,ad,off,rfl⟩
  ·cases hx with|fr _ _ h=>cases h;exact ⟨_,_,rfl⟩
  ·cases hx with|fr _ _ h=>cases h;exact ⟨_,_,rfl⟩
  ·exact hx.c7.2.1
 refine (hs.none p cap w).mono fun e w' he=> ?_
 obtain ⟨rfl,rfl⟩:=he;exact ⟨.ay [],H,φ,A,.refl ae,.fr _ _ (.ay [] #[] rfl (by simp)),rfl,rfl⟩
structure p7 (P:Program) (f:FuncId):Prop where
 can:gi P f
 eq: ∀(ap off cap:Nat) (zs:List Int) (w:World),Holds (Value.int .i64) w ap off zs.toArray→zs.length≤9223372036854775807→zs.length≤cap→
  Calls P f #[.slice (some ⟨ap,off,none⟩) zs.length cap] w fun e w' =>e= .returned (.slice (some ⟨ap,off,none⟩) (Lib.compact zs).length cap)∧ ∃q,w' =putRow (Value.int .i64) (Sort.ahead w q) ap off (Lib.compact zs ++ List.replicate (zs.length-(Lib.compact zs).length) 0).toArray
 none: ∀(p:Option Addr) (cap:Nat) (w:World),Calls P f #[.slice p 0 cap] w fun e w' =>e= .returned (.slice p 0 cap)∧w' =w
theorem p8 (zs:List Int):(Lib.compact zs).length≤zs.length:=by
 unfold Lib.compact Lib.compactUpTo;rw [List.length_map];exact Nat.le_trans (List.length_filter_le _ _) (by simp)
def gA (zs:List Int):List Int:=Lib.compact zs ++ List.replicate (zs.length-(Lib.compact zs).length) 0
theorem wJ (zs:List Int):(gA zs).length=zs.length:=by
 have:=p8 zs;simp only [gA,List.length_append,List.length_replicate];omega
theorem Ba {P:Program} {f:FuncId} (hs:p7 P f) {H:J} {id ad off:Nat} {b:bw} {zs:List Int} (hb:H.ap id ad=some b) (az:b.sz=1) (h0:0<zs.length) (hle:off+zs.length≤b.el.length) (bO:aD b.el off zs.length=zs.map (AV.int .i64)) (hlen:zs.length<1152921504606846976):
 b_ P f [.ref id ad off zs.length] H (fun v1 H1=>v1= .ref id ad off (Lib.compact zs).length∧H1=H.aZ id {b with el:=splice b.el off ((gA zs).map (AV.int .i64))}):=by
 refine ⟨hs.can,fun w A φ us ae hl cr=> ?_⟩;obtain ⟨u0,rfl⟩: ∃u0,us= #[u0]:=by
  match us,hl with
  |⟨[u0]⟩,_=>exact ⟨u0,rfl⟩
 have hx:R w H φ A (.ref id ad off zs.length) u0:=cr 0 _ _ rfl rfl;obtain ⟨c,o,cap,rfl,k2,k3,k4,k5⟩:=wI ae hx hb az h0 hle bO;refine (hs.eq c o cap zs w k4 (by omega) k2).mono fun e w' he=> ?_
 obtain ⟨rfl,n,rfl⟩:=he;have o1:=k5 n (gA zs) (wJ zs);exact ⟨_,_,φ,A,o1,A8 (hx.mono o1.bM) (p8 zs),rfl,rfl⟩
theorem Bb {P:Program} {f:FuncId} (hs:p7 P f) {H:J} {v:AV} (hv:v= .nil∨v= .e0∨ ∃id ad off,v= .ref id ad off 0):b_ P f [v] H (fun v1 H1=>v1=v∧H1=H):=by
 refine ⟨hs.can,fun w A φ us ae hl cr=> ?_⟩;obtain ⟨u0,rfl⟩: ∃u0,us= #[u0]:=by
  match us,hl with
  |⟨[u0]⟩,_=>exact ⟨u0,rfl⟩
 have hx:R w H φ A v u0:=cr 0 _ _ rfl rfl;obtain ⟨p,cap,rfl⟩: ∃p cap,u0= .slice p 0 cap:=by
  rcases hv with rfl|rfl|⟨id,ad,off,rfl⟩
  ·cases hx with|fr _ _ h=>cases h;exact ⟨_,_,rfl⟩
  ·cases hx with|fr _ _ h=>cases h;exact ⟨_,_,rfl⟩
  ·exact hx.c7.2.1
 refine (hs.none p cap w).mono fun e w' he=> ?_
 obtain ⟨rfl,rfl⟩:=he;exact ⟨v,H,φ,A,.refl ae,hx,rfl,rfl⟩
structure Bc (P:Program) (f:FuncId) (A:List AV→AV→Prop):Prop where
 lv: ∀ys v H,A ys v→b_ P f ys H (fun v1 H1=>v1=v∧H1=H)
def Bd (ids:List (FuncId×FuncId×Nat)):bq:=fun f ys H K=> ∃g sz,(f,g,sz)∈ids∧0<sz∧
 ((∃v,(v= .nil∨v= .e0∨ ∃id ad off,v= .ref id ad off 0)∧ys=[v,.fn g []]∧K (.ay []) H)∨
  ∃(id ad off:Nat) (b:bw) (zs:List (ZR sz)),H.ap id ad=some b∧b.sz=sz∧0<zs.length∧off+zs.length≤b.el.length∧aD b.el off zs.length=zs.map eC∧zs.length<1152921504606846976∧
   ys=[.ref id ad off zs.length,.fn g []]∧K (.ay []) (H.aZ id {b with el:=splice b.el off ((iK zs.toArray).toList.map eC)}))
def Be (nk:List FuncId):bq:=fun f ys H K=> ∃(l:List UInt8) (c:Nat),f∈nk∧c≤9223372036854775807∧l.length*c≤140737488355328∧ys=[.str l,.int .i64 c]∧K (.str (Lib.repeatL l c)) H
def Bf (lz:List FuncId):bq:=fun f ys H K=>f∈lz∧
 ((∃v,(v= .nil∨v= .e0∨ ∃id ad off,v= .ref id ad off 0)∧ys=[v]∧K (.ay []) H)∨
  ∃(id ad off:Nat) (b:bw) (zs:List Int),H.ap id ad=some b∧b.sz=1∧0<zs.length∧off+zs.length≤b.el.length∧aD b.el off zs.length=zs.map (AV.int .i64)∧zs.length<1152921504606846976∧
   ys=[.ref id ad off zs.length]∧K (.ay []) (H.aZ id {b with el:=splice b.el off ((fP zs).map (AV.int .i64))}))
def Bg (kids:List FuncId):bq:=fun f ys H K=>f∈kids∧
 ((∃v,(v= .nil∨v= .e0∨ ∃id ad off,v= .ref id ad off 0)∧ys=[v]∧K v H)∨
  ∃(id ad off:Nat) (b:bw) (zs:List Int),H.ap id ad=some b∧b.sz=1∧0<zs.length∧off+zs.length≤b.el.length∧aD b.el off zs.length=zs.map (AV.int .i64)∧zs.length<1152921504606846976∧
   ys=[.ref id ad off zs.length]∧K (.ref id ad off (Lib.compact zs).length) (H.aZ id {b with el:=splice b.el off ((gA zs).map (AV.int .i64))}))
def Bh (nl:List (FuncId×(List AV→AV→Prop))):bq:=fun f ys H K=> ∃A v,(f,A)∈nl∧A ys v∧K v H
structure nn where
 ids:List (FuncId×Nat×Nat)
 wK:List (FuncId×FuncId×Nat)
 nk:List FuncId
 lz:List FuncId
 kids:List FuncId
 nl:List (FuncId×(List AV→AV→Prop))
def np (I:nn):bq:=fun f ys H K=>wj I.ids f ys H K∨Bd I.wK f ys H K∨Be I.nk f ys H K∨Bf I.lz f ys H K∨Bg I.kids f ys H K∨Bh I.nl f ys H K
theorem Dg {P:Program} {E:aL} (hm:P.follows .mixedOrders=true) (hE: ∀t ti,E t=some ti→aQ P t ti) {I:nn} (pT: ∀x∈I.ids,wk P E x.1 x.2.1 x.2.2) (hs: ∀x∈I.wK,pW P x.1 x.2.1 x.2.2) (hr: ∀x∈I.nk,wH P x) (hi: ∀x∈I.lz,p0 P x) (hk: ∀x∈I.kids,p7 P x) (hp: ∀x∈I.nl,Bc P x.1 x.2):
 ∀f ys H K,np I f ys H K→ ∃v H',b_ P f ys H (fun v1 H1=>v1=v∧H1=H')∧K v H' :=by
 rintro f ys H K (h|⟨g,sz,h1,h2,h⟩|⟨l,c,h1,h2,h3,rfl,hk⟩|⟨h1,h⟩|⟨h1,h⟩|⟨A,v,h1,h2,h3⟩)
 ·exact Au hm hE pT f ys H K h
 ·have hc:=hs _ h1;rcases h with ⟨v,hv,rfl,hk⟩|⟨id,ad,off,b,zs,k1,k2,k3,k4,k5,k6,rfl,hk⟩
  ·exact ⟨_,_,AX hc hv,hk⟩
  ·exact ⟨_,_,AU hc k1 k2 k3 h2 k4 k5 k6,hk⟩
 ·exact ⟨_,_,AZ (hr _ h1) h2 h3,hk⟩
 ·have hc:=hi _ h1;rcases h with ⟨v,hv,rfl,hk⟩|⟨id,ad,off,b,zs,k1,k2,k3,k4,k5,k6,rfl,hk⟩
  ·exact ⟨_,_,A_ hc hv,hk⟩
  ·exact ⟨_,_,A9 hc k1 k2 k3 k4 k5 k6,hk⟩
 ·have hc:=hk _ h1;rcases h with ⟨v,hv,rfl,hk⟩|⟨id,ad,off,b,zs,k1,k2,k3,k4,k5,k6,rfl,hk⟩
  ·exact ⟨_,_,Bb hc hv,hk⟩
  ·exact ⟨_,_,Ba hc k1 k2 k3 k4 k5 k6,hk⟩
 ·exact ⟨_,_,(hp _ h1).lv ys v H h2,h3⟩
theorem Dh {C:aH} {I:nn} (h:C.ext=np I):Good C:=by
 constructor
 ·rintro f ys H K K' hK hx
  rw [h] at hx⊢;rcases hx with ⟨sz,b,xs,h1,h2,h3,h4,h5,h6⟩|⟨g,sz,h1,h2,hx⟩|⟨l,c,h1,h2,h3,e,hk⟩|⟨h1,hx⟩|⟨h1,hx⟩|⟨A,v,h1,h2,h3⟩
  ·exact .inl ⟨sz,b,xs,h1,h2,h3,h4,h5,hK _ _ h6⟩
  ·refine .inr (.inl ⟨g,sz,h1,h2,?_⟩);rcases hx with ⟨v,hv,e,hk⟩|⟨id,ad,off,b,zs,k1,k2,k3,k4,k5,k6,e,hk⟩
   ·exact .inl ⟨v,hv,e,hK _ _ hk⟩
   ·exact .inr ⟨id,ad,off,b,zs,k1,k2,k3,k4,k5,k6,e,hK _ _ hk⟩
  ·exact .inr (.inr (.inl ⟨l,c,h1,h2,h3,e,hK _ _ hk⟩))
  ·refine .inr (.inr (.inr (.inl ⟨h1,?_⟩)));rcases hx with ⟨v,hv,e,hk⟩|⟨id,ad,off,b,zs,k1,k2,k3,k4,k5,k6,e,hk⟩
   ·exact .inl ⟨v,hv,e,hK _ _ hk⟩
   ·exact .inr ⟨id,ad,off,b,zs,k1,k2,k3,k4,k5,k6,e,hK _ _ hk⟩
  ·refine .inr (.inr (.inr (.inr (.inl ⟨h1,?_⟩))));rcases hx with ⟨v,hv,e,hk⟩|⟨id,ad,off,b,zs,k1,k2,k3,k4,k5,k6,e,hk⟩
   ·exact .inl ⟨v,hv,e,hK _ _ hk⟩
   ·exact .inr ⟨id,ad,off,b,zs,k1,k2,k3,k4,k5,k6,e,hK _ _ hk⟩
  ·exact .inr (.inr (.inr (.inr (.inr ⟨A,v,h1,h2,hK _ _ h3⟩))))
 ·rintro f ys H K hx;rw [h] at hx⊢;rcases hx with ⟨sz,b,xs,h1,h2,h3,h4,h5,h6⟩|⟨g,sz,h1,h2,hx⟩|⟨l,c,h1,h2,h3,e,hk⟩|⟨h1,hx⟩|⟨h1,hx⟩|⟨A,v,h1,h2,h3⟩
  ·exact ⟨_,_,.inl ⟨sz,b,xs,h1,h2,h3,h4,h5,rfl,rfl⟩,h6⟩
  ·rcases hx with ⟨v,hv,e,hk⟩|⟨id,ad,off,b,zs,k1,k2,k3,k4,k5,k6,e,hk⟩
   ·exact ⟨_,_,.inr (.inl ⟨g,sz,h1,h2,.inl ⟨v,hv,e,rfl,rfl⟩⟩),hk⟩
   ·exact ⟨_,_,.inr (.inl ⟨g,sz,h1,h2,.inr ⟨id,ad,off,b,zs,k1,k2,k3,k4,k5,k6,e,rfl,rfl⟩⟩),hk⟩
  ·exact ⟨_,_,.inr (.inr (.inl ⟨l,c,h1,h2,h3,e,rfl,rfl⟩)),hk⟩
  ·rcases hx with ⟨v,hv,e,hk⟩|⟨id,ad,off,b,zs,k1,k2,k3,k4,k5,k6,e,hk⟩
   ·exact ⟨_,_,.inr (.inr (.inr (.inl ⟨h1,.inl ⟨v,hv,e,rfl,rfl⟩⟩))),hk⟩
   ·exact ⟨_,_,.inr (.inr (.inr (.inl ⟨h1,.inr ⟨id,ad,off,b,zs,k1,k2,k3,k4,k5,k6,e,rfl,rfl⟩⟩))),hk⟩
  ·rcases hx with ⟨v,hv,e,hk⟩|⟨id,ad,off,b,zs,k1,k2,k3,k4,k5,k6,e,hk⟩
   ·exact ⟨_,_,.inr (.inr (.inr (.inr (.inl ⟨h1,.inl ⟨v,hv,e,rfl,rfl⟩⟩)))),hk⟩
   ·exact ⟨_,_,.inr (.inr (.inr (.inr (.inl ⟨h1,.inr ⟨id,ad,off,b,zs,k1,k2,k3,k4,k5,k6,e,rfl,rfl⟩⟩)))),hk⟩
  ·exact ⟨_,_,.inr (.inr (.inr (.inr (.inr ⟨A,v,h1,h2,rfl,rfl⟩)))),h3⟩
end Go.VS
namespace Go.VS
open Go.Sort
def Bi {α :Type} {sz:Nat} {z: α →List Int} (l:List α) (h: ∀x∈l,j7 sz (z x)):List (ZR sz):=l.attach.map fun x:{x // x∈l}=>⟨z x.1,h x.1 x.2⟩
noncomputable def Di {α :Type} (sz:Nat) (z: α →List Int) (dec:List Int→ α) (l:List α):Option (List α):=
 if h:(∀x∈l,j7 sz (z x))∧l.length<1152921504606846976 then
  some ((iK (Bi l h.1).toArray).toList.map fun y=>dec y.1)
 else none
section
variable {C:aH} {I:nn}
def Dj (l:List UInt8) (n:Int):Option (List UInt8):=if 0≤n∧n≤9223372036854775807∧l.length*n.toNat≤140737488355328 then some (Lib.repeatL l n.toNat) else none
def wL (l:List Int):Option (List Int):=if l.length<1152921504606846976 then some (fP l) else none
theorem Dk (hx:C.ext=np I) {f:FuncId} (bN:f∈I.lz) {l r:List Int} (h:wL l=some r) {v:AV} {F:List It} {H:J} (hS:aE H (⟨v,1,l.map (AV.int .i64)⟩::F)) (_qv:bL v) {P:AV→J→Prop} (hP: ∀H',aE H' (⟨v,1,r.map (AV.int .i64)⟩::F)→P (.ay []) H'):au C f [v] H P:=by
 unfold wL at h;split at h
 ·rename_i hlen;simp only [Option.some.injEq] at h;subst h;have gj:=p6 l;obtain ⟨k0,k1⟩:=hS.ok 0 _ rfl;refine au.ext ?_;rw [hx];refine .inr (.inr (.inr (.inl ⟨bN,?_⟩)));by_cases cm:l=[]
  ·subst cm;rw [List.eq_nil_of_length_eq_zero (p6 [])] at hP;refine .inl ⟨v,?_,rfl,hP H hS⟩;cases v with
   |nil=>exact .inl rfl
   |e0=>exact .inr (.inl rfl)
   |ref id ad off len=>exact .inr (.inr ⟨id,ad,off,by simp only at k1;rw [k1.1];rfl⟩)
   |ptr id ad idx off=>simp at k1
   |_=>exact k1.elim
  ·have Bj:0<l.length:=List.length_pos_iff.2 cm;cases v with
   |nil=>simp only [List.map_eq_nil_iff] at k1;exact absurd k1 cm
   |e0=>simp only [List.map_eq_nil_iff] at k1;exact absurd k1 cm
   |ref id ad off len=>
    simp only at k1;obtain ⟨cZ,b,hb,cp,p9,hle,bO⟩:=k1;rw [List.length_map] at cZ;subst cZ;refine .inr ⟨id,ad,off,b,l,hb,cp,by omega,hle,bO,by omega,rfl,?_⟩
    have bI:=(J.bp hb).2;have hu:=hS.aZ (H' :=H.aZ id {b with el:=splice b.el off ((fP l).map (AV.int .i64))}) (j:=0) (it' :=⟨.ref id ad off l.length,1,(fP l).map (AV.int .i64)⟩) rfl (i:=id) rfl (fun fp gd aM _=>lj aM) ?_ (fun k hk=>by simpa [b4] using hk.symm)
    ·exact hP _ hu
    ·have nq:((fP l).map (AV.int .i64)).length=l.length:=by rw [List.length_map,gj]
     refine ⟨?_,by simp only;rw [List.length_map,gj],{b with el:=splice b.el off ((fP l).map (AV.int .i64))},?_,cp,p9,?_,?_⟩
     ·unfold bQ;rw [List.all_eq_true];intro x hx;obtain ⟨y,_,rfl⟩:=List.mem_map.1 hx;rfl
     ·subst bI;exact ll (H:=H) (b:={b with el:=splice b.el off ((fP l).map (AV.int .i64))}) (J.fW (J.bp hb).1)
     ·simp only [splice,List.length_append,List.length_take,List.length_drop,nq];omega
     ·simp only [splice,aD];have e1:(b.el.take off).length=off:=by simp;omega
      rw [List.append_assoc,List.drop_append_of_le_length (by omega),List.drop_eq_nil_of_le (by omega),List.nil_append,←nq,List.take_left'];rfl
   |ptr id ad idx off=>
    exact absurd _qv (by intro q;rcases q.ok with h|h|⟨_,_,_,_,h⟩<;>simp at h)
   |_=>exact k1.elim
 ·simp at h
def wM (l:List Int):Option (List Int):=if l.length<1152921504606846976 then some (Lib.compact l) else none
theorem Dl (hx:C.ext=np I) {f:FuncId} (bN:f∈I.kids) {l r:List Int} (h:wM l=some r) {v:AV} {F:List It} {H:J} (hS:aE H (⟨v,1,l.map (AV.int .i64)⟩::F)) (_qv:bL v) {P:AV→J→Prop} (hP: ∀v',bL v' → ∀H',aE H' (⟨v',1,r.map (AV.int .i64)⟩::F)→P v' H'):au C f [v] H P:=by
 unfold wM at h;split at h
 ·rename_i hlen;simp only [Option.some.injEq] at h;subst h;have gj:=wJ l;have oe:=p8 l;obtain ⟨k0,k1⟩:=hS.ok 0 _ rfl;refine au.ext ?_;rw [hx];refine .inr (.inr (.inr (.inr (.inl ⟨bN,?_⟩))));by_cases cm:l=[]
  ·subst cm;rw [show Lib.compact ([]:List Int)=[] from rfl] at hP;refine .inl ⟨v,?_,rfl,hP v _qv H hS⟩;cases v with
   |nil=>exact .inl rfl
   |e0=>exact .inr (.inl rfl)
   |ref id ad off len=>exact .inr (.inr ⟨id,ad,off,by simp only at k1;rw [k1.1];rfl⟩)
   |ptr id ad idx off=>simp at k1
   |_=>exact k1.elim
  ·have Bj:0<l.length:=List.length_pos_iff.2 cm;cases v with
   |nil=>simp only [List.map_eq_nil_iff] at k1;exact absurd k1 cm
   |e0=>simp only [List.map_eq_nil_iff] at k1;exact absurd k1 cm
   |ref id ad off len=>
    simp only at k1;obtain ⟨cZ,b,hb,cp,p9,hle,bO⟩:=k1;rw [List.length_map] at cZ;subst cZ;refine .inr ⟨id,ad,off,b,l,hb,cp,by omega,hle,bO,by omega,rfl,?_⟩
    have bI:=(J.bp hb).2;have hu:=hS.aZ (H' :=H.aZ id {b with el:=splice b.el off ((gA l).map (AV.int .i64))}) (j:=0) (it' :=⟨.ref id ad off (Lib.compact l).length,1,(Lib.compact l).map (AV.int .i64)⟩) rfl (i:=id) rfl (fun fp gd aM _=>lj aM) ?_ (fun k hk=>by simpa [b4] using hk.symm)
    ·exact hP _ (iI ..) _ hu
    ·have nq:((gA l).map (AV.int .i64)).length=l.length:=by rw [List.length_map,gj]
     refine ⟨?_,by simp only;rw [List.length_map],{b with el:=splice b.el off ((gA l).map (AV.int .i64))},?_,cp,p9,?_,?_⟩
     ·unfold bQ;rw [List.all_eq_true];intro x hx;obtain ⟨y,_,rfl⟩:=List.mem_map.1 hx;rfl
     ·subst bI;exact ll (H:=H) (b:={b with el:=splice b.el off ((gA l).map (AV.int .i64))}) (J.fW (J.bp hb).1)
     ·simp only [splice,List.length_append,List.length_take,List.length_drop,nq];omega
     ·simp only [splice,aD];have e1:(b.el.take off).length=off:=by simp;omega
      rw [List.append_assoc,List.drop_append_of_le_length (by omega),List.drop_eq_nil_of_le (by omega),List.nil_append,List.take_append_of_le_length (by omega),←List.map_take]
      congr 1;simp [gA]
   |ptr id ad idx off=>
    exact absurd _qv (by intro q;rcases q.ok with h|h|⟨_,_,_,_,h⟩<;>simp at h)
   |_=>exact k1.elim
 ·simp at h
end
end Go.VS
