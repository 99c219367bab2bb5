import Derived.Test.YtclgbpneokeaeaaGreatVaE
import Derived.Shelf.SlSortCmp.InsertionK
import Derived.Sort.AssemblyPlain
import Derived.Below
import Derived.Lib.Repeat
import Derived.Lib.SlicesCompact
namespace Go.VS
open Go.Sort Go.Proofs
def gO (sz:Nat) (z:List Int):Prop:=z.length=sz∧ -2305843009213693952≤z.headD 0∧z.headD 0≤2305843009213693952
instance (sz:Nat) (z:List Int):Decidable (gO sz z):=by unfold gO;infer_instance
abbrev ZR (sz:Nat):={z:List Int // gO sz z}
theorem Bl (sz:Nat):gO sz (List.replicate sz 0):=by
 refine ⟨by simp,?_⟩
 cases sz<;>simp [List.replicate]
instance (sz:Nat):Inhabited (ZR sz):=⟨⟨List.replicate sz 0,Bl sz⟩⟩
def gP {sz:Nat} (x:ZR sz):List Value:=x.1.map (Value.int .i64)
def kt {sz:Nat} (x:ZR sz):Int:=x.1.headD 0
def ku {sz:Nat} (x y:ZR sz):Int:=kt x-kt y
theorem nC {sz:Nat} (x y:ZR sz):ltOf ku x y=decide (kt x<kt y):=by
 unfold ltOf ku;rw [Bool.eq_iff_iff,decide_eq_true_eq,decide_eq_true_eq];omega
theorem Bm (sz:Nat):SWO (ltOf (ku (sz:=sz))) where
 irrefl x:=by rw [nC];simp
 trans x y z h1 h2:=by rw [nC] at*;simp at*;omega
 ntrans x y z h1 h2:=by rw [nC] at*;simp at*;omega
def dl {sz:Nat} (d:Array (ZR sz)):Array (ZR sz):=pdq (ltOf ku) d 0 d.size (Lib.bitLen d.size) true true
theorem wT {sz:Nat} (d:Array (ZR sz)):PermIn 0 d.size d (dl d)∧SortedIn (ltOf ku) 0 d.size (dl d):=
 pdq_sorts (ltOf ku) (Bm sz) d 0 d.size (Lib.bitLen d.size) true true (Nat.zero_le _) (Nat.le_refl _) (Or.inl rfl)
def c6 {sz:Nat} (z:ZR sz):AV:= .agg (z.1.map (AV.int .i64))
structure qh (P:Program) (f g:FuncId) (sz:Nat):Prop where
 can:gF P f
 eq: ∀(ap off cap:Nat) (d:Array (ZR sz)) (w:World),HoldsK gP sz w ap off d→ap<w.heap.size→d.size<4611686018427387904→
  Calls P f #[.slice (some ⟨ap,off,none⟩) d.size cap,.func (.func g) #[] #[]] w fun e w' =>e= .returned (.tuple #[])∧ ∃n os,w' =sortWorldK gP sz w ap off n (dl d) os
 none: ∀(p:Option Addr) (cap:Nat) (fv:Value) (w:World),Calls P f #[.slice p 0 cap,fv] w fun e w' =>e= .returned (.tuple #[])∧w' =w
theorem wU {w:World} {G:J} {φ :ag} {A:ah} (ae:St w G φ A) (os:Array Obj):Out w G φ A (grow w os) G φ A:=by
 have old: ∀c,c<w.heap.size→(grow w os).heap[c]? =w.heap[c]? :=fun c hc=>by
  show (w.heap ++ os)[c]? =_;rw [Array.getElem?_append_left hc]
 have aR:bH w G φ A (grow w os) G φ A:=⟨fun c a t fr hc hn=>⟨⟨fr,by rw [old c (d_ hc)];exact hc⟩,hn⟩,Nat.le_refl _,
  fun i b' aw _=>⟨b',aw,rfl,rfl,rfl,rfl,fun loc hl=>hl⟩,fun c hc=>by unfold a8;rw [old c (Ow.lt ae hc)]⟩
 have aA:w.heap.size≤(grow w os).heap.size:=by show _≤(w.heap ++ os).size;simp
 refine ⟨⟨ae.inj,ae.own,fun c hc=>Nat.lt_of_lt_of_le (ae.bY c hc) aA,fun i loc hl=> ?_⟩,
  ⟨rfl,rfl,rfl,aA,fun c hc _=>old c hc,fun c hc=>by unfold a8;rw [old c hc],fun c hc=> .inl hc⟩,aR,fun c hc _=>hc⟩
 obtain ⟨b',cE,aw⟩:=ae.ap i loc hl;refine ⟨b',cE,aw.ad,aw.sized,aw.aQ,fun c b0 h=> ?_⟩;obtain ⟨a,t,fr,h1,h2,h3,h4⟩:=aw.here c b0 h;exact ⟨a,t,fr,by rw [old c (d_ h1)];exact h1,h2,h3,fun i x j y v hx hy hv=>⟨(h4 i x j y v hx hy hv).1.mono aR,(h4 i x j y v hx hy hv).2⟩⟩
theorem wV {w:World} {G:J} {φ :ag} {A:ah} (ae:St w G φ A) (n:Nat):Out w G φ A (Sort.ahead w n) G φ A:=by
 have aR:bH w G φ A (Sort.ahead w n) G φ A:=⟨fun c arr T fr hc hn=>⟨⟨fr,hc⟩,hn⟩,Nat.le_refl _,fun id b h _=>⟨b,h,rfl,rfl,rfl,rfl,fun _ h=>h⟩,fun _ _=>rfl⟩;have jz:St (Sort.ahead w n) G φ A:=by
  refine ⟨ae.inj,ae.own,ae.bY,fun id loc hl=> ?_⟩;obtain ⟨b,hb,af⟩:=ae.ap id loc hl;refine ⟨b,hb,af.ad,af.sized,af.aQ,fun c b0 he=> ?_⟩;obtain ⟨arr,T,fr,k1,k2,k3,k4⟩:=af.here c b0 he;exact ⟨arr,T,fr,k1,k2,k3,fun i x j y v hx hy hv=>⟨(k4 i x j y v hx hy hv).1.mono aR,(k4 i x j y v hx hy hv).2⟩⟩
 exact ⟨jz,⟨rfl,rfl,rfl,Nat.le_refl _,fun _ _ _=>rfl,fun _ _=>rfl,fun _ h=> .inl h⟩,aR,fun _ h _=>h⟩
theorem wW {w:World} {c:Nat} {arr:Array Value} {T:TypeId} {fr:Nat×Nat} (h:w.heap[c]? =some (.cells arr T fr)) (f:Array Value→Array Value):iH w c (.cells (f arr) T fr) (mapBlock w c f):=by
 refine ⟨?_,fun k hk=> ?_,by show (w.heap.modify c (onCells f)).size=_;simp,rfl,rfl,rfl⟩
 ·show (w.heap.modify c (onCells f))[c]? =_;rw [Array.getElem?_modify,if_pos rfl,h];rfl
 ·show (w.heap.modify c (onCells f))[k]? =_;rw [Array.getElem?_modify,if_neg (fun e=>hk e.symm)]
theorem wX {sz:Nat} (x:ZR sz) (r:Nat) (h:r<sz):(gP x)[r]! = .int .i64 (x.1[r]'(by rw [x.2.1];exact h)):=by
 have hl:r<(gP x).length:=by unfold gP;rw [List.length_map,x.2.1];exact h
 rw [getElem!_pos _ r hl];simp [gP]
theorem qi {sz:Nat} (x:ZR sz):(c6 x).cells=x.1.map (AV.int .i64):=rfl
theorem nD {sz:Nat} (x:ZR sz):(c6 x).cells.length=sz:=by rw [qi,List.length_map,x.2.1]
theorem Bn {sz:Nat} (x:ZR sz) {j:Nat} {y:AV} (h:(c6 x).cells[j]? =some y): ∃hj:j<sz,y= .int .i64 (x.1[j]'(by rw [x.2.1];exact hj)):=by
 have hj:j<sz:=by rw [←nD x];exact (List.getElem?_eq_some_iff.1 h).1
 refine ⟨hj,?_⟩;rw [qi,List.getElem?_map,List.getElem?_eq_getElem (by rw [x.2.1];exact hj)] at h
 simpa using h.symm
theorem wY {sz q r:Nat} (h:r<sz):(q*sz+r)/sz=q∧(q*sz+r) % sz=r:=by
 constructor
 ·rw [Nat.mul_comm,Nat.mul_add_div (by omega),Nat.div_eq_of_lt h,Nat.add_zero]
 ·rw [Nat.mul_comm,Nat.mul_add_mod,Nat.mod_eq_of_lt h]
theorem wZ {q n sz r:Nat} (hq:q<n) (hr:r<sz):q*sz+r<n*sz:=by
 have:=Nat.mul_le_mul_right sz (show q+1≤n from hq);rw [Nat.add_mul,Nat.one_mul] at this;omega
theorem Bo {P:Program} {f g:FuncId} {sz:Nat} (hs:qh P f g sz) {H:J} {id ad off:Nat} {b:bB} {zs:List (ZR sz)} (hb:H.ap id ad=some b) (aA:b.sz=sz) (h0:0<zs.length) (hz:0<sz) (hle:off+zs.length≤b.el.length) (bR:aD b.el off zs.length=zs.map c6) (hlen:zs.length<1152921504606846976):
 cb P f [.ref id ad off zs.length,.fn g []] H (fun v1 H1=>v1= .ay []∧H1=H.a7 id {b with el:=splice b.el off ((dl zs.toArray).toList.map c6)}):=by
 refine ⟨hs.can,fun w A φ us ae hl cy=> ?_⟩;obtain ⟨u0,u1,rfl⟩: ∃u0 u1,us= #[u0,u1]:=by
  match us,hl with
  |⟨[u0,u1]⟩,_=>exact ⟨u0,u1,rfl⟩
 have hx:R w H φ A (.ref id ad off zs.length) u0:=cy 0 _ _ rfl rfl;have hf:R w H φ A (.fn g []) u1:=cy 1 _ _ rfl rfl;obtain rfl:u1= .func (.func g) #[] #[]:=by
  cases hf with
  |fr _ _ h=>cases h with|fn _ _ vs h2 _=>rw [Array.eq_empty_of_size_eq_zero (show vs.size=0 from h2.symm)]
  |fn _ _ vs h2 _=>rw [Array.eq_empty_of_size_eq_zero (show vs.size=0 from h2.symm)]
 obtain ⟨c,b0,cap,aV,rfl,k1,k2,k3,k4⟩:=lX hx hb h0;have hg:=(J.bn hb).1;obtain ⟨b',aw,af⟩:=ae.ap id _ aV;rw [hg] at aw;simp only [Option.some.injEq] at aw;subst aw;obtain ⟨arr,T,fr,m1,m2,m3,m4⟩:=af.here c b0 rfl;rw [aA] at m3 m4⊢;have bC: ∀i (hi:i<zs.length),b.el[off+i]? =some (c6 zs[i]):=fun i hi=>by
  have:=congrArg (fun l=>l[i]?) bR;simp only [aD,List.getElem?_map,List.getElem?_eq_getElem hi,Option.map_some] at this;rw [List.getElem?_take_of_lt hi,List.getElem?_drop] at this;exact this
 have kJ: ∀i r,b0+(off+i)*sz+r=b0+off*sz+(i*sz+r):=fun i r=>by rw [Nat.add_mul];omega
 have l7:(off+zs.length)*sz≤b.el.length*sz:=Nat.mul_le_mul_right sz hle;have Ea:(off+zs.length)*sz=off*sz+zs.length*sz:=Nat.add_mul ..;have hH:HoldsK gP sz w c (b0+off*sz) zs.toArray:=by
  intro t ht;rw [size_flatK] at ht;have cz:t<zs.length*sz:=by simpa using ht
  have hq:t/sz<zs.length:=Nat.div_lt_of_lt_mul (by rw [Nat.mul_comm];exact cz)
  have hr:t % sz<sz:=Nat.mod_lt _ hz;have jg:t/sz*sz+t % sz=t:=by rw [Nat.mul_comm];exact Nat.div_add_mod t sz
  have ax:b0+off*sz+t<arr.size:=by omega
  have hv:=Array.getElem?_eq_getElem ax;have hc:(c6 zs[t/sz]).cells[t % sz]? =some (.int .i64 ((zs[t/sz]).1[t % sz]'(by rw [(zs[t/sz]).2.1];exact hr))):=by
   rw [qi,List.getElem?_map,List.getElem?_eq_getElem (by rw [(zs[t/sz]).2.1];exact hr)];rfl
  have hR:=(m4 (off+t/sz) _ (t % sz) _ _ (bC _ hq) hc (by rw [kJ,jg];exact hv)).1.cm
  refine ⟨?_,?_⟩
  ·unfold World.cell?;simp only [m1,Option.isSome_none,Bool.false_eq_true,if_false];rw [hv,hR,get_flatK _ _ _ _ ht];have e1:zs.toArray[t/sz]! =zs[t/sz]:=by rw [getElem!_pos _ _ (by simpa using hq)];simp
   rw [e1,wX _ _ hr];rfl
  ·unfold World.frozen?;simp only [m1];have:=m2 _ ax;obtain ⟨lo,hi⟩:=fr;simp only at this⊢;rw [Bool.and_eq_false_iff,decide_eq_false_iff_not,decide_eq_false_iff_not];omega
 have w7:=hs.eq c (b0+off*sz) cap zs.toArray w hH (d_ m1) (by simpa using (show zs.length<4611686018427387904 by omega))
 rw [show zs.toArray.size=zs.length from by simp] at w7
 refine w7.mono fun e w' he=> ?_
 obtain ⟨rfl,n,os,rfl⟩:=he;have Bp:=(wT zs.toArray).1.1;have eB:(dl zs.toArray).size=zs.length:=by rw [Bp];simp
 generalize dl zs.toArray=d' at eB⊢
 have gH:(splice b.el off (d'.toList.map c6)).length=b.el.length:=by
  unfold splice;simp only [List.length_append,List.length_take,List.length_drop,List.length_map,Array.length_toList,eB];omega
 have bp: ∀i x,(splice b.el off (d'.toList.map c6))[i]? =some x→(i<off∧b.el[i]? =some x)∨(∃q,∃hq:q<zs.length,i=off+q∧x=c6 (d'[q]'(by omega)))∨(off+zs.length≤i∧b.el[i]? =some x):=fun i x hx=>by
  unfold splice at hx;rw [List.append_assoc] at hx;by_cases h1:i<off
  ·rw [List.getElem?_append_left (by simp;omega),List.getElem?_take_of_lt h1] at hx
   exact .inl ⟨h1,hx⟩
  ·rw [List.getElem?_append_right (by simp;omega)] at hx
   have e1:(b.el.take off).length=off:=by simp;omega
   rw [e1] at hx;by_cases h2:i-off<zs.length
   ·rw [List.getElem?_append_left (by simp [eB];omega),List.getElem?_map] at hx
    refine .inr (.inl ⟨i-off,h2,by omega,?_⟩)
    rw [List.getElem?_eq_getElem (by simp [eB];omega)] at hx
    simpa using hx.symm
   ·rw [List.getElem?_append_right (by simp [eB];omega),List.getElem?_drop] at hx
    refine .inr (.inr ⟨by omega,?_⟩)
    rw [←hx];congr 1;simp [eB];omega
 have o1:=wV ae n;have qj:iH (Sort.ahead w n) c (.cells (putCells _root_.id (b0+off*sz) (flatK gP sz d') arr) T fr) (putRowK gP sz (Sort.ahead w n) c (b0+off*sz) d'):=wW (w:=Sort.ahead w n) m1 _;have lK: ∀(i:Nat) (x:AV) (j:Nat) (y:AV) (v:Value),b.el[i]? =some x→x.cells[j]? =some y→arr[b0+i*sz+j]? =some v→R (Sort.ahead w n) H φ A y v∧v.oneCell' =true:=fun i x j y v h1 h2 h3=>
  ⟨(m4 i x j y v h1 h2 h3).1.mono o1.bQ,(m4 i x j y v h1 h2 h3).2⟩
 have iv: ∀(i:Nat) (x:AV),b.el[i]? =some x→x.cells.length=sz:=fun i x hx=>by rw [af.sized i x hx,aA]
 have o2:Out (Sort.ahead w n) H φ A (putRowK gP sz (Sort.ahead w n) c (b0+off*sz) d') (H.a7 id {b with el:=splice b.el off (d'.toList.map c6)}) φ A:=by
  refine mc (b' :={b with el:=splice b.el off (d'.toList.map c6)}) o1.st hg aV rfl rfl rfl gH m1 qj (by unfold putCells;simp) (fun i x hx=> ?_) (fun i x j y v hx hy hv=> ?_)
  ·rw [aA];rcases bp i x hx with ⟨_,h⟩|⟨q,hq,_,rfl⟩|⟨_,h⟩
   ·exact iv i x h
   ·exact nD _
   ·exact iv i x h
  ·simp only [aA] at hv;unfold putCells at hv;rw [Array.getElem?_mapIdx,size_flatK,eB] at hv;have hj:j<sz:=by
    have h1:=(List.getElem?_eq_some_iff.1 hy).1;rcases bp i x hx with ⟨_,h⟩|⟨q,hq,_,rfl⟩|⟨_,h⟩
    ·rw [iv i x h] at h1;exact h1
    ·rw [nD] at h1;exact h1
    ·rw [iv i x h] at h1;exact h1
   rcases bp i x hx with ⟨h1,h⟩|⟨q,hq,rfl,rfl⟩|⟨h1,h⟩
   ·have:=wZ (sz:=sz) h1 hj;cases ha:arr[b0+i*sz+j]? with
    |none=>rw [ha] at hv;simp at hv
    |some u=>rw [ha] at hv;simp only [Option.map_some,Option.some.injEq] at hv;rw [if_neg (by omega)] at hv;subst hv;exact lK i x j y u h hy ha
   ·have hr:=wZ (sz:=sz) hq hj;obtain ⟨vm,rfl⟩:=Bn _ hy;rw [kJ] at hv;cases ha:arr[b0+off*sz+(q*sz+j)]? with
    |none=>rw [ha] at hv;simp at hv
    |some u=>
     rw [ha] at hv;simp only [Option.map_some,Option.some.injEq,_root_.id] at hv;rw [if_pos (by omega),show b0+off*sz+(q*sz+j)-(b0+off*sz)=q*sz+j by omega,get_flatK _ _ _ _ (by rw [eB];exact hr),(wY hj).1,(wY hj).2,getElem!_pos d' q (by omega),wX _ _ hj] at hv
     subst hv;exact ⟨.fr _ _ (.int _ _),rfl⟩
   ·have:(off+zs.length)*sz≤i*sz:=Nat.mul_le_mul_right sz h1;cases ha:arr[b0+i*sz+j]? with
    |none=>rw [ha] at hv;simp at hv
    |some u=>rw [ha] at hv;simp only [Option.map_some,Option.some.injEq] at hv;rw [if_neg (by omega)] at hv;subst hv;exact lK i x j y u h hy ha
 have o3:=wU o2.st os;exact ⟨.ay [],_,φ,A,(o1.trans ae o2).trans ae o3,.fr _ _ (.ay [] #[] rfl (by simp)),rfl,by rw [aA]⟩
theorem Bq {P:Program} {f g:FuncId} {sz:Nat} (hs:qh P f g sz) {H:J} {v:AV} (hv:v= .nil∨v= .e0∨ ∃id ad off,v= .ref id ad off 0):cb P f [v,.fn g []] H (fun v1 H1=>v1= .ay []∧H1=H):=by
 refine ⟨hs.can,fun w A φ us ae hl cy=> ?_⟩;obtain ⟨u0,u1,rfl⟩: ∃u0 u1,us= #[u0,u1]:=by
  match us,hl with
  |⟨[u0,u1]⟩,_=>exact ⟨u0,u1,rfl⟩
 have hx:R w H φ A v u0:=cy 0 _ _ rfl rfl;obtain ⟨p,cap,rfl⟩: ∃p cap,u0= .slice p 0 cap:=by
  rcases hv with rfl|rfl|⟨id,ad,off,rfl⟩
  ·cases hx with|fr _ _ h=>cases h;exact ⟨_,_,rfl⟩
  ·cases hx with|fr _ _ h=>cases h;exact ⟨_,_,rfl⟩
  ·exact hx.df.2.1
 refine (hs.none p cap u1 w).mono fun e w' he=> ?_
 obtain ⟨rfl,rfl⟩:=he;exact ⟨.ay [],H,φ,A,.refl ae,.fr _ _ (.ay [] #[] rfl (by simp)),rfl,rfl⟩
structure w8 (P:Program) (f:FuncId):Prop where
 can:gF P f
 eq: ∀(s:ByteArray) (c:Nat) (w:World),c≤9223372036854775807→s.size*c≤140737488355328→Calls P f #[.string s,.int .i64 c] w fun e w' =>e= .returned (.string ⟨(Lib.repeatL s.data.toList c).toArray⟩)∧Go.RowKit.Below w.heap.size w w'
theorem Br {w w' :World} {G:J} {φ :ag} {A:ah} (ae:St w G φ A) (hb:Go.RowKit.Below w.heap.size w w'):Out w G φ A w' G φ A:=by
 have old: ∀c,c<w.heap.size→w'.heap[c]? =w.heap[c]? :=hb.block;have aR:bH w G φ A w' G φ A:=⟨fun c a t fr hc hn=>⟨⟨fr,by rw [old c (d_ hc)];exact hc⟩,hn⟩,Nat.le_refl _,
  fun i b' aw _=>⟨b',aw,rfl,rfl,rfl,rfl,fun loc hl=>hl⟩,fun c hc=>by unfold a8;rw [old c (Ow.lt ae hc)]⟩
 refine ⟨⟨ae.inj,ae.own,fun c hc=>Nat.lt_of_lt_of_le (ae.bY c hc) hb.size,fun i loc hl=> ?_⟩,
  ⟨hb.os,hb.tape,hb.output,hb.size,fun c hc _=>old c hc,fun c hc=>by unfold a8;rw [old c hc],fun c hc=> .inl hc⟩,aR,fun c hc _=>hc⟩
 obtain ⟨b',cE,aw⟩:=ae.ap i loc hl;refine ⟨b',cE,aw.ad,aw.sized,aw.aQ,fun c b0 h=> ?_⟩;obtain ⟨a,t,fr,h1,h2,h3,h4⟩:=aw.here c b0 h;exact ⟨a,t,fr,by rw [old c (d_ h1)];exact h1,h2,h3,fun i x j y v hx hy hv=>⟨(h4 i x j y v hx hy hv).1.mono aR,(h4 i x j y v hx hy hv).2⟩⟩
theorem Bs {P:Program} {f:FuncId} (hs:w8 P f) {H:J} {l:List UInt8} {c:Nat} (hc:c≤9223372036854775807) (hl:l.length*c≤140737488355328):cb P f [.str l,.int .i64 c] H (fun v1 H1=>v1= .str (Lib.repeatL l c)∧H1=H):=by
 refine ⟨hs.can,fun w A φ us ae hlen cy=> ?_⟩;obtain ⟨u0,u1,rfl⟩: ∃u0 u1,us= #[u0,u1]:=by
  match us,hlen with
  |⟨[u0,u1]⟩,_=>exact ⟨u0,u1,rfl⟩
 have hx:R w H φ A (.str l) u0:=cy 0 _ _ rfl rfl;have hy:R w H φ A (.int .i64 c) u1:=cy 1 _ _ rfl rfl;obtain rfl:=hy.cm;obtain ⟨s,rfl,rfl⟩:=hx.eF;refine (hs.eq s c w hc (by simpa [←Lib.size_eq] using hl)).mono fun e w' he=> ?_
 obtain ⟨rfl,hb⟩:=he;exact ⟨.str (Lib.repeatL s.data.toList c),H,φ,A,Br ae hb,.fr _ _ (by simpa using FR.str (w:=w') (A:=A) ⟨(Lib.repeatL s.data.toList c).toArray⟩),rfl,rfl⟩
structure qk (P:Program) (f:FuncId):Prop where
 can:gF P f
 eq: ∀(ap off cap:Nat) (zs:List Int) (w:World),Holds (Value.int .i64) w ap off zs.toArray→ap<w.heap.size→zs.length<4611686018427387904→
  Calls P f #[.slice (some ⟨ap,off,none⟩) zs.length cap] w fun e w' =>e= .returned (.tuple #[])∧ ∃n os,w' =grow (putRow (Value.int .i64) (Sort.ahead w n) ap off (zs.mergeSort fun x y=>decide (x≤y)).toArray) os
 none: ∀(p:Option Addr) (cap:Nat) (w:World),Calls P f #[.slice p 0 cap] w fun e w' =>e= .returned (.tuple #[])∧w' =w
def gg (zs:List Int):List Int:=zs.mergeSort fun x y=>decide (x≤y)
theorem Bt (zs:List Int):(gg zs).Perm zs:=List.mergeSort_perm _ _
theorem ql (zs:List Int):(gg zs).length=zs.length:=(Bt zs).length_eq
theorem Bu {w:World} {H:J} {φ :ag} {A:ah} {id ad off n m cap:Nat} {a:Option Addr} (h:R w H φ A (.ref id ad off n) (.slice a n cap)) (hm:m≤n):R w H φ A (.ref id ad off m) (.slice a m cap):=by
 obtain ⟨h1,_,h3⟩:=h.df;refine .ref id ad off m _ h1 ⟨_,_,rfl⟩ fun b hb=> ?_;obtain ⟨loc,a',eK,k1,k2,k3,k4,k5,k6⟩:=(h3 b hb).out;simp only [Value.slice.injEq,true_and] at k2;obtain ⟨rfl,rfl⟩:=k2;exact ⟨loc,_,_,k1,rfl,by omega,by omega,k5,k6⟩
theorem w9 {w:World} {H:J} {φ :ag} {A:ah} {id ad off:Nat} {b:bB} {zs:List Int} {u0:Value} (ae:St w H φ A) (hx:R w H φ A (.ref id ad off zs.length) u0) (hb:H.ap id ad=some b) (aA:b.sz=1) (h0:0<zs.length) (hle:off+zs.length≤b.el.length) (bR:aD b.el off zs.length=zs.map (AV.int .i64)):
 ∃c o cap,u0= .slice (some ⟨c,o,none⟩) zs.length cap∧zs.length≤cap∧c<w.heap.size∧Holds (Value.int .i64) w c o zs.toArray∧
  ∀n (d' :List Int),d'.length=zs.length→Out w H φ A (putRow (Value.int .i64) (Sort.ahead w n) c o d'.toArray) (H.a7 id {b with el:=splice b.el off (d'.map (AV.int .i64))}) φ A:=by
 obtain ⟨c,b0,cap,aV,rfl,k1,k2,k3,k4⟩:=lX hx hb h0;have hg:=(J.bn hb).1;obtain ⟨b',aw,af⟩:=ae.ap id _ aV;rw [hg] at aw;simp only [Option.some.injEq] at aw;subst aw;obtain ⟨arr,T,fr,m1,m2,m3,m4⟩:=af.here c b0 rfl;rw [aA] at m3 m4⊢;have bC: ∀i (hi:i<zs.length),b.el[off+i]? =some (AV.int .i64 zs[i]):=fun i hi=>by
  have:=congrArg (fun l=>l[i]?) bR;simp only [aD,List.getElem?_map,List.getElem?_eq_getElem hi,Option.map_some] at this;rw [List.getElem?_take_of_lt hi,List.getElem?_drop] at this;exact this
 have hH:Holds (Value.int .i64) w c (b0+off*1) zs.toArray:=by
  intro t ht;have cz:t<zs.length:=by simpa using ht
  have ax:b0+off*1+t<arr.size:=by omega
  have hv:=Array.getElem?_eq_getElem ax;have hR:=(m4 (off+t) _ 0 (AV.int .i64 zs[t]) _ (bC _ cz) rfl (by rw [show b0+(off+t)*1+0=b0+off*1+t by omega];exact hv)).1.cm
  refine ⟨?_,?_⟩
  ·unfold World.cell?;simp only [m1,Option.isSome_none,Bool.false_eq_true,if_false];rw [hv,hR,getElem!_pos _ _ (by simpa using cz)]
   simp
  ·unfold World.frozen?;simp only [m1];have:=m2 _ ax;obtain ⟨lo,hi⟩:=fr;simp only at this⊢;rw [Bool.and_eq_false_iff,decide_eq_false_iff_not,decide_eq_false_iff_not];omega
 refine ⟨c,b0+off*1,cap,rfl,k2,d_ m1,hH,fun n d' eB=> ?_⟩
 have gH:(splice b.el off (d'.map (AV.int .i64))).length=b.el.length:=by
  unfold splice;simp only [List.length_append,List.length_take,List.length_drop,List.length_map,eB];omega
 have bp: ∀i x,(splice b.el off (d'.map (AV.int .i64)))[i]? =some x→(i<off∧b.el[i]? =some x)∨(∃q,∃hq:q<zs.length,i=off+q∧x=AV.int .i64 (d'[q]'(by omega)))∨(off+zs.length≤i∧b.el[i]? =some x):=fun i x hx=>by
  unfold splice at hx;rw [List.append_assoc] at hx;by_cases h1:i<off
  ·rw [List.getElem?_append_left (by simp;omega),List.getElem?_take_of_lt h1] at hx
   exact .inl ⟨h1,hx⟩
  ·rw [List.getElem?_append_right (by simp;omega)] at hx
   have e1:(b.el.take off).length=off:=by simp;omega
   rw [e1] at hx;by_cases h2:i-off<zs.length
   ·rw [List.getElem?_append_left (by simp [eB];omega),List.getElem?_map] at hx
    refine .inr (.inl ⟨i-off,h2,by omega,?_⟩)
    rw [List.getElem?_eq_getElem (by omega)] at hx
    simpa using hx.symm
   ·rw [List.getElem?_append_right (by simp [eB];omega),List.getElem?_drop] at hx
    refine .inr (.inr ⟨by omega,?_⟩)
    rw [←hx];congr 1;simp [eB];omega
 have o1:=wV ae n;have qj:iH (Sort.ahead w n) c (.cells (putCells (Value.int .i64) (b0+off*1) d'.toArray arr) T fr) (putRow (Value.int .i64) (Sort.ahead w n) c (b0+off*1) d'.toArray):=wW (w:=Sort.ahead w n) m1 _;have lK: ∀(i:Nat) (x:AV) (j:Nat) (y:AV) (v:Value),b.el[i]? =some x→x.cells[j]? =some y→arr[b0+i*1+j]? =some v→R (Sort.ahead w n) H φ A y v∧v.oneCell' =true:=fun i x j y v h1 h2 h3=>
  ⟨(m4 i x j y v h1 h2 h3).1.mono o1.bQ,(m4 i x j y v h1 h2 h3).2⟩
 have iv: ∀(i:Nat) (x:AV),b.el[i]? =some x→x.cells.length=1:=fun i x hx=>by rw [af.sized i x hx,aA]
 have o2:Out (Sort.ahead w n) H φ A (putRow (Value.int .i64) (Sort.ahead w n) c (b0+off*1) d'.toArray) (H.a7 id {b with el:=splice b.el off (d'.map (AV.int .i64))}) φ A:=by
  refine mc (b' :={b with el:=splice b.el off (d'.map (AV.int .i64))}) o1.st hg aV rfl rfl rfl gH m1 qj (by unfold putCells;simp) (fun i x hx=> ?_) (fun i x j y v hx hy hv=> ?_)
  ·rw [aA];rcases bp i x hx with ⟨_,h⟩|⟨q,hq,_,rfl⟩|⟨_,h⟩
   ·exact iv i x h
   ·rfl
   ·exact iv i x h
  ·simp only [aA] at hv;unfold putCells at hv;rw [Array.getElem?_mapIdx] at hv;have hj:j<1:=by
    have h1:=(List.getElem?_eq_some_iff.1 hy).1;rcases bp i x hx with ⟨_,h⟩|⟨q,hq,_,rfl⟩|⟨_,h⟩
    ·rw [iv i x h] at h1;exact h1
    ·exact h1
    ·rw [iv i x h] at h1;exact h1
   obtain rfl:j=0:=by omega
   rcases bp i x hx with ⟨h1,h⟩|⟨q,hq,rfl,rfl⟩|⟨h1,h⟩
   ·cases ha:arr[b0+i*1+0]? with
    |none=>rw [ha] at hv;simp at hv
    |some u=>rw [ha] at hv;simp only [Option.map_some,Option.some.injEq] at hv;rw [if_neg (by omega)] at hv;subst hv;exact lK i x 0 y u h hy ha
   ·obtain rfl:y=AV.int .i64 (d'[q]'(by omega)):=by
     have:(AV.int .i64 (d'[q]'(by omega))).cells[0]? =some (AV.int .i64 (d'[q]'(by omega))):=rfl
     rw [this] at hy;exact (Option.some.inj hy).symm
    cases ha:arr[b0+(off+q)*1+0]? with
    |none=>rw [ha] at hv;simp at hv
    |some u=>
     rw [ha] at hv;simp only [Option.map_some,Option.some.injEq] at hv;rw [if_pos (by simp [eB];omega),show b0+(off+q)*1+0-(b0+off*1)=q by omega,getElem!_pos _ q (by simp;omega)] at hv
     subst hv;simp only [List.getElem_toArray];exact ⟨.fr _ _ (.int _ _),rfl⟩
   ·cases ha:arr[b0+i*1+0]? with
    |none=>rw [ha] at hv;simp at hv
    |some u=>rw [ha] at hv;simp only [Option.map_some,Option.some.injEq] at hv;rw [if_neg (by simp [eB];omega)] at hv;subst hv;exact lK i x 0 y u h hy ha
 have o3:=o1.trans ae o2;rw [aA] at o3;exact o3
theorem Bv {P:Program} {f:FuncId} (hs:qk P f) {H:J} {id ad off:Nat} {b:bB} {zs:List Int} (hb:H.ap id ad=some b) (aA:b.sz=1) (h0:0<zs.length) (hle:off+zs.length≤b.el.length) (bR:aD b.el off zs.length=zs.map (AV.int .i64)) (hlen:zs.length<1152921504606846976):
 cb P f [.ref id ad off zs.length] H (fun v1 H1=>v1= .ay []∧H1=H.a7 id {b with el:=splice b.el off ((gg zs).map (AV.int .i64))}):=by
 refine ⟨hs.can,fun w A φ us ae hl cy=> ?_⟩;obtain ⟨u0,rfl⟩: ∃u0,us= #[u0]:=by
  match us,hl with
  |⟨[u0]⟩,_=>exact ⟨u0,rfl⟩
 have hx:R w H φ A (.ref id ad off zs.length) u0:=cy 0 _ _ rfl rfl;obtain ⟨c,o,cap,rfl,_,k3,k4,k5⟩:=w9 ae hx hb aA h0 hle bR;refine (hs.eq c o cap zs w k4 k3 (by omega)).mono fun e w' he=> ?_
 obtain ⟨rfl,n,os,rfl⟩:=he;have o1:=k5 n (gg zs) (ql zs);have o3:=wU o1.st os;exact ⟨.ay [],_,φ,A,o1.trans ae o3,.fr _ _ (.ay [] #[] rfl (by simp)),rfl,rfl⟩
theorem Bw {P:Program} {f:FuncId} (hs:qk P f) {H:J} {v:AV} (hv:v= .nil∨v= .e0∨ ∃id ad off,v= .ref id ad off 0):cb P f [v] H (fun v1 H1=>v1= .ay []∧H1=H):=by
 refine ⟨hs.can,fun w A φ us ae hl cy=> ?_⟩;obtain ⟨u0,rfl⟩: ∃u0,us= #[u0]:=by
  match us,hl with
  |⟨[u0]⟩,_=>exact ⟨u0,rfl⟩
 have hx:R w H φ A v u0:=cy 0 _ _ rfl rfl;obtain ⟨p,cap,rfl⟩: ∃p cap,u0= .slice p 0 cap:=by
  rcases hv with rfl|rfl|⟨id,ad,off,rfl⟩
  ·cases hx with|fr _ _ h=>cases h;exact ⟨_,_,rfl⟩
  ·cases hx with|fr _ _ h=>cases h;exact ⟨_,_,rfl⟩
  ·exact hx.df.2.1
 refine (hs.none p cap w).mono fun e w' he=> ?_
 obtain ⟨rfl,rfl⟩:=he;exact ⟨.ay [],H,φ,A,.refl ae,.fr _ _ (.ay [] #[] rfl (by simp)),rfl,rfl⟩
structure qm (P:Program) (f:FuncId):Prop where
 can:gF P f
 eq: ∀(ap off cap:Nat) (zs:List Int) (w:World),Holds (Value.int .i64) w ap off zs.toArray→zs.length≤9223372036854775807→zs.length≤cap→
  Calls P f #[.slice (some ⟨ap,off,none⟩) zs.length cap] w fun e w' =>e= .returned (.slice (some ⟨ap,off,none⟩) (Lib.compact zs).length cap)∧ ∃q,w' =putRow (Value.int .i64) (Sort.ahead w q) ap off (Lib.compact zs ++ List.replicate (zs.length-(Lib.compact zs).length) 0).toArray
 none: ∀(p:Option Addr) (cap:Nat) (w:World),Calls P f #[.slice p 0 cap] w fun e w' =>e= .returned (.slice p 0 cap)∧w' =w
theorem w_ (zs:List Int):(Lib.compact zs).length≤zs.length:=by
 unfold Lib.compact Lib.compactUpTo;rw [List.length_map];exact Nat.le_trans (List.length_filter_le _ _) (by simp)
def lL (zs:List Int):List Int:=Lib.compact zs ++ List.replicate (zs.length-(Lib.compact zs).length) 0
theorem Bx (zs:List Int):(lL zs).length=zs.length:=by
 have:=w_ zs;simp only [lL,List.length_append,List.length_replicate];omega
theorem By {P:Program} {f:FuncId} (hs:qm P f) {H:J} {id ad off:Nat} {b:bB} {zs:List Int} (hb:H.ap id ad=some b) (aA:b.sz=1) (h0:0<zs.length) (hle:off+zs.length≤b.el.length) (bR:aD b.el off zs.length=zs.map (AV.int .i64)) (hlen:zs.length<1152921504606846976):
 cb P f [.ref id ad off zs.length] H (fun v1 H1=>v1= .ref id ad off (Lib.compact zs).length∧H1=H.a7 id {b with el:=splice b.el off ((lL zs).map (AV.int .i64))}):=by
 refine ⟨hs.can,fun w A φ us ae hl cy=> ?_⟩;obtain ⟨u0,rfl⟩: ∃u0,us= #[u0]:=by
  match us,hl with
  |⟨[u0]⟩,_=>exact ⟨u0,rfl⟩
 have hx:R w H φ A (.ref id ad off zs.length) u0:=cy 0 _ _ rfl rfl;obtain ⟨c,o,cap,rfl,k2,k3,k4,k5⟩:=w9 ae hx hb aA h0 hle bR;refine (hs.eq c o cap zs w k4 (by omega) k2).mono fun e w' he=> ?_
 obtain ⟨rfl,n,rfl⟩:=he;have o1:=k5 n (lL zs) (Bx zs);exact ⟨_,_,φ,A,o1,Bu (hx.mono o1.bQ) (w_ zs),rfl,rfl⟩
theorem Bz {P:Program} {f:FuncId} (hs:qm P f) {H:J} {v:AV} (hv:v= .nil∨v= .e0∨ ∃id ad off,v= .ref id ad off 0):cb P f [v] H (fun v1 H1=>v1=v∧H1=H):=by
 refine ⟨hs.can,fun w A φ us ae hl cy=> ?_⟩;obtain ⟨u0,rfl⟩: ∃u0,us= #[u0]:=by
  match us,hl with
  |⟨[u0]⟩,_=>exact ⟨u0,rfl⟩
 have hx:R w H φ A v u0:=cy 0 _ _ rfl rfl;obtain ⟨p,cap,rfl⟩: ∃p cap,u0= .slice p 0 cap:=by
  rcases hv with rfl|rfl|⟨id,ad,off,rfl⟩
  ·cases hx with|fr _ _ h=>cases h;exact ⟨_,_,rfl⟩
  ·cases hx with|fr _ _ h=>cases h;exact ⟨_,_,rfl⟩
  ·exact hx.df.2.1
 refine (hs.none p cap w).mono fun e w' he=> ?_
 obtain ⟨rfl,rfl⟩:=he;exact ⟨v,H,φ,A,.refl ae,hx,rfl,rfl⟩
structure BA (P:Program) (f:FuncId) (A:List AV→AV→Prop):Prop where
 lH: ∀ys v H,A ys v→cb P f ys H (fun v1 H1=>v1=v∧H1=H)
def BB (ids:List (FuncId×FuncId×Nat)):bq:=fun f ys H K=> ∃g sz,(f,g,sz)∈ids∧0<sz∧
 ((∃v,(v= .nil∨v= .e0∨ ∃id ad off,v= .ref id ad off 0)∧ys=[v,.fn g []]∧K (.ay []) H)∨
  ∃(id ad off:Nat) (b:bB) (zs:List (ZR sz)),H.ap id ad=some b∧b.sz=sz∧0<zs.length∧off+zs.length≤b.el.length∧aD b.el off zs.length=zs.map c6∧zs.length<1152921504606846976∧
   ys=[.ref id ad off zs.length,.fn g []]∧K (.ay []) (H.a7 id {b with el:=splice b.el off ((dl zs.toArray).toList.map c6)}))
def BC (nE:List FuncId):bq:=fun f ys H K=> ∃(l:List UInt8) (c:Nat),f∈nE∧c≤9223372036854775807∧l.length*c≤140737488355328∧ys=[.str l,.int .i64 c]∧K (.str (Lib.repeatL l c)) H
def BD (lM:List FuncId):bq:=fun f ys H K=>f∈lM∧
 ((∃v,(v= .nil∨v= .e0∨ ∃id ad off,v= .ref id ad off 0)∧ys=[v]∧K (.ay []) H)∨
  ∃(id ad off:Nat) (b:bB) (zs:List Int),H.ap id ad=some b∧b.sz=1∧0<zs.length∧off+zs.length≤b.el.length∧aD b.el off zs.length=zs.map (AV.int .i64)∧zs.length<1152921504606846976∧
   ys=[.ref id ad off zs.length]∧K (.ay []) (H.a7 id {b with el:=splice b.el off ((gg zs).map (AV.int .i64))}))
def BE (kids:List FuncId):bq:=fun f ys H K=>f∈kids∧
 ((∃v,(v= .nil∨v= .e0∨ ∃id ad off,v= .ref id ad off 0)∧ys=[v]∧K v H)∨
  ∃(id ad off:Nat) (b:bB) (zs:List Int),H.ap id ad=some b∧b.sz=1∧0<zs.length∧off+zs.length≤b.el.length∧aD b.el off zs.length=zs.map (AV.int .i64)∧zs.length<1152921504606846976∧
   ys=[.ref id ad off zs.length]∧K (.ref id ad off (Lib.compact zs).length) (H.a7 id {b with el:=splice b.el off ((lL zs).map (AV.int .i64))}))
def BF (nF:List (FuncId×(List AV→AV→Prop))):bq:=fun f ys H K=> ∃A v,(f,A)∈nF∧A ys v∧K v H
structure nG where
 ids:List (FuncId×Nat×Nat)
 qn:List (FuncId×FuncId×Nat)
 nE:List FuncId
 lM:List FuncId
 kids:List FuncId
 nF:List (FuncId×(List AV→AV→Prop))
def lN (I:nG):bq:=fun f ys H K=>wF I.ids f ys H K∨BB I.qn f ys H K∨BC I.nE f ys H K∨BD I.lM f ys H K∨BE I.kids f ys H K∨BF I.nF f ys H K
theorem Eb {P:Program} {E:aK} (hm:P.follows .mixedOrders=true) (hE: ∀t ti,E t=some ti→aS P t ti) {I:nG} (qd: ∀x∈I.ids,wG P E x.1 x.2.1 x.2.2) (hs: ∀x∈I.qn,qh P x.1 x.2.1 x.2.2) (hr: ∀x∈I.nE,w8 P x) (hi: ∀x∈I.lM,qk P x) (hk: ∀x∈I.kids,qm P x) (hp: ∀x∈I.nF,BA P x.1 x.2):
 ∀f ys H K,lN I f ys H K→ ∃v H',cb P f ys H (fun v1 H1=>v1=v∧H1=H')∧K v H' :=by
 rintro f ys H K (h|⟨g,sz,h1,h2,h⟩|⟨l,c,h1,h2,h3,rfl,hk⟩|⟨h1,h⟩|⟨h1,h⟩|⟨A,v,h1,h2,h3⟩)
 ·exact AS hm hE qd f ys H K h
 ·have hc:=hs _ h1;rcases h with ⟨v,hv,rfl,hk⟩|⟨id,ad,off,b,zs,k1,k2,k3,k4,k5,k6,rfl,hk⟩
  ·exact ⟨_,_,Bq hc hv,hk⟩
  ·exact ⟨_,_,Bo hc k1 k2 k3 h2 k4 k5 k6,hk⟩
 ·exact ⟨_,_,Bs (hr _ h1) h2 h3,hk⟩
 ·have hc:=hi _ h1;rcases h with ⟨v,hv,rfl,hk⟩|⟨id,ad,off,b,zs,k1,k2,k3,k4,k5,k6,rfl,hk⟩
  ·exact ⟨_,_,Bw hc hv,hk⟩
  ·exact ⟨_,_,Bv hc k1 k2 k3 k4 k5 k6,hk⟩
 ·have hc:=hk _ h1;rcases h with ⟨v,hv,rfl,hk⟩|⟨id,ad,off,b,zs,k1,k2,k3,k4,k5,k6,rfl,hk⟩
  ·exact ⟨_,_,Bz hc hv,hk⟩
  ·exact ⟨_,_,By hc k1 k2 k3 k4 k5 k6,hk⟩
 ·exact ⟨_,_,(hp _ h1).lH ys v H h2,h3⟩
theorem Ec {C:aG} {I:nG} (h:C.ext=lN I):Good C:=by
 constructor
 ·rintro f ys H K K' hK hx
  rw [h] at hx⊢;rcases hx with ⟨sz,b,xs,h1,h2,h3,h4,h5,h6⟩|⟨g,sz,h1,h2,hx⟩|⟨l,c,h1,h2,h3,e,hk⟩|⟨h1,hx⟩|⟨h1,hx⟩|⟨A,v,h1,h2,h3⟩
  ·exact .inl ⟨sz,b,xs,h1,h2,h3,h4,h5,hK _ _ h6⟩
  ·refine .inr (.inl ⟨g,sz,h1,h2,?_⟩);rcases hx with ⟨v,hv,e,hk⟩|⟨id,ad,off,b,zs,k1,k2,k3,k4,k5,k6,e,hk⟩
   ·exact .inl ⟨v,hv,e,hK _ _ hk⟩
   ·exact .inr ⟨id,ad,off,b,zs,k1,k2,k3,k4,k5,k6,e,hK _ _ hk⟩
  ·exact .inr (.inr (.inl ⟨l,c,h1,h2,h3,e,hK _ _ hk⟩))
  ·refine .inr (.inr (.inr (.inl ⟨h1,?_⟩)));rcases hx with ⟨v,hv,e,hk⟩|⟨id,ad,off,b,zs,k1,k2,k3,k4,k5,k6,e,hk⟩
   ·exact .inl ⟨v,hv,e,hK _ _ hk⟩
   ·exact .inr ⟨id,ad,off,b,zs,k1,k2,k3,k4,k5,k6,e,hK _ _ hk⟩
  ·refine .inr (.inr (.inr (.inr (.inl ⟨h1,?_⟩))));rcases hx with ⟨v,hv,e,hk⟩|⟨id,ad,off,b,zs,k1,k2,k3,k4,k5,k6,e,hk⟩
   ·exact .inl ⟨v,hv,e,hK _ _ hk⟩
   ·exact .inr ⟨id,ad,off,b,zs,k1,k2,k3,k4,k5,k6,e,hK _ _ hk⟩
  ·exact .inr (.inr (.inr (.inr (.inr ⟨A,v,h1,h2,hK _ _ h3⟩))))
 ·rintro f ys H K hx;rw [h] at hx⊢;rcases hx with ⟨sz,b,xs,h1,h2,h3,h4,h5,h6⟩|⟨g,sz,h1,h2,hx⟩|⟨l,c,h1,h2,h3,e,hk⟩|⟨h1,hx⟩|⟨h1,hx⟩|⟨A,v,h1,h2,h3⟩
  ·exact ⟨_,_,.inl ⟨sz,b,xs,h1,h2,h3,h4,h5,rfl,rfl⟩,h6⟩
  ·rcases hx with ⟨v,hv,e,hk⟩|⟨id,ad,off,b,zs,k1,k2,k3,k4,k5,k6,e,hk⟩
   ·exact ⟨_,_,.inr (.inl ⟨g,sz,h1,h2,.inl ⟨v,hv,e,rfl,rfl⟩⟩),hk⟩
   ·exact ⟨_,_,.inr (.inl ⟨g,sz,h1,h2,.inr ⟨id,ad,off,b,zs,k1,k2,k3,k4,k5,k6,e,rfl,rfl⟩⟩),hk⟩
  ·exact ⟨_,_,.inr (.inr (.inl ⟨l,c,h1,h2,h3,e,rfl,rfl⟩)),hk⟩
  ·rcases hx with ⟨v,hv,e,hk⟩|⟨id,ad,off,b,zs,k1,k2,k3,k4,k5,k6,e,hk⟩
   ·exact ⟨_,_,.inr (.inr (.inr (.inl ⟨h1,.inl ⟨v,hv,e,rfl,rfl⟩⟩))),hk⟩
   ·exact ⟨_,_,.inr (.inr (.inr (.inl ⟨h1,.inr ⟨id,ad,off,b,zs,k1,k2,k3,k4,k5,k6,e,rfl,rfl⟩⟩))),hk⟩
  ·rcases hx with ⟨v,hv,e,hk⟩|⟨id,ad,off,b,zs,k1,k2,k3,k4,k5,k6,e,hk⟩
   ·exact ⟨_,_,.inr (.inr (.inr (.inr (.inl ⟨h1,.inl ⟨v,hv,e,rfl,rfl⟩⟩)))),hk⟩
   ·exact ⟨_,_,.inr (.inr (.inr (.inr (.inl ⟨h1,.inr ⟨id,ad,off,b,zs,k1,k2,k3,k4,k5,k6,e,rfl,rfl⟩⟩)))),hk⟩
  ·exact ⟨_,_,.inr (.inr (.inr (.inr (.inr ⟨A,v,h1,h2,rfl,rfl⟩)))),h3⟩
end Go.VS
namespace Go.VS
open Go.Sort
def ej {α :Type} {sz:Nat} {z: α →List Int} (l:List α) (h: ∀x∈l,gO sz (z x)):List (ZR sz):=l.attach.map fun x:{x // x∈l}=>⟨z x.1,h x.1 x.2⟩
theorem BG {α :Type} {sz:Nat} {z: α →List Int} (l:List α) (h: ∀x∈l,gO sz (z x)):(ej l h).length=l.length:=by simp [ej]
theorem xa {α :Type} {sz:Nat} {z: α →List Int} {l:List α} {h: ∀x∈l,gO sz (z x)} {y:ZR sz} (hy:y∈ej l h): ∃x∈l,y.1=z x:=by
 obtain ⟨x,_,rfl⟩:=List.mem_map.1 hy;exact ⟨x.1,x.2,rfl⟩
theorem xb {α β :Type} {sz:Nat} {z: α →List Int} (l:List α) (h: ∀x∈l,gO sz (z x)) (f:ZR sz→ β) (g: α → β) (hg: ∀x (hx:x∈l),f ⟨z x,h x hx⟩=g x):(ej l h).map f=l.map g:=by
 unfold ej;rw [List.map_map];have:(f∘fun x:{x // x∈l}=>(⟨z x.1,h x.1 x.2⟩:ZR sz))=fun x=>g x.1:=by funext x;exact hg x.1 x.2
 rw [this,List.attach_map_val (f:=g)]
noncomputable def nH {α :Type} (sz:Nat) (z: α →List Int) (dec:List Int→ α) (l:List α):Option (List α):=
 if h:(∀x∈l,gO sz (z x))∧l.length<1152921504606846976 then
  some ((dl (ej l h.1).toArray).toList.map fun y=>dec y.1)
 else none
theorem xc {sz:Nat} (zs:List (ZR sz)):(dl zs.toArray).toList.Perm zs∧(dl zs.toArray).toList.Pairwise fun x y=>kt x≤kt y:=by
 obtain ⟨⟨h1,_,h2⟩,h3⟩:=wT zs.toArray;have e1:(dl zs.toArray).extract 0 zs.toArray.size=dl zs.toArray:=by rw [←h1];simp
 have e2:zs.toArray.extract 0 zs.toArray.size=zs.toArray:=by simp
 rw [e1,e2] at h2;refine ⟨by simpa using h2,?_⟩
 rw [List.pairwise_iff_getElem];intro i j hi hj ju;simp only [Array.length_toList] at hi hj;have:=h3 i j (Nat.zero_le _) ju (by rw [←h1];exact hj)
 rw [nC,decide_eq_false_iff_not,getElem!_pos _ j hj,getElem!_pos _ i hi] at this;simp only [Array.getElem_toList];omega
theorem Ed {α :Type} {sz:Nat} {z: α →List Int} {dec:List Int→ α} (hd: ∀x,dec (z x)=x) {l:List α} (h: ∀x∈l,gO sz (z x)) (hl:l.length<1152921504606846976):
 ∃r,nH sz z dec l=some r∧r.Perm l∧r.Pairwise fun x y=>(z x).headD 0≤(z y).headD 0:=by
 unfold nH;rw [dif_pos ⟨h,hl⟩];obtain ⟨p1,p2⟩:=xc (ej l h);have mem: ∀y∈(dl (ej l h).toArray).toList,z (dec y.1)=y.1:=fun y hy=>by
  obtain ⟨x,_,e⟩:=xa ((p1.mem_iff).1 hy);rw [e,hd]
 revert p1 p2 mem;generalize (dl (ej l h).toArray).toList=s;intro p1 p2 mem;have cZ:((ej l h).map fun y=>dec y.1)=l:=by rw [xb l h _ (fun x=>x) (fun x _=>hd x)];simp
 refine ⟨_,rfl,?_,?_⟩
 ·have:=p1.map fun y:ZR sz=>dec y.1
  rwa [cZ] at this
 ·rw [List.pairwise_map];refine p2.imp_of_mem fun {a b} ha hb BH=> ?_;rw [mem a ha,mem b hb];exact BH
section
variable {C:aG} {I:nG}
theorem Ee (hx:C.ext=lN I) {α :Type} {f:FuncId} {sz b:Nat} (bN:(f,sz,b)∈I.ids) {c: α →AV} (hc: ∀x,(c x).cells.length=sz) (h0:sz≠0) {l r:List α} (h:app b [] l=some r) {F:List It} {H:J} (hS:az H F)
 {P:AV→J→Prop} (hP: ∀v,bA v→ ∀H',az H' (⟨v,sz,r.map c⟩::F)→P v H'):aq C f [.fz (l.map c)] H P:=by
 unfold app at h;split at h
 ·rename_i hr;simp only [List.nil_append,Option.some.injEq] at h;subst h;simp only [List.length_nil,Nat.zero_add] at hr;refine aq.ext ?_;rw [hx];refine .inl ⟨sz,b,l.map c,bN,rfl,nw hc l,h0,by simpa using hr,?_⟩
  cases l with
  |nil=>exact hP _ nt _ (by simpa using hS.Aq sz)
  |cons x l=>
   rw [if_neg (by simp),if_neg (by simp)]
   exact hP _ (gL ..) _ (hS.nn (all:=(x::l).map c) (List.take_of_length_le (Nat.le_refl _)) rfl (nw hc _))
 ·simp at h
theorem Ef (hx:C.ext=lN I) {α :Type} {f g:FuncId} {sz:Nat} (bN:(f,g,sz)∈I.qn) (h0:0<sz) {c: α →AV} {z: α →List Int} {dec:List Int→ α} (hc: ∀x,c x= .agg ((z x).map (AV.int .i64))) (hd: ∀x,dec (z x)=x) {l r:List α} (h:nH sz z dec l=some r)
 {v:AV} {F:List It} {H:J} (hS:az H (⟨v,sz,l.map c⟩::F)) (_qv:bA v) {P:AV→J→Prop} (hP: ∀H',az H' (⟨v,sz,r.map c⟩::F)→P (.ay []) H'):aq C f [v,.fn g []] H P:=by
 unfold nH at h;split at h
 ·rename_i hh;obtain ⟨af,hlen⟩:=hh;simp only [Option.some.injEq] at h;obtain ⟨p1,_⟩:=xc (ej l af);have cu:(ej l af).length=l.length:=BG l af;have qo:(ej l af).map c6=l.map c:=xb l af _ c (fun x _=>(hc x).symm);have jg: ∀y∈(dl (ej l af).toArray).toList,c (dec y.1)=c6 y:=fun y hy=>by
   obtain ⟨x,_,e⟩:=xa ((p1.mem_iff).1 hy);unfold c6;rw [e,hd,hc]
  have kx:r.map c=(dl (ej l af).toArray).toList.map c6:=by
   rw [←h,List.map_map];exact List.map_congr_left fun y hy=>jg y hy
  have fA:r.length=l.length:=by
   have:=congrArg List.length kx;rw [List.length_map,List.length_map,p1.length_eq,cu] at this;exact this
  clear jg p1 h;revert cu qo kx;generalize ej l af=zs;intro cu qo kx;obtain ⟨k0,k1⟩:=hS.ok 0 _ rfl;refine aq.ext ?_;rw [hx];refine .inr (.inl ⟨g,sz,bN,h0,?_⟩);by_cases cv:l=[]
  ·subst cv;have fm:r=[]:=List.eq_nil_of_length_eq_zero fA;subst fm;refine .inl ⟨v,?_,rfl,hP H hS⟩;cases v with
   |nil=>exact .inl rfl
   |e0=>exact .inr (.inl rfl)
   |ref id ad off len=>exact .inr (.inr ⟨id,ad,off,by simp only at k1;rw [k1.1];rfl⟩)
   |ptr id ad idx off=>simp at k1
   |_=>exact k1.elim
  ·have BI:0<l.length:=List.length_pos_iff.2 cv;cases v with
   |nil=>simp only [List.map_eq_nil_iff] at k1;exact absurd k1 cv
   |e0=>simp only [List.map_eq_nil_iff] at k1;exact absurd k1 cv
   |ref id ad off len=>
    simp only at k1;obtain ⟨da,b,hb,cw,qp,hle,bR⟩:=k1;rw [List.length_map,←cu] at da;subst da;refine .inr ⟨id,ad,off,b,zs,hb,cw,by omega,hle,by rw [bR,qo],by omega,rfl,?_⟩
    have bE:=(J.bn hb).2;have hu:=hS.a7 (H' :=H.a7 id {b with el:=splice b.el off ((dl zs.toArray).toList.map c6)}) (j:=0) (it' :=⟨.ref id ad off zs.length,sz,r.map c⟩) rfl (i:=id) rfl (fun fh fX aL _=>kh aL) ?_ (fun k hk=>by simpa [bW] using hk.symm)
    ·exact hP _ hu
    ·have gM:((dl zs.toArray).toList.map c6).length=zs.length:=by rw [←kx,List.length_map,fA,cu]
     refine ⟨?_,by simp only;rw [List.length_map,fA,cu],{b with el:=splice b.el off ((dl zs.toArray).toList.map c6)},?_,cw,qp,?_,?_⟩
     ·rw [kx];unfold bK;rw [List.all_eq_true];intro x hx;obtain ⟨y,_,rfl⟩:=List.mem_map.1 hx;simpa using nD y
     ·subst bE;exact kj (H:=H) (b:={b with el:=splice b.el off ((dl zs.toArray).toList.map c6)}) (J.gp (J.bn hb).1)
     ·simp only [splice,List.length_append,List.length_take,List.length_drop,gM];omega
     ·simp only [splice,aD];rw [kx];have e1:(b.el.take off).length=off:=by simp;omega
      rw [List.append_assoc,List.drop_append_of_le_length (by omega),List.drop_eq_nil_of_le (by omega),List.nil_append,←gM,List.take_left'];rfl
   |ptr id ad idx off=>
    exact absurd _qv (by intro q;rcases q.ok with h|h|⟨_,_,_,_,h⟩<;>simp at h)
   |_=>exact k1.elim
 ·simp at h
def Eg (l:List UInt8) (n:Int):Option (List UInt8):=if 0≤n∧n≤9223372036854775807∧l.length*n.toNat≤140737488355328 then some (Lib.repeatL l n.toNat) else none
def xd (l:List Int):Option (List Int):=if l.length<1152921504606846976 then some (gg l) else none
theorem Eh (hx:C.ext=lN I) {f:FuncId} (bN:f∈I.lM) {l r:List Int} (h:xd l=some r) {v:AV} {F:List It} {H:J} (hS:az H (⟨v,1,l.map (AV.int .i64)⟩::F)) (_qv:bA v) {P:AV→J→Prop} (hP: ∀H',az H' (⟨v,1,r.map (AV.int .i64)⟩::F)→P (.ay []) H'):aq C f [v] H P:=by
 unfold xd at h;split at h
 ·rename_i hlen;simp only [Option.some.injEq] at h;subst h;have fA:=ql l;obtain ⟨k0,k1⟩:=hS.ok 0 _ rfl;refine aq.ext ?_;rw [hx];refine .inr (.inr (.inr (.inl ⟨bN,?_⟩)));by_cases cv:l=[]
  ·subst cv;rw [List.eq_nil_of_length_eq_zero (ql [])] at hP;refine .inl ⟨v,?_,rfl,hP H hS⟩;cases v with
   |nil=>exact .inl rfl
   |e0=>exact .inr (.inl rfl)
   |ref id ad off len=>exact .inr (.inr ⟨id,ad,off,by simp only at k1;rw [k1.1];rfl⟩)
   |ptr id ad idx off=>simp at k1
   |_=>exact k1.elim
  ·have BI:0<l.length:=List.length_pos_iff.2 cv;cases v with
   |nil=>simp only [List.map_eq_nil_iff] at k1;exact absurd k1 cv
   |e0=>simp only [List.map_eq_nil_iff] at k1;exact absurd k1 cv
   |ref id ad off len=>
    simp only at k1;obtain ⟨da,b,hb,cw,qp,hle,bR⟩:=k1;rw [List.length_map] at da;subst da;refine .inr ⟨id,ad,off,b,l,hb,cw,by omega,hle,bR,by omega,rfl,?_⟩
    have bE:=(J.bn hb).2;have hu:=hS.a7 (H' :=H.a7 id {b with el:=splice b.el off ((gg l).map (AV.int .i64))}) (j:=0) (it' :=⟨.ref id ad off l.length,1,(gg l).map (AV.int .i64)⟩) rfl (i:=id) rfl (fun fh fX aL _=>kh aL) ?_ (fun k hk=>by simpa [bW] using hk.symm)
    ·exact hP _ hu
    ·have gM:((gg l).map (AV.int .i64)).length=l.length:=by rw [List.length_map,fA]
     refine ⟨?_,by simp only;rw [List.length_map,fA],{b with el:=splice b.el off ((gg l).map (AV.int .i64))},?_,cw,qp,?_,?_⟩
     ·unfold bK;rw [List.all_eq_true];intro x hx;obtain ⟨y,_,rfl⟩:=List.mem_map.1 hx;rfl
     ·subst bE;exact kj (H:=H) (b:={b with el:=splice b.el off ((gg l).map (AV.int .i64))}) (J.gp (J.bn hb).1)
     ·simp only [splice,List.length_append,List.length_take,List.length_drop,gM];omega
     ·simp only [splice,aD];have e1:(b.el.take off).length=off:=by simp;omega
      rw [List.append_assoc,List.drop_append_of_le_length (by omega),List.drop_eq_nil_of_le (by omega),List.nil_append,←gM,List.take_left'];rfl
   |ptr id ad idx off=>
    exact absurd _qv (by intro q;rcases q.ok with h|h|⟨_,_,_,_,h⟩<;>simp at h)
   |_=>exact k1.elim
 ·simp at h
def Ei (l:List Int):Option (List Int):=if l.length<1152921504606846976 then some (Lib.compact l) else none
end
end Go.VS
