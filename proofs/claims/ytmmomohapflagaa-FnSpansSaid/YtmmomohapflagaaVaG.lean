import Derived.Test.YtmmomohapflagaaVaE
import Derived.Shelf.SlSortCmp.InsertionK
import Derived.Sort.AssemblyPlain
import Derived.Below
import Derived.Lib.Repeat
namespace Go.VS
open Go.Sort Go.Proofs
def gH (sz:Nat) (z:List Int):Prop:=z.length=sz∧ -2305843009213693952≤z.headD 0∧z.headD 0≤2305843009213693952
instance (sz:Nat) (z:List Int):Decidable (gH sz z):=by unfold gH;infer_instance
abbrev ZR (sz:Nat):={z:List Int // gH sz z}
theorem AU (sz:Nat):gH sz (List.replicate sz 0):=by
 refine ⟨by simp,?_⟩
 cases sz<;>simp [List.replicate]
instance (sz:Nat):Inhabited (ZR sz):=⟨⟨List.replicate sz 0,AU sz⟩⟩
def gI {sz:Nat} (x:ZR sz):List Value:=x.1.map (Value.int .i64)
def kd {sz:Nat} (x:ZR sz):Int:=x.1.headD 0
def ke {sz:Nat} (x y:ZR sz):Int:=kd x-kd y
theorem np {sz:Nat} (x y:ZR sz):ltOf ke x y=decide (kd x<kd y):=by
 unfold ltOf ke;rw [Bool.eq_iff_iff,decide_eq_true_eq,decide_eq_true_eq];omega
theorem AW (sz:Nat):SWO (ltOf (ke (sz:=sz))) where
 irrefl x:=by rw [np];simp
 trans x y z h1 h2:=by rw [np] at*;simp at*;omega
 ntrans x y z h1 h2:=by rw [np] at*;simp at*;omega
def dh {sz:Nat} (d:Array (ZR sz)):Array (ZR sz):=pdq (ltOf ke) d 0 d.size (Lib.bitLen d.size) true true
theorem wH {sz:Nat} (d:Array (ZR sz)):PermIn 0 d.size d (dh d)∧SortedIn (ltOf ke) 0 d.size (dh d):=
 pdq_sorts (ltOf ke) (AW sz) d 0 d.size (Lib.bitLen d.size) true true (Nat.zero_le _) (Nat.le_refl _) (Or.inl rfl)
def c5 {sz:Nat} (z:ZR sz):AV:= .agg (z.1.map (AV.int .i64))
structure p9 (P:Program) (f g:FuncId) (sz:Nat):Prop where
 can:hG P f
 eq: ∀(ap off cap:Nat) (d:Array (ZR sz)) (w:World),HoldsK gI sz w ap off d→ap<w.heap.size→d.size<4611686018427387904→
  Calls P f #[.slice (some ⟨ap,off,none⟩) d.size cap,.func (.func g) #[] #[]] w fun e w' =>e= .returned (.tuple #[])∧ ∃n os,w' =sortWorldK gI sz w ap off n (dh d) os
 none: ∀(p:Option Addr) (cap:Nat) (fv:Value) (w:World),Calls P f #[.slice p 0 cap,fv] w fun e w' =>e= .returned (.tuple #[])∧w' =w
theorem wI {w:World} {G:J} {φ :ag} {A:ah} (ae:St w G φ A) (os:Array Obj):Out w G φ A (grow w os) G φ A:=by
 have old: ∀c,c<w.heap.size→(grow w os).heap[c]? =w.heap[c]? :=fun c hc=>by
  show (w.heap ++ os)[c]? =_;rw [Array.getElem?_append_left hc]
 have aP:bF w G φ A (grow w os) G φ A:=⟨fun c a t fr hc hn=>⟨⟨fr,by rw [old c (dV hc)];exact hc⟩,hn⟩,Nat.le_refl _,
  fun i b' aw _=>⟨b',aw,rfl,rfl,rfl,rfl,fun loc hl=>hl⟩,fun c hc=>by unfold aZ;rw [old c (Ow.lt ae hc)]⟩
 have aB:w.heap.size≤(grow w os).heap.size:=by show _≤(w.heap ++ os).size;simp
 refine ⟨⟨ae.inj,ae.own,fun c hc=>Nat.lt_of_lt_of_le (ae.bW c hc) aB,fun i loc hl=> ?_⟩,
  ⟨rfl,rfl,rfl,aB,fun c hc _=>old c hc,fun c hc=>by unfold aZ;rw [old c hc],fun c hc=> .inl hc⟩,aP,fun c hc _=>hc⟩
 obtain ⟨b',cA,aw⟩:=ae.ap i loc hl;refine ⟨b',cA,aw.ad,aw.sized,aw.aO,fun c b0 h=> ?_⟩;obtain ⟨a,t,fr,h1,h2,h3,h4⟩:=aw.here c b0 h;exact ⟨a,t,fr,by rw [old c (dV h1)];exact h1,h2,h3,fun i x j y v hx hy hv=>⟨(h4 i x j y v hx hy hv).1.mono aP,(h4 i x j y v hx hy hv).2⟩⟩
theorem wJ {w:World} {G:J} {φ :ag} {A:ah} (ae:St w G φ A) (n:Nat):Out w G φ A (Sort.ahead w n) G φ A:=by
 have aP:bF w G φ A (Sort.ahead w n) G φ A:=⟨fun c arr T fr hc hn=>⟨⟨fr,hc⟩,hn⟩,Nat.le_refl _,fun id b h _=>⟨b,h,rfl,rfl,rfl,rfl,fun _ h=>h⟩,fun _ _=>rfl⟩;have jw:St (Sort.ahead w n) G φ A:=by
  refine ⟨ae.inj,ae.own,ae.bW,fun id loc hl=> ?_⟩;obtain ⟨b,hb,af⟩:=ae.ap id loc hl;refine ⟨b,hb,af.ad,af.sized,af.aO,fun c b0 he=> ?_⟩;obtain ⟨arr,T,fr,k1,k2,k3,k4⟩:=af.here c b0 he;exact ⟨arr,T,fr,k1,k2,k3,fun i x j y v hx hy hv=>⟨(k4 i x j y v hx hy hv).1.mono aP,(k4 i x j y v hx hy hv).2⟩⟩
 exact ⟨jw,⟨rfl,rfl,rfl,Nat.le_refl _,fun _ _ _=>rfl,fun _ _=>rfl,fun _ h=> .inl h⟩,aP,fun _ h _=>h⟩
theorem wK {w:World} {c:Nat} {arr:Array Value} {T:TypeId} {fr:Nat×Nat} (h:w.heap[c]? =some (.cells arr T fr)) (f:Array Value→Array Value):iF w c (.cells (f arr) T fr) (mapBlock w c f):=by
 refine ⟨?_,fun k hk=> ?_,by show (w.heap.modify c (onCells f)).size=_;simp,rfl,rfl,rfl⟩
 ·show (w.heap.modify c (onCells f))[c]? =_;rw [Array.getElem?_modify,if_pos rfl,h];rfl
 ·show (w.heap.modify c (onCells f))[k]? =_;rw [Array.getElem?_modify,if_neg (fun e=>hk e.symm)]
theorem wL {sz:Nat} (x:ZR sz) (r:Nat) (h:r<sz):(gI x)[r]! = .int .i64 (x.1[r]'(by rw [x.2.1];exact h)):=by
 have hl:r<(gI x).length:=by unfold gI;rw [List.length_map,x.2.1];exact h
 rw [getElem!_pos _ r hl];simp [gI]
theorem p_ {sz:Nat} (x:ZR sz):(c5 x).cells=x.1.map (AV.int .i64):=rfl
theorem nq {sz:Nat} (x:ZR sz):(c5 x).cells.length=sz:=by rw [p_,List.length_map,x.2.1]
theorem AX {sz:Nat} (x:ZR sz) {j:Nat} {y:AV} (h:(c5 x).cells[j]? =some y): ∃hj:j<sz,y= .int .i64 (x.1[j]'(by rw [x.2.1];exact hj)):=by
 have hj:j<sz:=by rw [←nq x];exact (List.getElem?_eq_some_iff.1 h).1
 refine ⟨hj,?_⟩;rw [p_,List.getElem?_map,List.getElem?_eq_getElem (by rw [x.2.1];exact hj)] at h
 simpa using h.symm
theorem wM {sz q r:Nat} (h:r<sz):(q*sz+r)/sz=q∧(q*sz+r) % sz=r:=by
 constructor
 ·rw [Nat.mul_comm,Nat.mul_add_div (by omega),Nat.div_eq_of_lt h,Nat.add_zero]
 ·rw [Nat.mul_comm,Nat.mul_add_mod,Nat.mod_eq_of_lt h]
theorem wN {q n sz r:Nat} (hq:q<n) (hr:r<sz):q*sz+r<n*sz:=by
 have:=Nat.mul_le_mul_right sz (show q+1≤n from hq);rw [Nat.add_mul,Nat.one_mul] at this;omega
theorem AY {P:Program} {f g:FuncId} {sz:Nat} (hs:p9 P f g sz) {H:J} {id ad off:Nat} {b:bB} {zs:List (ZR sz)} (hb:H.ap id ad=some b) (aB:b.sz=sz) (h0:0<zs.length) (hz:0<sz) (hle:off+zs.length≤b.el.length) (cb:aE b.el off zs.length=zs.map c5) (hlen:zs.length<1152921504606846976):
 cq P f [.ref id ad off zs.length,.fn g []] H (fun v1 H1=>v1= .ay []∧H1=H.bg id {b with el:=splice b.el off ((dh zs.toArray).toList.map c5)}):=by
 refine ⟨hs.can,fun w A φ us ae hl cP=> ?_⟩;obtain ⟨u0,u1,rfl⟩: ∃u0 u1,us= #[u0,u1]:=by
  match us,hl with
  |⟨[u0,u1]⟩,_=>exact ⟨u0,u1,rfl⟩
 have hx:R w H φ A (.ref id ad off zs.length) u0:=cP 0 _ _ rfl rfl;have hf:R w H φ A (.fn g []) u1:=cP 1 _ _ rfl rfl;obtain rfl:u1= .func (.func g) #[] #[]:=by
  cases hf with
  |fr _ _ h=>cases h with|fn _ _ vs h2 _=>rw [Array.eq_empty_of_size_eq_zero (show vs.size=0 from h2.symm)]
  |fn _ _ vs h2 _=>rw [Array.eq_empty_of_size_eq_zero (show vs.size=0 from h2.symm)]
 obtain ⟨c,b0,cap,aU,rfl,k1,k2,k3,k4⟩:=lL hx hb h0;have hg:=(J.bn hb).1;obtain ⟨b',aw,af⟩:=ae.ap id _ aU;rw [hg] at aw;simp only [Option.some.injEq] at aw;subst aw;obtain ⟨arr,T,fr,m1,m2,m3,m4⟩:=af.here c b0 rfl;rw [aB] at m3 m4⊢;have br: ∀i (hi:i<zs.length),b.el[off+i]? =some (c5 zs[i]):=fun i hi=>by
  have:=congrArg (fun l=>l[i]?) cb;simp only [aE,List.getElem?_map,List.getElem?_eq_getElem hi,Option.map_some] at this;rw [List.getElem?_take_of_lt hi,List.getElem?_drop] at this;exact this
 have kz: ∀i r,b0+(off+i)*sz+r=b0+off*sz+(i*sz+r):=fun i r=>by rw [Nat.add_mul];omega
 have lR:(off+zs.length)*sz≤b.el.length*sz:=Nat.mul_le_mul_right sz hle;have Dp:(off+zs.length)*sz=off*sz+zs.length*sz:=Nat.add_mul ..;have hH:HoldsK gI sz w c (b0+off*sz) zs.toArray:=by
  intro t ht;rw [size_flatK] at ht;have cv:t<zs.length*sz:=by simpa using ht
  have hq:t/sz<zs.length:=Nat.div_lt_of_lt_mul (by rw [Nat.mul_comm];exact cv)
  have hr:t % sz<sz:=Nat.mod_lt _ hz;have jd:t/sz*sz+t % sz=t:=by rw [Nat.mul_comm];exact Nat.div_add_mod t sz
  have ax:b0+off*sz+t<arr.size:=by omega
  have hv:=Array.getElem?_eq_getElem ax;have hc:(c5 zs[t/sz]).cells[t % sz]? =some (.int .i64 ((zs[t/sz]).1[t % sz]'(by rw [(zs[t/sz]).2.1];exact hr))):=by
   rw [p_,List.getElem?_map,List.getElem?_eq_getElem (by rw [(zs[t/sz]).2.1];exact hr)];rfl
  have hR:=(m4 (off+t/sz) _ (t % sz) _ _ (br _ hq) hc (by rw [kz,jd];exact hv)).1.cj
  refine ⟨?_,?_⟩
  ·unfold World.cell?;simp only [m1,Option.isSome_none,Bool.false_eq_true,if_false];rw [hv,hR,get_flatK _ _ _ _ ht];have e1:zs.toArray[t/sz]! =zs[t/sz]:=by rw [getElem!_pos _ _ (by simpa using hq)];simp
   rw [e1,wL _ _ hr];rfl
  ·unfold World.frozen?;simp only [m1];have:=m2 _ ax;obtain ⟨lo,hi⟩:=fr;simp only at this⊢;rw [Bool.and_eq_false_iff,decide_eq_false_iff_not,decide_eq_false_iff_not];omega
 have nr:=hs.eq c (b0+off*sz) cap zs.toArray w hH (dV m1) (by simpa using (show zs.length<4611686018427387904 by omega))
 rw [show zs.toArray.size=zs.length from by simp] at nr
 refine nr.mono fun e w' he=> ?_
 obtain ⟨rfl,n,os,rfl⟩:=he;have AZ:=(wH zs.toArray).1.1;have ec:(dh zs.toArray).size=zs.length:=by rw [AZ];simp
 generalize dh zs.toArray=d' at ec⊢
 have gx:(splice b.el off (d'.toList.map c5)).length=b.el.length:=by
  unfold splice;simp only [List.length_append,List.length_take,List.length_drop,List.length_map,Array.length_toList,ec];omega
 have bm: ∀i x,(splice b.el off (d'.toList.map c5))[i]? =some x→(i<off∧b.el[i]? =some x)∨(∃q,∃hq:q<zs.length,i=off+q∧x=c5 (d'[q]'(by omega)))∨(off+zs.length≤i∧b.el[i]? =some x):=fun i x hx=>by
  unfold splice at hx;rw [List.append_assoc] at hx;by_cases h1:i<off
  ·rw [List.getElem?_append_left (by simp;omega),List.getElem?_take_of_lt h1] at hx
   exact .inl ⟨h1,hx⟩
  ·rw [List.getElem?_append_right (by simp;omega)] at hx
   have e1:(b.el.take off).length=off:=by simp;omega
   rw [e1] at hx;by_cases h2:i-off<zs.length
   ·rw [List.getElem?_append_left (by simp [ec];omega),List.getElem?_map] at hx
    refine .inr (.inl ⟨i-off,h2,by omega,?_⟩)
    rw [List.getElem?_eq_getElem (by simp [ec];omega)] at hx
    simpa using hx.symm
   ·rw [List.getElem?_append_right (by simp [ec];omega),List.getElem?_drop] at hx
    refine .inr (.inr ⟨by omega,?_⟩)
    rw [←hx];congr 1;simp [ec];omega
 have o1:=wJ ae n;have qa:iF (Sort.ahead w n) c (.cells (putCells _root_.id (b0+off*sz) (flatK gI sz d') arr) T fr) (putRowK gI sz (Sort.ahead w n) c (b0+off*sz) d'):=wK (w:=Sort.ahead w n) m1 _;have lB: ∀(i:Nat) (x:AV) (j:Nat) (y:AV) (v:Value),b.el[i]? =some x→x.cells[j]? =some y→arr[b0+i*sz+j]? =some v→R (Sort.ahead w n) H φ A y v∧v.oneCell' =true:=fun i x j y v h1 h2 h3=>
  ⟨(m4 i x j y v h1 h2 h3).1.mono o1.bU,(m4 i x j y v h1 h2 h3).2⟩
 have iq: ∀(i:Nat) (x:AV),b.el[i]? =some x→x.cells.length=sz:=fun i x hx=>by rw [af.sized i x hx,aB]
 have o2:Out (Sort.ahead w n) H φ A (putRowK gI sz (Sort.ahead w n) c (b0+off*sz) d') (H.bg id {b with el:=splice b.el off (d'.toList.map c5)}) φ A:=by
  refine lX (b' :={b with el:=splice b.el off (d'.toList.map c5)}) o1.st hg aU rfl rfl rfl gx m1 qa (by unfold putCells;simp) (fun i x hx=> ?_) (fun i x j y v hx hy hv=> ?_)
  ·rw [aB];rcases bm i x hx with ⟨_,h⟩|⟨q,hq,_,rfl⟩|⟨_,h⟩
   ·exact iq i x h
   ·exact nq _
   ·exact iq i x h
  ·simp only [aB] at hv;unfold putCells at hv;rw [Array.getElem?_mapIdx,size_flatK,ec] at hv;have hj:j<sz:=by
    have h1:=(List.getElem?_eq_some_iff.1 hy).1;rcases bm i x hx with ⟨_,h⟩|⟨q,hq,_,rfl⟩|⟨_,h⟩
    ·rw [iq i x h] at h1;exact h1
    ·rw [nq] at h1;exact h1
    ·rw [iq i x h] at h1;exact h1
   rcases bm i x hx with ⟨h1,h⟩|⟨q,hq,rfl,rfl⟩|⟨h1,h⟩
   ·have:=wN (sz:=sz) h1 hj;cases ha:arr[b0+i*sz+j]? with
    |none=>rw [ha] at hv;simp at hv
    |some u=>rw [ha] at hv;simp only [Option.map_some,Option.some.injEq] at hv;rw [if_neg (by omega)] at hv;subst hv;exact lB i x j y u h hy ha
   ·have hr:=wN (sz:=sz) hq hj;obtain ⟨vb,rfl⟩:=AX _ hy;rw [kz] at hv;cases ha:arr[b0+off*sz+(q*sz+j)]? with
    |none=>rw [ha] at hv;simp at hv
    |some u=>
     rw [ha] at hv;simp only [Option.map_some,Option.some.injEq,_root_.id] at hv;rw [if_pos (by omega),show b0+off*sz+(q*sz+j)-(b0+off*sz)=q*sz+j by omega,get_flatK _ _ _ _ (by rw [ec];exact hr),(wM hj).1,(wM hj).2,getElem!_pos d' q (by omega),wL _ _ hj] at hv
     subst hv;exact ⟨.fr _ _ (.int _ _),rfl⟩
   ·have:(off+zs.length)*sz≤i*sz:=Nat.mul_le_mul_right sz h1;cases ha:arr[b0+i*sz+j]? with
    |none=>rw [ha] at hv;simp at hv
    |some u=>rw [ha] at hv;simp only [Option.map_some,Option.some.injEq] at hv;rw [if_neg (by omega)] at hv;subst hv;exact lB i x j y u h hy ha
 have o3:=wI o2.st os;exact ⟨.ay [],_,φ,A,(o1.trans ae o2).trans ae o3,.fr _ _ (.ay [] #[] rfl (by simp)),rfl,by rw [aB]⟩
theorem A7 {P:Program} {f g:FuncId} {sz:Nat} (hs:p9 P f g sz) {H:J} {v:AV} (hv:v= .nil∨v= .e0∨ ∃id ad off,v= .ref id ad off 0):cq P f [v,.fn g []] H (fun v1 H1=>v1= .ay []∧H1=H):=by
 refine ⟨hs.can,fun w A φ us ae hl cP=> ?_⟩;obtain ⟨u0,u1,rfl⟩: ∃u0 u1,us= #[u0,u1]:=by
  match us,hl with
  |⟨[u0,u1]⟩,_=>exact ⟨u0,u1,rfl⟩
 have hx:R w H φ A v u0:=cP 0 _ _ rfl rfl;obtain ⟨p,cap,rfl⟩: ∃p cap,u0= .slice p 0 cap:=by
  rcases hv with rfl|rfl|⟨id,ad,off,rfl⟩
  ·cases hx with|fr _ _ h=>cases h;exact ⟨_,_,rfl⟩
  ·cases hx with|fr _ _ h=>cases h;exact ⟨_,_,rfl⟩
  ·exact hx.dy.2.1
 refine (hs.none p cap u1 w).mono fun e w' he=> ?_
 obtain ⟨rfl,rfl⟩:=he;exact ⟨.ay [],H,φ,A,.refl ae,.fr _ _ (.ay [] #[] rfl (by simp)),rfl,rfl⟩
structure wO (P:Program) (f:FuncId):Prop where
 can:hG P f
 eq: ∀(s:ByteArray) (c:Nat) (w:World),c≤9223372036854775807→s.size*c≤140737488355328→Calls P f #[.string s,.int .i64 c] w fun e w' =>e= .returned (.string ⟨(Lib.repeatL s.data.toList c).toArray⟩)∧Go.RowKit.Below w.heap.size w w'
theorem A8 {w w' :World} {G:J} {φ :ag} {A:ah} (ae:St w G φ A) (hb:Go.RowKit.Below w.heap.size w w'):Out w G φ A w' G φ A:=by
 have old: ∀c,c<w.heap.size→w'.heap[c]? =w.heap[c]? :=hb.block;have aP:bF w G φ A w' G φ A:=⟨fun c a t fr hc hn=>⟨⟨fr,by rw [old c (dV hc)];exact hc⟩,hn⟩,Nat.le_refl _,
  fun i b' aw _=>⟨b',aw,rfl,rfl,rfl,rfl,fun loc hl=>hl⟩,fun c hc=>by unfold aZ;rw [old c (Ow.lt ae hc)]⟩
 refine ⟨⟨ae.inj,ae.own,fun c hc=>Nat.lt_of_lt_of_le (ae.bW c hc) hb.size,fun i loc hl=> ?_⟩,
  ⟨hb.os,hb.tape,hb.output,hb.size,fun c hc _=>old c hc,fun c hc=>by unfold aZ;rw [old c hc],fun c hc=> .inl hc⟩,aP,fun c hc _=>hc⟩
 obtain ⟨b',cA,aw⟩:=ae.ap i loc hl;refine ⟨b',cA,aw.ad,aw.sized,aw.aO,fun c b0 h=> ?_⟩;obtain ⟨a,t,fr,h1,h2,h3,h4⟩:=aw.here c b0 h;exact ⟨a,t,fr,by rw [old c (dV h1)];exact h1,h2,h3,fun i x j y v hx hy hv=>⟨(h4 i x j y v hx hy hv).1.mono aP,(h4 i x j y v hx hy hv).2⟩⟩
theorem A9 {P:Program} {f:FuncId} (hs:wO P f) {H:J} {l:List UInt8} {c:Nat} (hc:c≤9223372036854775807) (hl:l.length*c≤140737488355328):cq P f [.str l,.int .i64 c] H (fun v1 H1=>v1= .str (Lib.repeatL l c)∧H1=H):=by
 refine ⟨hs.can,fun w A φ us ae hlen cP=> ?_⟩;obtain ⟨u0,u1,rfl⟩: ∃u0 u1,us= #[u0,u1]:=by
  match us,hlen with
  |⟨[u0,u1]⟩,_=>exact ⟨u0,u1,rfl⟩
 have hx:R w H φ A (.str l) u0:=cP 0 _ _ rfl rfl;have hy:R w H φ A (.int .i64 c) u1:=cP 1 _ _ rfl rfl;obtain rfl:=hy.cj;obtain ⟨s,rfl,rfl⟩:=hx.eC;refine (hs.eq s c w hc (by simpa [←Lib.size_eq] using hl)).mono fun e w' he=> ?_
 obtain ⟨rfl,hb⟩:=he;exact ⟨.str (Lib.repeatL s.data.toList c),H,φ,A,A8 ae hb,.fr _ _ (by simpa using FR.str (w:=w') (A:=A) ⟨(Lib.repeatL s.data.toList c).toArray⟩),rfl,rfl⟩
structure qb (P:Program) (f:FuncId):Prop where
 can:hG P f
 eq: ∀(ap off cap:Nat) (zs:List Int) (w:World),Holds (Value.int .i64) w ap off zs.toArray→ap<w.heap.size→zs.length<4611686018427387904→
  Calls P f #[.slice (some ⟨ap,off,none⟩) zs.length cap] w fun e w' =>e= .returned (.tuple #[])∧ ∃n os,w' =grow (putRow (Value.int .i64) (Sort.ahead w n) ap off (zs.mergeSort fun x y=>decide (x≤y)).toArray) os
 none: ∀(p:Option Addr) (cap:Nat) (w:World),Calls P f #[.slice p 0 cap] w fun e w' =>e= .returned (.tuple #[])∧w' =w
def jC (zs:List Int):List Int:=zs.mergeSort fun x y=>decide (x≤y)
theorem A_ (zs:List Int):(jC zs).Perm zs:=List.mergeSort_perm _ _
theorem Ba (zs:List Int):(jC zs).length=zs.length:=(A_ zs).length_eq
theorem Bb {P:Program} {f:FuncId} (hs:qb P f) {H:J} {id ad off:Nat} {b:bB} {zs:List Int} (hb:H.ap id ad=some b) (aB:b.sz=1) (h0:0<zs.length) (hle:off+zs.length≤b.el.length) (cb:aE b.el off zs.length=zs.map (AV.int .i64)) (hlen:zs.length<1152921504606846976):
 cq P f [.ref id ad off zs.length] H (fun v1 H1=>v1= .ay []∧H1=H.bg id {b with el:=splice b.el off ((jC zs).map (AV.int .i64))}):=by
 refine ⟨hs.can,fun w A φ us ae hl cP=> ?_⟩;obtain ⟨u0,rfl⟩: ∃u0,us= #[u0]:=by
  match us,hl with
  |⟨[u0]⟩,_=>exact ⟨u0,rfl⟩
 have hx:R w H φ A (.ref id ad off zs.length) u0:=cP 0 _ _ rfl rfl;obtain ⟨c,b0,cap,aU,rfl,k1,k2,k3,k4⟩:=lL hx hb h0;have hg:=(J.bn hb).1;obtain ⟨b',aw,af⟩:=ae.ap id _ aU;rw [hg] at aw;simp only [Option.some.injEq] at aw;subst aw;obtain ⟨arr,T,fr,m1,m2,m3,m4⟩:=af.here c b0 rfl;rw [aB] at m3 m4⊢;have br: ∀i (hi:i<zs.length),b.el[off+i]? =some (AV.int .i64 zs[i]):=fun i hi=>by
  have:=congrArg (fun l=>l[i]?) cb;simp only [aE,List.getElem?_map,List.getElem?_eq_getElem hi,Option.map_some] at this;rw [List.getElem?_take_of_lt hi,List.getElem?_drop] at this;exact this
 have hH:Holds (Value.int .i64) w c (b0+off*1) zs.toArray:=by
  intro t ht;have cv:t<zs.length:=by simpa using ht
  have ax:b0+off*1+t<arr.size:=by omega
  have hv:=Array.getElem?_eq_getElem ax;have hR:=(m4 (off+t) _ 0 (AV.int .i64 zs[t]) _ (br _ cv) rfl (by rw [show b0+(off+t)*1+0=b0+off*1+t by omega];exact hv)).1.cj
  refine ⟨?_,?_⟩
  ·unfold World.cell?;simp only [m1,Option.isSome_none,Bool.false_eq_true,if_false];rw [hv,hR,getElem!_pos _ _ (by simpa using cv)]
   simp
  ·unfold World.frozen?;simp only [m1];have:=m2 _ ax;obtain ⟨lo,hi⟩:=fr;simp only at this⊢;rw [Bool.and_eq_false_iff,decide_eq_false_iff_not,decide_eq_false_iff_not];omega
 have nr:=hs.eq c (b0+off*1) cap zs w hH (dV m1) (by omega)
 refine nr.mono fun e w' he=> ?_
 obtain ⟨rfl,n,os,rfl⟩:=he;have ec:=Ba zs;show hI _ _ _ _ _ _ _;rw [show (zs.mergeSort fun x y=>decide (x≤y))=jC zs from rfl];generalize jC zs=d' at ec⊢
 have gx:(splice b.el off (d'.map (AV.int .i64))).length=b.el.length:=by
  unfold splice;simp only [List.length_append,List.length_take,List.length_drop,List.length_map,ec];omega
 have bm: ∀i x,(splice b.el off (d'.map (AV.int .i64)))[i]? =some x→(i<off∧b.el[i]? =some x)∨(∃q,∃hq:q<zs.length,i=off+q∧x=AV.int .i64 (d'[q]'(by omega)))∨(off+zs.length≤i∧b.el[i]? =some x):=fun i x hx=>by
  unfold splice at hx;rw [List.append_assoc] at hx;by_cases h1:i<off
  ·rw [List.getElem?_append_left (by simp;omega),List.getElem?_take_of_lt h1] at hx
   exact .inl ⟨h1,hx⟩
  ·rw [List.getElem?_append_right (by simp;omega)] at hx
   have e1:(b.el.take off).length=off:=by simp;omega
   rw [e1] at hx;by_cases h2:i-off<zs.length
   ·rw [List.getElem?_append_left (by simp [ec];omega),List.getElem?_map] at hx
    refine .inr (.inl ⟨i-off,h2,by omega,?_⟩)
    rw [List.getElem?_eq_getElem (by omega)] at hx
    simpa using hx.symm
   ·rw [List.getElem?_append_right (by simp [ec];omega),List.getElem?_drop] at hx
    refine .inr (.inr ⟨by omega,?_⟩)
    rw [←hx];congr 1;simp [ec];omega
 have o1:=wJ ae n;have qa:iF (Sort.ahead w n) c (.cells (putCells (Value.int .i64) (b0+off*1) d'.toArray arr) T fr) (putRow (Value.int .i64) (Sort.ahead w n) c (b0+off*1) d'.toArray):=wK (w:=Sort.ahead w n) m1 _;have lB: ∀(i:Nat) (x:AV) (j:Nat) (y:AV) (v:Value),b.el[i]? =some x→x.cells[j]? =some y→arr[b0+i*1+j]? =some v→R (Sort.ahead w n) H φ A y v∧v.oneCell' =true:=fun i x j y v h1 h2 h3=>
  ⟨(m4 i x j y v h1 h2 h3).1.mono o1.bU,(m4 i x j y v h1 h2 h3).2⟩
 have iq: ∀(i:Nat) (x:AV),b.el[i]? =some x→x.cells.length=1:=fun i x hx=>by rw [af.sized i x hx,aB]
 have o2:Out (Sort.ahead w n) H φ A (putRow (Value.int .i64) (Sort.ahead w n) c (b0+off*1) d'.toArray) (H.bg id {b with el:=splice b.el off (d'.map (AV.int .i64))}) φ A:=by
  refine lX (b' :={b with el:=splice b.el off (d'.map (AV.int .i64))}) o1.st hg aU rfl rfl rfl gx m1 qa (by unfold putCells;simp) (fun i x hx=> ?_) (fun i x j y v hx hy hv=> ?_)
  ·rw [aB];rcases bm i x hx with ⟨_,h⟩|⟨q,hq,_,rfl⟩|⟨_,h⟩
   ·exact iq i x h
   ·rfl
   ·exact iq i x h
  ·simp only [aB] at hv;unfold putCells at hv;rw [Array.getElem?_mapIdx] at hv;have hj:j<1:=by
    have h1:=(List.getElem?_eq_some_iff.1 hy).1;rcases bm i x hx with ⟨_,h⟩|⟨q,hq,_,rfl⟩|⟨_,h⟩
    ·rw [iq i x h] at h1;exact h1
    ·exact h1
    ·rw [iq i x h] at h1;exact h1
   obtain rfl:j=0:=by omega
   rcases bm i x hx with ⟨h1,h⟩|⟨q,hq,rfl,rfl⟩|⟨h1,h⟩
   ·cases ha:arr[b0+i*1+0]? with
    |none=>rw [ha] at hv;simp at hv
    |some u=>rw [ha] at hv;simp only [Option.map_some,Option.some.injEq] at hv;rw [if_neg (by omega)] at hv;subst hv;exact lB i x 0 y u h hy ha
   ·obtain rfl:y=AV.int .i64 (d'[q]'(by omega)):=by
     have:(AV.int .i64 (d'[q]'(by omega))).cells[0]? =some (AV.int .i64 (d'[q]'(by omega))):=rfl
     rw [this] at hy;exact (Option.some.inj hy).symm
    cases ha:arr[b0+(off+q)*1+0]? with
    |none=>rw [ha] at hv;simp at hv
    |some u=>
     rw [ha] at hv;simp only [Option.map_some,Option.some.injEq] at hv;rw [if_pos (by simp [ec];omega),show b0+(off+q)*1+0-(b0+off*1)=q by omega,getElem!_pos _ q (by simp;omega)] at hv
     subst hv;simp only [List.getElem_toArray];exact ⟨.fr _ _ (.int _ _),rfl⟩
   ·cases ha:arr[b0+i*1+0]? with
    |none=>rw [ha] at hv;simp at hv
    |some u=>rw [ha] at hv;simp only [Option.map_some,Option.some.injEq] at hv;rw [if_neg (by simp [ec];omega)] at hv;subst hv;exact lB i x 0 y u h hy ha
 have o3:=wI o2.st os;exact ⟨.ay [],_,φ,A,(o1.trans ae o2).trans ae o3,.fr _ _ (.ay [] #[] rfl (by simp)),rfl,by rw [aB]⟩
theorem Bc {P:Program} {f:FuncId} (hs:qb P f) {H:J} {v:AV} (hv:v= .nil∨v= .e0∨ ∃id ad off,v= .ref id ad off 0):cq P f [v] H (fun v1 H1=>v1= .ay []∧H1=H):=by
 refine ⟨hs.can,fun w A φ us ae hl cP=> ?_⟩;obtain ⟨u0,rfl⟩: ∃u0,us= #[u0]:=by
  match us,hl with
  |⟨[u0]⟩,_=>exact ⟨u0,rfl⟩
 have hx:R w H φ A v u0:=cP 0 _ _ rfl rfl;obtain ⟨p,cap,rfl⟩: ∃p cap,u0= .slice p 0 cap:=by
  rcases hv with rfl|rfl|⟨id,ad,off,rfl⟩
  ·cases hx with|fr _ _ h=>cases h;exact ⟨_,_,rfl⟩
  ·cases hx with|fr _ _ h=>cases h;exact ⟨_,_,rfl⟩
  ·exact hx.dy.2.1
 refine (hs.none p cap w).mono fun e w' he=> ?_
 obtain ⟨rfl,rfl⟩:=he;exact ⟨.ay [],H,φ,A,.refl ae,.fr _ _ (.ay [] #[] rfl (by simp)),rfl,rfl⟩
def Bd (ids:List (FuncId×FuncId×Nat)):bw:=fun f ys H K=> ∃g sz,(f,g,sz)∈ids∧0<sz∧
 ((∃v,(v= .nil∨v= .e0∨ ∃id ad off,v= .ref id ad off 0)∧ys=[v,.fn g []]∧K (.ay []) H)∨
  ∃(id ad off:Nat) (b:bB) (zs:List (ZR sz)),H.ap id ad=some b∧b.sz=sz∧0<zs.length∧off+zs.length≤b.el.length∧aE b.el off zs.length=zs.map c5∧zs.length<1152921504606846976∧
   ys=[.ref id ad off zs.length,.fn g []]∧K (.ay []) (H.bg id {b with el:=splice b.el off ((dh zs.toArray).toList.map c5)}))
def Be (nt:List FuncId):bw:=fun f ys H K=> ∃(l:List UInt8) (c:Nat),f∈nt∧c≤9223372036854775807∧l.length*c≤140737488355328∧ys=[.str l,.int .i64 c]∧K (.str (Lib.repeatL l c)) H
def Bf (nu:List FuncId):bw:=fun f ys H K=>f∈nu∧
 ((∃v,(v= .nil∨v= .e0∨ ∃id ad off,v= .ref id ad off 0)∧ys=[v]∧K (.ay []) H)∨
  ∃(id ad off:Nat) (b:bB) (zs:List Int),H.ap id ad=some b∧b.sz=1∧0<zs.length∧off+zs.length≤b.el.length∧aE b.el off zs.length=zs.map (AV.int .i64)∧zs.length<1152921504606846976∧
   ys=[.ref id ad off zs.length]∧K (.ay []) (H.bg id {b with el:=splice b.el off ((jC zs).map (AV.int .i64))}))
structure nv where
 ids:List (FuncId×Nat×Nat)
 qc:List (FuncId×FuncId×Nat)
 nt:List FuncId
 nu:List FuncId
def nw (I:nv):bw:=fun f ys H K=>ww I.ids f ys H K∨Bd I.qc f ys H K∨Be I.nt f ys H K∨Bf I.nu f ys H K
theorem Dq {P:Program} {E:aK} (hm:P.follows .mixedOrders=true) (hE: ∀t ti,E t=some ti→aR P t ti) {I:nv} (p6: ∀x∈I.ids,wx P E x.1 x.2.1 x.2.2) (hs: ∀x∈I.qc,p9 P x.1 x.2.1 x.2.2) (hr: ∀x∈I.nt,wO P x) (hi: ∀x∈I.nu,qb P x):
 ∀f ys H K,nw I f ys H K→ ∃v H',cq P f ys H (fun v1 H1=>v1=v∧H1=H')∧K v H' :=by
 rintro f ys H K (h|⟨g,sz,h1,h2,h⟩|⟨l,c,h1,h2,h3,rfl,hk⟩|⟨h1,h⟩)
 ·exact Ax hm hE p6 f ys H K h
 ·have hc:=hs _ h1;rcases h with ⟨v,hv,rfl,hk⟩|⟨id,ad,off,b,zs,k1,k2,k3,k4,k5,k6,rfl,hk⟩
  ·exact ⟨_,_,A7 hc hv,hk⟩
  ·exact ⟨_,_,AY hc k1 k2 k3 h2 k4 k5 k6,hk⟩
 ·exact ⟨_,_,A9 (hr _ h1) h2 h3,hk⟩
 ·have hc:=hi _ h1;rcases h with ⟨v,hv,rfl,hk⟩|⟨id,ad,off,b,zs,k1,k2,k3,k4,k5,k6,rfl,hk⟩
  ·exact ⟨_,_,Bc hc hv,hk⟩
  ·exact ⟨_,_,Bb hc k1 k2 k3 k4 k5 k6,hk⟩
theorem Dr {C:aI} {I:nv} (h:C.ext=nw I):Good C:=by
 constructor
 ·rintro f ys H K K' hK hx
  rw [h] at hx⊢;rcases hx with ⟨sz,b,xs,h1,h2,h3,h4,h5,h6⟩|⟨g,sz,h1,h2,hx⟩|⟨l,c,h1,h2,h3,e,hk⟩|⟨h1,hx⟩
  ·exact .inl ⟨sz,b,xs,h1,h2,h3,h4,h5,hK _ _ h6⟩
  ·refine .inr (.inl ⟨g,sz,h1,h2,?_⟩);rcases hx with ⟨v,hv,e,hk⟩|⟨id,ad,off,b,zs,k1,k2,k3,k4,k5,k6,e,hk⟩
   ·exact .inl ⟨v,hv,e,hK _ _ hk⟩
   ·exact .inr ⟨id,ad,off,b,zs,k1,k2,k3,k4,k5,k6,e,hK _ _ hk⟩
  ·exact .inr (.inr (.inl ⟨l,c,h1,h2,h3,e,hK _ _ hk⟩))
  ·refine .inr (.inr (.inr ⟨h1,?_⟩));rcases hx with ⟨v,hv,e,hk⟩|⟨id,ad,off,b,zs,k1,k2,k3,k4,k5,k6,e,hk⟩
   ·exact .inl ⟨v,hv,e,hK _ _ hk⟩
   ·exact .inr ⟨id,ad,off,b,zs,k1,k2,k3,k4,k5,k6,e,hK _ _ hk⟩
 ·rintro f ys H K hx;rw [h] at hx⊢;rcases hx with ⟨sz,b,xs,h1,h2,h3,h4,h5,h6⟩|⟨g,sz,h1,h2,hx⟩|⟨l,c,h1,h2,h3,e,hk⟩|⟨h1,hx⟩
  ·exact ⟨_,_,.inl ⟨sz,b,xs,h1,h2,h3,h4,h5,rfl,rfl⟩,h6⟩
  ·rcases hx with ⟨v,hv,e,hk⟩|⟨id,ad,off,b,zs,k1,k2,k3,k4,k5,k6,e,hk⟩
   ·exact ⟨_,_,.inr (.inl ⟨g,sz,h1,h2,.inl ⟨v,hv,e,rfl,rfl⟩⟩),hk⟩
   ·exact ⟨_,_,.inr (.inl ⟨g,sz,h1,h2,.inr ⟨id,ad,off,b,zs,k1,k2,k3,k4,k5,k6,e,rfl,rfl⟩⟩),hk⟩
  ·exact ⟨_,_,.inr (.inr (.inl ⟨l,c,h1,h2,h3,e,rfl,rfl⟩)),hk⟩
  ·rcases hx with ⟨v,hv,e,hk⟩|⟨id,ad,off,b,zs,k1,k2,k3,k4,k5,k6,e,hk⟩
   ·exact ⟨_,_,.inr (.inr (.inr ⟨h1,.inl ⟨v,hv,e,rfl,rfl⟩⟩)),hk⟩
   ·exact ⟨_,_,.inr (.inr (.inr ⟨h1,.inr ⟨id,ad,off,b,zs,k1,k2,k3,k4,k5,k6,e,rfl,rfl⟩⟩)),hk⟩
end Go.VS
namespace Go.VS
open Go.Sort
def ef {α :Type} {sz:Nat} {z: α →List Int} (l:List α) (h: ∀x∈l,gH sz (z x)):List (ZR sz):=l.attach.map fun x:{x // x∈l}=>⟨z x.1,h x.1 x.2⟩
theorem Bg {α :Type} {sz:Nat} {z: α →List Int} (l:List α) (h: ∀x∈l,gH sz (z x)):(ef l h).length=l.length:=by simp [ef]
theorem wP {α :Type} {sz:Nat} {z: α →List Int} {l:List α} {h: ∀x∈l,gH sz (z x)} {y:ZR sz} (hy:y∈ef l h): ∃x∈l,y.1=z x:=by
 obtain ⟨x,_,rfl⟩:=List.mem_map.1 hy;exact ⟨x.1,x.2,rfl⟩
theorem wQ {α β :Type} {sz:Nat} {z: α →List Int} (l:List α) (h: ∀x∈l,gH sz (z x)) (f:ZR sz→ β) (g: α → β) (hg: ∀x (hx:x∈l),f ⟨z x,h x hx⟩=g x):(ef l h).map f=l.map g:=by
 unfold ef;rw [List.map_map];have:(f∘fun x:{x // x∈l}=>(⟨z x.1,h x.1 x.2⟩:ZR sz))=fun x=>g x.1:=by funext x;exact hg x.1 x.2
 rw [this,List.attach_map_val (f:=g)]
noncomputable def nx {α :Type} (sz:Nat) (z: α →List Int) (dec:List Int→ α) (l:List α):Option (List α):=
 if h:(∀x∈l,gH sz (z x))∧l.length<1152921504606846976 then
  some ((dh (ef l h.1).toArray).toList.map fun y=>dec y.1)
 else none
theorem wR {sz:Nat} (zs:List (ZR sz)):(dh zs.toArray).toList.Perm zs∧(dh zs.toArray).toList.Pairwise fun x y=>kd x≤kd y:=by
 obtain ⟨⟨h1,_,h2⟩,h3⟩:=wH zs.toArray;have e1:(dh zs.toArray).extract 0 zs.toArray.size=dh zs.toArray:=by rw [←h1];simp
 have e2:zs.toArray.extract 0 zs.toArray.size=zs.toArray:=by simp
 rw [e1,e2] at h2;refine ⟨by simpa using h2,?_⟩
 rw [List.pairwise_iff_getElem];intro i j hi hj jq;simp only [Array.length_toList] at hi hj;have:=h3 i j (Nat.zero_le _) jq (by rw [←h1];exact hj)
 rw [np,decide_eq_false_iff_not,getElem!_pos _ j hj,getElem!_pos _ i hi] at this;simp only [Array.getElem_toList];omega
theorem Ds {α :Type} {sz:Nat} {z: α →List Int} {dec:List Int→ α} (hd: ∀x,dec (z x)=x) {l:List α} (h: ∀x∈l,gH sz (z x)) (hl:l.length<1152921504606846976):
 ∃r,nx sz z dec l=some r∧r.Perm l∧r.Pairwise fun x y=>(z x).headD 0≤(z y).headD 0:=by
 unfold nx;rw [dif_pos ⟨h,hl⟩];obtain ⟨p1,p2⟩:=wR (ef l h);have mem: ∀y∈(dh (ef l h).toArray).toList,z (dec y.1)=y.1:=fun y hy=>by
  obtain ⟨x,_,e⟩:=wP ((p1.mem_iff).1 hy);rw [e,hd]
 revert p1 p2 mem;generalize (dh (ef l h).toArray).toList=s;intro p1 p2 mem;have cX:((ef l h).map fun y=>dec y.1)=l:=by rw [wQ l h _ (fun x=>x) (fun x _=>hd x)];simp
 refine ⟨_,rfl,?_,?_⟩
 ·have:=p1.map fun y:ZR sz=>dec y.1
  rwa [cX] at this
 ·rw [List.pairwise_map];refine p2.imp_of_mem fun {a b} ha hb Bh=> ?_;rw [mem a ha,mem b hb];exact Bh
section
variable {C:aI} {I:nv}
theorem Dt (hx:C.ext=nw I) {α :Type} {f:FuncId} {sz b:Nat} (bO:(f,sz,b)∈I.ids) {c: α →AV} (hc: ∀x,(c x).cells.length=sz) (h0:sz≠0) {l r:List α} (h:app b [] l=some r) {F:List It} {H:J} (hS:aD H F)
 {P:AV→J→Prop} (hP: ∀v,bJ v→ ∀H',aD H' (⟨v,sz,r.map c⟩::F)→P v H'):aq C f [.fz (l.map c)] H P:=by
 unfold app at h;split at h
 ·rename_i hr;simp only [List.nil_append,Option.some.injEq] at h;subst h;simp only [List.length_nil,Nat.zero_add] at hr;refine aq.ext ?_;rw [hx];refine .inl ⟨sz,b,l.map c,bO,rfl,nh hc l,h0,by simpa using hr,?_⟩
  cases l with
  |nil=>exact hP _ pQ _ (by simpa using hS.z8 sz)
  |cons x l=>
   rw [if_neg (by simp),if_neg (by simp)]
   exact hP _ (ii ..) _ (hS.nb (all:=(x::l).map c) (List.take_of_length_le (Nat.le_refl _)) rfl (nh hc _))
 ·simp at h
theorem Du (hx:C.ext=nw I) {α :Type} {f g:FuncId} {sz:Nat} (bO:(f,g,sz)∈I.qc) (h0:0<sz) {c: α →AV} {z: α →List Int} {dec:List Int→ α} (hc: ∀x,c x= .agg ((z x).map (AV.int .i64))) (hd: ∀x,dec (z x)=x) {l r:List α} (h:nx sz z dec l=some r)
 {v:AV} {F:List It} {H:J} (hS:aD H (⟨v,sz,l.map c⟩::F)) (_qv:bJ v) {P:AV→J→Prop} (hP: ∀H',aD H' (⟨v,sz,r.map c⟩::F)→P (.ay []) H'):aq C f [v,.fn g []] H P:=by
 unfold nx at h;split at h
 ·rename_i hh;obtain ⟨af,hlen⟩:=hh;simp only [Option.some.injEq] at h;obtain ⟨p1,_⟩:=wR (ef l af);have ct:(ef l af).length=l.length:=Bg l af;have qd:(ef l af).map c5=l.map c:=wQ l af _ c (fun x _=>(hc x).symm);have jd: ∀y∈(dh (ef l af).toArray).toList,c (dec y.1)=c5 y:=fun y hy=>by
   obtain ⟨x,_,e⟩:=wP ((p1.mem_iff).1 hy);unfold c5;rw [e,hd,hc]
  have kf:r.map c=(dh (ef l af).toArray).toList.map c5:=by
   rw [←h,List.map_map];exact List.map_congr_left fun y hy=>jd y hy
  have hJ:r.length=l.length:=by
   have:=congrArg List.length kf;rw [List.length_map,List.length_map,p1.length_eq,ct] at this;exact this
  clear jd p1 h;revert ct qd kf;generalize ef l af=zs;intro ct qd kf;obtain ⟨k0,k1⟩:=hS.ok 0 _ rfl;refine aq.ext ?_;rw [hx];refine .inr (.inl ⟨g,sz,bO,h0,?_⟩);by_cases cY:l=[]
  ·subst cY;have fg:r=[]:=List.eq_nil_of_length_eq_zero hJ;subst fg;refine .inl ⟨v,?_,rfl,hP H hS⟩;cases v with
   |nil=>exact .inl rfl
   |e0=>exact .inr (.inl rfl)
   |ref id ad off len=>exact .inr (.inr ⟨id,ad,off,by simp only at k1;rw [k1.1];rfl⟩)
   |ptr id ad idx off=>simp at k1
   |_=>exact k1.elim
  ·have Dv:0<l.length:=List.length_pos_iff.2 cY;cases v with
   |nil=>simp only [List.map_eq_nil_iff] at k1;exact absurd k1 cY
   |e0=>simp only [List.map_eq_nil_iff] at k1;exact absurd k1 cY
   |ref id ad off len=>
    simp only at k1;obtain ⟨dB,b,hb,cH,Bi,hle,cb⟩:=k1;rw [List.length_map,←ct] at dB;subst dB;refine .inr ⟨id,ad,off,b,zs,hb,cH,by omega,hle,by rw [cb,qd],by omega,rfl,?_⟩
    have bN:=(J.bn hb).2;have hu:=hS.bg (H' :=H.bg id {b with el:=splice b.el off ((dh zs.toArray).toList.map c5)}) (j:=0) (it' :=⟨.ref id ad off zs.length,sz,r.map c⟩) rfl (i:=id) rfl (fun gf gY aM _=>m_ aM) ?_ (fun k hk=>by simpa [b5] using hk.symm)
    ·exact hP _ hu
    ·have ni:((dh zs.toArray).toList.map c5).length=zs.length:=by rw [←kf,List.length_map,hJ,ct]
     refine ⟨?_,by simp only;rw [List.length_map,hJ,ct],{b with el:=splice b.el off ((dh zs.toArray).toList.map c5)},?_,cH,Bi,?_,?_⟩
     ·rw [kf];unfold bM;rw [List.all_eq_true];intro x hx;obtain ⟨y,_,rfl⟩:=List.mem_map.1 hx;simpa using nq y
     ·subst bN;exact na (H:=H) (b:={b with el:=splice b.el off ((dh zs.toArray).toList.map c5)}) (J.gL (J.bn hb).1)
     ·simp only [splice,List.length_append,List.length_take,List.length_drop,ni];omega
     ·simp only [splice,aE];rw [kf];have e1:(b.el.take off).length=off:=by simp;omega
      rw [List.append_assoc,List.drop_append_of_le_length (by omega),List.drop_eq_nil_of_le (by omega),List.nil_append,←ni,List.take_left'];rfl
   |ptr id ad idx off=>
    exact absurd _qv (by intro q;rcases q.ok with h|h|⟨_,_,_,_,h⟩<;>simp at h)
   |_=>exact k1.elim
 ·simp at h
def Dw (l:List UInt8) (n:Int):Option (List UInt8):=if 0≤n∧n≤9223372036854775807∧l.length*n.toNat≤140737488355328 then some (Lib.repeatL l n.toNat) else none
def Dx (l:List Int):Option (List Int):=if l.length<1152921504606846976 then some (jC l) else none
end
end Go.VS
