import Derived.Test.YtmbfhipfcjmhmaaGreatVaE
import Derived.Shelf.SlSortCmp.InsertionK
import Derived.Sort.AssemblyPlain
import Derived.Below
import Derived.Lib.Repeat
import Derived.Lib.SlicesCompact
import Derived.Laws.IdiomCopy
import Derived.Laws.AppendOwn
namespace Go.VS
open Go.Sort Go.Proofs
def iH (sz:Nat) (z:List Int):Prop:=z.length=sz∧ -2305843009213693952≤z.headD 0∧z.headD 0≤2305843009213693952
instance (sz:Nat) (z:List Int):Decidable (iH sz z):=by unfold iH;infer_instance
abbrev ZR (sz:Nat):={z:List Int // iH sz z}
theorem DB (sz:Nat):iH sz (List.replicate sz 0):=by
 refine ⟨by simp,?_⟩
 cases sz<;>simp [List.replicate]
instance (sz:Nat):Inhabited (ZR sz):=⟨⟨List.replicate sz 0,DB sz⟩⟩
def iI {sz:Nat} (x:ZR sz):List Value:=x.1.map (Value.int .i64)
def lJ {sz:Nat} (x:ZR sz):Int:=x.1.headD 0
def lK {sz:Nat} (x y:ZR sz):Int:=lJ x-lJ y
theorem o7 {sz:Nat} (x y:ZR sz):ltOf lK x y=decide (lJ x<lJ y):=by
 unfold ltOf lK;rw [Bool.eq_iff_iff,decide_eq_true_eq,decide_eq_true_eq];omega
theorem DC (sz:Nat):SWO (ltOf (lK (sz:=sz))) where
 irrefl x:=by rw [o7];simp
 trans x y z h1 h2:=by rw [o7] at*;simp at*;omega
 ntrans x y z h1 h2:=by rw [o7] at*;simp at*;omega
def dP {sz:Nat} (d:Array (ZR sz)):Array (ZR sz):=pdq (ltOf lK) d 0 d.size (Lib.bitLen d.size) true true
theorem yZ {sz:Nat} (d:Array (ZR sz)):PermIn 0 d.size d (dP d)∧SortedIn (ltOf lK) 0 d.size (dP d):=
 pdq_sorts (ltOf lK) (DC sz) d 0 d.size (Lib.bitLen d.size) true true (Nat.zero_le _) (Nat.le_refl _) (Or.inl rfl)
def dA {sz:Nat} (z:ZR sz):AV:= .agg (z.1.map (AV.int .i64))
structure o8 (P:Program) (f g:FuncId) (sz:Nat):Prop where
 can:gT P f
 eq: ∀(ap off cap:Nat) (d:Array (ZR sz)) (w:World),HoldsK iI sz w ap off d→ap<w.heap.size→d.size<4611686018427387904→
  Calls P f #[.slice (some ⟨ap,off,none⟩) d.size cap,.func (.func g) #[] #[]] w fun e w' =>e= .returned (.tuple #[])∧ ∃n os,w' =sortWorldK iI sz w ap off n (dP d) os
 none: ∀(p:Option Addr) (cap:Nat) (fv:Value) (w:World),Calls P f #[.slice p 0 cap,fv] w fun e w' =>e= .returned (.tuple #[])∧w' =w
theorem y3 {w:World} {G:J} {φ :ag} {A:aj} (ae:St w G φ A) (os:Array Obj):Out w G φ A (grow w os) G φ A:=by
 have old: ∀c,c<w.heap.size→(grow w os).heap[c]? =w.heap[c]? :=fun c hc=>by
  show (w.heap ++ os)[c]? =_;rw [Array.getElem?_append_left hc]
 have aS:bM w G φ A (grow w os) G φ A:=⟨fun c a t fr hc hn=>⟨⟨fr,by rw [old c (ew hc)];exact hc⟩,hn⟩,Nat.le_refl _,
  fun i b' au _=>⟨b',au,rfl,rfl,rfl,rfl,fun loc hl=>hl⟩,fun c hc=>by unfold aR;rw [old c (Ow.lt ae hc)]⟩
 have aC:w.heap.size≤(grow w os).heap.size:=by show _≤(w.heap ++ os).size;simp
 refine ⟨⟨ae.inj,ae.own,fun c hc=>Nat.lt_of_lt_of_le (ae.b7 c hc) aC,fun i loc hl=> ?_⟩,
  ⟨rfl,rfl,rfl,aC,fun c hc _=>old c hc,fun c hc=>by unfold aR;rw [old c hc],fun c hc=> .inl hc⟩,aS,fun c hc _=>hc⟩
 obtain ⟨b',cu,au⟩:=ae.ap i loc hl;refine ⟨b',cu,au.ad,au.sized,au.aP,fun c b0 h=> ?_⟩;obtain ⟨a,t,fr,h1,h2,h3,h4⟩:=au.here c b0 h;exact ⟨a,t,fr,by rw [old c (ew h1)];exact h1,h2,h3,fun i x j y v hx hy hv=>⟨(h4 i x j y v hx hy hv).1.mono aS,(h4 i x j y v hx hy hv).2⟩⟩
theorem y4 {w:World} {G:J} {φ :ag} {A:aj} (ae:St w G φ A) (n:Nat):Out w G φ A (Sort.ahead w n) G φ A:=by
 have aS:bM w G φ A (Sort.ahead w n) G φ A:=⟨fun c arr T fr hc hn=>⟨⟨fr,hc⟩,hn⟩,Nat.le_refl _,fun id b h _=>⟨b,h,rfl,rfl,rfl,rfl,fun _ h=>h⟩,fun _ _=>rfl⟩;have kD:St (Sort.ahead w n) G φ A:=by
  refine ⟨ae.inj,ae.own,ae.b7,fun id loc hl=> ?_⟩;obtain ⟨b,hb,af⟩:=ae.ap id loc hl;refine ⟨b,hb,af.ad,af.sized,af.aP,fun c b0 he=> ?_⟩;obtain ⟨arr,T,fr,k1,k2,k3,k4⟩:=af.here c b0 he;exact ⟨arr,T,fr,k1,k2,k3,fun i x j y v hx hy hv=>⟨(k4 i x j y v hx hy hv).1.mono aS,(k4 i x j y v hx hy hv).2⟩⟩
 exact ⟨kD,⟨rfl,rfl,rfl,Nat.le_refl _,fun _ _ _=>rfl,fun _ _=>rfl,fun _ h=> .inl h⟩,aS,fun _ h _=>h⟩
theorem y5 {w:World} {c:Nat} {arr:Array Value} {T:TypeId} {fr:Nat×Nat} (h:w.heap[c]? =some (.cells arr T fr)) (f:Array Value→Array Value):iR w c (.cells (f arr) T fr) (mapBlock w c f):=by
 refine ⟨?_,fun k hk=> ?_,by show (w.heap.modify c (onCells f)).size=_;simp,rfl,rfl,rfl⟩
 ·show (w.heap.modify c (onCells f))[c]? =_;rw [Array.getElem?_modify,if_pos rfl,h];rfl
 ·show (w.heap.modify c (onCells f))[k]? =_;rw [Array.getElem?_modify,if_neg (fun e=>hk e.symm)]
theorem y6 {sz:Nat} (x:ZR sz) (r:Nat) (h:r<sz):(iI x)[r]! = .int .i64 (x.1[r]'(by rw [x.2.1];exact h)):=by
 have hl:r<(iI x).length:=by unfold iI;rw [List.length_map,x.2.1];exact h
 rw [getElem!_pos _ r hl];simp [iI]
theorem r9 {sz:Nat} (x:ZR sz):(dA x).cells=x.1.map (AV.int .i64):=rfl
theorem o9 {sz:Nat} (x:ZR sz):(dA x).cells.length=sz:=by rw [r9,List.length_map,x.2.1]
theorem DE {sz:Nat} (x:ZR sz) {j:Nat} {y:AV} (h:(dA x).cells[j]? =some y): ∃hj:j<sz,y= .int .i64 (x.1[j]'(by rw [x.2.1];exact hj)):=by
 have hj:j<sz:=by rw [←o9 x];exact (List.getElem?_eq_some_iff.1 h).1
 refine ⟨hj,?_⟩;rw [r9,List.getElem?_map,List.getElem?_eq_getElem (by rw [x.2.1];exact hj)] at h
 simpa using h.symm
theorem y7 {sz q r:Nat} (h:r<sz):(q*sz+r)/sz=q∧(q*sz+r) % sz=r:=by
 constructor
 ·rw [Nat.mul_comm,Nat.mul_add_div (by omega),Nat.div_eq_of_lt h,Nat.add_zero]
 ·rw [Nat.mul_comm,Nat.mul_add_mod,Nat.mod_eq_of_lt h]
theorem o_ {q n sz r:Nat} (hq:q<n) (hr:r<sz):q*sz+r<n*sz:=by
 have:=Nat.mul_le_mul_right sz (show q+1≤n from hq);rw [Nat.add_mul,Nat.one_mul] at this;omega
theorem DF {P:Program} {f g:FuncId} {sz:Nat} (hs:o8 P f g sz) {H:J} {id ad off:Nat} {b:bu} {zs:List (ZR sz)} (hb:H.ap id ad=some b) (aC:b.sz=sz) (h0:0<zs.length) (hz:0<sz) (hle:off+zs.length≤b.el.length) (bG:aB b.el off zs.length=zs.map dA) (hlen:zs.length<1152921504606846976):
 b_ P f [.ref id ad off zs.length,.fn g []] H (fun v1 H1=>v1= .aD []∧H1=H.aZ id {b with el:=splice b.el off ((dP zs.toArray).toList.map dA)}):=by
 refine ⟨hs.can,fun w A φ us ae hl b8=> ?_⟩;obtain ⟨u0,u1,rfl⟩: ∃u0 u1,us= #[u0,u1]:=by
  match us,hl with
  |⟨[u0,u1]⟩,_=>exact ⟨u0,u1,rfl⟩
 have hx:R w H φ A (.ref id ad off zs.length) u0:=b8 0 _ _ rfl rfl;have hf:R w H φ A (.fn g []) u1:=b8 1 _ _ rfl rfl;obtain rfl:u1= .func (.func g) #[] #[]:=by
  cases hf with
  |fr _ _ h=>cases h with|fn _ _ vs h2 _=>rw [Array.eq_empty_of_size_eq_zero (show vs.size=0 from h2.symm)]
  |fn _ _ vs h2 _=>rw [Array.eq_empty_of_size_eq_zero (show vs.size=0 from h2.symm)]
 obtain ⟨c,b0,cap,aV,rfl,k1,k2,k3,k4⟩:=lb hx hb h0;have hg:=(J.bd hb).1;obtain ⟨b',au,af⟩:=ae.ap id _ aV;rw [hg] at au;simp only [Option.some.injEq] at au;subst au;obtain ⟨arr,T,fr,m1,m2,m3,m4⟩:=af.here c b0 rfl;rw [aC] at m3 m4⊢;have bp: ∀i (hi:i<zs.length),b.el[off+i]? =some (dA zs[i]):=fun i hi=>by
  have:=congrArg (fun l=>l[i]?) bG;simp only [aB,List.getElem?_map,List.getElem?_eq_getElem hi,Option.map_some] at this;rw [List.getElem?_take_of_lt hi,List.getElem?_drop] at this;exact this
 have l7: ∀i r,b0+(off+i)*sz+r=b0+off*sz+(i*sz+r):=fun i r=>by rw [Nat.add_mul];omega
 have nz:(off+zs.length)*sz≤b.el.length*sz:=Nat.mul_le_mul_right sz hle;have G4:(off+zs.length)*sz=off*sz+zs.length*sz:=Nat.add_mul ..;have hH:HoldsK iI sz w c (b0+off*sz) zs.toArray:=by
  intro t ht;rw [size_flatK] at ht;have cM:t<zs.length*sz:=by simpa using ht
  have hq:t/sz<zs.length:=Nat.div_lt_of_lt_mul (by rw [Nat.mul_comm];exact cM)
  have hr:t % sz<sz:=Nat.mod_lt _ hz;have jB:t/sz*sz+t % sz=t:=by rw [Nat.mul_comm];exact Nat.div_add_mod t sz
  have az:b0+off*sz+t<arr.size:=by omega
  have hv:=Array.getElem?_eq_getElem az;have hc:(dA zs[t/sz]).cells[t % sz]? =some (.int .i64 ((zs[t/sz]).1[t % sz]'(by rw [(zs[t/sz]).2.1];exact hr))):=by
   rw [r9,List.getElem?_map,List.getElem?_eq_getElem (by rw [(zs[t/sz]).2.1];exact hr)];rfl
  have hR:=(m4 (off+t/sz) _ (t % sz) _ _ (bp _ hq) hc (by rw [l7,jB];exact hv)).1.ct
  refine ⟨?_,?_⟩
  ·unfold World.cell?;simp only [m1,Option.isSome_none,Bool.false_eq_true,if_false];rw [hv,hR,get_flatK _ _ _ _ ht];have e1:zs.toArray[t/sz]! =zs[t/sz]:=by rw [getElem!_pos _ _ (by simpa using hq)];simp
   rw [e1,y6 _ _ hr];rfl
  ·unfold World.frozen?;simp only [m1];have:=m2 _ (Nat.lt_of_lt_of_le az (Nat.le_add_right _ _));obtain ⟨lo,hi⟩:=fr;simp only at this⊢;rw [Bool.and_eq_false_iff,decide_eq_false_iff_not,decide_eq_false_iff_not];omega
 have y8:=hs.eq c (b0+off*sz) cap zs.toArray w hH (ew m1) (by simpa using (show zs.length<4611686018427387904 by omega))
 rw [show zs.toArray.size=zs.length from by simp] at y8
 refine y8.mono fun e w' he=> ?_
 obtain ⟨rfl,n,os,rfl⟩:=he;have DG:=(yZ zs.toArray).1.1;have fo:(dP zs.toArray).size=zs.length:=by rw [DG];simp
 generalize dP zs.toArray=d' at fo⊢
 have iC:(splice b.el off (d'.toList.map dA)).length=b.el.length:=by
  unfold splice;simp only [List.length_append,List.length_take,List.length_drop,List.length_map,Array.length_toList,fo];omega
 have bB: ∀i x,(splice b.el off (d'.toList.map dA))[i]? =some x→(i<off∧b.el[i]? =some x)∨(∃q,∃hq:q<zs.length,i=off+q∧x=dA (d'[q]'(by omega)))∨(off+zs.length≤i∧b.el[i]? =some x):=fun i x hx=>by
  unfold splice at hx;rw [List.append_assoc] at hx;by_cases h1:i<off
  ·rw [List.getElem?_append_left (by simp;omega),List.getElem?_take_of_lt h1] at hx
   exact .inl ⟨h1,hx⟩
  ·rw [List.getElem?_append_right (by simp;omega)] at hx
   have e1:(b.el.take off).length=off:=by simp;omega
   rw [e1] at hx;by_cases h2:i-off<zs.length
   ·rw [List.getElem?_append_left (by simp [fo];omega),List.getElem?_map] at hx
    refine .inr (.inl ⟨i-off,h2,by omega,?_⟩)
    rw [List.getElem?_eq_getElem (by simp [fo];omega)] at hx
    simpa using hx.symm
   ·rw [List.getElem?_append_right (by simp [fo];omega),List.getElem?_drop] at hx
    refine .inr (.inr ⟨by omega,?_⟩)
    rw [←hx];congr 1;simp [fo];omega
 have o1:=y4 ae n;have r_:iR (Sort.ahead w n) c (.cells (putCells _root_.id (b0+off*sz) (flatK iI sz d') arr) T fr) (putRowK iI sz (Sort.ahead w n) c (b0+off*sz) d'):=y5 (w:=Sort.ahead w n) m1 _;have m_: ∀(i:Nat) (x:AV) (j:Nat) (y:AV) (v:Value),b.el[i]? =some x→x.cells[j]? =some y→arr[b0+i*sz+j]? =some v→R (Sort.ahead w n) H φ A y v∧v.oneCell' =true:=fun i x j y v h1 h2 h3=>
  ⟨(m4 i x j y v h1 h2 h3).1.mono o1.bF,(m4 i x j y v h1 h2 h3).2⟩
 have jp: ∀(i:Nat) (x:AV),b.el[i]? =some x→x.cells.length=sz:=fun i x hx=>by rw [af.sized i x hx,aC]
 have o2:Out (Sort.ahead w n) H φ A (putRowK iI sz (Sort.ahead w n) c (b0+off*sz) d') (H.aZ id {b with el:=splice b.el off (d'.toList.map dA)}) φ A:=by
  refine nE (b' :={b with el:=splice b.el off (d'.toList.map dA)}) o1.st hg aV rfl rfl rfl iC m1 r_ (by unfold putCells;simp) (fun i x hx=> ?_) (fun i x j y v hx hy hv=> ?_)
  ·rw [aC];rcases bB i x hx with ⟨_,h⟩|⟨q,hq,_,rfl⟩|⟨_,h⟩
   ·exact jp i x h
   ·exact o9 _
   ·exact jp i x h
  ·simp only [aC] at hv;unfold putCells at hv;rw [Array.getElem?_mapIdx,size_flatK,fo] at hv;have hj:j<sz:=by
    have h1:=(List.getElem?_eq_some_iff.1 hy).1;rcases bB i x hx with ⟨_,h⟩|⟨q,hq,_,rfl⟩|⟨_,h⟩
    ·rw [jp i x h] at h1;exact h1
    ·rw [o9] at h1;exact h1
    ·rw [jp i x h] at h1;exact h1
   rcases bB i x hx with ⟨h1,h⟩|⟨q,hq,rfl,rfl⟩|⟨h1,h⟩
   ·have:=o_ (sz:=sz) h1 hj;cases ha:arr[b0+i*sz+j]? with
    |none=>rw [ha] at hv;simp at hv
    |some u=>rw [ha] at hv;simp only [Option.map_some,Option.some.injEq] at hv;rw [if_neg (by omega)] at hv;subst hv;exact m_ i x j y u h hy ha
   ·have hr:=o_ (sz:=sz) hq hj;obtain ⟨xI,rfl⟩:=DE _ hy;rw [l7] at hv;cases ha:arr[b0+off*sz+(q*sz+j)]? with
    |none=>rw [ha] at hv;simp at hv
    |some u=>
     rw [ha] at hv;simp only [Option.map_some,Option.some.injEq,_root_.id] at hv;rw [if_pos (by omega),show b0+off*sz+(q*sz+j)-(b0+off*sz)=q*sz+j by omega,get_flatK _ _ _ _ (by rw [fo];exact hr),(y7 hj).1,(y7 hj).2,getElem!_pos d' q (by omega),y6 _ _ hj] at hv
     subst hv;exact ⟨.fr _ _ (.int _ _),rfl⟩
   ·have:(off+zs.length)*sz≤i*sz:=Nat.mul_le_mul_right sz h1;cases ha:arr[b0+i*sz+j]? with
    |none=>rw [ha] at hv;simp at hv
    |some u=>rw [ha] at hv;simp only [Option.map_some,Option.some.injEq] at hv;rw [if_neg (by omega)] at hv;subst hv;exact m_ i x j y u h hy ha
 have o3:=y3 o2.st os;exact ⟨.aD [],_,φ,A,(o1.trans ae o2).trans ae o3,.fr _ _ (.aD [] #[] rfl (by simp)),rfl,by rw [aC]⟩
theorem DH {P:Program} {f g:FuncId} {sz:Nat} (hs:o8 P f g sz) {H:J} {v:AV} (hv:v= .nil∨v= .e0∨ ∃id ad off,v= .ref id ad off 0):b_ P f [v,.fn g []] H (fun v1 H1=>v1= .aD []∧H1=H):=by
 refine ⟨hs.can,fun w A φ us ae hl b8=> ?_⟩;obtain ⟨u0,u1,rfl⟩: ∃u0 u1,us= #[u0,u1]:=by
  match us,hl with
  |⟨[u0,u1]⟩,_=>exact ⟨u0,u1,rfl⟩
 have hx:R w H φ A v u0:=b8 0 _ _ rfl rfl;obtain ⟨p,cap,rfl⟩: ∃p cap,u0= .slice p 0 cap:=by
  rcases hv with rfl|rfl|⟨id,ad,off,rfl⟩
  ·cases hx with|fr _ _ h=>cases h;exact ⟨_,_,rfl⟩
  ·cases hx with|fr _ _ h=>cases h;exact ⟨_,_,rfl⟩
  ·exact hx.dC.2.1
 refine (hs.none p cap u1 w).mono fun e w' he=> ?_
 obtain ⟨rfl,rfl⟩:=he;exact ⟨.aD [],H,φ,A,.refl ae,.fr _ _ (.aD [] #[] rfl (by simp)),rfl,rfl⟩
structure sa (P:Program) (f:FuncId):Prop where
 can:gT P f
 eq: ∀(s:ByteArray) (c:Nat) (w:World),c≤9223372036854775807→s.size*c≤140737488355328→Calls P f #[.string s,.int .i64 c] w fun e w' =>e= .returned (.string ⟨(Lib.repeatL s.data.toList c).toArray⟩)∧Go.RowKit.Below w.heap.size w w'
theorem DI {w w' :World} {G:J} {φ :ag} {A:aj} (ae:St w G φ A) (hb:Go.RowKit.Below w.heap.size w w'):Out w G φ A w' G φ A:=by
 have old: ∀c,c<w.heap.size→w'.heap[c]? =w.heap[c]? :=hb.block;have aS:bM w G φ A w' G φ A:=⟨fun c a t fr hc hn=>⟨⟨fr,by rw [old c (ew hc)];exact hc⟩,hn⟩,Nat.le_refl _,
  fun i b' au _=>⟨b',au,rfl,rfl,rfl,rfl,fun loc hl=>hl⟩,fun c hc=>by unfold aR;rw [old c (Ow.lt ae hc)]⟩
 refine ⟨⟨ae.inj,ae.own,fun c hc=>Nat.lt_of_lt_of_le (ae.b7 c hc) hb.size,fun i loc hl=> ?_⟩,
  ⟨hb.os,hb.tape,hb.output,hb.size,fun c hc _=>old c hc,fun c hc=>by unfold aR;rw [old c hc],fun c hc=> .inl hc⟩,aS,fun c hc _=>hc⟩
 obtain ⟨b',cu,au⟩:=ae.ap i loc hl;refine ⟨b',cu,au.ad,au.sized,au.aP,fun c b0 h=> ?_⟩;obtain ⟨a,t,fr,h1,h2,h3,h4⟩:=au.here c b0 h;exact ⟨a,t,fr,by rw [old c (ew h1)];exact h1,h2,h3,fun i x j y v hx hy hv=>⟨(h4 i x j y v hx hy hv).1.mono aS,(h4 i x j y v hx hy hv).2⟩⟩
theorem DJ {P:Program} {f:FuncId} (hs:sa P f) {H:J} {l:List UInt8} {c:Nat} (hc:c≤9223372036854775807) (hl:l.length*c≤140737488355328):b_ P f [.str l,.int .i64 c] H (fun v1 H1=>v1= .str (Lib.repeatL l c)∧H1=H):=by
 refine ⟨hs.can,fun w A φ us ae hlen b8=> ?_⟩;obtain ⟨u0,u1,rfl⟩: ∃u0 u1,us= #[u0,u1]:=by
  match us,hlen with
  |⟨[u0,u1]⟩,_=>exact ⟨u0,u1,rfl⟩
 have hx:R w H φ A (.str l) u0:=b8 0 _ _ rfl rfl;have hy:R w H φ A (.int .i64 c) u1:=b8 1 _ _ rfl rfl;obtain rfl:=hy.ct;obtain ⟨s,rfl,rfl⟩:=hx.fb;refine (hs.eq s c w hc (by simpa [←Lib.size_eq] using hl)).mono fun e w' he=> ?_
 obtain ⟨rfl,hb⟩:=he;exact ⟨.str (Lib.repeatL s.data.toList c),H,φ,A,DI ae hb,.fr _ _ (by simpa using FR.str (w:=w') (A:=A) ⟨(Lib.repeatL s.data.toList c).toArray⟩),rfl,rfl⟩
structure pa (P:Program) (f:FuncId):Prop where
 can:gT P f
 eq: ∀(ap off cap:Nat) (zs:List Int) (w:World),Holds (Value.int .i64) w ap off zs.toArray→ap<w.heap.size→zs.length<4611686018427387904→
  Calls P f #[.slice (some ⟨ap,off,none⟩) zs.length cap] w fun e w' =>e= .returned (.tuple #[])∧ ∃n os,w' =grow (putRow (Value.int .i64) (Sort.ahead w n) ap off (zs.mergeSort fun x y=>decide (x≤y)).toArray) os
 none: ∀(p:Option Addr) (cap:Nat) (w:World),Calls P f #[.slice p 0 cap] w fun e w' =>e= .returned (.tuple #[])∧w' =w
def g_ (zs:List Int):List Int:=zs.mergeSort fun x y=>decide (x≤y)
theorem DK (zs:List Int):(g_ zs).Perm zs:=List.mergeSort_perm _ _
theorem sb (zs:List Int):(g_ zs).length=zs.length:=(DK zs).length_eq
theorem DL {w:World} {H:J} {φ :ag} {A:aj} {id ad off n m cap:Nat} {a:Option Addr} (h:R w H φ A (.ref id ad off n) (.slice a n cap)) (hm:m≤n):R w H φ A (.ref id ad off m) (.slice a m cap):=by
 obtain ⟨h1,_,h3⟩:=h.dC;refine .ref id ad off m _ h1 ⟨_,_,rfl⟩ fun b hb=> ?_;obtain ⟨loc,a',dZ,k1,k2,k3,k4,k5,k6⟩:=(h3 b hb).out;simp only [Value.slice.injEq,true_and] at k2;obtain ⟨rfl,rfl⟩:=k2;exact ⟨loc,_,_,k1,rfl,by omega,by omega,k5,k6⟩
theorem y9 {w:World} {H:J} {φ :ag} {A:aj} {id ad off:Nat} {b:bu} {zs:List Int} {u0:Value} (ae:St w H φ A) (hx:R w H φ A (.ref id ad off zs.length) u0) (hb:H.ap id ad=some b) (aC:b.sz=1) (h0:0<zs.length) (hle:off+zs.length≤b.el.length) (bG:aB b.el off zs.length=zs.map (AV.int .i64)):
 ∃c o cap,u0= .slice (some ⟨c,o,none⟩) zs.length cap∧zs.length≤cap∧c<w.heap.size∧Holds (Value.int .i64) w c o zs.toArray∧
  ∀n (d' :List Int),d'.length=zs.length→Out w H φ A (putRow (Value.int .i64) (Sort.ahead w n) c o d'.toArray) (H.aZ id {b with el:=splice b.el off (d'.map (AV.int .i64))}) φ A:=by
 obtain ⟨c,b0,cap,aV,rfl,k1,k2,k3,k4⟩:=lb hx hb h0;have hg:=(J.bd hb).1;obtain ⟨b',au,af⟩:=ae.ap id _ aV;rw [hg] at au;simp only [Option.some.injEq] at au;subst au;obtain ⟨arr,T,fr,m1,m2,m3,m4⟩:=af.here c b0 rfl;rw [aC] at m3 m4⊢;have bp: ∀i (hi:i<zs.length),b.el[off+i]? =some (AV.int .i64 zs[i]):=fun i hi=>by
  have:=congrArg (fun l=>l[i]?) bG;simp only [aB,List.getElem?_map,List.getElem?_eq_getElem hi,Option.map_some] at this;rw [List.getElem?_take_of_lt hi,List.getElem?_drop] at this;exact this
 have hH:Holds (Value.int .i64) w c (b0+off*1) zs.toArray:=by
  intro t ht;have cM:t<zs.length:=by simpa using ht
  have az:b0+off*1+t<arr.size:=by omega
  have hv:=Array.getElem?_eq_getElem az;have hR:=(m4 (off+t) _ 0 (AV.int .i64 zs[t]) _ (bp _ cM) rfl (by rw [show b0+(off+t)*1+0=b0+off*1+t by omega];exact hv)).1.ct
  refine ⟨?_,?_⟩
  ·unfold World.cell?;simp only [m1,Option.isSome_none,Bool.false_eq_true,if_false];rw [hv,hR,getElem!_pos _ _ (by simpa using cM)]
   simp
  ·unfold World.frozen?;simp only [m1];have:=m2 _ (Nat.lt_of_lt_of_le az (Nat.le_add_right _ _));obtain ⟨lo,hi⟩:=fr;simp only at this⊢;rw [Bool.and_eq_false_iff,decide_eq_false_iff_not,decide_eq_false_iff_not];omega
 refine ⟨c,b0+off*1,cap,rfl,k2,ew m1,hH,fun n d' fo=> ?_⟩
 have iC:(splice b.el off (d'.map (AV.int .i64))).length=b.el.length:=by
  unfold splice;simp only [List.length_append,List.length_take,List.length_drop,List.length_map,fo];omega
 have bB: ∀i x,(splice b.el off (d'.map (AV.int .i64)))[i]? =some x→(i<off∧b.el[i]? =some x)∨(∃q,∃hq:q<zs.length,i=off+q∧x=AV.int .i64 (d'[q]'(by omega)))∨(off+zs.length≤i∧b.el[i]? =some x):=fun i x hx=>by
  unfold splice at hx;rw [List.append_assoc] at hx;by_cases h1:i<off
  ·rw [List.getElem?_append_left (by simp;omega),List.getElem?_take_of_lt h1] at hx
   exact .inl ⟨h1,hx⟩
  ·rw [List.getElem?_append_right (by simp;omega)] at hx
   have e1:(b.el.take off).length=off:=by simp;omega
   rw [e1] at hx;by_cases h2:i-off<zs.length
   ·rw [List.getElem?_append_left (by simp [fo];omega),List.getElem?_map] at hx
    refine .inr (.inl ⟨i-off,h2,by omega,?_⟩)
    rw [List.getElem?_eq_getElem (by omega)] at hx
    simpa using hx.symm
   ·rw [List.getElem?_append_right (by simp [fo];omega),List.getElem?_drop] at hx
    refine .inr (.inr ⟨by omega,?_⟩)
    rw [←hx];congr 1;simp [fo];omega
 have o1:=y4 ae n;have r_:iR (Sort.ahead w n) c (.cells (putCells (Value.int .i64) (b0+off*1) d'.toArray arr) T fr) (putRow (Value.int .i64) (Sort.ahead w n) c (b0+off*1) d'.toArray):=y5 (w:=Sort.ahead w n) m1 _;have m_: ∀(i:Nat) (x:AV) (j:Nat) (y:AV) (v:Value),b.el[i]? =some x→x.cells[j]? =some y→arr[b0+i*1+j]? =some v→R (Sort.ahead w n) H φ A y v∧v.oneCell' =true:=fun i x j y v h1 h2 h3=>
  ⟨(m4 i x j y v h1 h2 h3).1.mono o1.bF,(m4 i x j y v h1 h2 h3).2⟩
 have jp: ∀(i:Nat) (x:AV),b.el[i]? =some x→x.cells.length=1:=fun i x hx=>by rw [af.sized i x hx,aC]
 have o2:Out (Sort.ahead w n) H φ A (putRow (Value.int .i64) (Sort.ahead w n) c (b0+off*1) d'.toArray) (H.aZ id {b with el:=splice b.el off (d'.map (AV.int .i64))}) φ A:=by
  refine nE (b' :={b with el:=splice b.el off (d'.map (AV.int .i64))}) o1.st hg aV rfl rfl rfl iC m1 r_ (by unfold putCells;simp) (fun i x hx=> ?_) (fun i x j y v hx hy hv=> ?_)
  ·rw [aC];rcases bB i x hx with ⟨_,h⟩|⟨q,hq,_,rfl⟩|⟨_,h⟩
   ·exact jp i x h
   ·rfl
   ·exact jp i x h
  ·simp only [aC] at hv;unfold putCells at hv;rw [Array.getElem?_mapIdx] at hv;have hj:j<1:=by
    have h1:=(List.getElem?_eq_some_iff.1 hy).1;rcases bB i x hx with ⟨_,h⟩|⟨q,hq,_,rfl⟩|⟨_,h⟩
    ·rw [jp i x h] at h1;exact h1
    ·exact h1
    ·rw [jp i x h] at h1;exact h1
   obtain rfl:j=0:=by omega
   rcases bB i x hx with ⟨h1,h⟩|⟨q,hq,rfl,rfl⟩|⟨h1,h⟩
   ·cases ha:arr[b0+i*1+0]? with
    |none=>rw [ha] at hv;simp at hv
    |some u=>rw [ha] at hv;simp only [Option.map_some,Option.some.injEq] at hv;rw [if_neg (by omega)] at hv;subst hv;exact m_ i x 0 y u h hy ha
   ·obtain rfl:y=AV.int .i64 (d'[q]'(by omega)):=by
     have:(AV.int .i64 (d'[q]'(by omega))).cells[0]? =some (AV.int .i64 (d'[q]'(by omega))):=rfl
     rw [this] at hy;exact (Option.some.inj hy).symm
    cases ha:arr[b0+(off+q)*1+0]? with
    |none=>rw [ha] at hv;simp at hv
    |some u=>
     rw [ha] at hv;simp only [Option.map_some,Option.some.injEq] at hv;rw [if_pos (by simp [fo];omega),show b0+(off+q)*1+0-(b0+off*1)=q by omega,getElem!_pos _ q (by simp;omega)] at hv
     subst hv;simp only [List.getElem_toArray];exact ⟨.fr _ _ (.int _ _),rfl⟩
   ·cases ha:arr[b0+i*1+0]? with
    |none=>rw [ha] at hv;simp at hv
    |some u=>rw [ha] at hv;simp only [Option.map_some,Option.some.injEq] at hv;rw [if_neg (by simp [fo];omega)] at hv;subst hv;exact m_ i x 0 y u h hy ha
 have o3:=o1.trans ae o2;rw [aC] at o3;exact o3
theorem DM {P:Program} {f:FuncId} (hs:pa P f) {H:J} {id ad off:Nat} {b:bu} {zs:List Int} (hb:H.ap id ad=some b) (aC:b.sz=1) (h0:0<zs.length) (hle:off+zs.length≤b.el.length) (bG:aB b.el off zs.length=zs.map (AV.int .i64)) (hlen:zs.length<1152921504606846976):
 b_ P f [.ref id ad off zs.length] H (fun v1 H1=>v1= .aD []∧H1=H.aZ id {b with el:=splice b.el off ((g_ zs).map (AV.int .i64))}):=by
 refine ⟨hs.can,fun w A φ us ae hl b8=> ?_⟩;obtain ⟨u0,rfl⟩: ∃u0,us= #[u0]:=by
  match us,hl with
  |⟨[u0]⟩,_=>exact ⟨u0,rfl⟩
 have hx:R w H φ A (.ref id ad off zs.length) u0:=b8 0 _ _ rfl rfl;obtain ⟨c,o,cap,rfl,_,k3,k4,k5⟩:=y9 ae hx hb aC h0 hle bG;refine (hs.eq c o cap zs w k4 k3 (by omega)).mono fun e w' he=> ?_
 obtain ⟨rfl,n,os,rfl⟩:=he;have o1:=k5 n (g_ zs) (sb zs);have o3:=y3 o1.st os;exact ⟨.aD [],_,φ,A,o1.trans ae o3,.fr _ _ (.aD [] #[] rfl (by simp)),rfl,rfl⟩
theorem DN {P:Program} {f:FuncId} (hs:pa P f) {H:J} {v:AV} (hv:v= .nil∨v= .e0∨ ∃id ad off,v= .ref id ad off 0):b_ P f [v] H (fun v1 H1=>v1= .aD []∧H1=H):=by
 refine ⟨hs.can,fun w A φ us ae hl b8=> ?_⟩;obtain ⟨u0,rfl⟩: ∃u0,us= #[u0]:=by
  match us,hl with
  |⟨[u0]⟩,_=>exact ⟨u0,rfl⟩
 have hx:R w H φ A v u0:=b8 0 _ _ rfl rfl;obtain ⟨p,cap,rfl⟩: ∃p cap,u0= .slice p 0 cap:=by
  rcases hv with rfl|rfl|⟨id,ad,off,rfl⟩
  ·cases hx with|fr _ _ h=>cases h;exact ⟨_,_,rfl⟩
  ·cases hx with|fr _ _ h=>cases h;exact ⟨_,_,rfl⟩
  ·exact hx.dC.2.1
 refine (hs.none p cap w).mono fun e w' he=> ?_
 obtain ⟨rfl,rfl⟩:=he;exact ⟨.aD [],H,φ,A,.refl ae,.fr _ _ (.aD [] #[] rfl (by simp)),rfl,rfl⟩
structure pb (P:Program) (f:FuncId):Prop where
 can:gT P f
 eq: ∀(ap off cap:Nat) (zs:List Int) (w:World),Holds (Value.int .i64) w ap off zs.toArray→zs.length≤9223372036854775807→zs.length≤cap→
  Calls P f #[.slice (some ⟨ap,off,none⟩) zs.length cap] w fun e w' =>e= .returned (.slice (some ⟨ap,off,none⟩) (Lib.compact zs).length cap)∧ ∃q,w' =putRow (Value.int .i64) (Sort.ahead w q) ap off (Lib.compact zs ++ List.replicate (zs.length-(Lib.compact zs).length) 0).toArray
 none: ∀(p:Option Addr) (cap:Nat) (w:World),Calls P f #[.slice p 0 cap] w fun e w' =>e= .returned (.slice p 0 cap)∧w' =w
theorem y_ (zs:List Int):(Lib.compact zs).length≤zs.length:=by
 unfold Lib.compact Lib.compactUpTo;rw [List.length_map];exact Nat.le_trans (List.length_filter_le _ _) (by simp)
def na (zs:List Int):List Int:=Lib.compact zs ++ List.replicate (zs.length-(Lib.compact zs).length) 0
theorem DO (zs:List Int):(na zs).length=zs.length:=by
 have:=y_ zs;simp only [na,List.length_append,List.length_replicate];omega
theorem DP {P:Program} {f:FuncId} (hs:pb P f) {H:J} {id ad off:Nat} {b:bu} {zs:List Int} (hb:H.ap id ad=some b) (aC:b.sz=1) (h0:0<zs.length) (hle:off+zs.length≤b.el.length) (bG:aB b.el off zs.length=zs.map (AV.int .i64)) (hlen:zs.length<1152921504606846976):
 b_ P f [.ref id ad off zs.length] H (fun v1 H1=>v1= .ref id ad off (Lib.compact zs).length∧H1=H.aZ id {b with el:=splice b.el off ((na zs).map (AV.int .i64))}):=by
 refine ⟨hs.can,fun w A φ us ae hl b8=> ?_⟩;obtain ⟨u0,rfl⟩: ∃u0,us= #[u0]:=by
  match us,hl with
  |⟨[u0]⟩,_=>exact ⟨u0,rfl⟩
 have hx:R w H φ A (.ref id ad off zs.length) u0:=b8 0 _ _ rfl rfl;obtain ⟨c,o,cap,rfl,k2,k3,k4,k5⟩:=y9 ae hx hb aC h0 hle bG;refine (hs.eq c o cap zs w k4 (by omega) k2).mono fun e w' he=> ?_
 obtain ⟨rfl,n,rfl⟩:=he;have o1:=k5 n (na zs) (DO zs);exact ⟨_,_,φ,A,o1,DL (hx.mono o1.bF) (y_ zs),rfl,rfl⟩
theorem DQ {P:Program} {f:FuncId} (hs:pb P f) {H:J} {v:AV} (hv:v= .nil∨v= .e0∨ ∃id ad off,v= .ref id ad off 0):b_ P f [v] H (fun v1 H1=>v1=v∧H1=H):=by
 refine ⟨hs.can,fun w A φ us ae hl b8=> ?_⟩;obtain ⟨u0,rfl⟩: ∃u0,us= #[u0]:=by
  match us,hl with
  |⟨[u0]⟩,_=>exact ⟨u0,rfl⟩
 have hx:R w H φ A v u0:=b8 0 _ _ rfl rfl;obtain ⟨p,cap,rfl⟩: ∃p cap,u0= .slice p 0 cap:=by
  rcases hv with rfl|rfl|⟨id,ad,off,rfl⟩
  ·cases hx with|fr _ _ h=>cases h;exact ⟨_,_,rfl⟩
  ·cases hx with|fr _ _ h=>cases h;exact ⟨_,_,rfl⟩
  ·exact hx.dC.2.1
 refine (hs.none p cap w).mono fun e w' he=> ?_
 obtain ⟨rfl,rfl⟩:=he;exact ⟨v,H,φ,A,.refl ae,hx,rfl,rfl⟩
theorem lL {b:Nat} {T:TypeId} {fr:Nat×Nat}: ∀(cs:List Value) (o:Nat) (arr:Array Value) (w:World),w.heap[b]? =some (.cells arr T fr)→o+cs.length≤arr.size→
 ∃arr',iR w b (.cells arr' T fr) (w.setCells b o cs)∧arr'.size=arr.size∧ ∀m,arr'[m]? =if o≤m∧m<o+cs.length then cs[m-o]? else arr[m]?
 |[],o,arr,w,h,_=>⟨arr,.refl h,rfl,fun m=>by rw [if_neg (by simp only [List.length_nil];omega)]⟩
 |v::cs,o,arr,w,h,hl=>by
  simp only [List.length_cons] at hl;have u:=tq h o v;obtain ⟨arr',u2,h1,h2⟩:=lL cs (o+1) (arr.setIfInBounds o v) (w.setCell ⟨b,o,none⟩ v) u.here (by simp;omega)
  refine ⟨arr',⟨u2.here,fun k hk=>(u2.other k hk).trans (u.other k hk),u2.size.trans u.size,u2.os.trans u.os,u2.tape.trans u.tape,u2.output.trans u.output⟩,by rw [h1];simp,fun m=> ?_⟩
  rw [h2,Array.getElem?_setIfInBounds];simp only [List.length_cons];by_cases hm:m=o
  ·subst hm;rw [if_neg (by omega),if_pos rfl,if_pos (by omega),if_pos (by omega)];simp
  ·by_cases jz:o+1≤m∧m<o+1+cs.length
   ·rw [if_pos jz,if_pos (by omega),show m-o=m-(o+1)+1 by omega];rfl
   ·rw [if_neg jz,if_neg (fun e=>hm e.symm),if_neg (by omega)]
structure nb (P:Program) (f:FuncId) (sz bytes e:Nat):Prop where
 can:gT P f
 pos:0<sz
 shift: ∀(b off n c i vb voff vc:Nat) (cs vs:List Value) (w:World),i<n→n+1≤c→n+1≤35184372088832→vb≠b→cs.length=n*sz→vs.length=sz→
  (∀j v,cs[j]? =some v→w.cell? ⟨b,off+j,none⟩=some v)→(∀j,j<(n+1)*sz→(w.cell? ⟨b,off+j,none⟩).isSome=true)→(∀j,j<(n+1)*sz→w.frozen? ⟨b,off+j,none⟩=false)→
  (∀j v,vs[j]? =some v→w.cell? ⟨vb,voff+j,none⟩=some v)→(∀v∈cs,v.oneCell' =true)→(∀v∈vs,v.oneCell' =true)→
  ∀(tA tB:TypeId) (kA kB:Nat),w.shape? vb=some (tA,kA)→w.shape? b=some (tB,kB)→kB≠0→w.frozen? ⟨vb,voff,none⟩=false→w.frozen? ⟨vb,kA,none⟩=false→
  Calls P f #[.slice (some ⟨b,off,none⟩) n c,.int .i64 i,.slice (some ⟨vb,voff,none⟩) 1 vc] w fun e w' =>
   e= .returned (.slice (some ⟨b,off,none⟩) (n+1) c)∧w' =(w.drew.setCells b (off+(i+1)*sz) (cs.drop (i*sz))).setCells b (off+i*sz) vs
 room: ∀(b off n c vb voff vc:Nat) (vs:List Value) (w:World),n+1≤c→n+1≤35184372088832→vs.length=sz→
  (∀j,j<sz→(w.cell? ⟨b,off+n*sz+j,none⟩).isSome=true)→(∀j,j<sz→w.frozen? ⟨b,off+n*sz+j,none⟩=false)→
  (∀j v,vs[j]? =some v→w.cell? ⟨vb,voff+j,none⟩=some v)→(∀v∈vs,v.oneCell' =true)→
  Calls P f #[.slice (some ⟨b,off,none⟩) n c,.int .i64 n,.slice (some ⟨vb,voff,none⟩) 1 vc] w fun e w' =>
   e= .returned (.slice (some ⟨b,off,none⟩) (n+1) c)∧w' =w.setCells b (off+n*sz) vs
 ends: ∀(base:Option Addr) (n c vb voff vc:Nat) (cs vs:List Value) (w:World),n≤c→c<n+1→(n+1)*bytes≤140737488355328→cs.length=n*sz→vs.length=sz→(base=none→n=0)→
  (∀a,base=some a→ ∀j v,cs[j]? =some v→w.cell? (a.add j)=some v)→(∀j v,vs[j]? =some v→w.cell? ⟨vb,voff+j,none⟩=some v)→(∀v∈vs,v.oneCell' =true)→
  Calls P f #[.slice base n c,.int .i64 n,.slice (some ⟨vb,voff,none⟩) 1 vc] w fun r w' =>
   ∃z,r= .returned (.slice (some ⟨w.heap.size,0,none⟩) (n+1) (grownCap w (n+1) c e))∧
   w' =w.drew.alloc (.cells ((cs ++ vs).toArray ++ Builtin.zeroCells z (grownCap w (n+1) c e-(n+1))) e)∧z.size=sz
 grow: ∀(b off n c i vb voff vc:Nat) (cs vs:List Value) (w:World),i<n→n≤c→c<n+1→(n+1)*bytes≤140737488355328→cs.length=n*sz→vs.length=sz→
  (∀j v,cs[j]? =some v→w.cell? ⟨b,off+j,none⟩=some v)→(∀j v,vs[j]? =some v→w.cell? ⟨vb,voff+j,none⟩=some v)→(∀v∈cs,v.oneCell' =true)→(∀v∈vs,v.oneCell' =true)→
  Calls P f #[.slice (some ⟨b,off,none⟩) n c,.int .i64 i,.slice (some ⟨vb,voff,none⟩) 1 vc] w fun r w' =>
   ∃row:Array Value,row.size=grownCap w (n+1) c e*sz∧(∀j,j<i*sz→row[j]? =cs[j]?)∧r= .returned (.slice (some ⟨w.heap.size,0,none⟩) (n+1) (grownCap w (n+1) c e))∧
   w' =(((w.alloc (.cells row e)).drew.setCells w.heap.size (i*sz) vs).drew).setCells w.heap.size ((i+1)*sz) (cs.drop (i*sz))
structure DR (w:World) (b off n i sz:Nat) (arr varr:Array Value) (voff:Nat) (v:Value) (w' :World):Prop where
 out: ∃c' o' dZ arr' T' dW,v= .slice (some ⟨c',o',none⟩) (n+1) dZ∧n+1≤dZ∧o' + dZ*sz≤arr'.size∧w'.heap[c']? =some (.cells arr' T' dW)∧(∀j,j<arr'.size+pad sz→ ¬(dW.1≤j∧j<dW.2))∧
  (c' =b∧o' =off∧arr'.size=arr.size∨w.heap.size≤c')∧(∀k,k<w.heap.size→k≠c' →w'.heap[k]? =w.heap[k]?)∧w.heap.size≤w'.heap.size∧w'.os=w.os∧w'.tape=w.tape∧w'.output=w.output∧
  ∀j,j<(n+1)*sz→arr'[o' + j]? =if j<i*sz then arr[off+j]? else if j<(i+1)*sz then varr[voff+(j-i*sz)]? else arr[off+(j-sz)]?
theorem lM {w:World} {b:Nat} {arr:Array Value} {T:TypeId} {fr:Nat×Nat} (h:w.heap[b]? =some (.cells arr T fr)) (k:Nat):w.cell? ⟨b,k,none⟩=arr[k]? :=by
 simp [World.cell?,h]
theorem pc {w:World} {b:Nat} {arr:Array Value} {T:TypeId} {fr:Nat×Nat} (h:w.heap[b]? =some (.cells arr T fr)) {k:Nat} (hk: ¬(fr.1≤k∧k<fr.2)):w.frozen? ⟨b,k,none⟩=false:=by
 simp only [World.frozen?,h,Bool.and_eq_false_iff,decide_eq_false_iff_not];by_cases h1:fr.1≤k
 ·exact .inr fun h2=>hk ⟨h1,h2⟩
 ·exact .inl h1
def cut (arr:Array Value) (off m:Nat):List Value:=(arr.toList.drop off).take m
theorem fG (arr:Array Value) (off m j:Nat):(cut arr off m)[j]? =if j<m then arr[off+j]? else none:=by
 unfold cut;rw [List.getElem?_take];split
 ·rw [List.getElem?_drop,Array.getElem?_toList]
 ·rfl
theorem jU {arr:Array Value} {off m:Nat} (h:off+m≤arr.size):(cut arr off m).length=m:=by simp [cut];omega
theorem jV {arr:Array Value} {off m:Nat} (h: ∀j v,j<m→arr[off+j]? =some v→v.oneCell' =true): ∀v∈cut arr off m,v.oneCell' =true:=fun v hv=>by
 obtain ⟨j,hj⟩:=List.getElem?_of_mem hv;rw [fG] at hj;split at hj
 ·exact h j v ‹_› hj
 ·cases hj
theorem DS {P:Program} {f:FuncId} {sz bytes e:Nat} (hs:nb P f sz bytes e) (pd:sz≠1) {b off n c i vb voff vc:Nat} {arr varr:Array Value} {T vT:TypeId} {fr nc:Nat×Nat} {w:World} (hb:w.heap[b]? =some (.cells arr T fr)) (ey: ∀j,j<arr.size+pad sz→ ¬(fr.1≤j∧j<fr.2)) (hc:off+c*sz≤arr.size) (hn:n≤c) (hi:i≤n) (hr:roomy (n+1) bytes=true)
 (h1: ∀j v,j<n*sz→arr[off+j]? =some v→v.oneCell' =true) (hv:w.heap[vb]? =some (.cells varr vT nc)) (sd: ∀j,j<varr.size+pad sz→ ¬(nc.1≤j∧j<nc.2)) (iJ:voff+sz≤varr.size) (pe: ∀j v,j<sz→varr[voff+j]? =some v→v.oneCell' =true) (aI:vb≠b) (_:0<c):
 Calls P f #[.slice (some ⟨b,off,none⟩) n c,.int .i64 i,.slice (some ⟨vb,voff,none⟩) 1 vc] w fun r w' => ∃v,r= .returned v∧DR w b off n i sz arr varr voff v w' :=by
 have hp:pad sz=1:=by simp [pad,pd]
 rw [hp] at ey sd;have hz:=hs.pos;have G5:=ew hb;simp only [roomy,Bool.and_eq_true,decide_eq_true_eq] at hr;have lN:(n+1)*bytes≤140737488355328:=Nat.le_trans (Nat.mul_le_mul_right _ (by omega)) (Nat.le_trans hr.1 (by omega))
 have tg:n*sz≤c*sz:=Nat.mul_le_mul_right _ hn;have cH:i*sz≤n*sz:=Nat.mul_le_mul_right _ hi;have e1:(n+1)*sz=n*sz+sz:=Nat.succ_mul ..;have e2:(i+1)*sz=i*sz+sz:=Nat.succ_mul ..;have hcs: ∀j v,(cut arr off (n*sz))[j]? =some v→w.cell? ⟨b,off+j,none⟩=some v:=fun j v hj=>by
  rw [fG] at hj;split at hj
  ·rw [lM hb];exact hj
  ·cases hj
 have di: ∀j v,(cut varr voff sz)[j]? =some v→w.cell? ⟨vb,voff+j,none⟩=some v:=fun j v hj=>by
  rw [fG] at hj;split at hj
  ·rw [lM hv];exact hj
  ·cases hj
 have gN:(cut arr off (n*sz)).length=n*sz:=jU (by omega)
 have cQ:(cut varr voff sz).length=sz:=jU iJ;have pf:((cut arr off (n*sz)).drop (i*sz)).length=n*sz-i*sz:=by rw [List.length_drop,gN]
 have za: ∀q,((cut arr off (n*sz)).drop (i*sz))[q]? =if i*sz+q<n*sz then arr[off+(i*sz+q)]? else none:=fun q=>by rw [List.getElem?_drop,fG]
 by_cases gj:n+1≤c
 ·have G6:(n+1)*sz≤c*sz:=Nat.mul_le_mul_right _ gj;by_cases se:i=n
  ·subst se;refine (hs.room b off i c vb voff vc _ w gj hr.2 cQ (fun j hj=>by rw [lM hb,Array.getElem?_eq_getElem (by omega)];rfl) (fun j hj=>pc hb (ey _ (by omega))) di (jV pe)).mono fun r w' h=> ?_
   obtain ⟨rfl,rfl⟩:=h;obtain ⟨arr',u,k1,k2⟩:=lL (cut varr voff sz) (off+i*sz) arr w hb (by rw [cQ];omega)
   refine ⟨_,rfl,⟨b,off,c,arr',T,fr,rfl,gj,by omega,u.here,by rw [hp,k1];exact ey,.inl ⟨rfl,rfl,k1⟩,fun k _ hk=>u.other k hk,by rw [u.size];exact Nat.le_refl _,u.os,u.tape,u.output,fun j hj=> ?_⟩⟩
   rw [k2,cQ];by_cases dN:j<i*sz
   ·rw [if_neg (by omega),if_pos dN]
   ·rw [if_pos (by omega),if_neg dN,if_pos (by omega),fG,if_pos (by omega)]
    congr 1;omega
  ·refine (hs.shift b off n c i vb voff vc _ _ w (by omega) gj hr.2 aI gN cQ hcs (fun j hj=>by rw [lM hb,Array.getElem?_eq_getElem (by omega)];rfl) (fun j hj=>pc hb (ey _ (by omega))) di (jV h1) (jV pe)
    vT T varr.size arr.size (by simp [World.shape?,hv]) (by simp [World.shape?,hb]) (by omega) (pc hv (sd _ (by omega))) (pc hv (sd _ (by omega)))).mono fun r w' h=> ?_
   obtain ⟨rfl,rfl⟩:=h;obtain ⟨sf,u1,k1,k2⟩:=lL ((cut arr off (n*sz)).drop (i*sz)) (off+(i+1)*sz) arr w.drew hb (by rw [pf];omega)
   obtain ⟨arr',u,k3,k4⟩:=lL (cut varr voff sz) (off+i*sz) sf _ u1.here (by rw [cQ,k1];omega)
   refine ⟨_,rfl,⟨b,off,c,arr',T,fr,rfl,gj,by omega,u.here,by rw [hp,k3,k1];exact ey,.inl ⟨rfl,rfl,by rw [k3,k1]⟩,fun k _ hk=>(u.other k hk).trans (u1.other k hk),by rw [u.size,u1.size];exact Nat.le_refl _,u.os.trans u1.os,u.tape.trans u1.tape,u.output.trans u1.output,fun j hj=> ?_⟩⟩
   rw [k4,cQ,k2,pf,za];by_cases dN:j<i*sz
   ·rw [if_neg (by omega),if_neg (by omega),if_pos dN]
   ·rw [if_neg dN];by_cases gi:j<(i+1)*sz
    ·rw [if_pos (by omega),if_pos gi,fG,if_pos (by omega)]
     congr 1;omega
    ·rw [if_neg (by omega),if_neg gi,if_pos (by omega),if_pos (by omega)]
     congr 1;omega
 ·by_cases se:i=n
  ·subst se;refine (hs.ends (some ⟨b,off,none⟩) i c vb voff vc _ _ w hn (by omega) lN gN cQ (by simp) (fun a ha j v hj=>by
    simp only [Option.some.injEq] at ha;subst ha;rw [ie];exact hcs j v hj) di (jV pe)).mono fun r w' h=> ?_
   obtain ⟨z,rfl,rfl,nf⟩:=h;have hg:=grownCap_ge w (i+1) c e;generalize grownCap w (i+1) c e=G at hg⊢;have zb:(G-(i+1))*sz=G*sz-(i+1)*sz:=Nat.sub_mul ..;have sg:(i+1)*sz≤G*sz:=Nat.mul_le_mul_right _ hg;have aC:((cut arr off (i*sz) ++ cut varr voff sz).toArray ++ Builtin.zeroCells z (G-(i+1))).size=G*sz:=by
    simp only [Array.size_append,List.size_toArray,List.length_append,gN,cQ,Builtin.zeroCells,Array.size_map,Array.size_range,nf];omega
   refine ⟨_,rfl,⟨w.heap.size,0,G,_,e,(0,0),rfl,hg,by rw [aC];omega,heap_alloc_new w.drew _,fun j _ h=>absurd h.2 (Nat.not_lt_zero j),.inr (Nat.le_refl _),fun k hk _=>heap_alloc_old w.drew _ hk,by simp,rfl,rfl,rfl,fun j hj=> ?_⟩⟩
   rw [Nat.zero_add,Array.getElem?_append_left (by simp only [List.size_toArray,List.length_append,gN,cQ];omega),List.getElem?_toArray,List.getElem?_append,gN]
   by_cases dN:j<i*sz
   ·rw [if_pos dN,if_pos dN,fG,if_pos dN]
   ·rw [if_neg dN,if_neg dN,if_pos (by omega),fG,if_pos (by omega)]
  ·refine (hs.grow b off n c i vb voff vc _ _ w (by omega) hn (by omega) lN gN cQ hcs di (jV h1) (jV pe)).mono fun r w' h=> ?_
   obtain ⟨row,eR,DT,rfl,rfl⟩:=h;have hg:=grownCap_ge w (n+1) c e;generalize grownCap w (n+1) c e=G at hg eR⊢;have sg:(n+1)*sz≤G*sz:=Nat.mul_le_mul_right _ hg;have ha:((w.alloc (.cells row e)).drew).heap[w.heap.size]? =some (.cells row e (0,0)):=heap_alloc_new w _;obtain ⟨sf,u1,k1,k2⟩:=lL (cut varr voff sz) (i*sz) row _ ha (by rw [cQ];omega)
   obtain ⟨arr',u,k3,k4⟩:=lL ((cut arr off (n*sz)).drop (i*sz)) ((i+1)*sz) sf (((w.alloc (.cells row e)).drew.setCells w.heap.size (i*sz) (cut varr voff sz)).drew) u1.here (by rw [pf,k1];omega)
   refine ⟨_,rfl,⟨w.heap.size,0,G,arr',e,(0,0),rfl,hg,by rw [k3,k1,eR];omega,u.here,fun j _ h=>absurd h.2 (Nat.not_lt_zero j),.inr (Nat.le_refl _),fun k hk jN=>((u.other k jN).trans (u1.other k jN)).trans (heap_alloc_old w _ hk),by
    rw [u.size];exact Nat.le_trans (show w.heap.size≤(w.alloc (.cells row e)).heap.size by simp) (Nat.le_of_eq u1.size.symm),u.os.trans u1.os,u.tape.trans u1.tape,u.output.trans u1.output,fun j hj=> ?_⟩⟩
   rw [Nat.zero_add,k4,pf,za,k2,cQ];by_cases dN:j<i*sz
   ·rw [if_neg (by omega),if_neg (by omega),if_pos dN,DT j dN,fG,if_pos (by omega)]
   ·rw [if_neg dN];by_cases gi:j<(i+1)*sz
    ·rw [if_neg (by omega),if_pos (by omega),if_pos gi,fG,if_pos (by omega)]
    ·rw [if_pos (by omega),if_neg gi,if_pos (by omega)]
     congr 1;omega
theorem piece {w:World} {H:J} {φ :ag} {A:aj} {b:bu} {arr:Array Value} {b0 off n:Nat} (hz:0<b.sz) (hle:off+n≤b.el.length) (ej: ∀(i:Nat) (x:AV),b.el[i]? =some x→x.cells.length=b.sz)
 (hk: ∀(i:Nat) (x:AV) (j:Nat) (y:AV) (v:Value),b.el[i]? =some x→x.cells[j]? =some y→arr[b0+i*b.sz+j]? =some v→R w H φ A y v∧v.oneCell' =true):
 (∀j v,j<n*b.sz→arr[b0+off*b.sz+j]? =some v→v.oneCell' =true)∧
 ∀(i:Nat) (x:AV) (j:Nat) (y:AV) (v:Value),(aB b.el off n)[i]? =some x→x.cells[j]? =some y→arr[b0+off*b.sz+(i*b.sz+j)]? =some v→R w H φ A y v∧v.oneCell' =true:=by
 refine ⟨fun j v hj hv=> ?_,fun i x j y v hx hy hv=> ?_⟩
 ·have hq:j/b.sz<n:=Nat.div_lt_of_lt_mul (by rw [Nat.mul_comm];exact hj)
  have jB:j/b.sz*b.sz+j % b.sz=j:=by rw [Nat.mul_comm];exact Nat.div_add_mod j b.sz
  have hx:=List.getElem?_eq_getElem (l:=b.el) (i:=off+j/b.sz) (by omega)
  have hl:=ej _ _ hx;exact (hk _ _ (j % b.sz) _ v hx (List.getElem?_eq_getElem (by rw [hl];exact Nat.mod_lt _ hz)) (by rw [←hv,Nat.add_mul];congr 1;omega)).2
 ·simp only [aB,List.getElem?_take,List.getElem?_drop] at hx;split at hx
  ·exact hk (off+i) x j y v hx hy (by rw [←hv,Nat.add_mul];congr 1;omega)
  ·cases hx
theorem zd {w:World} {H:J} {φ :ag} {A:aj} {sz n i0:Nat} {xs:List AV} {y0:AV} {arr varr arr' :Array Value} {o voff o' :Nat} (ca:xs.length=n) (hi:i0≤n)
 (kN: ∀(i:Nat) (x:AV),xs[i]? =some x→x.cells.length=sz) (kO:y0.cells.length=sz)
 (hx: ∀(i:Nat) (x:AV) (j:Nat) (y:AV) (v:Value),xs[i]? =some x→x.cells[j]? =some y→arr[o+(i*sz+j)]? =some v→R w H φ A y v∧v.oneCell' =true)
 (hy: ∀(j:Nat) (y:AV) (v:Value),y0.cells[j]? =some y→varr[voff+j]? =some v→R w H φ A y v∧v.oneCell' =true)
 (hr: ∀j,j<(n+1)*sz→arr'[o' + j]? =if j<i0*sz then arr[o+j]? else if j<(i0+1)*sz then varr[voff+(j-i0*sz)]? else arr[o+(j-sz)]?):
 (xs.take i0 ++ y0::xs.drop i0).length=n+1∧(∀(i:Nat) (x:AV),(xs.take i0 ++ y0::xs.drop i0)[i]? =some x→x.cells.length=sz)∧
 ∀(i:Nat) (x:AV) (j:Nat) (y:AV) (v:Value),(xs.take i0 ++ y0::xs.drop i0)[i]? =some x→x.cells[j]? =some y→arr'[o' + i*sz+j]? =some v→R w H φ A y v∧v.oneCell' =true:=by
 have ek:(xs.take i0).length=i0:=by rw [List.length_take];omega
 have bp: ∀i x,(xs.take i0 ++ y0::xs.drop i0)[i]? =some x→(i<i0∧xs[i]? =some x)∨(i=i0∧x=y0)∨(i0<i∧i<n+1∧xs[i-1]? =some x):=fun i x h=>by
  rw [List.getElem?_append,ek] at h;split at h
  ·rename_i dK;rw [List.getElem?_take,if_pos dK] at h;exact .inl ⟨dK,h⟩
  ·rename_i dK;cases hk:i-i0 with
   |zero=>rw [hk] at h;simp only [List.getElem?_cons_zero,Option.some.injEq] at h;exact .inr (.inl ⟨by omega,h.symm⟩)
   |succ k=>
    rw [hk] at h;simp only [List.getElem?_cons_succ,List.getElem?_drop] at h;have:=(List.getElem?_eq_some_iff.1 h).1;exact .inr (.inr ⟨by omega,by omega,by rw [←h];congr 1;omega⟩)
 refine ⟨by rw [List.length_append,ek,List.length_cons,List.length_drop];omega,fun i x h=> ?_,fun i x j y v h hc hv=> ?_⟩
 ·rcases bp i x h with ⟨_,h⟩|⟨_,rfl⟩|⟨_,_,h⟩
  ·exact kN _ _ h
  ·exact kO
  ·exact kN _ _ h
 ·have hj:=(List.getElem?_eq_some_iff.1 hc).1;rw [Nat.add_assoc] at hv;rcases bp i x h with ⟨h1,h⟩|⟨rfl,rfl⟩|⟨h1,h2,h⟩
  ·rw [kN _ _ h] at hj;have m1:=o_ h1 hj;have m2:i0*sz≤(n+1)*sz:=Nat.mul_le_mul_right _ (by omega)
   rw [hr _ (by omega),if_pos m1] at hv
   exact hx i x j y v h hc hv
  ·rw [kO] at hj;have m1:(i+1)*sz≤(n+1)*sz:=Nat.mul_le_mul_right _ (by omega)
   have m2:(i+1)*sz=i*sz+sz:=Nat.succ_mul ..;rw [hr _ (by omega),if_neg (by omega),if_pos (by omega)] at hv
   exact hy j y v hc (by rw [←hv];congr 1;omega)
  ·rw [kN _ _ h] at hj;have m1:=o_ h2 hj;have m2:(i0+1)*sz≤i*sz:=Nat.mul_le_mul_right _ (by omega)
   have m3:i0*sz≤(i0+1)*sz:=Nat.mul_le_mul_right _ (by omega)
   obtain ⟨k,rfl⟩: ∃k,i=k+1:=⟨i-1,by omega⟩
   have m4:(k+1)*sz=k*sz+sz:=Nat.succ_mul ..;rw [hr _ m1,if_neg (by omega),if_neg (by omega)] at hv
   exact hx k x j y v h hc (by rw [←hv];congr 1;omega)
theorem DU {P:Program} {f:FuncId} {sz bytes e:Nat} (hs:nb P f sz bytes e) (pd:sz≠1) {H:J} {id ad off n i0 bJ dL bX:Nat} {b b2:bu} {y0:AV} (hb:H.ap id ad=some b) (aC:b.sz=sz) (qf:b.fix=false) (hle:off+n≤b.el.length) (hi:i0≤n)
 (cP:H.ap bJ dL=some b2) (ng:b2.sz=sz) (jq:bX+1≤b2.el.length) (iK:aB b2.el bX 1=[y0]) (aI:bJ≠id) (hr:roomy (n+1) bytes=true):
 b_ P f [.ref id ad off n,.int .i64 i0,.ref bJ dL bX 1] H (fun v1 H1=>v1= .ref id H.st 0 (n+1)∧H1=⟨H.st+1,H.bs.set id (some ⟨H.st,sz,false,(aB b.el off n).take i0 ++ y0::(aB b.el off n).drop i0⟩)⟩):=by
 refine ⟨hs.can,fun w A φ us ae hl b8=> ?_⟩;obtain ⟨u0,u1,u2,rfl⟩: ∃u0 u1 u2,us= #[u0,u1,u2]:=by
  match us,hl with
  |⟨[u0,u1,u2]⟩,_=>exact ⟨u0,u1,u2,rfl⟩
 have hx:R w H φ A (.ref id ad off n) u0:=b8 0 _ _ rfl rfl;have dK:R w H φ A (.int .i64 i0) u1:=b8 1 _ _ rfl rfl;have hy:R w H φ A (.ref bJ dL bX 1) u2:=b8 2 _ _ rfl rfl;obtain rfl:=dK.ct;have hz:=hs.pos;have hp:pad sz=1:=by simp [pad,pd]
 obtain ⟨vb,eX,vc,pg,rfl,_,_,_,k4⟩:=lb hy cP (by omega)
 have ij:=(J.bd cP).1;obtain ⟨DV,kP,iA⟩:=ae.ap bJ _ pg;rw [ij] at kP;simp only [Option.some.injEq] at kP;subst kP;obtain ⟨varr,vT,nc,n1,n2,n3,n4⟩:=iA.here vb eX rfl;obtain ⟨p1,p2⟩:=piece (off:=bX) (n:=1) (by omega) jq iA.sized n4
 rw [ng] at n2 n3 p1 p2⊢;have iJ:eX+bX*sz+sz≤varr.size:=by
  have:=Nat.mul_le_mul_right sz jq;rw [Nat.add_mul,Nat.one_mul] at this;omega
 have kO:y0.cells.length=sz:=by
  have:=congrArg (fun l=>l[0]?) iK;simp only [aB,List.getElem?_take,List.getElem?_drop,List.getElem?_cons_zero] at this;rw [←ng];exact iA.sized _ _ (by simpa using this)
 rw [iK] at p2;have si: ∀(j:Nat) (y:AV) (v:Value),y0.cells[j]? =some y→varr[eX+bX*sz+j]? =some v→R w H φ A y v∧v.oneCell' =true:=fun j y v h1 h2=>p2 0 y0 j y v rfl h1 (by rw [Nat.zero_mul,Nat.zero_add];exact h2)
 have hg:=(J.bd hb).1;obtain ⟨loc,a,cap,q1,rfl,q3,q4,q5,q6⟩:=(hx.dC.2.2 b hb).out;obtain ⟨b',au,af⟩:=ae.ap id _ q1;rw [hg] at au;simp only [Option.some.injEq] at au;subst au;have ca:(aB b.el off n).length=n:=by simp [aB];omega
 have kN: ∀(i:Nat) (x:AV),(aB b.el off n)[i]? =some x→x.cells.length=sz:=fun i x h=>by
  simp only [aB,List.getElem?_take,List.getElem?_drop] at h;split at h
  ·rw [←aC];exact af.sized _ _ h
  ·cases h
 have ze: ∀{w' :World} {c o cap:Nat} {arr:Array Value} {T:TypeId} {fr:Nat×Nat} {ak:ag} {A' :aj},ak id=some (.at_ c o)→n+1≤cap→o+cap*sz≤arr.size→w'.heap[c]? =some (.cells arr T fr)→
  R w' ⟨H.st+1,H.bs.set id (some ⟨H.st,sz,false,(aB b.el off n).take i0 ++ y0::(aB b.el off n).drop i0⟩)⟩ ak A' (.ref id H.st 0 (n+1)) (.slice (some ⟨c,o,none⟩) (n+1) cap):=fun {w' c o cap arr T fr ak A'} h1 h2 h3 h4=>by
  refine .ref _ _ _ _ _ (Nat.lt_succ_self _) ⟨_,_,rfl⟩ fun b' au=> ?_
  have cu:=(J.bd au).1
  rw [show (J.mk (H.st+1) (H.bs.set id (some ⟨H.st,sz,false,(aB b.el off n).take i0 ++ y0::(aB b.el off n).drop i0⟩))).get id=_ from J.iv hg id,if_pos rfl] at cu;simp only [Option.some.injEq] at cu;subst cu;have bG:((aB b.el off n).take i0 ++ y0::(aB b.el off n).drop i0).length=n+1:=by rw [List.length_append,List.length_take,List.length_cons,List.length_drop,ca];omega
  refine ⟨.at_ c o,_,_,h1,rfl,by simp only [bG];omega,h2,by simp only [bG];omega,.inr ⟨by simp,?_⟩⟩
  have:aR w' c=arr.size:=by unfold aR;rw [h4]
  rw [this,Nat.zero_add];exact h3
 by_cases dx:cap=0
 ·subst dx;obtain rfl:n=0:=by omega
  obtain rfl:i0=0:=by omega
  simp only [roomy,Bool.and_eq_true,decide_eq_true_eq] at hr;have lN:(0+1)*bytes≤140737488355328:=Nat.le_trans (Nat.mul_le_mul_right _ (by omega)) (Nat.le_trans hr.1 (by omega))
  refine (hs.ends a 0 0 vb (eX+bX*sz) vc [] (cut varr (eX+bX*sz) sz) w (Nat.le_refl _) (by omega) lN (by simp) (jU iJ) (fun _=>rfl) (fun _ _ j v hj=>by simp at hj) (fun j v hj=>by
   rw [fG] at hj;split at hj
   ·rw [lM n1];exact hj
   ·cases hj) (jV (fun j v hj hv=>p1 j v (by omega) hv))).mono fun r w' h=> ?_
  obtain ⟨z,rfl,rfl,nf⟩:=h;have jW:=grownCap_ge w (0+1) 0 e;generalize grownCap w (0+1) 0 e=G at jW⊢;have sg:(0+1)*sz≤G*sz:=Nat.mul_le_mul_right _ jW;have zb:(G-(0+1))*sz=G*sz-(0+1)*sz:=Nat.sub_mul ..;have eR:(([] ++ cut varr (eX+bX*sz) sz).toArray ++ Builtin.zeroCells z (G-(0+1))).size=G*sz:=by
   simp only [List.nil_append,Array.size_append,List.size_toArray,jU iJ,Builtin.zeroCells,Array.size_map,Array.size_range,nf];omega
  have cW:=li ae;obtain ⟨e1,e2,e3⟩:=zd (w:=w.drew) (H:=H) (φ := φ) (A:=A) (arr:= #[]) (varr:=varr) (arr' :=([] ++ cut varr (eX+bX*sz) sz).toArray ++ Builtin.zeroCells z (G-(0+1))) (o:=0) (voff:=eX+bX*sz) (o' :=0) ca (Nat.le_refl 0) kN kO (fun i x j y v h=>by
   have:=(List.getElem?_eq_some_iff.1 h).1;omega) (fun j y v h1 h2=>⟨(si j y v h1 h2).1.mono cW.bF,(si j y v h1 h2).2⟩) (fun j hj=>by
   rw [Nat.zero_add,if_neg (by omega),if_pos (by omega),Array.getElem?_append_left (by simp only [List.nil_append,List.size_toArray,jU iJ];omega),List.getElem?_toArray,List.nil_append,fG,if_pos (by omega)]
   congr 1;omega)
  have ho:=nF (b' :=⟨H.st,sz,false,(aB b.el off 0).take 0 ++ y0::(aB b.el off 0).drop 0⟩) (c:=w.drew.heap.size) (b0:=0) (T:=e) (fr:=(0,0)) (w' :=w.drew.alloc (.cells _ e)) cW.st hg rfl (.inr (Nat.le_refl _)) (heap_alloc_new _ _) (fun k hk _=>heap_alloc_old _ _ hk) (by simp) rfl rfl rfl
   (fun h=>absurd h (Nat.lt_irrefl _)) (fun j _ h=>absurd h.2 (Nat.not_lt_zero j)) (by rw [eR];simp only [e1];omega) e2 e3
  exact ⟨_,_,_,_,cW.trans ae ho,ze (by simp) jW (by rw [eR];omega) (heap_alloc_new w.drew _),rfl,rfl⟩
 ·cases loc with
  |aP=>simp only at q6;exact absurd (q6.2 qf) dx
  |at_ c b0=>
   simp only at q6;rcases q6 with q6|⟨rfl,q7⟩
   ·exact absurd q6 dx
   ·obtain ⟨arr,T,fr,m1,m2,m3,m4⟩:=af.here c b0 rfl;obtain ⟨p3,p4⟩:=piece (off:=off) (n:=n) (by omega) hle af.sized m4
    have mj:aR w c=arr.size:=by unfold aR;rw [m1]
    rw [mj] at q7;rw [aC] at m2 m3 p3 p4 q7;have hmul:(off+cap)*sz=off*sz+cap*sz:=Nat.add_mul ..;have DW:vb≠c:=by rintro rfl;exact aI (ae.inj _ _ _ _ _ pg q1)
    rw [aC];refine (DS hs pd (off:=b0+off*sz) (voff:=eX+bX*sz) m1 m2 (by omega) q4 hi hr p3 n1 n2 iJ (fun j v hj hv=>p1 j v (by omega) hv) DW (by omega)).mono fun r w' h=> ?_
    obtain ⟨v,rfl,c',o',dZ,arr',T',dW,rfl,h2,h3,h4,h5,h6,h7,h8,h9,DX,DY,DZ⟩:=h;obtain ⟨e1,e2,e3⟩:=zd ca hi kN kO p4 si DZ
    have ho:=nF (b' :=⟨H.st,sz,false,(aB b.el off n).take i0 ++ y0::(aB b.el off n).drop i0⟩) (c:=c') (b0:=o') ae hg rfl (by
     rcases h6 with ⟨rfl,_,_⟩|h6
     ·exact .inl ⟨⟨id,b0,q1⟩,b0,q1⟩
     ·exact .inr h6) h4 h7 h8 h9 DX DY (fun az=>by
     rcases h6 with ⟨rfl,_,h6⟩|h6
     ·rw [h6,mj]
     ·omega) h5 (by
     have:=Nat.mul_le_mul_right sz h2;simp only [e1];omega) e2 e3
    exact ⟨_,_,_,_,ho,ze (by simp) h2 h3 h4,rfl,rfl⟩
theorem D0 {P:Program} {f:FuncId} {sz bytes e:Nat} (hs:nb P f sz bytes e) {H:J} {v:AV} {bJ dL bX:Nat} {b2:bu} {y0:AV} (hv:v= .nil∨v= .e0)
 (cP:H.ap bJ dL=some b2) (ng:b2.sz=sz) (jq:bX+1≤b2.el.length) (iK:aB b2.el bX 1=[y0]) (hr:roomy 1 bytes=true):
 b_ P f [v,.int .i64 0,.ref bJ dL bX 1] H (fun v1 H1=>v1= .ref H.bs.length H.st 0 1∧H1=H.new sz false [y0]):=by
 refine ⟨hs.can,fun w A φ us ae hl b8=> ?_⟩;obtain ⟨u0,u1,u2,rfl⟩: ∃u0 u1 u2,us= #[u0,u1,u2]:=by
  match us,hl with
  |⟨[u0,u1,u2]⟩,_=>exact ⟨u0,u1,u2,rfl⟩
 have hx:R w H φ A v u0:=b8 0 _ _ rfl rfl;have dK:R w H φ A (.int .i64 0) u1:=b8 1 _ _ rfl rfl;have hy:R w H φ A (.ref bJ dL bX 1) u2:=b8 2 _ _ rfl rfl;obtain rfl:=dK.ct;have hz:=hs.pos;obtain ⟨vb,eX,vc,pg,rfl,_,_,_,k4⟩:=lb hy cP (by omega)
 have ij:=(J.bd cP).1;obtain ⟨DV,kP,iA⟩:=ae.ap bJ _ pg;rw [ij] at kP;simp only [Option.some.injEq] at kP;subst kP;obtain ⟨varr,vT,nc,n1,n2,n3,n4⟩:=iA.here vb eX rfl;obtain ⟨p1,p2⟩:=piece (off:=bX) (n:=1) (by omega) jq iA.sized n4
 rw [ng] at n2 n3 p1 p2⊢;have iJ:eX+bX*sz+sz≤varr.size:=by
  have:=Nat.mul_le_mul_right sz jq;rw [Nat.add_mul,Nat.one_mul] at this;omega
 have kO:y0.cells.length=sz:=by
  have:=congrArg (fun l=>l[0]?) iK;simp only [aB,List.getElem?_take,List.getElem?_drop,List.getElem?_cons_zero] at this;rw [←ng];exact iA.sized _ _ (by simpa using this)
 rw [iK] at p2;obtain ⟨a,rfl⟩: ∃a,u0= .slice a 0 0:=by
  rcases hv with rfl|rfl
  ·exact ⟨_,hx.du⟩
  ·exact hx.fc
 simp only [roomy,Bool.and_eq_true,decide_eq_true_eq] at hr;have lN:(0+1)*bytes≤140737488355328:=Nat.le_trans (Nat.mul_le_mul_right _ (by omega)) (Nat.le_trans hr.1 (by omega))
 refine (hs.ends a 0 0 vb (eX+bX*sz) vc [] (cut varr (eX+bX*sz) sz) w (Nat.le_refl _) (by omega) lN (by simp) (jU iJ) (fun _=>rfl) (fun _ _ j v hj=>by simp at hj) (fun j v hj=>by
  rw [fG] at hj;split at hj
  ·rw [lM n1];exact hj
  ·cases hj) (jV (fun j v hj hv=>p1 j v (by omega) hv))).mono fun r w' h=> ?_
 obtain ⟨z,rfl,rfl,nf⟩:=h;have jW:=grownCap_ge w (0+1) 0 e;generalize grownCap w (0+1) 0 e=G at jW⊢;have sg:(0+1)*sz≤G*sz:=Nat.mul_le_mul_right _ jW;have zb:(G-(0+1))*sz=G*sz-(0+1)*sz:=Nat.sub_mul ..;have eR:(([] ++ cut varr (eX+bX*sz) sz).toArray ++ Builtin.zeroCells z (G-(0+1))).size=G*sz:=by
  simp only [List.nil_append,Array.size_append,List.size_toArray,jU iJ,Builtin.zeroCells,Array.size_map,Array.size_range,nf];omega
 obtain ⟨x1,x2,_⟩:=J.jD (H:=H) (H' :=H.new sz false [y0]) (.inr ⟨sz,false,[y0],rfl⟩)
 have o1:=jE ae x1 x2;have cW:=li o1.st;have mD:=(o1.trans ae cW).bF;obtain ⟨ak,A',bq,aV,br⟩:=j_ (H0:=H) (sz:=sz) (el:=[y0]) (arr:=([] ++ cut varr (eX+bX*sz) sz).toArray ++ Builtin.zeroCells z (G-(0+1))) e cW.st (bg.refl _) (ae.new (Nat.le_refl _)) (fun i x h=>by
  cases i with
  |zero=>simp at h;subst h;exact kO
  |succ i=>simp at h) (by rw [eR];simp;omega) (fun i x j y v h1 h2 h3=>by
  cases i with
  |zero=>
   simp only [List.getElem?_cons_zero,Option.some.injEq] at h1;subst h1;have hj:=(List.getElem?_eq_some_iff.1 h2).1;rw [Nat.zero_mul,Nat.zero_add,Array.getElem?_append_left (by simp only [List.nil_append,List.size_toArray,jU iJ];omega),List.getElem?_toArray,List.nil_append,fG,if_pos (by omega)] at h3
   have:=p2 0 y0 j y v rfl h2 (by rw [Nat.zero_mul];exact h3)
   exact ⟨this.1.mono mD,this.2⟩
  |succ i=>simp at h1)
 have hg:=J.eB H sz false [y0];exact ⟨_,_,_,_,(o1.trans ae cW).trans ae bq,ka hg (Nat.lt_succ_self _) aV (Nat.le_refl _) jW (by simpa using jW) (by show G*sz≤aR (w.drew.alloc (.cells _ e)) w.drew.heap.size;rw [lf,eR];exact Nat.le_refl _),rfl,rfl⟩
structure kQ (P:Program) (f:FuncId) (A:List AV→J→AV→J→Prop):Prop where
 mW: ∀ys H v H',A ys H v H' →b_ P f ys H (fun v1 H1=>v1=v∧H1=H')
def sj (v:AV):Prop:=v= .nil∨v= .e0∨ ∃id ad off,v= .ref id ad off 0
inductive sk (sz b:Nat):List AV→J→AV→J→Prop
 |mk (xs:List AV) (H:J):bD sz xs=true→sz≠0→roomy xs.length b=true→sk sz b [.fz xs] H (if xs=[] then .e0 else .ref H.bs.length H.st 0 xs.length) (if xs=[] then H else H.new sz false xs)
inductive ph (g:FuncId) (sz:Nat):List AV→J→AV→J→Prop
 |none (v:AV) (H:J):sj v→ph g sz [v,.fn g []] H (.aD []) H
 |some (id ad off:Nat) (b:bu) (zs:List (ZR sz)) (H:J):0<sz→H.ap id ad=some b→b.sz=sz→0<zs.length→off+zs.length≤b.el.length→aB b.el off zs.length=zs.map dA→zs.length<1152921504606846976→
  ph g sz [.ref id ad off zs.length,.fn g []] H (.aD []) (H.aZ id {b with el:=splice b.el off ((dP zs.toArray).toList.map dA)})
inductive sm:List AV→J→AV→J→Prop
 |mk (l:List UInt8) (c:Nat) (H:J):c≤9223372036854775807→l.length*c≤140737488355328→sm [.str l,.int .i64 c] H (.str (Lib.repeatL l c)) H
inductive pj:List AV→J→AV→J→Prop
 |none (v:AV) (H:J):sj v→pj [v] H (.aD []) H
 |some (id ad off:Nat) (b:bu) (zs:List Int) (H:J):H.ap id ad=some b→b.sz=1→0<zs.length→off+zs.length≤b.el.length→aB b.el off zs.length=zs.map (AV.int .i64)→zs.length<1152921504606846976→
  pj [.ref id ad off zs.length] H (.aD []) (H.aZ id {b with el:=splice b.el off ((g_ zs).map (AV.int .i64))})
inductive sn:List AV→J→AV→J→Prop
 |none (v:AV) (H:J):sj v→sn [v] H v H
 |some (id ad off:Nat) (b:bu) (zs:List Int) (H:J):H.ap id ad=some b→b.sz=1→0<zs.length→off+zs.length≤b.el.length→aB b.el off zs.length=zs.map (AV.int .i64)→zs.length<1152921504606846976→
  sn [.ref id ad off zs.length] H (.ref id ad off (Lib.compact zs).length) (H.aZ id {b with el:=splice b.el off ((na zs).map (AV.int .i64))})
inductive pk (sz bytes:Nat):List AV→J→AV→J→Prop
 |ref (id ad off n i0 bJ dL bX:Nat) (b b2:bu) (y0:AV) (H:J):H.ap id ad=some b→b.sz=sz→b.fix=false→off+n≤b.el.length→i0≤n→H.ap bJ dL=some b2→b2.sz=sz→bX+1≤b2.el.length→aB b2.el bX 1=[y0]→bJ≠id→roomy (n+1) bytes=true→
  pk sz bytes [.ref id ad off n,.int .i64 i0,.ref bJ dL bX 1] H (.ref id H.st 0 (n+1)) ⟨H.st+1,H.bs.set id (some ⟨H.st,sz,false,(aB b.el off n).take i0 ++ y0::(aB b.el off n).drop i0⟩)⟩
 |nil (v:AV) (bJ dL bX:Nat) (b2:bu) (y0:AV) (H:J):v= .nil∨v= .e0→H.ap bJ dL=some b2→b2.sz=sz→bX+1≤b2.el.length→aB b2.el bX 1=[y0]→roomy 1 bytes=true→
  pk sz bytes [v,.int .i64 0,.ref bJ dL bX 1] H (.ref H.bs.length H.st 0 1) (H.new sz false [y0])
section
variable {P:Program} {f:FuncId}
theorem yO.gen {E:aK} (hm:P.follows .mixedOrders=true) (hE: ∀t ti,E t=some ti→aU P t ti) {sz b:Nat} (h:yO P E f sz b):kQ P f (sk sz b):=⟨fun ys H v H' hA=>by
 cases hA with|mk xs H h2 h3 h4=>
 obtain ⟨fn,t,bt,e,ti,te,k1,k2,k3,k4,k5,k6,k7,k8,rfl,rfl⟩:=h.out;exact C2 hm hE k1 k2 k3 k4 k5 k6 k7 k8 xs _ h2 h3 h4⟩
theorem o8.gen {g:FuncId} {sz:Nat} (hs:o8 P f g sz):kQ P f (ph g sz):=⟨fun ys H v H' hA=>by
 cases hA with
 |none v H h=>exact DH hs h
 |some id ad off b zs H h0 k1 k2 k3 k4 k5 k6=>exact DF hs k1 k2 k3 h0 k4 k5 k6⟩
theorem sa.gen (hs:sa P f):kQ P f sm:=⟨fun ys H v H' hA=>by cases hA with|mk l c H h1 h2=>exact DJ hs h1 h2⟩
theorem pa.gen (hs:pa P f):kQ P f pj:=⟨fun ys H v H' hA=>by
 cases hA with
 |none v H h=>exact DN hs h
 |some id ad off b zs H k1 k2 k3 k4 k5 k6=>exact DM hs k1 k2 k3 k4 k5 k6⟩
theorem pb.gen (hs:pb P f):kQ P f sn:=⟨fun ys H v H' hA=>by
 cases hA with
 |none v H h=>exact DQ hs h
 |some id ad off b zs H k1 k2 k3 k4 k5 k6=>exact DP hs k1 k2 k3 k4 k5 k6⟩
theorem nb.gen {sz bytes e:Nat} (hs:nb P f sz bytes e) (h1:sz≠1):kQ P f (pk sz bytes):=⟨fun ys H v H' hA=>by
 cases hA with
 |ref id ad off n i0 bJ dL bX b b2 y0 H k1 k2 k3 k4 k5 k6 k7 k8 k9 D1 D2=>exact DU hs h1 k1 k2 k3 k4 k5 k6 k7 k8 k9 D1 D2
 |nil v bJ dL bX b2 y0 H k1 k2 k3 k4 k5 k6=>exact D0 hs k1 k2 k3 k4 k5 k6⟩
end
abbrev nh:=List (FuncId×(List AV→J→AV→J→Prop))
def jX (I:nh):bK:=fun f ys H K=> ∃A v H',(f,A)∈I∧A ys H v H' ∧K v H'
theorem G7 {P:Program} {I:nh} (h: ∀x∈I,kQ P x.1 x.2): ∀f ys H K,jX I f ys H K→ ∃v H',b_ P f ys H (fun v1 H1=>v1=v∧H1=H')∧K v H' :=by
 rintro f ys H K ⟨A,v,H',h1,h2,h3⟩;exact ⟨v,H',(h _ h1).mW ys H v H' h2,h3⟩
theorem G8 {C:aJ} {I:nh} (h:C.ext=jX I):Good C:=by
 constructor
 ·rintro f ys H K K' hK hx
  rw [h] at hx⊢;obtain ⟨A,v,H',h1,h2,h3⟩:=hx;exact ⟨A,v,H',h1,h2,hK _ _ h3⟩
 ·rintro f ys H K hx;rw [h] at hx⊢;obtain ⟨A,v,H',h1,h2,h3⟩:=hx;exact ⟨v,H',⟨A,v,H',h1,h2,rfl,rfl⟩,h3⟩
theorem aq.gen {C:aJ} {I:nh} (hx:C.ext=jX I) {f:FuncId} {A:List AV→J→AV→J→Prop} (br:(f,A)∈I) {ys:List AV} {v:AV} {H H' :J} {P:AV→J→Prop} (hA:A ys H v H') (h:P v H'):aq C f ys H P:=by
 refine aq.ext ?_;rw [hx];exact ⟨A,v,H',br,hA,h⟩
end Go.VS
namespace Go.VS
open Go.Sort
def eY {α :Type} {sz:Nat} {z: α →List Int} (l:List α) (h: ∀x∈l,iH sz (z x)):List (ZR sz):=l.attach.map fun x:{x // x∈l}=>⟨z x.1,h x.1 x.2⟩
theorem D3 {α :Type} {sz:Nat} {z: α →List Int} (l:List α) (h: ∀x∈l,iH sz (z x)):(eY l h).length=l.length:=by simp [eY]
theorem zf {α :Type} {sz:Nat} {z: α →List Int} {l:List α} {h: ∀x∈l,iH sz (z x)} {y:ZR sz} (hy:y∈eY l h): ∃x∈l,y.1=z x:=by
 obtain ⟨x,_,rfl⟩:=List.mem_map.1 hy;exact ⟨x.1,x.2,rfl⟩
theorem zg {α β :Type} {sz:Nat} {z: α →List Int} (l:List α) (h: ∀x∈l,iH sz (z x)) (f:ZR sz→ β) (g: α → β) (hg: ∀x (hx:x∈l),f ⟨z x,h x hx⟩=g x):(eY l h).map f=l.map g:=by
 unfold eY;rw [List.map_map];have:(f∘fun x:{x // x∈l}=>(⟨z x.1,h x.1 x.2⟩:ZR sz))=fun x=>g x.1:=by funext x;exact hg x.1 x.2
 rw [this,List.attach_map_val (f:=g)]
noncomputable def po {α :Type} (sz:Nat) (z: α →List Int) (dec:List Int→ α) (l:List α):Option (List α):=
 if h:(∀x∈l,iH sz (z x))∧l.length<1152921504606846976 then
  some ((dP (eY l h.1).toArray).toList.map fun y=>dec y.1)
 else none
theorem zh {sz:Nat} (zs:List (ZR sz)):(dP zs.toArray).toList.Perm zs∧(dP zs.toArray).toList.Pairwise fun x y=>lJ x≤lJ y:=by
 obtain ⟨⟨h1,_,h2⟩,h3⟩:=yZ zs.toArray;have e1:(dP zs.toArray).extract 0 zs.toArray.size=dP zs.toArray:=by rw [←h1];simp
 have e2:zs.toArray.extract 0 zs.toArray.size=zs.toArray:=by simp
 rw [e1,e2] at h2;refine ⟨by simpa using h2,?_⟩
 rw [List.pairwise_iff_getElem];intro i j hi hj ku;simp only [Array.length_toList] at hi hj;have:=h3 i j (Nat.zero_le _) ku (by rw [←h1];exact hj)
 rw [o7,decide_eq_false_iff_not,getElem!_pos _ j hj,getElem!_pos _ i hi] at this;simp only [Array.getElem_toList];omega
theorem G9 {α :Type} {sz:Nat} {z: α →List Int} {dec:List Int→ α} (hd: ∀x,dec (z x)=x) {l:List α} (h: ∀x∈l,iH sz (z x)) (hl:l.length<1152921504606846976):
 ∃r,po sz z dec l=some r∧r.Perm l∧r.Pairwise fun x y=>(z x).headD 0≤(z y).headD 0:=by
 unfold po;rw [dif_pos ⟨h,hl⟩];obtain ⟨p1,p2⟩:=zh (eY l h);have mem: ∀y∈(dP (eY l h).toArray).toList,z (dec y.1)=y.1:=fun y hy=>by
  obtain ⟨x,_,e⟩:=zf ((p1.mem_iff).1 hy);rw [e,hd]
 revert p1 p2 mem;generalize (dP (eY l h).toArray).toList=s;intro p1 p2 mem;have dw:((eY l h).map fun y=>dec y.1)=l:=by rw [zg l h _ (fun x=>x) (fun x _=>hd x)];simp
 refine ⟨_,rfl,?_,?_⟩
 ·have:=p1.map fun y:ZR sz=>dec y.1
  rwa [dw] at this
 ·rw [List.pairwise_map];refine p2.imp_of_mem fun {a b} ha hb D4=> ?_;rw [mem a ha,mem b hb];exact D4
section
variable {C:aJ} {I:nh}
theorem G_ (hx:C.ext=jX I) {α :Type} {f:FuncId} {sz b:Nat} (br:(f,sk sz b)∈I) {c: α →AV} (hc: ∀x,(c x).cells.length=sz) (h0:sz≠0) {l r:List α} (h:app b [] l=some r) {F:List It} {H:J} (hS:aA H F)
 {P:AV→J→Prop} (hP: ∀v,bj v→ ∀H',aA H' (⟨v,sz,r.map c⟩::F)→P v H'):aq C f [.fz (l.map c)] H P:=by
 unfold app at h;split at h
 ·rename_i hr;simp only [List.nil_append,Option.some.injEq] at h;subst h;simp only [List.length_nil,Nat.zero_add] at hr;refine aq.gen hx br (.mk (l.map c) H (kK hc l) h0 (by simpa using hr)) ?_
  cases l with
  |nil=>exact hP _ oR _ (by simpa using hS.CS sz)
  |cons x l=>
   rw [if_neg (by simp),if_neg (by simp)]
   exact hP _ (fE ..) _ (hS.kG (all:=(x::l).map c) (List.take_of_length_le (Nat.le_refl _)) rfl (kK hc _))
 ·simp at h
theorem Ha (hx:C.ext=jX I) {α :Type} {f g:FuncId} {sz:Nat} (br:(f,ph g sz)∈I) (h0:0<sz) {c: α →AV} {z: α →List Int} {dec:List Int→ α} (hc: ∀x,c x= .agg ((z x).map (AV.int .i64))) (hd: ∀x,dec (z x)=x) {l r:List α} (h:po sz z dec l=some r)
 {v:AV} {F:List It} {H:J} (hS:aA H (⟨v,sz,l.map c⟩::F)) (_qv:bj v) {P:AV→J→Prop} (hP: ∀H',aA H' (⟨v,sz,r.map c⟩::F)→P (.aD []) H'):aq C f [v,.fn g []] H P:=by
 unfold po at h;split at h
 ·rename_i hh;obtain ⟨af,hlen⟩:=hh;simp only [Option.some.injEq] at h;obtain ⟨p1,_⟩:=zh (eY l af);have cK:(eY l af).length=l.length:=D3 l af;have so:(eY l af).map dA=l.map c:=zg l af _ c (fun x _=>(hc x).symm);have jB: ∀y∈(dP (eY l af).toArray).toList,c (dec y.1)=dA y:=fun y hy=>by
   obtain ⟨x,_,e⟩:=zf ((p1.mem_iff).1 hy);unfold dA;rw [e,hd,hc]
  have lO:r.map c=(dP (eY l af).toArray).toList.map dA:=by
   rw [←h,List.map_map];exact List.map_congr_left fun y hy=>jB y hy
  have eQ:r.length=l.length:=by
   have:=congrArg List.length lO;rw [List.length_map,List.length_map,p1.length_eq,cK] at this;exact this
  clear jB p1 h;revert cK so lO;generalize eY l af=zs;intro cK so lO;obtain ⟨k0,k1⟩:=hS.ok 0 _ rfl;by_cases cL:l=[]
  ·subst cL;have gh:r=[]:=List.eq_nil_of_length_eq_zero eQ;subst gh;refine aq.gen hx br (.none v H ?_) (hP H hS);cases v with
   |nil=>exact .inl rfl
   |e0=>exact .inr (.inl rfl)
   |ref id ad off len=>exact .inr (.inr ⟨id,ad,off,by simp only at k1;rw [k1.1];rfl⟩)
   |ptr id ad idx off=>simp at k1
   |_=>exact k1.elim
  ·have D5:0<l.length:=List.length_pos_iff.2 cL;cases v with
   |nil=>simp only [List.map_eq_nil_iff] at k1;exact absurd k1 cL
   |e0=>simp only [List.map_eq_nil_iff] at k1;exact absurd k1 cL
   |ref id ad off len=>
    simp only at k1;obtain ⟨da,b,hb,cv,sq,hle,bG⟩:=k1;rw [List.length_map,←cK] at da;subst da;refine aq.gen hx br (.some id ad off b zs H h0 hb cv (by omega) hle (by rw [bG,so]) (by omega)) ?_
    have bN:=(J.bd hb).2;have hu:=hS.aZ (H' :=H.aZ id {b with el:=splice b.el off ((dP zs.toArray).toList.map dA)}) (j:=0) (it' :=⟨.ref id ad off zs.length,sz,r.map c⟩) rfl (i:=id) rfl (fun e8 fD aI _=>jS aI) ?_ (fun k hk=>by simpa [bW] using hk.symm)
    ·exact hP _ hu
    ·have eW:((dP zs.toArray).toList.map dA).length=zs.length:=by rw [←lO,List.length_map,eQ,cK]
     refine ⟨?_,by simp only;rw [List.length_map,eQ,cK],{b with el:=splice b.el off ((dP zs.toArray).toList.map dA)},?_,cv,sq,?_,?_⟩
     ·rw [lO];unfold bD;rw [List.all_eq_true];intro x hx;obtain ⟨y,_,rfl⟩:=List.mem_map.1 hx;simpa using o9 y
     ·subst bN;exact jk (H:=H) (b:={b with el:=splice b.el off ((dP zs.toArray).toList.map dA)}) (J.gb (J.bd hb).1)
     ·simp only [splice,List.length_append,List.length_take,List.length_drop,eW];omega
     ·simp only [splice,aB];rw [lO];have e1:(b.el.take off).length=off:=by simp;omega
      rw [List.append_assoc,List.drop_append_of_le_length (by omega),List.drop_eq_nil_of_le (by omega),List.nil_append,←eW,List.take_left'];rfl
   |ptr id ad idx off=>
    exact absurd _qv (by intro q;rcases q.ok with h|h|⟨_,_,_,_,h⟩<;>simp at h)
   |_=>exact k1.elim
 ·simp at h
def zi (l:List UInt8) (n:Int):Option (List UInt8):=if 0≤n∧n≤9223372036854775807∧l.length*n.toNat≤140737488355328 then some (Lib.repeatL l n.toNat) else none
theorem Hb (hx:C.ext=jX I) {f:FuncId} (br:(f,sm)∈I) {l r:List UInt8} {n:Int} (h:zi l n=some r) {F:List It} {H:J} (hS:aA H F) {P:AV→J→Prop} (hP: ∀H',aA H' F→P (.str r) H'):aq C f [.str l,.int .i64 n] H P:=by
 unfold zi at h;split at h
 ·rename_i hh;obtain ⟨h1,h2,h3⟩:=hh;simp only [Option.some.injEq] at h;subst h;obtain ⟨k,rfl⟩: ∃k:Nat,n=k:=⟨n.toNat,by omega⟩
  exact aq.gen hx br (.mk l k H (by omega) (by simpa using h3)) (by simpa using hP _ hS)
 ·simp at h
def zj (l:List Int):Option (List Int):=if l.length<1152921504606846976 then some (g_ l) else none
theorem Hc (hx:C.ext=jX I) {f:FuncId} (br:(f,pj)∈I) {l r:List Int} (h:zj l=some r) {v:AV} {F:List It} {H:J} (hS:aA H (⟨v,1,l.map (AV.int .i64)⟩::F)) (_qv:bj v) {P:AV→J→Prop} (hP: ∀H',aA H' (⟨v,1,r.map (AV.int .i64)⟩::F)→P (.aD []) H'):aq C f [v] H P:=by
 unfold zj at h;split at h
 ·rename_i hlen;simp only [Option.some.injEq] at h;subst h;have eQ:=sb l;obtain ⟨k0,k1⟩:=hS.ok 0 _ rfl;by_cases cL:l=[]
  ·subst cL;rw [List.eq_nil_of_length_eq_zero (sb [])] at hP;refine aq.gen hx br (.none v H ?_) (hP H hS);cases v with
   |nil=>exact .inl rfl
   |e0=>exact .inr (.inl rfl)
   |ref id ad off len=>exact .inr (.inr ⟨id,ad,off,by simp only at k1;rw [k1.1];rfl⟩)
   |ptr id ad idx off=>simp at k1
   |_=>exact k1.elim
  ·have D5:0<l.length:=List.length_pos_iff.2 cL;cases v with
   |nil=>simp only [List.map_eq_nil_iff] at k1;exact absurd k1 cL
   |e0=>simp only [List.map_eq_nil_iff] at k1;exact absurd k1 cL
   |ref id ad off len=>
    simp only at k1;obtain ⟨da,b,hb,cv,sq,hle,bG⟩:=k1;rw [List.length_map] at da;subst da;refine aq.gen hx br (.some id ad off b l H hb cv (by omega) hle bG (by omega)) ?_
    have bN:=(J.bd hb).2;have hu:=hS.aZ (H' :=H.aZ id {b with el:=splice b.el off ((g_ l).map (AV.int .i64))}) (j:=0) (it' :=⟨.ref id ad off l.length,1,(g_ l).map (AV.int .i64)⟩) rfl (i:=id) rfl (fun e8 fD aI _=>jS aI) ?_ (fun k hk=>by simpa [bW] using hk.symm)
    ·exact hP _ hu
    ·have eW:((g_ l).map (AV.int .i64)).length=l.length:=by rw [List.length_map,eQ]
     refine ⟨?_,by simp only;rw [List.length_map,eQ],{b with el:=splice b.el off ((g_ l).map (AV.int .i64))},?_,cv,sq,?_,?_⟩
     ·unfold bD;rw [List.all_eq_true];intro x hx;obtain ⟨y,_,rfl⟩:=List.mem_map.1 hx;rfl
     ·subst bN;exact jk (H:=H) (b:={b with el:=splice b.el off ((g_ l).map (AV.int .i64))}) (J.gb (J.bd hb).1)
     ·simp only [splice,List.length_append,List.length_take,List.length_drop,eW];omega
     ·simp only [splice,aB];have e1:(b.el.take off).length=off:=by simp;omega
      rw [List.append_assoc,List.drop_append_of_le_length (by omega),List.drop_eq_nil_of_le (by omega),List.nil_append,←eW,List.take_left'];rfl
   |ptr id ad idx off=>
    exact absurd _qv (by intro q;rcases q.ok with h|h|⟨_,_,_,_,h⟩<;>simp at h)
   |_=>exact k1.elim
 ·simp at h
def Hd (l:List Int):Option (List Int):=if l.length<1152921504606846976 then some (Lib.compact l) else none
def zk {α :Type} (bytes:Nat) (l:List α) (i:Int) (y:List α):Option (List α):=match y with
 |[x]=>if 0≤i∧i≤l.length∧roomy (l.length+1) bytes=true then some (l.take i.toNat ++ x::l.drop i.toNat) else none
 |_=>none
theorem He (hx:C.ext=jX I) {α :Type} {f:FuncId} {sz bytes:Nat} (br:(f,pk sz bytes)∈I) {c: α →AV} (hc: ∀x,(c x).cells.length=sz) {l y r:List α} {i:Int} (h:zk bytes l i y=some r) {v v2:AV} {F:List It} {H:J} (hS:aA H (⟨v,sz,l.map c⟩::⟨v2,sz,y.map c⟩::F)) (_qv:bj v) (_qv2:bj v2)
 {P:AV→J→Prop} (hP: ∀v',bj v' → ∀H',aA H' (⟨v',sz,r.map c⟩::F)→P v' H'):aq C f [v,.int .i64 i,v2] H P:=by
 unfold zk at h;split at h
 ·rename_i x;split at h
  ·rename_i hh;obtain ⟨h1,h2,h3⟩:=hh;obtain ⟨k,rfl⟩: ∃k:Nat,i=k:=⟨i.toNat,by omega⟩
   simp only [Int.toNat_natCast,Option.some.injEq] at h;have hk:k≤l.length:=by omega
   have hd:=hS.drop 1;rcases _qv2.ok with e|e|⟨bJ,dL,bX,n2,e⟩
   ·subst e;have:=(hS.ok 1 _ rfl).2;simp at this
   ·subst e;have:=(hS.ok 1 _ rfl).2;simp at this
   ·subst e;obtain ⟨_,dh,b2,cP,eO,_,jq,iK⟩:=hS.ok 1 _ rfl;simp only [List.map_cons,List.map_nil,List.length_cons,List.length_nil,Nat.zero_add] at dh iK eO;subst dh;rcases _qv.ok with e|e|⟨id,ad,off,n,e⟩
    ·subst e;have hl:=(hS.ok 0 _ rfl).2;simp only [List.map_eq_nil_iff] at hl;subst hl;obtain rfl:k=0:=by simpa using hk
     refine aq.gen hx br (.nil .nil bJ dL bX b2 (c x) H (.inl rfl) cP eO jq iK (by simpa using h3)) ?_
     refine hP _ (fE ..) _ ?_;rw [←h];exact hS.tl.tl.kG (all:=[c x]) rfl rfl (by simp [bD,hc])
    ·subst e;have hl:=(hS.ok 0 _ rfl).2;simp only [List.map_eq_nil_iff] at hl;subst hl;obtain rfl:k=0:=by simpa using hk
     refine aq.gen hx br (.nil .e0 bJ dL bX b2 (c x) H (.inr rfl) cP eO jq iK (by simpa using h3)) ?_
     refine hP _ (fE ..) _ ?_;rw [←h];exact hS.tl.tl.kG (all:=[c x]) rfl rfl (by simp [bD,hc])
    ·subst e;have aI:bJ≠id:=fun e=>by have:=hS.ck 0 1 _ _ id rfl rfl rfl (by rw [e];rfl);omega
     obtain ⟨_,da,b,hb,cJ,kt,D6,zl⟩:=hS.ok 0 _ rfl;simp only [List.length_map] at da zl cJ;subst da;refine aq.gen hx br (.ref id ad off l.length k bJ dL bX b b2 (c x) H hb cJ kt D6 hk cP eO jq iK aI h3) ?_;have az:=J.gb (J.bd hb).1;have eW:((l.take k).map c ++ c x::(l.drop k).map c)=r.map c:=by rw [←h];simp
     have eQ:r.length=l.length+1:=by rw [←h];simp;omega
     refine hP (.ref id H.st 0 (l.length+1)) (fE ..) _ ?_;rw [zl,←List.map_take,←List.map_drop,eW];refine hd.aZ (j:=0) (it:=⟨.ref id ad off l.length,sz,l.map c⟩) (it' :=⟨.ref id H.st 0 (l.length+1),sz,r.map c⟩) rfl (i:=id) rfl (fun e8 fD hn _=>jS (b:=⟨H.st,sz,false,r.map c⟩) hn) ?_ (fun k hk=>by simpa [bW] using hk.symm)
     refine ⟨kK hc r,by simp only;rw [List.length_map,eQ],⟨H.st,sz,false,r.map c⟩,?_,rfl,rfl,by simp only;rw [List.length_map,eQ];omega,by simp only [aB,List.drop_zero];rw [←eQ,←List.length_map (f:=c),List.take_length]⟩
     exact jk (H:=H) (b:=⟨H.st,sz,false,r.map c⟩) az
  ·simp at h
 ·simp at h
end
end Go.VS
