import Derived.Test.YtclgbpneokeaeaaVaE
import Derived.Shelf.SlSortCmp.InsertionK
import Derived.Sort.AssemblyPlain
import Derived.Below
import Derived.Lib.Repeat
import Derived.Lib.SlicesCompact
namespace Go.VS
open Go.Sort Go.Proofs
def hG (sz:Nat) (z:List Int):Prop:=z.length=sz∧ -2305843009213693952≤z.headD 0∧z.headD 0≤2305843009213693952
instance (sz:Nat) (z:List Int):Decidable (hG sz z):=by unfold hG;infer_instance
abbrev ZR (sz:Nat):={z:List Int // hG sz z}
theorem Cf (sz:Nat):hG sz (List.replicate sz 0):=by
 refine ⟨by simp,?_⟩
 cases sz<;>simp [List.replicate]
instance (sz:Nat):Inhabited (ZR sz):=⟨⟨List.replicate sz 0,Cf sz⟩⟩
def hI {sz:Nat} (x:ZR sz):List Value:=x.1.map (Value.int .i64)
def kJ {sz:Nat} (x:ZR sz):Int:=x.1.headD 0
def kK {sz:Nat} (x y:ZR sz):Int:=kJ x-kJ y
theorem n3 {sz:Nat} (x y:ZR sz):ltOf kK x y=decide (kJ x<kJ y):=by
 unfold ltOf kK;rw [Bool.eq_iff_iff,decide_eq_true_eq,decide_eq_true_eq];omega
theorem Cg (sz:Nat):SWO (ltOf (kK (sz:=sz))) where
 irrefl x:=by rw [n3];simp
 trans x y z h1 h2:=by rw [n3] at*;simp at*;omega
 ntrans x y z h1 h2:=by rw [n3] at*;simp at*;omega
def dx {sz:Nat} (d:Array (ZR sz)):Array (ZR sz):=pdq (ltOf kK) d 0 d.size (Lib.bitLen d.size) true true
theorem xI {sz:Nat} (d:Array (ZR sz)):PermIn 0 d.size d (dx d)∧SortedIn (ltOf kK) 0 d.size (dx d):=
 pdq_sorts (ltOf kK) (Cg sz) d 0 d.size (Lib.bitLen d.size) true true (Nat.zero_le _) (Nat.le_refl _) (Or.inl rfl)
def de {sz:Nat} (z:ZR sz):AV:= .agg (z.1.map (AV.int .i64))
structure qS (P:Program) (f g:FuncId) (sz:Nat):Prop where
 can:gT P f
 eq: ∀(ap off cap:Nat) (d:Array (ZR sz)) (w:World),HoldsK hI sz w ap off d→ap<w.heap.size→d.size<4611686018427387904→
  Calls P f #[.slice (some ⟨ap,off,none⟩) d.size cap,.func (.func g) #[] #[]] w fun e w' =>e= .returned (.tuple #[])∧ ∃n os,w' =sortWorldK hI sz w ap off n (dx d) os
 none: ∀(p:Option Addr) (cap:Nat) (fv:Value) (w:World),Calls P f #[.slice p 0 cap,fv] w fun e w' =>e= .returned (.tuple #[])∧w' =w
theorem xJ {w:World} {G:J} {φ :af} {A:aj} (ae:St w G φ A) (os:Array Obj):Out w G φ A (grow w os) G φ A:=by
 have old: ∀c,c<w.heap.size→(grow w os).heap[c]? =w.heap[c]? :=fun c hc=>by
  show (w.heap ++ os)[c]? =_;rw [Array.getElem?_append_left hc]
 have aT:bI w G φ A (grow w os) G φ A:=⟨fun c a t fr hc hn=>⟨⟨fr,by rw [old c (ek hc)];exact hc⟩,hn⟩,Nat.le_refl _,
  fun i b' aw _=>⟨b',aw,rfl,rfl,rfl,rfl,fun loc hl=>hl⟩,fun c hc=>by unfold aU;rw [old c (Ow.lt ae hc)]⟩
 have aB:w.heap.size≤(grow w os).heap.size:=by show _≤(w.heap ++ os).size;simp
 refine ⟨⟨ae.inj,ae.own,fun c hc=>Nat.lt_of_lt_of_le (ae.bY c hc) aB,fun i loc hl=> ?_⟩,
  ⟨rfl,rfl,rfl,aB,fun c hc _=>old c hc,fun c hc=>by unfold aU;rw [old c hc],fun c hc=> .inl hc⟩,aT,fun c hc _=>hc⟩
 obtain ⟨b',cH,aw⟩:=ae.ap i loc hl;refine ⟨b',cH,aw.ad,aw.sized,aw.aQ,fun c b0 h=> ?_⟩;obtain ⟨a,t,fr,h1,h2,h3,h4⟩:=aw.here c b0 h;exact ⟨a,t,fr,by rw [old c (ek h1)];exact h1,h2,h3,fun i x j y v hx hy hv=>⟨(h4 i x j y v hx hy hv).1.mono aT,(h4 i x j y v hx hy hv).2⟩⟩
theorem xK {w:World} {G:J} {φ :af} {A:aj} (ae:St w G φ A) (n:Nat):Out w G φ A (Sort.ahead w n) G φ A:=by
 have aT:bI w G φ A (Sort.ahead w n) G φ A:=⟨fun c arr T fr hc hn=>⟨⟨fr,hc⟩,hn⟩,Nat.le_refl _,fun id b h _=>⟨b,h,rfl,rfl,rfl,rfl,fun _ h=>h⟩,fun _ _=>rfl⟩;have jP:St (Sort.ahead w n) G φ A:=by
  refine ⟨ae.inj,ae.own,ae.bY,fun id loc hl=> ?_⟩;obtain ⟨b,hb,ag⟩:=ae.ap id loc hl;refine ⟨b,hb,ag.ad,ag.sized,ag.aQ,fun c b0 he=> ?_⟩;obtain ⟨arr,T,fr,k1,k2,k3,k4⟩:=ag.here c b0 he;exact ⟨arr,T,fr,k1,k2,k3,fun i x j y v hx hy hv=>⟨(k4 i x j y v hx hy hv).1.mono aT,(k4 i x j y v hx hy hv).2⟩⟩
 exact ⟨jP,⟨rfl,rfl,rfl,Nat.le_refl _,fun _ _ _=>rfl,fun _ _=>rfl,fun _ h=> .inl h⟩,aT,fun _ h _=>h⟩
theorem xL {w:World} {c:Nat} {arr:Array Value} {T:TypeId} {fr:Nat×Nat} (h:w.heap[c]? =some (.cells arr T fr)) (f:Array Value→Array Value):iZ w c (.cells (f arr) T fr) (mapBlock w c f):=by
 refine ⟨?_,fun k hk=> ?_,by show (w.heap.modify c (onCells f)).size=_;simp,rfl,rfl,rfl⟩
 ·show (w.heap.modify c (onCells f))[c]? =_;rw [Array.getElem?_modify,if_pos rfl,h];rfl
 ·show (w.heap.modify c (onCells f))[k]? =_;rw [Array.getElem?_modify,if_neg (fun e=>hk e.symm)]
theorem xM {sz:Nat} (x:ZR sz) (r:Nat) (h:r<sz):(hI x)[r]! = .int .i64 (x.1[r]'(by rw [x.2.1];exact h)):=by
 have hl:r<(hI x).length:=by unfold hI;rw [List.length_map,x.2.1];exact h
 rw [getElem!_pos _ r hl];simp [hI]
theorem qT {sz:Nat} (x:ZR sz):(de x).cells=x.1.map (AV.int .i64):=rfl
theorem n4 {sz:Nat} (x:ZR sz):(de x).cells.length=sz:=by rw [qT,List.length_map,x.2.1]
theorem Ch {sz:Nat} (x:ZR sz) {j:Nat} {y:AV} (h:(de x).cells[j]? =some y): ∃hj:j<sz,y= .int .i64 (x.1[j]'(by rw [x.2.1];exact hj)):=by
 have hj:j<sz:=by rw [←n4 x];exact (List.getElem?_eq_some_iff.1 h).1
 refine ⟨hj,?_⟩;rw [qT,List.getElem?_map,List.getElem?_eq_getElem (by rw [x.2.1];exact hj)] at h
 simpa using h.symm
theorem xN {sz q r:Nat} (h:r<sz):(q*sz+r)/sz=q∧(q*sz+r) % sz=r:=by
 constructor
 ·rw [Nat.mul_comm,Nat.mul_add_div (by omega),Nat.div_eq_of_lt h,Nat.add_zero]
 ·rw [Nat.mul_comm,Nat.mul_add_mod,Nat.mod_eq_of_lt h]
theorem xO {q n sz r:Nat} (hq:q<n) (hr:r<sz):q*sz+r<n*sz:=by
 have:=Nat.mul_le_mul_right sz (show q+1≤n from hq);rw [Nat.add_mul,Nat.one_mul] at this;omega
theorem Ci {P:Program} {f g:FuncId} {sz:Nat} (hs:qS P f g sz) {H:J} {id ad off:Nat} {b:bC} {zs:List (ZR sz)} (hb:H.ap id ad=some b) (aB:b.sz=sz) (h0:0<zs.length) (hz:0<sz) (hle:off+zs.length≤b.el.length) (b4:aG b.el off zs.length=zs.map de) (hlen:zs.length<1152921504606846976):
 b8 P f [.ref id ad off zs.length,.fn g []] H (fun v1 H1=>v1= .aA []∧H1=H.bh id {b with el:=splice b.el off ((dx zs.toArray).toList.map de)}):=by
 refine ⟨hs.can,fun w A φ us ae hl cC=> ?_⟩;obtain ⟨u0,u1,rfl⟩: ∃u0 u1,us= #[u0,u1]:=by
  match us,hl with
  |⟨[u0,u1]⟩,_=>exact ⟨u0,u1,rfl⟩
 have hx:R w H φ A (.ref id ad off zs.length) u0:=cC 0 _ _ rfl rfl;have hf:R w H φ A (.fn g []) u1:=cC 1 _ _ rfl rfl;obtain rfl:u1= .func (.func g) #[] #[]:=by
  cases hf with
  |fr _ _ h=>cases h with|fn _ _ vs h2 _=>rw [Array.eq_empty_of_size_eq_zero (show vs.size=0 from h2.symm)]
  |fn _ _ vs h2 _=>rw [Array.eq_empty_of_size_eq_zero (show vs.size=0 from h2.symm)]
 obtain ⟨c,b0,cap,aX,rfl,k1,k2,k3,k4⟩:=mr hx hb h0;have hg:=(J.bz hb).1;obtain ⟨b',aw,ag⟩:=ae.ap id _ aX;rw [hg] at aw;simp only [Option.some.injEq] at aw;subst aw;obtain ⟨arr,T,fr,m1,m2,m3,m4⟩:=ag.here c b0 rfl;rw [aB] at m3 m4⊢;have bD: ∀i (hi:i<zs.length),b.el[off+i]? =some (de zs[i]):=fun i hi=>by
  have:=congrArg (fun l=>l[i]?) b4;simp only [aG,List.getElem?_map,List.getElem?_eq_getElem hi,Option.map_some] at this;rw [List.getElem?_take_of_lt hi,List.getElem?_drop] at this;exact this
 have k9: ∀i r,b0+(off+i)*sz+r=b0+off*sz+(i*sz+r):=fun i r=>by rw [Nat.add_mul];omega
 have mA:(off+zs.length)*sz≤b.el.length*sz:=Nat.mul_le_mul_right sz hle;have Fj:(off+zs.length)*sz=off*sz+zs.length*sz:=Nat.add_mul ..;have hH:HoldsK hI sz w c (b0+off*sz) zs.toArray:=by
  intro t ht;rw [size_flatK] at ht;have cD:t<zs.length*sz:=by simpa using ht
  have hq:t/sz<zs.length:=Nat.div_lt_of_lt_mul (by rw [Nat.mul_comm];exact cD)
  have hr:t % sz<sz:=Nat.mod_lt _ hz;have jx:t/sz*sz+t % sz=t:=by rw [Nat.mul_comm];exact Nat.div_add_mod t sz
  have az:b0+off*sz+t<arr.size:=by omega
  have hv:=Array.getElem?_eq_getElem az;have hc:(de zs[t/sz]).cells[t % sz]? =some (.int .i64 ((zs[t/sz]).1[t % sz]'(by rw [(zs[t/sz]).2.1];exact hr))):=by
   rw [qT,List.getElem?_map,List.getElem?_eq_getElem (by rw [(zs[t/sz]).2.1];exact hr)];rfl
  have hR:=(m4 (off+t/sz) _ (t % sz) _ _ (bD _ hq) hc (by rw [k9,jx];exact hv)).1.cv
  refine ⟨?_,?_⟩
  ·unfold World.cell?;simp only [m1,Option.isSome_none,Bool.false_eq_true,if_false];rw [hv,hR,get_flatK _ _ _ _ ht];have e1:zs.toArray[t/sz]! =zs[t/sz]:=by rw [getElem!_pos _ _ (by simpa using hq)];simp
   rw [e1,xM _ _ hr];rfl
  ·unfold World.frozen?;simp only [m1];have:=m2 _ az;obtain ⟨lo,hi⟩:=fr;simp only at this⊢;rw [Bool.and_eq_false_iff,decide_eq_false_iff_not,decide_eq_false_iff_not];omega
 have xP:=hs.eq c (b0+off*sz) cap zs.toArray w hH (ek m1) (by simpa using (show zs.length<4611686018427387904 by omega))
 rw [show zs.toArray.size=zs.length from by simp] at xP
 refine xP.mono fun e w' he=> ?_
 obtain ⟨rfl,n,os,rfl⟩:=he;have Cj:=(xI zs.toArray).1.1;have eO:(dx zs.toArray).size=zs.length:=by rw [Cj];simp
 generalize dx zs.toArray=d' at eO⊢
 have gV:(splice b.el off (d'.toList.map de)).length=b.el.length:=by
  unfold splice;simp only [List.length_append,List.length_take,List.length_drop,List.length_map,Array.length_toList,eO];omega
 have br: ∀i x,(splice b.el off (d'.toList.map de))[i]? =some x→(i<off∧b.el[i]? =some x)∨(∃q,∃hq:q<zs.length,i=off+q∧x=de (d'[q]'(by omega)))∨(off+zs.length≤i∧b.el[i]? =some x):=fun i x hx=>by
  unfold splice at hx;rw [List.append_assoc] at hx;by_cases h1:i<off
  ·rw [List.getElem?_append_left (by simp;omega),List.getElem?_take_of_lt h1] at hx
   exact .inl ⟨h1,hx⟩
  ·rw [List.getElem?_append_right (by simp;omega)] at hx
   have e1:(b.el.take off).length=off:=by simp;omega
   rw [e1] at hx;by_cases h2:i-off<zs.length
   ·rw [List.getElem?_append_left (by simp [eO];omega),List.getElem?_map] at hx
    refine .inr (.inl ⟨i-off,h2,by omega,?_⟩)
    rw [List.getElem?_eq_getElem (by simp [eO];omega)] at hx
    simpa using hx.symm
   ·rw [List.getElem?_append_right (by simp [eO];omega),List.getElem?_drop] at hx
    refine .inr (.inr ⟨by omega,?_⟩)
    rw [←hx];congr 1;simp [eO];omega
 have o1:=xK ae n;have qU:iZ (Sort.ahead w n) c (.cells (putCells _root_.id (b0+off*sz) (flatK hI sz d') arr) T fr) (putRowK hI sz (Sort.ahead w n) c (b0+off*sz) d'):=xL (w:=Sort.ahead w n) m1 _;have l_: ∀(i:Nat) (x:AV) (j:Nat) (y:AV) (v:Value),b.el[i]? =some x→x.cells[j]? =some y→arr[b0+i*sz+j]? =some v→R (Sort.ahead w n) H φ A y v∧v.oneCell' =true:=fun i x j y v h1 h2 h3=>
  ⟨(m4 i x j y v h1 h2 h3).1.mono o1.bE,(m4 i x j y v h1 h2 h3).2⟩
 have iN: ∀(i:Nat) (x:AV),b.el[i]? =some x→x.cells.length=sz:=fun i x hx=>by rw [ag.sized i x hx,aB]
 have o2:Out (Sort.ahead w n) H φ A (putRowK hI sz (Sort.ahead w n) c (b0+off*sz) d') (H.bh id {b with el:=splice b.el off (d'.toList.map de)}) φ A:=by
  refine mG (b' :={b with el:=splice b.el off (d'.toList.map de)}) o1.st hg aX rfl rfl rfl gV m1 qU (by unfold putCells;simp) (fun i x hx=> ?_) (fun i x j y v hx hy hv=> ?_)
  ·rw [aB];rcases br i x hx with ⟨_,h⟩|⟨q,hq,_,rfl⟩|⟨_,h⟩
   ·exact iN i x h
   ·exact n4 _
   ·exact iN i x h
  ·simp only [aB] at hv;unfold putCells at hv;rw [Array.getElem?_mapIdx,size_flatK,eO] at hv;have hj:j<sz:=by
    have h1:=(List.getElem?_eq_some_iff.1 hy).1;rcases br i x hx with ⟨_,h⟩|⟨q,hq,_,rfl⟩|⟨_,h⟩
    ·rw [iN i x h] at h1;exact h1
    ·rw [n4] at h1;exact h1
    ·rw [iN i x h] at h1;exact h1
   rcases br i x hx with ⟨h1,h⟩|⟨q,hq,rfl,rfl⟩|⟨h1,h⟩
   ·have:=xO (sz:=sz) h1 hj;cases ha:arr[b0+i*sz+j]? with
    |none=>rw [ha] at hv;simp at hv
    |some u=>rw [ha] at hv;simp only [Option.map_some,Option.some.injEq] at hv;rw [if_neg (by omega)] at hv;subst hv;exact l_ i x j y u h hy ha
   ·have hr:=xO (sz:=sz) hq hj;obtain ⟨wi,rfl⟩:=Ch _ hy;rw [k9] at hv;cases ha:arr[b0+off*sz+(q*sz+j)]? with
    |none=>rw [ha] at hv;simp at hv
    |some u=>
     rw [ha] at hv;simp only [Option.map_some,Option.some.injEq,_root_.id] at hv;rw [if_pos (by omega),show b0+off*sz+(q*sz+j)-(b0+off*sz)=q*sz+j by omega,get_flatK _ _ _ _ (by rw [eO];exact hr),(xN hj).1,(xN hj).2,getElem!_pos d' q (by omega),xM _ _ hj] at hv
     subst hv;exact ⟨.fr _ _ (.int _ _),rfl⟩
   ·have:(off+zs.length)*sz≤i*sz:=Nat.mul_le_mul_right sz h1;cases ha:arr[b0+i*sz+j]? with
    |none=>rw [ha] at hv;simp at hv
    |some u=>rw [ha] at hv;simp only [Option.map_some,Option.some.injEq] at hv;rw [if_neg (by omega)] at hv;subst hv;exact l_ i x j y u h hy ha
 have o3:=xJ o2.st os;exact ⟨.aA [],_,φ,A,(o1.trans ae o2).trans ae o3,.fr _ _ (.aA [] #[] rfl (by simp)),rfl,by rw [aB]⟩
theorem Ck {P:Program} {f g:FuncId} {sz:Nat} (hs:qS P f g sz) {H:J} {v:AV} (hv:v= .nil∨v= .e0∨ ∃id ad off,v= .ref id ad off 0):b8 P f [v,.fn g []] H (fun v1 H1=>v1= .aA []∧H1=H):=by
 refine ⟨hs.can,fun w A φ us ae hl cC=> ?_⟩;obtain ⟨u0,u1,rfl⟩: ∃u0 u1,us= #[u0,u1]:=by
  match us,hl with
  |⟨[u0,u1]⟩,_=>exact ⟨u0,u1,rfl⟩
 have hx:R w H φ A v u0:=cC 0 _ _ rfl rfl;obtain ⟨p,cap,rfl⟩: ∃p cap,u0= .slice p 0 cap:=by
  rcases hv with rfl|rfl|⟨id,ad,off,rfl⟩
  ·cases hx with|fr _ _ h=>cases h;exact ⟨_,_,rfl⟩
  ·cases hx with|fr _ _ h=>cases h;exact ⟨_,_,rfl⟩
  ·exact hx.dq.2.1
 refine (hs.none p cap u1 w).mono fun e w' he=> ?_
 obtain ⟨rfl,rfl⟩:=he;exact ⟨.aA [],H,φ,A,.refl ae,.fr _ _ (.aA [] #[] rfl (by simp)),rfl,rfl⟩
structure xQ (P:Program) (f:FuncId):Prop where
 can:gT P f
 eq: ∀(s:ByteArray) (c:Nat) (w:World),c≤9223372036854775807→s.size*c≤140737488355328→Calls P f #[.string s,.int .i64 c] w fun e w' =>e= .returned (.string ⟨(Lib.repeatL s.data.toList c).toArray⟩)∧Go.RowKit.Below w.heap.size w w'
theorem Cl {w w' :World} {G:J} {φ :af} {A:aj} (ae:St w G φ A) (hb:Go.RowKit.Below w.heap.size w w'):Out w G φ A w' G φ A:=by
 have old: ∀c,c<w.heap.size→w'.heap[c]? =w.heap[c]? :=hb.block;have aT:bI w G φ A w' G φ A:=⟨fun c a t fr hc hn=>⟨⟨fr,by rw [old c (ek hc)];exact hc⟩,hn⟩,Nat.le_refl _,
  fun i b' aw _=>⟨b',aw,rfl,rfl,rfl,rfl,fun loc hl=>hl⟩,fun c hc=>by unfold aU;rw [old c (Ow.lt ae hc)]⟩
 refine ⟨⟨ae.inj,ae.own,fun c hc=>Nat.lt_of_lt_of_le (ae.bY c hc) hb.size,fun i loc hl=> ?_⟩,
  ⟨hb.os,hb.tape,hb.output,hb.size,fun c hc _=>old c hc,fun c hc=>by unfold aU;rw [old c hc],fun c hc=> .inl hc⟩,aT,fun c hc _=>hc⟩
 obtain ⟨b',cH,aw⟩:=ae.ap i loc hl;refine ⟨b',cH,aw.ad,aw.sized,aw.aQ,fun c b0 h=> ?_⟩;obtain ⟨a,t,fr,h1,h2,h3,h4⟩:=aw.here c b0 h;exact ⟨a,t,fr,by rw [old c (ek h1)];exact h1,h2,h3,fun i x j y v hx hy hv=>⟨(h4 i x j y v hx hy hv).1.mono aT,(h4 i x j y v hx hy hv).2⟩⟩
theorem Cm {P:Program} {f:FuncId} (hs:xQ P f) {H:J} {l:List UInt8} {c:Nat} (hc:c≤9223372036854775807) (hl:l.length*c≤140737488355328):b8 P f [.str l,.int .i64 c] H (fun v1 H1=>v1= .str (Lib.repeatL l c)∧H1=H):=by
 refine ⟨hs.can,fun w A φ us ae hlen cC=> ?_⟩;obtain ⟨u0,u1,rfl⟩: ∃u0 u1,us= #[u0,u1]:=by
  match us,hlen with
  |⟨[u0,u1]⟩,_=>exact ⟨u0,u1,rfl⟩
 have hx:R w H φ A (.str l) u0:=cC 0 _ _ rfl rfl;have hy:R w H φ A (.int .i64 c) u1:=cC 1 _ _ rfl rfl;obtain rfl:=hy.cv;obtain ⟨s,rfl,rfl⟩:=hx.eD;refine (hs.eq s c w hc (by simpa [←Lib.size_eq] using hl)).mono fun e w' he=> ?_
 obtain ⟨rfl,hb⟩:=he;exact ⟨.str (Lib.repeatL s.data.toList c),H,φ,A,Cl ae hb,.fr _ _ (by simpa using FR.str (w:=w') (A:=A) ⟨(Lib.repeatL s.data.toList c).toArray⟩),rfl,rfl⟩
structure qV (P:Program) (f:FuncId):Prop where
 can:gT P f
 eq: ∀(ap off cap:Nat) (zs:List Int) (w:World),Holds (Value.int .i64) w ap off zs.toArray→ap<w.heap.size→zs.length<4611686018427387904→
  Calls P f #[.slice (some ⟨ap,off,none⟩) zs.length cap] w fun e w' =>e= .returned (.tuple #[])∧ ∃n os,w' =grow (putRow (Value.int .i64) (Sort.ahead w n) ap off (zs.mergeSort fun x y=>decide (x≤y)).toArray) os
 none: ∀(p:Option Addr) (cap:Nat) (w:World),Calls P f #[.slice p 0 cap] w fun e w' =>e= .returned (.tuple #[])∧w' =w
def kL (zs:List Int):List Int:=zs.mergeSort fun x y=>decide (x≤y)
theorem Cn (zs:List Int):(kL zs).Perm zs:=List.mergeSort_perm _ _
theorem Co (zs:List Int):(kL zs).length=zs.length:=(Cn zs).length_eq
theorem Cp {w:World} {H:J} {φ :af} {A:aj} {id ad off n m cap:Nat} {a:Option Addr} (h:R w H φ A (.ref id ad off n) (.slice a n cap)) (hm:m≤n):R w H φ A (.ref id ad off m) (.slice a m cap):=by
 obtain ⟨h1,_,h3⟩:=h.dq;refine .ref id ad off m _ h1 ⟨_,_,rfl⟩ fun b hb=> ?_;obtain ⟨loc,a',eX,k1,k2,k3,k4,k5,k6⟩:=(h3 b hb).out;simp only [Value.slice.injEq,true_and] at k2;obtain ⟨rfl,rfl⟩:=k2;exact ⟨loc,_,_,k1,rfl,by omega,by omega,k5,k6⟩
theorem xR {w:World} {H:J} {φ :af} {A:aj} {id ad off:Nat} {b:bC} {zs:List Int} {u0:Value} (ae:St w H φ A) (hx:R w H φ A (.ref id ad off zs.length) u0) (hb:H.ap id ad=some b) (aB:b.sz=1) (h0:0<zs.length) (hle:off+zs.length≤b.el.length) (b4:aG b.el off zs.length=zs.map (AV.int .i64)):
 ∃c o cap,u0= .slice (some ⟨c,o,none⟩) zs.length cap∧zs.length≤cap∧c<w.heap.size∧Holds (Value.int .i64) w c o zs.toArray∧
  ∀n (d' :List Int),d'.length=zs.length→Out w H φ A (putRow (Value.int .i64) (Sort.ahead w n) c o d'.toArray) (H.bh id {b with el:=splice b.el off (d'.map (AV.int .i64))}) φ A:=by
 obtain ⟨c,b0,cap,aX,rfl,k1,k2,k3,k4⟩:=mr hx hb h0;have hg:=(J.bz hb).1;obtain ⟨b',aw,ag⟩:=ae.ap id _ aX;rw [hg] at aw;simp only [Option.some.injEq] at aw;subst aw;obtain ⟨arr,T,fr,m1,m2,m3,m4⟩:=ag.here c b0 rfl;rw [aB] at m3 m4⊢;have bD: ∀i (hi:i<zs.length),b.el[off+i]? =some (AV.int .i64 zs[i]):=fun i hi=>by
  have:=congrArg (fun l=>l[i]?) b4;simp only [aG,List.getElem?_map,List.getElem?_eq_getElem hi,Option.map_some] at this;rw [List.getElem?_take_of_lt hi,List.getElem?_drop] at this;exact this
 have hH:Holds (Value.int .i64) w c (b0+off*1) zs.toArray:=by
  intro t ht;have cD:t<zs.length:=by simpa using ht
  have az:b0+off*1+t<arr.size:=by omega
  have hv:=Array.getElem?_eq_getElem az;have hR:=(m4 (off+t) _ 0 (AV.int .i64 zs[t]) _ (bD _ cD) rfl (by rw [show b0+(off+t)*1+0=b0+off*1+t by omega];exact hv)).1.cv
  refine ⟨?_,?_⟩
  ·unfold World.cell?;simp only [m1,Option.isSome_none,Bool.false_eq_true,if_false];rw [hv,hR,getElem!_pos _ _ (by simpa using cD)]
   simp
  ·unfold World.frozen?;simp only [m1];have:=m2 _ az;obtain ⟨lo,hi⟩:=fr;simp only at this⊢;rw [Bool.and_eq_false_iff,decide_eq_false_iff_not,decide_eq_false_iff_not];omega
 refine ⟨c,b0+off*1,cap,rfl,k2,ek m1,hH,fun n d' eO=> ?_⟩
 have gV:(splice b.el off (d'.map (AV.int .i64))).length=b.el.length:=by
  unfold splice;simp only [List.length_append,List.length_take,List.length_drop,List.length_map,eO];omega
 have br: ∀i x,(splice b.el off (d'.map (AV.int .i64)))[i]? =some x→(i<off∧b.el[i]? =some x)∨(∃q,∃hq:q<zs.length,i=off+q∧x=AV.int .i64 (d'[q]'(by omega)))∨(off+zs.length≤i∧b.el[i]? =some x):=fun i x hx=>by
  unfold splice at hx;rw [List.append_assoc] at hx;by_cases h1:i<off
  ·rw [List.getElem?_append_left (by simp;omega),List.getElem?_take_of_lt h1] at hx
   exact .inl ⟨h1,hx⟩
  ·rw [List.getElem?_append_right (by simp;omega)] at hx
   have e1:(b.el.take off).length=off:=by simp;omega
   rw [e1] at hx;by_cases h2:i-off<zs.length
   ·rw [List.getElem?_append_left (by simp [eO];omega),List.getElem?_map] at hx
    refine .inr (.inl ⟨i-off,h2,by omega,?_⟩)
    rw [List.getElem?_eq_getElem (by omega)] at hx
    simpa using hx.symm
   ·rw [List.getElem?_append_right (by simp [eO];omega),List.getElem?_drop] at hx
    refine .inr (.inr ⟨by omega,?_⟩)
    rw [←hx];congr 1;simp [eO];omega
 have o1:=xK ae n;have qU:iZ (Sort.ahead w n) c (.cells (putCells (Value.int .i64) (b0+off*1) d'.toArray arr) T fr) (putRow (Value.int .i64) (Sort.ahead w n) c (b0+off*1) d'.toArray):=xL (w:=Sort.ahead w n) m1 _;have l_: ∀(i:Nat) (x:AV) (j:Nat) (y:AV) (v:Value),b.el[i]? =some x→x.cells[j]? =some y→arr[b0+i*1+j]? =some v→R (Sort.ahead w n) H φ A y v∧v.oneCell' =true:=fun i x j y v h1 h2 h3=>
  ⟨(m4 i x j y v h1 h2 h3).1.mono o1.bE,(m4 i x j y v h1 h2 h3).2⟩
 have iN: ∀(i:Nat) (x:AV),b.el[i]? =some x→x.cells.length=1:=fun i x hx=>by rw [ag.sized i x hx,aB]
 have o2:Out (Sort.ahead w n) H φ A (putRow (Value.int .i64) (Sort.ahead w n) c (b0+off*1) d'.toArray) (H.bh id {b with el:=splice b.el off (d'.map (AV.int .i64))}) φ A:=by
  refine mG (b' :={b with el:=splice b.el off (d'.map (AV.int .i64))}) o1.st hg aX rfl rfl rfl gV m1 qU (by unfold putCells;simp) (fun i x hx=> ?_) (fun i x j y v hx hy hv=> ?_)
  ·rw [aB];rcases br i x hx with ⟨_,h⟩|⟨q,hq,_,rfl⟩|⟨_,h⟩
   ·exact iN i x h
   ·rfl
   ·exact iN i x h
  ·simp only [aB] at hv;unfold putCells at hv;rw [Array.getElem?_mapIdx] at hv;have hj:j<1:=by
    have h1:=(List.getElem?_eq_some_iff.1 hy).1;rcases br i x hx with ⟨_,h⟩|⟨q,hq,_,rfl⟩|⟨_,h⟩
    ·rw [iN i x h] at h1;exact h1
    ·exact h1
    ·rw [iN i x h] at h1;exact h1
   obtain rfl:j=0:=by omega
   rcases br i x hx with ⟨h1,h⟩|⟨q,hq,rfl,rfl⟩|⟨h1,h⟩
   ·cases ha:arr[b0+i*1+0]? with
    |none=>rw [ha] at hv;simp at hv
    |some u=>rw [ha] at hv;simp only [Option.map_some,Option.some.injEq] at hv;rw [if_neg (by omega)] at hv;subst hv;exact l_ i x 0 y u h hy ha
   ·obtain rfl:y=AV.int .i64 (d'[q]'(by omega)):=by
     have:(AV.int .i64 (d'[q]'(by omega))).cells[0]? =some (AV.int .i64 (d'[q]'(by omega))):=rfl
     rw [this] at hy;exact (Option.some.inj hy).symm
    cases ha:arr[b0+(off+q)*1+0]? with
    |none=>rw [ha] at hv;simp at hv
    |some u=>
     rw [ha] at hv;simp only [Option.map_some,Option.some.injEq] at hv;rw [if_pos (by simp [eO];omega),show b0+(off+q)*1+0-(b0+off*1)=q by omega,getElem!_pos _ q (by simp;omega)] at hv
     subst hv;simp only [List.getElem_toArray];exact ⟨.fr _ _ (.int _ _),rfl⟩
   ·cases ha:arr[b0+i*1+0]? with
    |none=>rw [ha] at hv;simp at hv
    |some u=>rw [ha] at hv;simp only [Option.map_some,Option.some.injEq] at hv;rw [if_neg (by simp [eO];omega)] at hv;subst hv;exact l_ i x 0 y u h hy ha
 have o3:=o1.trans ae o2;rw [aB] at o3;exact o3
theorem Cq {P:Program} {f:FuncId} (hs:qV P f) {H:J} {id ad off:Nat} {b:bC} {zs:List Int} (hb:H.ap id ad=some b) (aB:b.sz=1) (h0:0<zs.length) (hle:off+zs.length≤b.el.length) (b4:aG b.el off zs.length=zs.map (AV.int .i64)) (hlen:zs.length<1152921504606846976):
 b8 P f [.ref id ad off zs.length] H (fun v1 H1=>v1= .aA []∧H1=H.bh id {b with el:=splice b.el off ((kL zs).map (AV.int .i64))}):=by
 refine ⟨hs.can,fun w A φ us ae hl cC=> ?_⟩;obtain ⟨u0,rfl⟩: ∃u0,us= #[u0]:=by
  match us,hl with
  |⟨[u0]⟩,_=>exact ⟨u0,rfl⟩
 have hx:R w H φ A (.ref id ad off zs.length) u0:=cC 0 _ _ rfl rfl;obtain ⟨c,o,cap,rfl,_,k3,k4,k5⟩:=xR ae hx hb aB h0 hle b4;refine (hs.eq c o cap zs w k4 k3 (by omega)).mono fun e w' he=> ?_
 obtain ⟨rfl,n,os,rfl⟩:=he;have o1:=k5 n (kL zs) (Co zs);have o3:=xJ o1.st os;exact ⟨.aA [],_,φ,A,o1.trans ae o3,.fr _ _ (.aA [] #[] rfl (by simp)),rfl,rfl⟩
theorem Cr {P:Program} {f:FuncId} (hs:qV P f) {H:J} {v:AV} (hv:v= .nil∨v= .e0∨ ∃id ad off,v= .ref id ad off 0):b8 P f [v] H (fun v1 H1=>v1= .aA []∧H1=H):=by
 refine ⟨hs.can,fun w A φ us ae hl cC=> ?_⟩;obtain ⟨u0,rfl⟩: ∃u0,us= #[u0]:=by
  match us,hl with
  |⟨[u0]⟩,_=>exact ⟨u0,rfl⟩
 have hx:R w H φ A v u0:=cC 0 _ _ rfl rfl;obtain ⟨p,cap,rfl⟩: ∃p cap,u0= .slice p 0 cap:=by
  rcases hv with rfl|rfl|⟨id,ad,off,rfl⟩
  ·cases hx with|fr _ _ h=>cases h;exact ⟨_,_,rfl⟩
  ·cases hx with|fr _ _ h=>cases h;exact ⟨_,_,rfl⟩
  ·exact hx.dq.2.1
 refine (hs.none p cap w).mono fun e w' he=> ?_
 obtain ⟨rfl,rfl⟩:=he;exact ⟨.aA [],H,φ,A,.refl ae,.fr _ _ (.aA [] #[] rfl (by simp)),rfl,rfl⟩
structure qW (P:Program) (f:FuncId):Prop where
 can:gT P f
 eq: ∀(ap off cap:Nat) (zs:List Int) (w:World),Holds (Value.int .i64) w ap off zs.toArray→zs.length≤9223372036854775807→zs.length≤cap→
  Calls P f #[.slice (some ⟨ap,off,none⟩) zs.length cap] w fun e w' =>e= .returned (.slice (some ⟨ap,off,none⟩) (Lib.compact zs).length cap)∧ ∃q,w' =putRow (Value.int .i64) (Sort.ahead w q) ap off (Lib.compact zs ++ List.replicate (zs.length-(Lib.compact zs).length) 0).toArray
 none: ∀(p:Option Addr) (cap:Nat) (w:World),Calls P f #[.slice p 0 cap] w fun e w' =>e= .returned (.slice p 0 cap)∧w' =w
theorem xS (zs:List Int):(Lib.compact zs).length≤zs.length:=by
 unfold Lib.compact Lib.compactUpTo;rw [List.length_map];exact Nat.le_trans (List.length_filter_le _ _) (by simp)
def ma (zs:List Int):List Int:=Lib.compact zs ++ List.replicate (zs.length-(Lib.compact zs).length) 0
theorem Cs (zs:List Int):(ma zs).length=zs.length:=by
 have:=xS zs;simp only [ma,List.length_append,List.length_replicate];omega
theorem Ct {P:Program} {f:FuncId} (hs:qW P f) {H:J} {id ad off:Nat} {b:bC} {zs:List Int} (hb:H.ap id ad=some b) (aB:b.sz=1) (h0:0<zs.length) (hle:off+zs.length≤b.el.length) (b4:aG b.el off zs.length=zs.map (AV.int .i64)) (hlen:zs.length<1152921504606846976):
 b8 P f [.ref id ad off zs.length] H (fun v1 H1=>v1= .ref id ad off (Lib.compact zs).length∧H1=H.bh id {b with el:=splice b.el off ((ma zs).map (AV.int .i64))}):=by
 refine ⟨hs.can,fun w A φ us ae hl cC=> ?_⟩;obtain ⟨u0,rfl⟩: ∃u0,us= #[u0]:=by
  match us,hl with
  |⟨[u0]⟩,_=>exact ⟨u0,rfl⟩
 have hx:R w H φ A (.ref id ad off zs.length) u0:=cC 0 _ _ rfl rfl;obtain ⟨c,o,cap,rfl,k2,k3,k4,k5⟩:=xR ae hx hb aB h0 hle b4;refine (hs.eq c o cap zs w k4 (by omega) k2).mono fun e w' he=> ?_
 obtain ⟨rfl,n,rfl⟩:=he;have o1:=k5 n (ma zs) (Cs zs);exact ⟨_,_,φ,A,o1,Cp (hx.mono o1.bE) (xS zs),rfl,rfl⟩
theorem Cu {P:Program} {f:FuncId} (hs:qW P f) {H:J} {v:AV} (hv:v= .nil∨v= .e0∨ ∃id ad off,v= .ref id ad off 0):b8 P f [v] H (fun v1 H1=>v1=v∧H1=H):=by
 refine ⟨hs.can,fun w A φ us ae hl cC=> ?_⟩;obtain ⟨u0,rfl⟩: ∃u0,us= #[u0]:=by
  match us,hl with
  |⟨[u0]⟩,_=>exact ⟨u0,rfl⟩
 have hx:R w H φ A v u0:=cC 0 _ _ rfl rfl;obtain ⟨p,cap,rfl⟩: ∃p cap,u0= .slice p 0 cap:=by
  rcases hv with rfl|rfl|⟨id,ad,off,rfl⟩
  ·cases hx with|fr _ _ h=>cases h;exact ⟨_,_,rfl⟩
  ·cases hx with|fr _ _ h=>cases h;exact ⟨_,_,rfl⟩
  ·exact hx.dq.2.1
 refine (hs.none p cap w).mono fun e w' he=> ?_
 obtain ⟨rfl,rfl⟩:=he;exact ⟨v,H,φ,A,.refl ae,hx,rfl,rfl⟩
structure Cv (P:Program) (f:FuncId) (A:List AV→AV→Prop):Prop where
 l8: ∀ys v H,A ys v→b8 P f ys H (fun v1 H1=>v1=v∧H1=H)
def Cw (ids:List (FuncId×FuncId×Nat)):bq:=fun f ys H K=> ∃g sz,(f,g,sz)∈ids∧0<sz∧
 ((∃v,(v= .nil∨v= .e0∨ ∃id ad off,v= .ref id ad off 0)∧ys=[v,.fn g []]∧K (.aA []) H)∨
  ∃(id ad off:Nat) (b:bC) (zs:List (ZR sz)),H.ap id ad=some b∧b.sz=sz∧0<zs.length∧off+zs.length≤b.el.length∧aG b.el off zs.length=zs.map de∧zs.length<1152921504606846976∧
   ys=[.ref id ad off zs.length,.fn g []]∧K (.aA []) (H.bh id {b with el:=splice b.el off ((dx zs.toArray).toList.map de)}))
def Cx (mb:List FuncId):bq:=fun f ys H K=> ∃(l:List UInt8) (c:Nat),f∈mb∧c≤9223372036854775807∧l.length*c≤140737488355328∧ys=[.str l,.int .i64 c]∧K (.str (Lib.repeatL l c)) H
def Cy (n5:List FuncId):bq:=fun f ys H K=>f∈n5∧
 ((∃v,(v= .nil∨v= .e0∨ ∃id ad off,v= .ref id ad off 0)∧ys=[v]∧K (.aA []) H)∨
  ∃(id ad off:Nat) (b:bC) (zs:List Int),H.ap id ad=some b∧b.sz=1∧0<zs.length∧off+zs.length≤b.el.length∧aG b.el off zs.length=zs.map (AV.int .i64)∧zs.length<1152921504606846976∧
   ys=[.ref id ad off zs.length]∧K (.aA []) (H.bh id {b with el:=splice b.el off ((kL zs).map (AV.int .i64))}))
def Cz (kids:List FuncId):bq:=fun f ys H K=>f∈kids∧
 ((∃v,(v= .nil∨v= .e0∨ ∃id ad off,v= .ref id ad off 0)∧ys=[v]∧K v H)∨
  ∃(id ad off:Nat) (b:bC) (zs:List Int),H.ap id ad=some b∧b.sz=1∧0<zs.length∧off+zs.length≤b.el.length∧aG b.el off zs.length=zs.map (AV.int .i64)∧zs.length<1152921504606846976∧
   ys=[.ref id ad off zs.length]∧K (.ref id ad off (Lib.compact zs).length) (H.bh id {b with el:=splice b.el off ((ma zs).map (AV.int .i64))}))
def CA (n9:List (FuncId×(List AV→AV→Prop))):bq:=fun f ys H K=> ∃A v,(f,A)∈n9∧A ys v∧K v H
structure n_ where
 ids:List (FuncId×Nat×Nat)
 qX:List (FuncId×FuncId×Nat)
 mb:List FuncId
 n5:List FuncId
 kids:List FuncId
 n9:List (FuncId×(List AV→AV→Prop))
def mc (I:n_):bq:=fun f ys H K=>xw I.ids f ys H K∨Cw I.qX f ys H K∨Cx I.mb f ys H K∨Cy I.n5 f ys H K∨Cz I.kids f ys H K∨CA I.n9 f ys H K
theorem Fk {P:Program} {E:aM} (hm:P.follows .mixedOrders=true) (hE: ∀t ti,E t=some ti→aS P t ti) {I:n_} (qO: ∀x∈I.ids,xx P E x.1 x.2.1 x.2.2) (hs: ∀x∈I.qX,qS P x.1 x.2.1 x.2.2) (hr: ∀x∈I.mb,xQ P x) (hi: ∀x∈I.n5,qV P x) (hk: ∀x∈I.kids,qW P x) (hp: ∀x∈I.n9,Cv P x.1 x.2):
 ∀f ys H K,mc I f ys H K→ ∃v H',b8 P f ys H (fun v1 H1=>v1=v∧H1=H')∧K v H' :=by
 rintro f ys H K (h|⟨g,sz,h1,h2,h⟩|⟨l,c,h1,h2,h3,rfl,hk⟩|⟨h1,h⟩|⟨h1,h⟩|⟨A,v,h1,h2,h3⟩)
 ·exact BV hm hE qO f ys H K h
 ·have hc:=hs _ h1;rcases h with ⟨v,hv,rfl,hk⟩|⟨id,ad,off,b,zs,k1,k2,k3,k4,k5,k6,rfl,hk⟩
  ·exact ⟨_,_,Ck hc hv,hk⟩
  ·exact ⟨_,_,Ci hc k1 k2 k3 h2 k4 k5 k6,hk⟩
 ·exact ⟨_,_,Cm (hr _ h1) h2 h3,hk⟩
 ·have hc:=hi _ h1;rcases h with ⟨v,hv,rfl,hk⟩|⟨id,ad,off,b,zs,k1,k2,k3,k4,k5,k6,rfl,hk⟩
  ·exact ⟨_,_,Cr hc hv,hk⟩
  ·exact ⟨_,_,Cq hc k1 k2 k3 k4 k5 k6,hk⟩
 ·have hc:=hk _ h1;rcases h with ⟨v,hv,rfl,hk⟩|⟨id,ad,off,b,zs,k1,k2,k3,k4,k5,k6,rfl,hk⟩
  ·exact ⟨_,_,Cu hc hv,hk⟩
  ·exact ⟨_,_,Ct hc k1 k2 k3 k4 k5 k6,hk⟩
 ·exact ⟨_,_,(hp _ h1).l8 ys v H h2,h3⟩
theorem Fl {C:aK} {I:n_} (h:C.ext=mc I):Good C:=by
 constructor
 ·rintro f ys H K K' hK hx
  rw [h] at hx⊢;rcases hx with ⟨sz,b,xs,h1,h2,h3,h4,h5,h6⟩|⟨g,sz,h1,h2,hx⟩|⟨l,c,h1,h2,h3,e,hk⟩|⟨h1,hx⟩|⟨h1,hx⟩|⟨A,v,h1,h2,h3⟩
  ·exact .inl ⟨sz,b,xs,h1,h2,h3,h4,h5,hK _ _ h6⟩
  ·refine .inr (.inl ⟨g,sz,h1,h2,?_⟩);rcases hx with ⟨v,hv,e,hk⟩|⟨id,ad,off,b,zs,k1,k2,k3,k4,k5,k6,e,hk⟩
   ·exact .inl ⟨v,hv,e,hK _ _ hk⟩
   ·exact .inr ⟨id,ad,off,b,zs,k1,k2,k3,k4,k5,k6,e,hK _ _ hk⟩
  ·exact .inr (.inr (.inl ⟨l,c,h1,h2,h3,e,hK _ _ hk⟩))
  ·refine .inr (.inr (.inr (.inl ⟨h1,?_⟩)));rcases hx with ⟨v,hv,e,hk⟩|⟨id,ad,off,b,zs,k1,k2,k3,k4,k5,k6,e,hk⟩
   ·exact .inl ⟨v,hv,e,hK _ _ hk⟩
   ·exact .inr ⟨id,ad,off,b,zs,k1,k2,k3,k4,k5,k6,e,hK _ _ hk⟩
  ·refine .inr (.inr (.inr (.inr (.inl ⟨h1,?_⟩))));rcases hx with ⟨v,hv,e,hk⟩|⟨id,ad,off,b,zs,k1,k2,k3,k4,k5,k6,e,hk⟩
   ·exact .inl ⟨v,hv,e,hK _ _ hk⟩
   ·exact .inr ⟨id,ad,off,b,zs,k1,k2,k3,k4,k5,k6,e,hK _ _ hk⟩
  ·exact .inr (.inr (.inr (.inr (.inr ⟨A,v,h1,h2,hK _ _ h3⟩))))
 ·rintro f ys H K hx;rw [h] at hx⊢;rcases hx with ⟨sz,b,xs,h1,h2,h3,h4,h5,h6⟩|⟨g,sz,h1,h2,hx⟩|⟨l,c,h1,h2,h3,e,hk⟩|⟨h1,hx⟩|⟨h1,hx⟩|⟨A,v,h1,h2,h3⟩
  ·exact ⟨_,_,.inl ⟨sz,b,xs,h1,h2,h3,h4,h5,rfl,rfl⟩,h6⟩
  ·rcases hx with ⟨v,hv,e,hk⟩|⟨id,ad,off,b,zs,k1,k2,k3,k4,k5,k6,e,hk⟩
   ·exact ⟨_,_,.inr (.inl ⟨g,sz,h1,h2,.inl ⟨v,hv,e,rfl,rfl⟩⟩),hk⟩
   ·exact ⟨_,_,.inr (.inl ⟨g,sz,h1,h2,.inr ⟨id,ad,off,b,zs,k1,k2,k3,k4,k5,k6,e,rfl,rfl⟩⟩),hk⟩
  ·exact ⟨_,_,.inr (.inr (.inl ⟨l,c,h1,h2,h3,e,rfl,rfl⟩)),hk⟩
  ·rcases hx with ⟨v,hv,e,hk⟩|⟨id,ad,off,b,zs,k1,k2,k3,k4,k5,k6,e,hk⟩
   ·exact ⟨_,_,.inr (.inr (.inr (.inl ⟨h1,.inl ⟨v,hv,e,rfl,rfl⟩⟩))),hk⟩
   ·exact ⟨_,_,.inr (.inr (.inr (.inl ⟨h1,.inr ⟨id,ad,off,b,zs,k1,k2,k3,k4,k5,k6,e,rfl,rfl⟩⟩))),hk⟩
  ·rcases hx with ⟨v,hv,e,hk⟩|⟨id,ad,off,b,zs,k1,k2,k3,k4,k5,k6,e,hk⟩
   ·exact ⟨_,_,.inr (.inr (.inr (.inr (.inl ⟨h1,.inl ⟨v,hv,e,rfl,rfl⟩⟩)))),hk⟩
   ·exact ⟨_,_,.inr (.inr (.inr (.inr (.inl ⟨h1,.inr ⟨id,ad,off,b,zs,k1,k2,k3,k4,k5,k6,e,rfl,rfl⟩⟩)))),hk⟩
  ·exact ⟨_,_,.inr (.inr (.inr (.inr (.inr ⟨A,v,h1,h2,rfl,rfl⟩)))),h3⟩
end Go.VS
namespace Go.VS
open Go.Sort
def eA {α :Type} {sz:Nat} {z: α →List Int} (l:List α) (h: ∀x∈l,hG sz (z x)):List (ZR sz):=l.attach.map fun x:{x // x∈l}=>⟨z x.1,h x.1 x.2⟩
theorem CB {α :Type} {sz:Nat} {z: α →List Int} (l:List α) (h: ∀x∈l,hG sz (z x)):(eA l h).length=l.length:=by simp [eA]
theorem xT {α :Type} {sz:Nat} {z: α →List Int} {l:List α} {h: ∀x∈l,hG sz (z x)} {y:ZR sz} (hy:y∈eA l h): ∃x∈l,y.1=z x:=by
 obtain ⟨x,_,rfl⟩:=List.mem_map.1 hy;exact ⟨x.1,x.2,rfl⟩
theorem xU {α β :Type} {sz:Nat} {z: α →List Int} (l:List α) (h: ∀x∈l,hG sz (z x)) (f:ZR sz→ β) (g: α → β) (hg: ∀x (hx:x∈l),f ⟨z x,h x hx⟩=g x):(eA l h).map f=l.map g:=by
 unfold eA;rw [List.map_map];have:(f∘fun x:{x // x∈l}=>(⟨z x.1,h x.1 x.2⟩:ZR sz))=fun x=>g x.1:=by funext x;exact hg x.1 x.2
 rw [this,List.attach_map_val (f:=g)]
noncomputable def oa {α :Type} (sz:Nat) (z: α →List Int) (dec:List Int→ α) (l:List α):Option (List α):=
 if h:(∀x∈l,hG sz (z x))∧l.length<1152921504606846976 then
  some ((dx (eA l h.1).toArray).toList.map fun y=>dec y.1)
 else none
theorem xV {sz:Nat} (zs:List (ZR sz)):(dx zs.toArray).toList.Perm zs∧(dx zs.toArray).toList.Pairwise fun x y=>kJ x≤kJ y:=by
 obtain ⟨⟨h1,_,h2⟩,h3⟩:=xI zs.toArray;have e1:(dx zs.toArray).extract 0 zs.toArray.size=dx zs.toArray:=by rw [←h1];simp
 have e2:zs.toArray.extract 0 zs.toArray.size=zs.toArray:=by simp
 rw [e1,e2] at h2;refine ⟨by simpa using h2,?_⟩
 rw [List.pairwise_iff_getElem];intro i j hi hj jK;simp only [Array.length_toList] at hi hj;have:=h3 i j (Nat.zero_le _) jK (by rw [←h1];exact hj)
 rw [n3,decide_eq_false_iff_not,getElem!_pos _ j hj,getElem!_pos _ i hi] at this;simp only [Array.getElem_toList];omega
theorem Fm {α :Type} {sz:Nat} {z: α →List Int} {dec:List Int→ α} (hd: ∀x,dec (z x)=x) {l:List α} (h: ∀x∈l,hG sz (z x)) (hl:l.length<1152921504606846976):
 ∃r,oa sz z dec l=some r∧r.Perm l∧r.Pairwise fun x y=>(z x).headD 0≤(z y).headD 0:=by
 unfold oa;rw [dif_pos ⟨h,hl⟩];obtain ⟨p1,p2⟩:=xV (eA l h);have mem: ∀y∈(dx (eA l h).toArray).toList,z (dec y.1)=y.1:=fun y hy=>by
  obtain ⟨x,_,e⟩:=xT ((p1.mem_iff).1 hy);rw [e,hd]
 revert p1 p2 mem;generalize (dx (eA l h).toArray).toList=s;intro p1 p2 mem;have c9:((eA l h).map fun y=>dec y.1)=l:=by rw [xU l h _ (fun x=>x) (fun x _=>hd x)];simp
 refine ⟨_,rfl,?_,?_⟩
 ·have:=p1.map fun y:ZR sz=>dec y.1
  rwa [c9] at this
 ·rw [List.pairwise_map];refine p2.imp_of_mem fun {a b} ha hb CC=> ?_;rw [mem a ha,mem b hb];exact CC
section
variable {C:aK} {I:n_}
theorem Fo (hx:C.ext=mc I) {α :Type} {f:FuncId} {sz b:Nat} (bL:(f,sz,b)∈I.ids) {c: α →AV} (hc: ∀x,(c x).cells.length=sz) (h0:sz≠0) {l r:List α} (h:app b [] l=some r) {F:List It} {H:J} (hS:aC H F)
 {P:AV→J→Prop} (hP: ∀v,bG v→ ∀H',aC H' (⟨v,sz,r.map c⟩::F)→P v H'):aq C f [.fz (l.map c)] H P:=by
 unfold app at h;split at h
 ·rename_i hr;simp only [List.nil_append,Option.some.injEq] at h;subst h;simp only [List.length_nil,Nat.zero_add] at hr;refine aq.ext ?_;rw [hx];refine .inl ⟨sz,b,l.map c,bL,rfl,nX hc l,h0,by simpa using hr,?_⟩
  cases l with
  |nil=>exact hP _ vu _ (by simpa using hS.BA sz)
  |cons x l=>
   rw [if_neg (by simp),if_neg (by simp)]
   exact hP _ (iJ ..) _ (hS.lX (all:=(x::l).map c) (List.take_of_length_le (Nat.le_refl _)) rfl (nX hc _))
 ·simp at h
theorem Fp (hx:C.ext=mc I) {α :Type} {f g:FuncId} {sz:Nat} (bL:(f,g,sz)∈I.qX) (h0:0<sz) {c: α →AV} {z: α →List Int} {dec:List Int→ α} (hc: ∀x,c x= .agg ((z x).map (AV.int .i64))) (hd: ∀x,dec (z x)=x) {l r:List α} (h:oa sz z dec l=some r)
 {v:AV} {F:List It} {H:J} (hS:aC H (⟨v,sz,l.map c⟩::F)) (_qv:bG v) {P:AV→J→Prop} (hP: ∀H',aC H' (⟨v,sz,r.map c⟩::F)→P (.aA []) H'):aq C f [v,.fn g []] H P:=by
 unfold oa at h;split at h
 ·rename_i hh;obtain ⟨ag,hlen⟩:=hh;simp only [Option.some.injEq] at h;obtain ⟨p1,_⟩:=xV (eA l ag);have cz:(eA l ag).length=l.length:=CB l ag;have qY:(eA l ag).map de=l.map c:=xU l ag _ c (fun x _=>(hc x).symm);have jx: ∀y∈(dx (eA l ag).toArray).toList,c (dec y.1)=de y:=fun y hy=>by
   obtain ⟨x,_,e⟩:=xT ((p1.mem_iff).1 hy);unfold de;rw [e,hd,hc]
  have kM:r.map c=(dx (eA l ag).toArray).toList.map de:=by
   rw [←h,List.map_map];exact List.map_congr_left fun y hy=>jx y hy
  have iz:r.length=l.length:=by
   have:=congrArg List.length kM;rw [List.length_map,List.length_map,p1.length_eq,cz] at this;exact this
  clear jx p1 h;revert cz qY kM;generalize eA l ag=zs;intro cz qY kM;obtain ⟨k0,k1⟩:=hS.ok 0 _ rfl;refine aq.ext ?_;rw [hx];refine .inr (.inl ⟨g,sz,bL,h0,?_⟩);by_cases da:l=[]
  ·subst da;have fG:r=[]:=List.eq_nil_of_length_eq_zero iz;subst fG;refine .inl ⟨v,?_,rfl,hP H hS⟩;cases v with
   |nil=>exact .inl rfl
   |e0=>exact .inr (.inl rfl)
   |ref id ad off len=>exact .inr (.inr ⟨id,ad,off,by simp only at k1;rw [k1.1];rfl⟩)
   |ptr id ad idx off=>simp at k1
   |_=>exact k1.elim
  ·have Fq:0<l.length:=List.length_pos_iff.2 da;cases v with
   |nil=>simp only [List.map_eq_nil_iff] at k1;exact absurd k1 da
   |e0=>simp only [List.map_eq_nil_iff] at k1;exact absurd k1 da
   |ref id ad off len=>
    simp only at k1;obtain ⟨dO,b,hb,cA,CD,hle,b4⟩:=k1;rw [List.length_map,←cz] at dO;subst dO;refine .inr ⟨id,ad,off,b,zs,hb,cA,by omega,hle,by rw [b4,qY],by omega,rfl,?_⟩
    have bQ:=(J.bz hb).2;have hu:=hS.bh (H' :=H.bh id {b with el:=splice b.el off ((dx zs.toArray).toList.map de)}) (j:=0) (it' :=⟨.ref id ad off zs.length,sz,r.map c⟩) rfl (i:=id) rfl (fun gI iw aP _=>nS aP) ?_ (fun k hk=>by simpa [cb] using hk.symm)
    ·exact hP _ hu
    ·have xW:((dx zs.toArray).toList.map de).length=zs.length:=by rw [←kM,List.length_map,iz,cz]
     refine ⟨?_,by simp only;rw [List.length_map,iz,cz],{b with el:=splice b.el off ((dx zs.toArray).toList.map de)},?_,cA,CD,?_,?_⟩
     ·rw [kM];unfold bS;rw [List.all_eq_true];intro x hx;obtain ⟨y,_,rfl⟩:=List.mem_map.1 hx;simpa using n4 y
     ·subst bQ;exact nT (H:=H) (b:={b with el:=splice b.el off ((dx zs.toArray).toList.map de)}) (J.ib (J.bz hb).1)
     ·simp only [splice,List.length_append,List.length_take,List.length_drop,xW];omega
     ·simp only [splice,aG];rw [kM];have e1:(b.el.take off).length=off:=by simp;omega
      rw [List.append_assoc,List.drop_append_of_le_length (by omega),List.drop_eq_nil_of_le (by omega),List.nil_append,←xW,List.take_left'];rfl
   |ptr id ad idx off=>
    exact absurd _qv (by intro q;rcases q.ok with h|h|⟨_,_,_,_,h⟩<;>simp at h)
   |_=>exact k1.elim
 ·simp at h
def xX (l:List UInt8) (n:Int):Option (List UInt8):=if 0≤n∧n≤9223372036854775807∧l.length*n.toNat≤140737488355328 then some (Lib.repeatL l n.toNat) else none
theorem Fs (hx:C.ext=mc I) {f:FuncId} (bL:f∈I.mb) {l r:List UInt8} {n:Int} (h:xX l n=some r) {F:List It} {H:J} (hS:aC H F) {P:AV→J→Prop} (hP: ∀H',aC H' F→P (.str r) H'):aq C f [.str l,.int .i64 n] H P:=by
 unfold xX at h;split at h
 ·rename_i hh;obtain ⟨h1,h2,h3⟩:=hh;simp only [Option.some.injEq] at h;subst h;refine aq.ext ?_;rw [hx];exact .inr (.inr (.inl ⟨l,n.toNat,bL,by omega,h3,by rw [show ((n.toNat:Nat):Int)=n by omega],hP _ hS⟩))
 ·simp at h
def Ft (l:List Int):Option (List Int):=if l.length<1152921504606846976 then some (kL l) else none
def Fu (l:List Int):Option (List Int):=if l.length<1152921504606846976 then some (Lib.compact l) else none
end
end Go.VS
