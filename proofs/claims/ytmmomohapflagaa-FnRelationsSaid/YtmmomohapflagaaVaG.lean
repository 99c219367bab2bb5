import Derived.Test.YtmmomohapflagaaVaE
import Derived.Shelf.SlSortCmp.InsertionK
import Derived.Sort.AssemblyPlain
namespace Go.VS
open Go.Sort Go.Proofs
def gD (sz:Nat) (z:List Int):Prop:=z.length=sz∧ -2305843009213693952≤z.headD 0∧z.headD 0≤2305843009213693952
instance (sz:Nat) (z:List Int):Decidable (gD sz z):=by unfold gD;infer_instance
abbrev ZR (sz:Nat):={z:List Int // gD sz z}
theorem Az (sz:Nat):gD sz (List.replicate sz 0):=by
 refine ⟨by simp,?_⟩
 cases sz<;>simp [List.replicate]
instance (sz:Nat):Inhabited (ZR sz):=⟨⟨List.replicate sz 0,Az sz⟩⟩
def gE {sz:Nat} (x:ZR sz):List Value:=x.1.map (Value.int .i64)
def j6 {sz:Nat} (x:ZR sz):Int:=x.1.headD 0
def j7 {sz:Nat} (x y:ZR sz):Int:=j6 x-j6 y
theorem nb {sz:Nat} (x y:ZR sz):ltOf j7 x y=decide (j6 x<j6 y):=by
 unfold ltOf j7;rw [Bool.eq_iff_iff,decide_eq_true_eq,decide_eq_true_eq];omega
theorem AA (sz:Nat):SWO (ltOf (j7 (sz:=sz))) where
 irrefl x:=by rw [nb];simp
 trans x y z h1 h2:=by rw [nb] at*;simp at*;omega
 ntrans x y z h1 h2:=by rw [nb] at*;simp at*;omega
def dg {sz:Nat} (d:Array (ZR sz)):Array (ZR sz):=pdq (ltOf j7) d 0 d.size (Lib.bitLen d.size) true true
theorem wo {sz:Nat} (d:Array (ZR sz)):PermIn 0 d.size d (dg d)∧SortedIn (ltOf j7) 0 d.size (dg d):=
 pdq_sorts (ltOf j7) (AA sz) d 0 d.size (Lib.bitLen d.size) true true (Nat.zero_le _) (Nat.le_refl _) (Or.inl rfl)
def cZ {sz:Nat} (z:ZR sz):AV:= .agg (z.1.map (AV.int .i64))
structure pR (P:Program) (f g:FuncId) (sz:Nat):Prop where
 can:jc P f
 eq: ∀(ap off cap:Nat) (d:Array (ZR sz)) (w:World),HoldsK gE sz w ap off d→ap<w.heap.size→d.size<4611686018427387904→
  Calls P f #[.slice (some ⟨ap,off,none⟩) d.size cap,.func (.func g) #[] #[]] w fun e w' =>e= .returned (.tuple #[])∧ ∃n os,w' =sortWorldK gE sz w ap off n (dg d) os
 none: ∀(p:Option Addr) (cap:Nat) (fv:Value) (w:World),Calls P f #[.slice p 0 cap,fv] w fun e w' =>e= .returned (.tuple #[])∧w' =w
theorem AB {w:World} {G:J} {φ :af} {A:ah} (ae:St w G φ A) (os:Array Obj):Out w G φ A (grow w os) G φ A:=by
 have old: ∀c,c<w.heap.size→(grow w os).heap[c]? =w.heap[c]? :=fun c hc=>by
  show (w.heap ++ os)[c]? =_;rw [Array.getElem?_append_left hc]
 have aT:bH w G φ A (grow w os) G φ A:=⟨fun c a t fr hc hn=>⟨⟨fr,by rw [old c (eM hc)];exact hc⟩,hn⟩,Nat.le_refl _,
  fun i b' ax _=>⟨b',ax,rfl,rfl,rfl,rfl,fun loc hl=>hl⟩,fun c hc=>by unfold a7;rw [old c (Ow.lt ae hc)]⟩
 have aC:w.heap.size≤(grow w os).heap.size:=by show _≤(w.heap ++ os).size;simp
 refine ⟨⟨ae.inj,ae.own,fun c hc=>Nat.lt_of_lt_of_le (ae.b4 c hc) aC,fun i loc hl=> ?_⟩,
  ⟨rfl,rfl,rfl,aC,fun c hc _=>old c hc,fun c hc=>by unfold a7;rw [old c hc],fun c hc=> .inl hc⟩,aT,fun c hc _=>hc⟩
 obtain ⟨b',cE,ax⟩:=ae.ap i loc hl;refine ⟨b',cE,ax.ad,ax.sized,ax.aO,fun c b0 h=> ?_⟩;obtain ⟨a,t,fr,h1,h2,h3,h4⟩:=ax.here c b0 h;exact ⟨a,t,fr,by rw [old c (eM h1)];exact h1,h2,h3,fun i x j y v hx hy hv=>⟨(h4 i x j y v hx hy hv).1.mono aT,(h4 i x j y v hx hy hv).2⟩⟩
theorem AD {w:World} {G:J} {φ :af} {A:ah} (ae:St w G φ A) (n:Nat):Out w G φ A (Sort.ahead w n) G φ A:=by
 have aT:bH w G φ A (Sort.ahead w n) G φ A:=⟨fun c arr T fr hc hn=>⟨⟨fr,hc⟩,hn⟩,Nat.le_refl _,fun id b h _=>⟨b,h,rfl,rfl,rfl,rfl,fun _ h=>h⟩,fun _ _=>rfl⟩;have jn:St (Sort.ahead w n) G φ A:=by
  refine ⟨ae.inj,ae.own,ae.b4,fun id loc hl=> ?_⟩;obtain ⟨b,hb,ag⟩:=ae.ap id loc hl;refine ⟨b,hb,ag.ad,ag.sized,ag.aO,fun c b0 he=> ?_⟩;obtain ⟨arr,T,fr,k1,k2,k3,k4⟩:=ag.here c b0 he;exact ⟨arr,T,fr,k1,k2,k3,fun i x j y v hx hy hv=>⟨(k4 i x j y v hx hy hv).1.mono aT,(k4 i x j y v hx hy hv).2⟩⟩
 exact ⟨jn,⟨rfl,rfl,rfl,Nat.le_refl _,fun _ _ _=>rfl,fun _ _=>rfl,fun _ h=> .inl h⟩,aT,fun _ h _=>h⟩
theorem AE {w:World} {c:Nat} {arr:Array Value} {T:TypeId} {fr:Nat×Nat} (h:w.heap[c]? =some (.cells arr T fr)) (f:Array Value→Array Value):iV w c (.cells (f arr) T fr) (mapBlock w c f):=by
 refine ⟨?_,fun k hk=> ?_,by show (w.heap.modify c (onCells f)).size=_;simp,rfl,rfl,rfl⟩
 ·show (w.heap.modify c (onCells f))[c]? =_;rw [Array.getElem?_modify,if_pos rfl,h];rfl
 ·show (w.heap.modify c (onCells f))[k]? =_;rw [Array.getElem?_modify,if_neg (fun e=>hk e.symm)]
theorem wq {sz:Nat} (x:ZR sz) (r:Nat) (h:r<sz):(gE x)[r]! = .int .i64 (x.1[r]'(by rw [x.2.1];exact h)):=by
 have hl:r<(gE x).length:=by unfold gE;rw [List.length_map,x.2.1];exact h
 rw [getElem!_pos _ r hl];simp [gE]
theorem pS {sz:Nat} (x:ZR sz):(cZ x).cells=x.1.map (AV.int .i64):=rfl
theorem nc {sz:Nat} (x:ZR sz):(cZ x).cells.length=sz:=by rw [pS,List.length_map,x.2.1]
theorem AF {sz:Nat} (x:ZR sz) {j:Nat} {y:AV} (h:(cZ x).cells[j]? =some y): ∃hj:j<sz,y= .int .i64 (x.1[j]'(by rw [x.2.1];exact hj)):=by
 have hj:j<sz:=by rw [←nc x];exact (List.getElem?_eq_some_iff.1 h).1
 refine ⟨hj,?_⟩;rw [pS,List.getElem?_map,List.getElem?_eq_getElem (by rw [x.2.1];exact hj)] at h
 simpa using h.symm
theorem wu {sz q r:Nat} (h:r<sz):(q*sz+r)/sz=q∧(q*sz+r) % sz=r:=by
 constructor
 ·rw [Nat.mul_comm,Nat.mul_add_div (by omega),Nat.div_eq_of_lt h,Nat.add_zero]
 ·rw [Nat.mul_comm,Nat.mul_add_mod,Nat.mod_eq_of_lt h]
theorem wv {q n sz r:Nat} (hq:q<n) (hr:r<sz):q*sz+r<n*sz:=by
 have:=Nat.mul_le_mul_right sz (show q+1≤n from hq);rw [Nat.add_mul,Nat.one_mul] at this;omega
theorem AG {P:Program} {f g:FuncId} {sz:Nat} (hs:pR P f g sz) {H:J} {id ad off:Nat} {b:bE} {zs:List (ZR sz)} (hb:H.ap id ad=some b) (aC:b.sz=sz) (h0:0<zs.length) (hz:0<sz) (hle:off+zs.length≤b.el.length) (cj:aE b.el off zs.length=zs.map cZ) (hlen:zs.length<1152921504606846976):
 cz P f [.ref id ad off zs.length,.fn g []] H (fun v1 H1=>v1= .aB []∧H1=H.bj id {b with el:=splice b.el off ((dg zs.toArray).toList.map cZ)}):=by
 refine ⟨hs.can,fun w A φ us ae hl dW=> ?_⟩;obtain ⟨u0,u1,rfl⟩: ∃u0 u1,us= #[u0,u1]:=by
  match us,hl with
  |⟨[u0,u1]⟩,_=>exact ⟨u0,u1,rfl⟩
 have hx:R w H φ A (.ref id ad off zs.length) u0:=dW 0 _ _ rfl rfl;have hf:R w H φ A (.fn g []) u1:=dW 1 _ _ rfl rfl;obtain rfl:u1= .func (.func g) #[] #[]:=by
  cases hf with
  |fr _ _ h=>cases h with|fn _ _ vs h2 _=>rw [Array.eq_empty_of_size_eq_zero (show vs.size=0 from h2.symm)]
  |fn _ _ vs h2 _=>rw [Array.eq_empty_of_size_eq_zero (show vs.size=0 from h2.symm)]
 obtain ⟨c,b0,cap,aW,rfl,k1,k2,k3,k4⟩:=nH hx hb h0;have hg:=(J.bp hb).1;obtain ⟨b',ax,ag⟩:=ae.ap id _ aW;rw [hg] at ax;simp only [Option.some.injEq] at ax;subst ax;obtain ⟨arr,T,fr,m1,m2,m3,m4⟩:=ag.here c b0 rfl;rw [aC] at m3 m4⊢;have bw: ∀i (hi:i<zs.length),b.el[off+i]? =some (cZ zs[i]):=fun i hi=>by
  have:=congrArg (fun l=>l[i]?) cj;simp only [aE,List.getElem?_map,List.getElem?_eq_getElem hi,Option.map_some] at this;rw [List.getElem?_take_of_lt hi,List.getElem?_drop] at this;exact this
 have kr: ∀i r,b0+(off+i)*sz+r=b0+off*sz+(i*sz+r):=fun i r=>by rw [Nat.add_mul];omega
 have lN:(off+zs.length)*sz≤b.el.length*sz:=Nat.mul_le_mul_right sz hle;have C2:(off+zs.length)*sz=off*sz+zs.length*sz:=Nat.add_mul ..;have hH:HoldsK gE sz w c (b0+off*sz) zs.toArray:=by
  intro t ht;rw [size_flatK] at ht;have cI:t<zs.length*sz:=by simpa using ht
  have hq:t/sz<zs.length:=Nat.div_lt_of_lt_mul (by rw [Nat.mul_comm];exact cI)
  have hr:t % sz<sz:=Nat.mod_lt _ hz;have iU:t/sz*sz+t % sz=t:=by rw [Nat.mul_comm];exact Nat.div_add_mod t sz
  have aw:b0+off*sz+t<arr.size:=by omega
  have hv:=Array.getElem?_eq_getElem aw;have hc:(cZ zs[t/sz]).cells[t % sz]? =some (.int .i64 ((zs[t/sz]).1[t % sz]'(by rw [(zs[t/sz]).2.1];exact hr))):=by
   rw [pS,List.getElem?_map,List.getElem?_eq_getElem (by rw [(zs[t/sz]).2.1];exact hr)];rfl
  have hR:=(m4 (off+t/sz) _ (t % sz) _ _ (bw _ hq) hc (by rw [kr,iU];exact hv)).1.cw
  refine ⟨?_,?_⟩
  ·unfold World.cell?;simp only [m1,Option.isSome_none,Bool.false_eq_true,if_false];rw [hv,hR,get_flatK _ _ _ _ ht];have e1:zs.toArray[t/sz]! =zs[t/sz]:=by rw [getElem!_pos _ _ (by simpa using hq)];simp
   rw [e1,wq _ _ hr];rfl
  ·unfold World.frozen?;simp only [m1];have:=m2 _ aw;obtain ⟨lo,hi⟩:=fr;simp only at this⊢;rw [Bool.and_eq_false_iff,decide_eq_false_iff_not,decide_eq_false_iff_not];omega
 have ww:=hs.eq c (b0+off*sz) cap zs.toArray w hH (eM m1) (by simpa using (show zs.length<4611686018427387904 by omega))
 rw [show zs.toArray.size=zs.length from by simp] at ww
 refine ww.mono fun e w' he=> ?_
 obtain ⟨rfl,n,os,rfl⟩:=he;have AI:=(wo zs.toArray).1.1;have iI:(dg zs.toArray).size=zs.length:=by rw [AI];simp
 generalize dg zs.toArray=d' at iI⊢
 have iB:(splice b.el off (d'.toList.map cZ)).length=b.el.length:=by
  unfold splice;simp only [List.length_append,List.length_take,List.length_drop,List.length_map,Array.length_toList,iI];omega
 have bq: ∀i x,(splice b.el off (d'.toList.map cZ))[i]? =some x→(i<off∧b.el[i]? =some x)∨(∃q,∃hq:q<zs.length,i=off+q∧x=cZ (d'[q]'(by omega)))∨(off+zs.length≤i∧b.el[i]? =some x):=fun i x hx=>by
  unfold splice at hx;rw [List.append_assoc] at hx;by_cases h1:i<off
  ·rw [List.getElem?_append_left (by simp;omega),List.getElem?_take_of_lt h1] at hx
   exact .inl ⟨h1,hx⟩
  ·rw [List.getElem?_append_right (by simp;omega)] at hx
   have e1:(b.el.take off).length=off:=by simp;omega
   rw [e1] at hx;by_cases h2:i-off<zs.length
   ·rw [List.getElem?_append_left (by simp [iI];omega),List.getElem?_map] at hx
    refine .inr (.inl ⟨i-off,h2,by omega,?_⟩)
    rw [List.getElem?_eq_getElem (by simp [iI];omega)] at hx
    simpa using hx.symm
   ·rw [List.getElem?_append_right (by simp [iI];omega),List.getElem?_drop] at hx
    refine .inr (.inr ⟨by omega,?_⟩)
    rw [←hx];congr 1;simp [iI];omega
 have o1:=AD ae n;have AJ:iV (Sort.ahead w n) c (.cells (putCells _root_.id (b0+off*sz) (flatK gE sz d') arr) T fr) (putRowK gE sz (Sort.ahead w n) c (b0+off*sz) d'):=AE (w:=Sort.ahead w n) m1 _;have wx: ∀(i:Nat) (x:AV) (j:Nat) (y:AV) (v:Value),b.el[i]? =some x→x.cells[j]? =some y→arr[b0+i*sz+j]? =some v→R (Sort.ahead w n) H φ A y v∧v.oneCell' =true:=fun i x j y v h1 h2 h3=>
  ⟨(m4 i x j y v h1 h2 h3).1.mono o1.bV,(m4 i x j y v h1 h2 h3).2⟩
 have nf: ∀(i:Nat) (x:AV),b.el[i]? =some x→x.cells.length=sz:=fun i x hx=>by rw [ag.sized i x hx,aC]
 have o2:Out (Sort.ahead w n) H φ A (putRowK gE sz (Sort.ahead w n) c (b0+off*sz) d') (H.bj id {b with el:=splice b.el off (d'.toList.map cZ)}) φ A:=by
  refine n9 (b' :={b with el:=splice b.el off (d'.toList.map cZ)}) o1.st hg aW rfl rfl rfl iB m1 AJ (by unfold putCells;simp) (fun i x hx=> ?_) (fun i x j y v hx hy hv=> ?_)
  ·rw [aC];rcases bq i x hx with ⟨_,h⟩|⟨q,hq,_,rfl⟩|⟨_,h⟩
   ·exact nf i x h
   ·exact nc _
   ·exact nf i x h
  ·simp only [aC] at hv;unfold putCells at hv;rw [Array.getElem?_mapIdx,size_flatK,iI] at hv;have hj:j<sz:=by
    have h1:=(List.getElem?_eq_some_iff.1 hy).1;rcases bq i x hx with ⟨_,h⟩|⟨q,hq,_,rfl⟩|⟨_,h⟩
    ·rw [nf i x h] at h1;exact h1
    ·rw [nc] at h1;exact h1
    ·rw [nf i x h] at h1;exact h1
   rcases bq i x hx with ⟨h1,h⟩|⟨q,hq,rfl,rfl⟩|⟨h1,h⟩
   ·have:=wv (sz:=sz) h1 hj;cases ha:arr[b0+i*sz+j]? with
    |none=>rw [ha] at hv;simp at hv
    |some u=>rw [ha] at hv;simp only [Option.map_some,Option.some.injEq] at hv;rw [if_neg (by omega)] at hv;subst hv;exact wx i x j y u h hy ha
   ·have hr:=wv (sz:=sz) hq hj;obtain ⟨uV,rfl⟩:=AF _ hy;rw [kr] at hv;cases ha:arr[b0+off*sz+(q*sz+j)]? with
    |none=>rw [ha] at hv;simp at hv
    |some u=>
     rw [ha] at hv;simp only [Option.map_some,Option.some.injEq,_root_.id] at hv;rw [if_pos (by omega),show b0+off*sz+(q*sz+j)-(b0+off*sz)=q*sz+j by omega,get_flatK _ _ _ _ (by rw [iI];exact hr),(wu hj).1,(wu hj).2,getElem!_pos d' q (by omega),wq _ _ hj] at hv
     subst hv;exact ⟨.fr _ _ (.int _ _),rfl⟩
   ·have:(off+zs.length)*sz≤i*sz:=Nat.mul_le_mul_right sz h1;cases ha:arr[b0+i*sz+j]? with
    |none=>rw [ha] at hv;simp at hv
    |some u=>rw [ha] at hv;simp only [Option.map_some,Option.some.injEq] at hv;rw [if_neg (by omega)] at hv;subst hv;exact wx i x j y u h hy ha
 have o3:=AB o2.st os;exact ⟨.aB [],_,φ,A,(o1.trans ae o2).trans ae o3,.fr _ _ (.aB [] #[] rfl (by simp)),rfl,by rw [aC]⟩
theorem AK {P:Program} {f g:FuncId} {sz:Nat} (hs:pR P f g sz) {H:J} {v:AV} (hv:v= .nil∨v= .e0∨ ∃id ad off,v= .ref id ad off 0):cz P f [v,.fn g []] H (fun v1 H1=>v1= .aB []∧H1=H):=by
 refine ⟨hs.can,fun w A φ us ae hl dW=> ?_⟩;obtain ⟨u0,u1,rfl⟩: ∃u0 u1,us= #[u0,u1]:=by
  match us,hl with
  |⟨[u0,u1]⟩,_=>exact ⟨u0,u1,rfl⟩
 have hx:R w H φ A v u0:=dW 0 _ _ rfl rfl;obtain ⟨p,cap,rfl⟩: ∃p cap,u0= .slice p 0 cap:=by
  rcases hv with rfl|rfl|⟨id,ad,off,rfl⟩
  ·cases hx with|fr _ _ h=>cases h;exact ⟨_,_,rfl⟩
  ·cases hx with|fr _ _ h=>cases h;exact ⟨_,_,rfl⟩
  ·exact hx.dE.2.1
 refine (hs.none p cap u1 w).mono fun e w' he=> ?_
 obtain ⟨rfl,rfl⟩:=he;exact ⟨.aB [],H,φ,A,.refl ae,.fr _ _ (.aB [] #[] rfl (by simp)),rfl,rfl⟩
def AM (ids:List (FuncId×FuncId×Nat)):bz:=fun f ys H K=> ∃g sz,(f,g,sz)∈ids∧0<sz∧
 ((∃v,(v= .nil∨v= .e0∨ ∃id ad off,v= .ref id ad off 0)∧ys=[v,.fn g []]∧K (.aB []) H)∨
  ∃(id ad off:Nat) (b:bE) (zs:List (ZR sz)),H.ap id ad=some b∧b.sz=sz∧0<zs.length∧off+zs.length≤b.el.length∧aE b.el off zs.length=zs.map cZ∧zs.length<1152921504606846976∧
   ys=[.ref id ad off zs.length,.fn g []]∧K (.aB []) (H.bj id {b with el:=splice b.el off ((dg zs.toArray).toList.map cZ)}))
def ng (ids:List (FuncId×Nat×Nat)) (gF:List (FuncId×FuncId×Nat)):bz:=fun f ys H K=>wa ids f ys H K∨AM gF f ys H K
theorem C3 {P:Program} {E:aM} (hm:P.follows .mixedOrders=true) (hE: ∀t ti,E t=some ti→aQ P t ti) {ids:List (FuncId×Nat×Nat)} {gF:List (FuncId×FuncId×Nat)} (pO: ∀x∈ids,wb P E x.1 x.2.1 x.2.2) (hs: ∀x∈gF,pR P x.1 x.2.1 x.2.2):
 ∀f ys H K,ng ids gF f ys H K→ ∃v H',cz P f ys H (fun v1 H1=>v1=v∧H1=H')∧K v H' :=by
 rintro f ys H K (h|⟨g,sz,h1,h2,h⟩)
 ·exact Ad hm hE pO f ys H K h
 ·have hc:=hs _ h1;rcases h with ⟨v,hv,rfl,hk⟩|⟨id,ad,off,b,zs,k1,k2,k3,k4,k5,k6,rfl,hk⟩
  ·exact ⟨_,_,AK hc hv,hk⟩
  ·exact ⟨_,_,AG hc k1 k2 k3 h2 k4 k5 k6,hk⟩
theorem C4 {C:aI} {ids:List (FuncId×Nat×Nat)} {gF:List (FuncId×FuncId×Nat)} (h:C.ext=ng ids gF):Good C:=by
 constructor
 ·rintro f ys H K K' hK hx
  rw [h] at hx⊢;rcases hx with ⟨sz,b,xs,h1,h2,h3,h4,h5,h6⟩|⟨g,sz,h1,h2,hx⟩
  ·exact .inl ⟨sz,b,xs,h1,h2,h3,h4,h5,hK _ _ h6⟩
  ·refine .inr ⟨g,sz,h1,h2,?_⟩;rcases hx with ⟨v,hv,e,hk⟩|⟨id,ad,off,b,zs,k1,k2,k3,k4,k5,k6,e,hk⟩
   ·exact .inl ⟨v,hv,e,hK _ _ hk⟩
   ·exact .inr ⟨id,ad,off,b,zs,k1,k2,k3,k4,k5,k6,e,hK _ _ hk⟩
 ·rintro f ys H K hx;rw [h] at hx⊢;rcases hx with ⟨sz,b,xs,h1,h2,h3,h4,h5,h6⟩|⟨g,sz,h1,h2,hx⟩
  ·exact ⟨_,_,.inl ⟨sz,b,xs,h1,h2,h3,h4,h5,rfl,rfl⟩,h6⟩
  ·rcases hx with ⟨v,hv,e,hk⟩|⟨id,ad,off,b,zs,k1,k2,k3,k4,k5,k6,e,hk⟩
   ·exact ⟨_,_,.inr ⟨g,sz,h1,h2,.inl ⟨v,hv,e,rfl,rfl⟩⟩,hk⟩
   ·exact ⟨_,_,.inr ⟨g,sz,h1,h2,.inr ⟨id,ad,off,b,zs,k1,k2,k3,k4,k5,k6,e,rfl,rfl⟩⟩,hk⟩
end Go.VS
namespace Go.VS
open Go.Sort
def d_ {α :Type} {sz:Nat} {z: α →List Int} (l:List α) (h: ∀x∈l,gD sz (z x)):List (ZR sz):=l.attach.map fun x:{x // x∈l}=>⟨z x.1,h x.1 x.2⟩
theorem AN {α :Type} {sz:Nat} {z: α →List Int} (l:List α) (h: ∀x∈l,gD sz (z x)):(d_ l h).length=l.length:=by simp [d_]
theorem wy {α :Type} {sz:Nat} {z: α →List Int} {l:List α} {h: ∀x∈l,gD sz (z x)} {y:ZR sz} (hy:y∈d_ l h): ∃x∈l,y.1=z x:=by
 obtain ⟨x,_,rfl⟩:=List.mem_map.1 hy;exact ⟨x.1,x.2,rfl⟩
theorem wz {α β :Type} {sz:Nat} {z: α →List Int} (l:List α) (h: ∀x∈l,gD sz (z x)) (f:ZR sz→ β) (g: α → β) (hg: ∀x (hx:x∈l),f ⟨z x,h x hx⟩=g x):(d_ l h).map f=l.map g:=by
 unfold d_;rw [List.map_map];have:(f∘fun x:{x // x∈l}=>(⟨z x.1,h x.1 x.2⟩:ZR sz))=fun x=>g x.1:=by funext x;exact hg x.1 x.2
 rw [this,List.attach_map_val (f:=g)]
noncomputable def nh {α :Type} (sz:Nat) (z: α →List Int) (dec:List Int→ α) (l:List α):Option (List α):=
 if h:(∀x∈l,gD sz (z x))∧l.length<1152921504606846976 then
  some ((dg (d_ l h.1).toArray).toList.map fun y=>dec y.1)
 else none
theorem wA {sz:Nat} (zs:List (ZR sz)):(dg zs.toArray).toList.Perm zs∧(dg zs.toArray).toList.Pairwise fun x y=>j6 x≤j6 y:=by
 obtain ⟨⟨h1,_,h2⟩,h3⟩:=wo zs.toArray;have e1:(dg zs.toArray).extract 0 zs.toArray.size=dg zs.toArray:=by rw [←h1];simp
 have e2:zs.toArray.extract 0 zs.toArray.size=zs.toArray:=by simp
 rw [e1,e2] at h2;refine ⟨by simpa using h2,?_⟩
 rw [List.pairwise_iff_getElem];intro i j hi hj ji;simp only [Array.length_toList] at hi hj;have:=h3 i j (Nat.zero_le _) ji (by rw [←h1];exact hj)
 rw [nb,decide_eq_false_iff_not,getElem!_pos _ j hj,getElem!_pos _ i hi] at this;simp only [Array.getElem_toList];omega
theorem C5 {α :Type} {sz:Nat} {z: α →List Int} {dec:List Int→ α} (hd: ∀x,dec (z x)=x) {l:List α} (h: ∀x∈l,gD sz (z x)) (hl:l.length<1152921504606846976):
 ∃r,nh sz z dec l=some r∧r.Perm l∧r.Pairwise fun x y=>(z x).headD 0≤(z y).headD 0:=by
 unfold nh;rw [dif_pos ⟨h,hl⟩];obtain ⟨p1,p2⟩:=wA (d_ l h);have mem: ∀y∈(dg (d_ l h).toArray).toList,z (dec y.1)=y.1:=fun y hy=>by
  obtain ⟨x,_,e⟩:=wy ((p1.mem_iff).1 hy);rw [e,hd]
 revert p1 p2 mem;generalize (dg (d_ l h).toArray).toList=s;intro p1 p2 mem;have cW:((d_ l h).map fun y=>dec y.1)=l:=by rw [wz l h _ (fun x=>x) (fun x _=>hd x)];simp
 refine ⟨_,rfl,?_,?_⟩
 ·have:=p1.map fun y:ZR sz=>dec y.1
  rwa [cW] at this
 ·rw [List.pairwise_map];refine p2.imp_of_mem fun {a b} ha hb AO=> ?_;rw [mem a ha,mem b hb];exact AO
section
variable {C:aI} {ids:List (FuncId×Nat×Nat)} {gF:List (FuncId×FuncId×Nat)}
theorem C6 (hx:C.ext=ng ids gF) {α :Type} {f:FuncId} {sz b:Nat} (bO:(f,sz,b)∈ids) {c: α →AV} (hc: ∀x,(c x).cells.length=sz) (h0:sz≠0) {l r:List α} (h:app b [] l=some r) {F:List It} {H:J} (hS:aD H F)
 {P:AV→J→Prop} (hP: ∀v,bQ v→ ∀H',aD H' (⟨v,sz,r.map c⟩::F)→P v H'):aq C f [.fz (l.map c)] H P:=by
 unfold app at h;split at h
 ·rename_i hr;simp only [List.nil_append,Option.some.injEq] at h;subst h;simp only [List.length_nil,Nat.zero_add] at hr;refine aq.ext ?_;rw [hx];refine .inl ⟨sz,b,l.map c,bO,rfl,pI hc l,h0,by simpa using hr,?_⟩
  cases l with
  |nil=>exact hP _ ua _ (by simpa using hS.zJ sz)
  |cons x l=>
   rw [if_neg (by simp),if_neg (by simp)]
   exact hP _ (jr ..) _ (hS.pB (all:=(x::l).map c) (List.take_of_length_le (Nat.le_refl _)) rfl (pI hc _))
 ·simp at h
theorem C7 (hx:C.ext=ng ids gF) {α :Type} {f g:FuncId} {sz:Nat} (bO:(f,g,sz)∈gF) (h0:0<sz) {c: α →AV} {z: α →List Int} {dec:List Int→ α} (hc: ∀x,c x= .agg ((z x).map (AV.int .i64))) (hd: ∀x,dec (z x)=x) {l r:List α} (h:nh sz z dec l=some r)
 {v:AV} {F:List It} {H:J} (hS:aD H (⟨v,sz,l.map c⟩::F)) (_qv:bQ v) {P:AV→J→Prop} (hP: ∀H',aD H' (⟨v,sz,r.map c⟩::F)→P (.aB []) H'):aq C f [v,.fn g []] H P:=by
 unfold nh at h;split at h
 ·rename_i hh;obtain ⟨ag,hlen⟩:=hh;simp only [Option.some.injEq] at h;obtain ⟨p1,_⟩:=wA (d_ l ag);have cp:(d_ l ag).length=l.length:=AN l ag;have pT:(d_ l ag).map cZ=l.map c:=wz l ag _ c (fun x _=>(hc x).symm);have iU: ∀y∈(dg (d_ l ag).toArray).toList,c (dec y.1)=cZ y:=fun y hy=>by
   obtain ⟨x,_,e⟩:=wy ((p1.mem_iff).1 hy);unfold cZ;rw [e,hd,hc]
  have j8:r.map c=(dg (d_ l ag).toArray).toList.map cZ:=by
   rw [←h,List.map_map];exact List.map_congr_left fun y hy=>iU y hy
  have gX:r.length=l.length:=by
   have:=congrArg List.length j8;rw [List.length_map,List.length_map,p1.length_eq,cp] at this;exact this
  clear iU p1 h;revert cp pT j8;generalize d_ l ag=zs;intro cp pT j8;obtain ⟨k0,k1⟩:=hS.ok 0 _ rfl;refine aq.ext ?_;rw [hx];refine .inr ⟨g,sz,bO,h0,?_⟩;by_cases cX:l=[]
  ·subst cX;have fi:r=[]:=List.eq_nil_of_length_eq_zero gX;subst fi;refine .inl ⟨v,?_,rfl,hP H hS⟩;cases v with
   |nil=>exact .inl rfl
   |e0=>exact .inr (.inl rfl)
   |ref id ad off len=>exact .inr (.inr ⟨id,ad,off,by simp only at k1;rw [k1.1];rfl⟩)
   |ptr id ad idx off=>simp at k1
   |_=>exact k1.elim
  ·have C8:0<l.length:=List.length_pos_iff.2 cX;cases v with
   |nil=>simp only [List.map_eq_nil_iff] at k1;exact absurd k1 cX
   |e0=>simp only [List.map_eq_nil_iff] at k1;exact absurd k1 cX
   |ref id ad off len=>
    simp only at k1;obtain ⟨dz,b,hb,cH,AP,hle,cj⟩:=k1;rw [List.length_map,←cp] at dz;subst dz;refine .inr ⟨id,ad,off,b,zs,hb,cH,by omega,hle,by rw [cj,pT],by omega,rfl,?_⟩
    have bM:=(J.bp hb).2;have hu:=hS.bj (H' :=H.bj id {b with el:=splice b.el off ((dg zs.toArray).toList.map cZ)}) (j:=0) (it' :=⟨.ref id ad off zs.length,sz,r.map c⟩) rfl (i:=id) rfl (fun gf gV aN _=>mV aN) ?_ (fun k hk=>by simpa [b7] using hk.symm)
    ·exact hP _ hu
    ·have wB:((dg zs.toArray).toList.map cZ).length=zs.length:=by rw [←j8,List.length_map,gX,cp]
     refine ⟨?_,by simp only;rw [List.length_map,gX,cp],{b with el:=splice b.el off ((dg zs.toArray).toList.map cZ)},?_,cH,AP,?_,?_⟩
     ·rw [j8];unfold bU;rw [List.all_eq_true];intro x hx;obtain ⟨y,_,rfl⟩:=List.mem_map.1 hx;simpa using nc y
     ·subst bM;exact mW (H:=H) (b:={b with el:=splice b.el off ((dg zs.toArray).toList.map cZ)}) (J.gI (J.bp hb).1)
     ·simp only [splice,List.length_append,List.length_take,List.length_drop,wB];omega
     ·simp only [splice,aE];rw [j8];have e1:(b.el.take off).length=off:=by simp;omega
      rw [List.append_assoc,List.drop_append_of_le_length (by omega),List.drop_eq_nil_of_le (by omega),List.nil_append,←wB,List.take_left'];rfl
   |ptr id ad idx off=>
    exact absurd _qv (by intro q;rcases q.ok with h|h|⟨_,_,_,_,h⟩<;>simp at h)
   |_=>exact k1.elim
 ·simp at h
end
end Go.VS
