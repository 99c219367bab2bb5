import Derived.Test.YtmbfhipfcjmhmaaGreatVaD
namespace Go.VS
section
variable {C:aJ} {q th:Bool} {s:ah} {H:J} {K:AV→J→Prop} {L:List It}
theorem xa:eZ none s=s:=rfl
def CN (k:IntKind) (a b:Int):Int:=k.wrap (BitVec.ofInt k.bits a&&&BitVec.ofInt k.bits b).toNat
def CO (k:IntKind) (a b:Int):Int:=k.wrap (BitVec.ofInt k.bits a|||BitVec.ofInt k.bits b).toNat
def CP (k:IntKind) (a b:Int):Int:=k.wrap (BitVec.ofInt k.bits a^^^BitVec.ofInt k.bits b).toNat
def Fb (k:IntKind) (a b:Int):Int:=k.wrap (a*2^(min b.toNat k.bits))
def xb (k:IntKind) (a b:Int):Int:=a.fdiv (2^(min b.toNat k.bits))
theorem xc (E:aK) (t:TypeId) (k:IntKind) (a b:Int):aN E .and t (.int k a) (.int k b)=some (.int k (CN k a b)):=CA ..
theorem xd (E:aK) (t:TypeId) (k:IntKind) (a b:Int):aN E .or t (.int k a) (.int k b)=some (.int k (CO k a b)):=CB ..
theorem xe (E:aK) (t:TypeId) (k:IntKind) (a b:Int):aN E .xor t (.int k a) (.int k b)=some (.int k (CP k a b)):=CC ..
theorem Fc (k:IntKind) (a b:Int) (h:decide (b<0)=false):sr k a b=some (xb k a b):=by simp at h;simp [sr,xb,Int.not_lt.2 h]
def kJ (E:aK) (src dst:TypeId) (x:AV) (H:J) (K:AV→J→Prop):Prop:=dq (match E src,E dst,x with
 |some _,some td,.int _ n=>match td.aw with
  | .it k=>some (.int k (k.wrap n),H)
  |_=>none
 |some _,some td,.str l=>match td.aw with
  | .str=>some (.str l,H)
  | .sl e=>match E e with
   |some te=>match te.aw with
    | .it .u8=>if te.sz=1∧te.bytes=1∧l.length≤2^45 then some (.ref H.bs.length H.st 0 l.length,H.new 1 false (l.map fun b=> .int .u8 b.toNat)) else none
    |_=>none
   |none=>none
  |_=>none
 |some ts,some td,x=>match ts.aw,td.aw with
  | .sl e,.str=>match E e with
   |some te=>match te.aw with
    | .it .u8=>match cC H x with
     |some xs=>if te.sz=1 then (match (bytesOf xs).map AV.str with|some v=>some (v,H)|none=>none) else none
     |none=>none
    |_=>none
   |none=>none
  |_,_=>none
 |_,_,_=>none) K
theorem xf (a b:TypeId) (x:Operand):bh (aq C) C q th (.convert a b x) s H K=kJ C.E a b (ev s x) H K:=by
 rw [dy _ rfl];rfl
def rP (ta tb:Option TI) (n:Int) (H:J) (K:AV→J→Prop):Prop:=match ta,tb with
 |some _,some td=>match td.aw with| .it k=>K (.int k (k.wrap n)) H|_=>False
 |_,_=>False
theorem xg (E:aK) (a b:TypeId) (j:IntKind) (n:Int):kJ E a b (.int j n) H K=rP (E a) (E b) n H K:=by
 simp only [kJ,rP];cases E a with
 |none=>rfl
 |some ta=>
  cases E b with
  |none=>rfl
  |some tb=>simp only;cases tb.aw<;>rfl
def oT (l:List UInt8):List Int:=l.map fun b=>(b.toNat:Int)
def rQ (l:List Int):List UInt8:=l.map fun n=>UInt8.ofNat n.toNat
theorem CQ (l:List Int):bytesOf (l.map (AV.int .u8))=some (rQ l):=by
 induction l with
 |nil=>rfl
 |cons n l ih=>simp only [List.map_cons,bytesOf,ih,rQ,Option.map_some]
def rR (l:List UInt8):Option (List Int):=if l.length≤2^45 then some (oT l) else none
theorem Fe {α :Type} {E:aK} {a b e:TypeId} {ta tb te:TI} {l:List UInt8} {f:List Int→Option α} {r: α} (hS:aA H L) (ha:E a=some ta) (hb:E b=some tb) (hu:tb.aw= .sl e) (he:E e=some te) (hk:te.aw= .it .u8) (h1:te.sz=1) (h2:te.bytes=1)
 (hh:(rR l).bind f=some r) (h: ∀v H' m,bj v→rR l=some m→f m=some r→aA H' (⟨v,1,m.map (AV.int .u8)⟩::L)→K v H'):kJ E a b (.str l) H K:=by
 unfold rR at hh h;split at hh
 ·rename_i hl;simp only [kJ,ha,hb,hu,he,hk,h1,h2,hl,and_self,if_true,dq];refine h _ _ _ (fE ..) (by rw [if_pos hl]) hh (hS.kG (by simp only [oT,List.map_map];exact List.take_of_length_le (by simp)) (by simp [oT]) ?_)
  simp [bD,AV.cells,oT]
 ·simp at hh
theorem Ff {E:aK} {a b e:TypeId} {ta tb te:TI} {v:AV} {l:List Int} (ha:E a=some ta) (hb:E b=some tb) (hu:ta.aw= .sl e) (aO:tb.aw= .str) (he:E e=some te) (hk:te.aw= .it .u8) (h1:te.sz=1)
 (hv:cC H v=some (l.map (AV.int .u8))) (hn: ∀j,v≠ .str j) (h:K (.str (rQ l)) H):kJ E a b v H K:=by
 have hi: ∀k n,v≠ .int k n:=by rintro k n rfl;simp [cC] at hv
 simp only [kJ,ha,hb];cases v with
 |int k n=>exact absurd rfl (hi k n)
 |str j=>exact absurd rfl (hn j)
 |_=>simp only [hu,aO,he,hk,h1,if_true,hv,CQ,Option.map_some];exact h
def cY {α :Type} (l:List α) (lo hi:Int):Option (List α):=if 0≤lo∧lo≤hi∧hi≤l.length then some ((l.drop lo.toNat).take (hi.toNat-lo.toNat)) else none
def dz (E:aK) (t:TypeId) (x:AV) (lo hi mx:Option (Option Int)) (H:J) (K:AV→J→Prop):Prop:=match lo,hi,mx with
 |some lo,some hi,some mx=>cI (dR E t x lo hi mx H) H K
 |_,_,_=>False
theorem xh (t:TypeId) (x:Operand) (lo hi mx:Option Operand):bh (aq C) C q th (.slice t x lo hi mx) s H K=dz C.E t (ev s x) (eK (lo.map (ev s))) (eK (hi.map (ev s))) (eK (mx.map (ev s))) H K:=by
 rw [dy _ rfl];simp only [aQ,dz];generalize eK (lo.map (ev s))=a;generalize eK (hi.map (ev s))=b;generalize eK (mx.map (ev s))=c;cases a<;>cases b<;>cases c<;>first|rfl|(simp only;rename_i lo hi mx;generalize dR C.E t (ev s x) lo hi mx H=z;cases z<;>rfl)
theorem xi:eK none=some none:=rfl
theorem xj (k:IntKind) (n:Int):eK (some (.int k n))=some (some n):=rfl
theorem Fg {α :Type} {E:aK} {t:TypeId} {ti:TI} {l:List UInt8} {lo hi:Option Int} {f:List UInt8→Option α} {r: α} (ht:E t=some ti) (hu:ti.aw= .str) (hh:(cY l (lo.getD 0) (hi.getD l.length)).bind f=some r)
 (h: ∀m,cY l (lo.getD 0) (hi.getD l.length)=some m→f m=some r→K (.str m) H):dz E t (.str l) (some lo) (some hi) (some none) H K:=by
 cases hm:cY l (lo.getD 0) (hi.getD l.length) with
 |none=>rw [hm] at hh;simp at hh
 |some m=>
  rw [hm] at hh;have hk:=h m hm hh;unfold cY at hm;split at hm
  ·rename_i hc;simp only [Option.some.injEq] at hm;simp only [dz,dR,ht,hu,if_pos hc,cI,hm];exact hk
  ·simp at hm
theorem kK {α :Type} {c: α →AV} {sz:Nat} (hc: ∀x,(c x).cells.length=sz) (l:List α):bD sz (l.map c)=true:=by
 simp [bD,hc]
theorem Fh {α β :Type} {E:aK} {t e:TypeId} {ti te:TI} {l:List α} {c: α →AV} {lo hi:Option Int} {f:List α →Option β} {r: β} (ht:E t=some ti) (hu:ti.aw= .sl e) (he:E e=some te) (hc: ∀x,(c x).cells.length=te.sz) (hh:(cY l (lo.getD 0) (hi.getD l.length)).bind f=some r)
 (h: ∀m,cY l (lo.getD 0) (hi.getD l.length)=some m→f m=some r→K (.fz (m.map c)) H):dz E t (.fz (l.map c)) (some lo) (some hi) (some none) H K:=by
 cases hm:cY l (lo.getD 0) (hi.getD l.length) with
 |none=>rw [hm] at hh;simp at hh
 |some m=>
  rw [hm] at hh;have hk:=h m hm hh;unfold cY at hm;split at hm
  ·rename_i rh;simp only [Option.some.injEq] at hm;simp only [dz,dR,ht,hu,he,kK hc,Bool.not_true,Bool.false_eq_true,if_false,List.length_map,if_pos rh,cI];rw [←hm,List.map_take,List.map_drop] at hk;exact hk
  ·simp at hm
theorem Fi {α β :Type} {E:aK} {t e:TypeId} {ti te:TI} {v:AV} {l:List α} {c: α →AV} {lo hi:Option Int} {f:List α →Option β} {r: β} (j:Nat) (hS:aA H L) (hj:L[j]? =some ⟨v,te.sz,l.map c⟩) (hp:bj v) (ht:E t=some ti) (hu:ti.aw= .sl e) (he:E e=some te) (hh:(cY l (lo.getD 0) (hi.getD l.length)).bind f=some r)
 (h: ∀v' m,bj v' →cY l (lo.getD 0) (hi.getD l.length)=some m→f m=some r→aA H (L.set j ⟨v',te.sz,m.map c⟩)→K v' H):dz E t v (some lo) (some hi) (some none) H K:=by
 cases hm:cY l (lo.getD 0) (hi.getD l.length) with
 |none=>rw [hm] at hh;simp at hh
 |some m=>
  rw [hm] at hh;have hk:=fun v' bA=>h v' m bA hm hh
  unfold cY at hm;split at hm
  ·rename_i hc;obtain ⟨dm,dJ,jm⟩:=hc;simp only [Option.some.injEq] at hm;have af:=hS.ok j _ hj;obtain ⟨k0,af⟩:=af;have fO:L.set j ⟨v,te.sz,l.map c⟩=L:=List.ext_getElem? fun k=>by
    rw [List.getElem?_set];split
    ·rename_i e;subst e;have:=(List.getElem?_eq_some_iff.1 hj).1;simp only [this,if_true];exact hj.symm
    ·rfl
   have CR:bD te.sz (m.map c)=true:=by
    simp only [bD,List.all_eq_true,List.mem_map] at k0⊢;rintro z ⟨y,hy,rfl⟩;rw [←hm] at hy;exact k0 _ ⟨y,List.mem_of_mem_drop (List.mem_of_mem_take hy),rfl⟩
   have empty:l.map c=[]→m=[]∧l=[]∧lo.getD 0=0∧hi.getD l.length=0:=by
    intro e;rw [List.map_eq_nil_iff] at e;subst e;have e0:(([]:List α).length:Int)=0:=rfl;rw [e0] at jm dJ⊢;exact ⟨by rw [←hm];simp,rfl,by omega,by omega⟩
   simp only at af k0;split at af
   ·obtain ⟨rfl,rfl,e1,e2⟩:=empty af;have iY:hi.getD 0=0:=by cases hi with|none=>rfl|some x=>simpa using e2
    simp only [dz,dR,ht,hu,he];rw [if_pos ⟨e1,iY,rfl,by simp⟩]
    exact hk .nil rL (by rw [fO];exact hS)
   ·obtain ⟨rfl,rfl,e1,e2⟩:=empty af;have iY:hi.getD 0=0:=by cases hi with|none=>rfl|some x=>simpa using e2
    simp only [dz,dR,ht,hu,he];rw [if_pos ⟨e1,iY,rfl,by simp⟩]
    exact hk .e0 oR (by rw [fO];exact hS)
   ·rename_i id ad off len;obtain ⟨k1,b,hb,k2,k3,k4,k5⟩:=af;simp only [List.length_map] at k1;subst k1;simp only [dz,dR,ht,hu,hb,he,k2,ne_eq,not_true_eq_false,if_false];rw [if_pos ⟨dm,dJ,by omega⟩]
    have eW:(hi.getD (l.length:Int)).toNat-(lo.getD 0).toNat=m.length:=by
     rw [←hm,List.length_take,List.length_drop];omega
    refine hk _ (fE ..) (hS.aZ hj rfl (fun _ _ _ _=>rfl) ⟨CR,?_,b,hb,k2,k3,?_,?_⟩ (fun k hk=>by simpa [bW] using hk.symm))
    ·simp only [List.length_map];exact eW
    ·omega
    ·simp only [aB] at k5⊢;rw [←hm,List.map_take,List.map_drop,←k5,List.drop_take,List.drop_drop,List.take_take];congr 1;omega
   ·rename_i id ad ix off;obtain ⟨rfl,rfl,_⟩:=af;exact absurd rfl (hp.ne id ad)
   ·exact af.elim
  ·simp at hm
def mU {α :Type} (oN:Nat) (n:Int) (d: α):Option (List α):=if 0≤n∧roomy n.toNat oN then some (List.replicate n.toNat d) else none
theorem Fj {α β :Type} {t:TypeId} {x y:Operand} {te:TI} {z:AV} {n:Int} {c: α →AV} {d: α} {f:List α →Option β} {r: β} (hS:aA H L) (ht:cD C.E t=some te) (hx:ev s x= .int .i64 n) (hy:ev s y= .int .i64 n) (hz:iM te=some z) (hd:c d=z) (h0:(te.sz==0)=false)
 (hh:(mU te.bytes n d).bind f=some r) (h: ∀v H' l,bj v→mU te.bytes n d=some l→f l=some r→aA H' (⟨v,te.sz,l.map c⟩::L)→K v H'):bh (aq C) C q th (.makeSlice t x y) s H K:=by
 refine CL hS ht hx hy hz hd (by simpa using h0) hh fun v H' hv h1 h2 h3 h4=>h v H' _ hv (by unfold mU;rw [if_pos ⟨h1,h2⟩]) h3 h4
theorem Fk {α β :Type} {E:aK} {t u:TypeId} {te tu:TI} {e:TypeId} {v x:AV} {l m:List α} {c: α →AV} {f:List α →Option β} {r: β} (j:Nat) (hS:aA H L) (hj:L[j]? =some ⟨v,te.sz,l.map c⟩) (hp:bj v) (ht:cD E t=some te) (hu:E u=some tu) (hi:tu.aw= .sl e)
 (hx:cC H x=some (m.map c)) (aC: ∀x,(c x).cells.length=te.sz) (h0:(te.sz==0)=false) (hh:(app te.bytes l m).bind f=some r) (h: ∀v' H' lm,bj v' →app te.bytes l m=some lm→f lm=some r→aA H' (L.set j ⟨v',te.sz,lm.map c⟩)→K v' H'):
 dq (cS E .append #[t,u] [v,x] H) K:=
 CM j hS hj hp ht hu hi hx (kK aC m) h0 hh fun v' H' h1 h2 h3 h4=>h v' H' _ h1 h2 h3 h4
theorem aA.perm {L' :List It} (h:aA H L) (hp:L.Perm L'):aA H L' :=by
 have nd: ∀{L:List It},aA H L↔(∀it∈L,iF H it)∧(L.filterMap (fun it=>bW it.v)).Nodup:=by
  intro L;constructor
  ·intro h;refine ⟨fun it hi=> ?_,?_⟩
   ·obtain ⟨i,fL⟩:=List.mem_iff_getElem?.1 hi;exact h.ok i it fL
   ·induction L with
    |nil=>simp
    |cons a L ih=>
     have ih:=ih h.tl;rw [List.filterMap_cons];cases ha:bW a.v with
     |none=>exact ih
     |some id=>
      refine List.nodup_cons.2 ⟨fun hm=> ?_,ih⟩;obtain ⟨b,hb,br⟩:=List.mem_filterMap.1 hm;obtain ⟨j,hj⟩:=List.mem_iff_getElem?.1 hb;have:=h.ck 0 (j+1) a b id rfl hj ha br;omega
  ·rintro ⟨h1,h2⟩;refine ⟨fun i it hi=>h1 it (List.mem_of_getElem? hi),?_⟩;clear h1;induction L with
   |nil=>intro i j a b id h;simp at h
   |cons a L ih=>
    have mv:(L.filterMap (fun it=>bW it.v)).Nodup:=by
     rw [List.filterMap_cons] at h2;split at h2
     ·exact h2
     ·exact (List.nodup_cons.1 h2).2
    have no: ∀(j:Nat) (b:It) (id:Nat),L[j]? =some b→bW a.v=some id→bW b.v≠some id:=by
     intro j b id hj ha hb;rw [List.filterMap_cons,ha] at h2;exact (List.nodup_cons.1 h2).1 (List.mem_filterMap.2 ⟨b,List.mem_of_getElem? hj,hb⟩)
    intro i j x y id hi hj hx hy;cases i with
    |zero=>
     simp at hi;subst hi;cases j with
     |zero=>rfl
     |succ j=>exact absurd hy (no j y id (by simpa using hj) hx)
    |succ i=>
     cases j with
     |zero=>simp at hj;subst hj;exact absurd hx (no i x id (by simpa using hi) hy)
     |succ j=>have:=ih mv i j x y id (by simpa using hi) (by simpa using hj) hx hy;omega
 rw [nd] at h⊢;exact ⟨fun it hi=>h.1 it (hp.mem_iff.2 hi),(hp.filterMap _).nodup_iff.1 h.2⟩
theorem aA.front (h:aA H L) (j:Nat) {it:It} (hj:L[j]? =some it):aA H (it::L.eraseIdx j):=by
 refine h.perm ?_;have az:=(List.getElem?_eq_some_iff.1 hj).1;have he:=(List.getElem?_eq_some_iff.1 hj).2;have:L=L.take j ++ it::L.drop (j+1):=by
  rw [←he,List.getElem_cons_drop,List.take_append_drop]
 rw [List.eraseIdx_eq_take_drop_succ]
 conv=>lhs;rw [this]
 exact List.perm_middle
theorem aA.Fl (h:aA H L) (sz:Nat):aA H (⟨.nil,sz,[]⟩::L):=
 h.new (fun _ _ _=>rfl) ⟨rfl,rfl⟩ (fun k hk=>by simp [bW] at hk)
theorem aA.CS (h:aA H L) (sz:Nat):aA H (⟨.e0,sz,[]⟩::L):=
 h.new (fun _ _ _=>rfl) ⟨rfl,rfl⟩ (fun k hk=>by simp [bW] at hk)
theorem aA.drop (h:aA H L) (j:Nat):aA H (L.eraseIdx j):=by
 cases hj:L[j]? with
 |none=>
  rw [List.eraseIdx_of_length_le (List.getElem?_eq_none_iff.1 hj)];exact h
 |some it=>exact (h.front j hj).tl
theorem aA.Fm (hS:aA H L) {id ad sz:Nat} {a:AV} (hm:⟨.ptr id ad 0 0,sz,[a]⟩∈L):H.ap id ad=some ⟨ad,sz,false,[a]⟩:=by
 obtain ⟨j,hj⟩:=List.mem_iff_getElem?.1 hm;exact hS.var j hj
theorem oU {α β :Type} {g:FuncId} {bP args ys:List AV} {b6:Bool} {o:Option α} {f: α →Option β} {r: β} {bS:List (List Sh)} (h:o.bind f=some r) (hr:(C.fU g).bS=bS) (hp:cg [] (args ++ bP) H=some (ys,b6))
 (hk: ∀x,o=some x→f x=some r→ ∃y,aq C g ys ⟨0,[]⟩ (fun v L=> ∃rs zs L2,v=ci rs∧dr bS rs L=some (zs,L2)∧y=ci zs)∧(b6=false∨cZ y=true)∧if th||b6 then K (aL y H).1 (aL y H).2 else K (bE y) H):kI C q th (.fn g bP) args H K:=by
 cases ho:o with
 |none=>rw [ho] at h;simp at h
 |some x=>
  rw [ho] at h;have hq:dU (aq C) C g (args ++ bP) th H K:=by
   unfold dU;rw [hp,hr];exact hk x ho h
  cases q with
  |true=>exact hq
  |false=>exact .inr hq
end
end Go.VS
namespace Go.VS
def FZ (l:List (List Nat×List Sh)) (s:ah) (H:J) (P:ah→J→Prop):Prop:= ∃s' H',de l s H=some (s',H')∧P s' H'
section
variable {C:aJ} {s:ah} {H:J} {L:List It}
theorem xk (P:ah→J→Prop):FZ [] s H P=P s H:=by
 apply propext;constructor
 ·rintro ⟨s',H',h,hp⟩;simp only [de,Option.some.injEq,Prod.mk.injEq] at h;obtain ⟨rfl,rfl⟩:=h;exact hp
 ·exact fun h=>⟨s,H,rfl,h⟩
theorem xl {t:Nat} {ts:List Nat} {e:Sh} {sh:List Sh} {l:List (List Nat×List Sh)} {P:ah→J→Prop} {y:AV} {H1:J} (ht:a8 (e::sh) (s.getD t .undef) H=some (y,H1)) (h:FZ l (ib (s.getD t .undef) (bE y) ts (s.set t (bE y))) H1 P):FZ ((t::ts,e::sh)::l) s H P:=by
 obtain ⟨s',H',h1,h2⟩:=h;exact ⟨s',H',by simp only [de,ht];exact h1,h2⟩
theorem xm {f:AV→J→Option (AV×J)}: ∀(xs:List AV) (H:J),(∀x∈xs,∀H,f x H=some (x,H))→dS f xs H=some (xs,H)
 |[],H,_=>rfl
 |x::xs,H,h=>by
  simp only [dS,h x (by simp) H,xm xs H (fun y hy=>h y (by simp [hy]))]
theorem xn {α :Type} {c: α →AV} (hz: ∀x,bE (c x)=c x): ∀(l:List α),bU (l.map c)=l.map c
 |[]=>rfl
 |x::l=>by simp only [List.map_cons,bU,hz x,xn hz l]
theorem aA.del (hS:aA H L) {id:Nat} (h: ∀(i:Nat) (it:It),L[i]? =some it→bW it.v≠some id):aA (H.del id) L:=
 ⟨fun i it hi=>(hS.ok i it hi).frame fun k ad hk=>by
  have aI: ¬id=k:=fun e=>h i it hi (by rw [hk,e])
  simp only [J.ap,J.del,List.getElem?_set,if_neg aI],hS.ck⟩
theorem CT (hS:aA H L) {j:Nat} {v:AV} {sz:Nat} {el:List AV} (hj:L[j]? =some ⟨v,sz,el⟩) (hp:bj v):fZ v v=true:=by
 have af:=(hS.ok j _ hj).2;simp only at af;split at af
 ·rfl
 ·rfl
 ·simp [fZ]
 ·rename_i id ad ix off;obtain ⟨rfl,rfl,_⟩:=af;exact absurd rfl (hp.ne id ad)
 ·exact af.elim
theorem aA.take {α :Type} (hS:aA H L) (j:Nat) {v:AV} {es:List Sh} {l:List α} {c: α →AV} (hj:L[j]? =some ⟨v,es.length,l.map c⟩) (hp:bj v) (hc: ∀x H,a8 es (c x) H=some (c x,H)):
 ∃H',a8 [.sl es] v H=some (.own es.length (l.map c),H')∧aA H' (L.eraseIdx j):=by
 have af:=hS.ok j _ hj;have hf:=hS.front j hj;obtain ⟨k0,af⟩:=af;have e1:a8 [.sl es] v H=aT (.sl es) v H:=by
  have rS: ∀cs,v≠ .agg cs:=by rintro cs rfl;exact af
  cases v with
  |agg cs=>exact absurd rfl (rS cs)
  |_=>simp only [a8]
 rw [e1];simp only at af;split at af
 ·rename_i hv;exact ⟨H,by simp only [aT,af],hf.tl⟩
 ·exact ⟨H,by simp only [aT,af],hf.tl⟩
 ·rename_i id ad off len;obtain ⟨k1,b,hb,k2,k3,k4,k5⟩:=af;have hm:dS (a8 es) (l.map c) (H.del id)=some (l.map c,H.del id):=xm _ _ (by
   intro x hx H;obtain ⟨y,_,rfl⟩:=List.mem_map.1 hx;exact hc y H)
  refine ⟨H.del id,?_,hf.tl.del fun i it hi e=> ?_⟩
  ·simp only [aT,hb];rw [if_pos ⟨k2,k4,.inl k3⟩,k5,hm]
  ·have:=hf.ck 0 (i+1) _ it id rfl (by simpa using hi) rfl e
   omega
 ·rename_i id ad ix off;obtain ⟨rfl,rfl,_⟩:=af;exact absurd rfl (hp.ne id ad)
 ·exact af.elim
theorem Fo {α :Type} {t:Nat} {ts:List Nat} {es:List Sh} {l:List (List Nat×List Sh)} {P:ah→J→Prop} {v:AV} {m:List α} {c: α →AV} (j:Nat) (hS:aA H L) (hj:L[j]? =some ⟨v,es.length,m.map c⟩) (hp:bj v) (hv:s.getD t .undef=v) (hc: ∀x H,a8 es (c x) H=some (c x,H)) (hz: ∀x,bE (c x)=c x)
 (h: ∀H',fZ v v=true→aA H' (L.eraseIdx j)→FZ l (ib v (.fz (m.map c)) ts (s.set t (.fz (m.map c)))) H' P):FZ ((t::ts,[.sl es])::l) s H P:=by
 obtain ⟨H',h1,h2⟩:=hS.take j hj hp hc;rw [←hv] at h1;refine xl h1 ?_;simp only [bE,xn hz,hv];exact h H' (CT hS hj hp) h2
def TC (es:List Sh) (cs:List AV) (H:J) (K:List AV→J→Prop):Prop:= ∃ys H',cE es cs H=some (ys,H')∧K ys H'
theorem Fp {K:List AV→J→Prop} (h:K [] H):TC [] [] H K:=⟨[],H,by simp only [cE],h⟩
theorem oV {e:Sh} {es:List Sh} {v y:AV} {cs:List AV} {H1:J} {K:List AV→J→Prop} (ht:aT e v H=some (y,H1)) (h:TC es cs H1 fun ys H' =>K (y::ys) H'):TC (e::es) (v::cs) H K:=by
 obtain ⟨ys,H',h1,h2⟩:=h;exact ⟨y::ys,H',by simp only [cE,ht,h1],h2⟩
theorem Fq {es:List Sh} {v:AV} {cs:List AV} {K:List AV→J→Prop} (hp:dT v=true) (h:TC es cs H fun ys H' =>K (v::ys) H'):TC (.sc::es) (v::cs) H K:=
 oV (by simp only [aT,hp,if_true]) h
theorem Fs {es fs:List Sh} {xs cs:List AV} {K:List AV→J→Prop} (h:TC es cs H fun ys H' =>K (.fz xs::ys) H'):TC (.sl fs::es) (.fz xs::cs) H K:=
 oV (by simp only [aT]) h
theorem Ft {es fs:List Sh} {cs:List AV} {K:List AV→J→Prop} (h:TC es cs H fun ys H' =>K (.own fs.length []::ys) H'):TC (.sl fs::es) (.nil::cs) H K:=
 oV (by simp only [aT]) h
theorem Fu {α :Type} {es fs:List Sh} {v:AV} {cs:List AV} {K:List AV→J→Prop} {m:List α} {c: α →AV} (j:Nat) (hS:aA H L) (hj:L[j]? =some ⟨v,fs.length,m.map c⟩) (hp:bj v) (hc: ∀x H,a8 fs (c x) H=some (c x,H))
 (h: ∀H',aA H' (L.eraseIdx j)→TC es cs H' fun ys H' =>K (.own fs.length (m.map c)::ys) H'):TC (.sl fs::es) (v::cs) H K:=by
 obtain ⟨H',h1,h2⟩:=hS.take j hj hp hc;have h3:aT (.sl fs) v H=some (.own fs.length (m.map c),H'):=by
  have rS: ∀cs,v≠ .agg cs:=by rintro cs rfl;rcases hp.ok with h|h|⟨_,_,_,_,h⟩<;>simp at h
  cases v with
  |agg cs=>exact absurd rfl (rS cs)
  |_=>simpa only [a8] using h1
 exact oV h3 (h H' h2)
theorem Fv {t:Nat} {e:Sh} {sh:List Sh} {l:List (List Nat×List Sh)} {P:ah→J→Prop} {cs:List AV} (hv:s.getD t .undef= .agg cs) (h:TC (e::sh) cs H fun ys H' =>FZ l (s.set t (bE (.agg ys))) H' P):FZ (([t],e::sh)::l) s H P:=by
 obtain ⟨ys,H',h1,h2⟩:=h;refine xl (y:= .agg ys) (H1:=H') (by rw [hv];simp only [a8,h1]) ?_
 exact h2
def FV (id ad:Nat) (ys:List AV) (H1:J) (P:J→Prop):Prop:= ∃b1,H1.ap id ad=some b1∧ys.length=b1.sz∧P (H1.aZ id {b1 with el:=[.agg ys]})
theorem Fw {t:Nat} {e:Sh} {sh:List Sh} {l:List (List Nat×List Sh)} {P:ah→J→Prop} {id ad sz:Nat} {cs:List AV} (j:Nat) (hS:aA H L) (hv:s.getD t .undef= .ptr id ad 0 0) (hj:L[j]? =some ⟨.ptr id ad 0 0,sz,[.agg cs]⟩)
 (h:TC (cw (e::sh) (e::sh)) (cw (e::sh) cs) H fun ys H' =>FV id ad (eN (e::sh) cs (bU ys)) H' fun H2=>FZ l s H2 P):FZ (([],[])::([t],e::sh)::l) s H P:=by
 obtain ⟨ys,H1,h1,b1,jb,hl,s',H',h2,h3⟩:=h;have hb:=hS.var j hj;have ht:a8 (cw (e::sh) (e::sh)) (.agg (cw (e::sh) cs)) H=some (.agg ys,H1):=by simp only [a8,h1]
 have hg:=(fC _ _ _ _ _ ht).get _ _ (J.bd jb).1;rw [(J.bd hb).1] at hg;refine ⟨s',H',?_,h3⟩;have e1:lW (e::sh) id ad H=some (H1.aZ id {b1 with el:=[.agg (eN (e::sh) cs (bU ys))]}):=by
  simp only [lW,hb,ht,jb];show (if (eN (e::sh) cs (bU ys)).length=sz then _ else none)=_;rw [if_pos (by rw [hl,←Option.some.inj hg])]
 simp only [de,hv,e1,h2]
theorem Fx {P:J→Prop} {id ad sz:Nat} {x:AV} {ys:List AV} (j:Nat) (hS:aA H L) (hj:L[j]? =some ⟨.ptr id ad 0 0,sz,[x]⟩) (hl:ys.length=sz) (h: ∀H2,aA H2 (L.set j ⟨.ptr id ad 0 0,sz,[.agg ys]⟩)→P H2):FV id ad ys H P:=by
 have hb:=hS.var j hj;refine ⟨_,hb,hl,h _ ?_⟩;have az:=J.gb (J.bd hb).1;refine hS.aZ (it' :=⟨.ptr id ad 0 0,sz,[.agg ys]⟩) hj (i:=id) rfl (fun e8 fD hn _=>jS hn) ⟨by simp [bD,AV.cells,hl],rfl,rfl,rfl,?_⟩ (fun k hk=>by simpa [bW] using hk.symm)
 exact jk (H:=H) (b:=⟨ad,sz,false,[.agg ys]⟩) az
theorem xp (xs:List AV):bE (.agg xs)= .agg (bU xs):=rfl
theorem xq (x:AV) (xs:List AV):bU (x::xs)=bE x::bU xs:=rfl
theorem xr:bU []=[]:=rfl
theorem xt (k:IntKind) (n:Int):bE (.int k n)= .int k n:=rfl
theorem xu (b:Bool):bE (.bool b)= .bool b:=rfl
theorem xv (b:List UInt8):bE (.str b)= .str b:=rfl
theorem xw (b:List AV):bE (.fz b)= .fz b:=rfl
theorem xx (n:Nat) (b:List AV):bE (.own n b)= .fz (bU b):=rfl
theorem xy (xs:List AV):bE (.aD xs)= .aD (bU xs):=rfl
theorem xA (x:AV):ci [x]=x:=rfl
theorem xB (x y:AV) (l:List AV):ci (x::y::l)= .aD (x::y::l):=rfl
theorem xC:ci []= .aD []:=rfl
theorem xD (x y:AV):ib x y [] s=s:=rfl
theorem xE (x y:AV) (t:Nat) (ts:List Nat):ib x y (t::ts) s=ib x y ts (if fZ (s.getD t .undef) x then s.set t y else s):=rfl
theorem xF:fZ .nil .nil=true:=rfl
theorem xG:fZ .e0 .e0=true:=rfl
theorem xH (fz:List (Nat×List (List Nat×List Sh))) (K:ah→J→Prop) (i:Nat):gX C fz K [] i s H=K s H:=rfl
theorem Fy {l:List (List Nat×List Sh)} {kp:Option (List Nat)} {K:Ex→ah→J→Prop} (h:FZ l s H fun s H=>K .normal (eZ kp s) H):aH (aq C) C (.gB l kp) s H K:=by
 obtain ⟨s',H',h1,h2⟩:=h;exact Cx h1 h2
theorem aA.Fz (hS:aA H L) (n:Nat) (js:List Nat) (hj:(js.Nodup∧ ∀j∈js,j<n)):aA H (js.filterMap (L[·]?) ++ L.drop n):=by
 refine ⟨fun i it hi=> ?_,fun i j a b id hi xI ha hb=> ?_⟩
 ·rcases List.mem_append.1 (List.mem_of_getElem? hi) with h|h
  ·obtain ⟨k,_,hk⟩:=List.mem_filterMap.1 h;exact hS.ok k it hk
  ·obtain ⟨k,hk⟩:=List.mem_iff_getElem?.1 (List.mem_of_mem_drop h);exact hS.ok k it hk
 ·
  have key: ∀(js:List Nat),js.Nodup→(∀j∈js,j<n)→ ∀(i j:Nat) (a b:It),(js.filterMap (L[·]?) ++ L.drop n)[i]? =some a→(js.filterMap (L[·]?) ++ L.drop n)[j]? =some b→bW a.v=some id→bW b.v=some id→i=j:=by
   intro js;induction js with
   |nil=>
    intro _ _ i j a b hi hj ha hb;simp only [List.filterMap_nil,List.nil_append,List.getElem?_drop] at hi hj;have:=hS.ck _ _ a b id hi hj ha hb;omega
   |cons k ks ih=>
    intro s9 az i j a b hi hj ha hb;have xJ:=(List.nodup_cons.1 s9)
    have nu:=ih xJ.2 (fun j h=>az j (by simp [h]))
    cases hk:L[k]? with
    |none=>
     simp only [List.filterMap_cons,hk] at hi hj;exact nu i j a b hi hj ha hb
    |some c=>
     simp only [List.filterMap_cons,hk,List.cons_append] at hi hj;have other: ∀(m:Nat) (d:It),(ks.filterMap (L[·]?) ++ L.drop n)[m]? =some d→bW c.v=some id→bW d.v≠some id:=by
      intro m d hm hc hd;rcases List.mem_append.1 (List.mem_of_getElem? hm) with h|h
      ·obtain ⟨k',qZ,bR⟩:=List.mem_filterMap.1 h;have:=hS.ck k k' c d id hk bR hc hd
       subst this;exact xJ.1 qZ
      ·obtain ⟨k',bR⟩:=List.mem_iff_getElem?.1 h;rw [List.getElem?_drop] at bR;have:=hS.ck k _ c d id hk bR hc hd
       have:=az k (by simp)
       omega
     cases i with
     |zero=>
      simp at hi;subst hi;cases j with
      |zero=>rfl
      |succ j=>exact absurd hb (other j b (by simpa using hj) ha)
     |succ i=>
      cases j with
      |zero=>simp at hj;subst hj;exact absurd ha (other i a (by simpa using hi) hb)
      |succ j=>have:=nu i j a b (by simpa using hi) (by simpa using hj) ha hb;omega
  exact key js hj.1 hj.2 i j a b hi xI ha hb
end
theorem FA {α :Type} {L F:List α} {n:Nat} {x: α} (hL:L.drop n=F) (h:x∈F):x∈L:=List.mem_of_mem_drop (hL.symm▸h)
abbrev u:=AV.undef
def CU {α :Type} (c: α →AV) (l:List α):AV:= .fz (l.map c)
theorem FB {E:aK} {s:ah} {H:J} {a:Tmp} {t:TypeId} {rs:List ResultVar} {ti:TI} {id ad sz:Nat} {x y:AV} {ys:List AV} (ht:E t=some ti) (ha:s.getD a .undef= .ptr id ad 0 0) (hb:H.ap id ad=some ⟨ad,sz,false,[x]⟩) (hx:bY ti x 0=some y) (hr:ef E s H rs=some ys):ef E s H (.cell a t::rs)=some (y::ys):=by
 have:aQ E (.load t (.tmp a)) s H=some (y,H):=by
  have e:ev s (.tmp a)= .ptr id ad 0 0:=ha;simp only [aQ,ht,e,hb,List.getElem?_cons_zero,hx]
 simp only [ef,this,hr,Option.map_some]
theorem FC {E:aK} {s:ah} {H:J} {a:Tmp} {rs:List ResultVar} {y:AV} {ys:List AV} (ha:s.getD a .undef=y) (hr:ef E s H rs=some ys):ef E s H (.tmp a::rs)=some (y::ys):=by
 simp only [ef,hr,Option.map_some,ha]
section
variable {C:aJ} {s:ah} {H:J}
def gx (C:aJ) (K:ah→J→Prop) (d:Option Tmp) (late:List (Op×Option Tmp)) (rest:List GO) (s:ah):AV→J→Prop:=fun v H=>eH C (bw s d v) H (eU C K rest (bw s d v) H) late
def jn (C:aJ) (K:ah→J→Prop) (v:AV) (w:Bool) (d:Option Tmp) (op:Op) (late:List (Op×Option Tmp)) (th q:Bool) (rest:List GO) (s:ah) (H:J):Prop:=iE v w (bh (aq C) C q th op s H (gx C K d late rest s)) (gx C K d late rest s (.aD []) H)
theorem xK (K:ah→J→Prop) (d:Option Tmp) (rest:List GO) (v:AV):gx C K d [] rest s v H=eU C K rest (bw s d v) H:=rfl
theorem xL (K:ah→J→Prop) (d:Option Tmp) (l:Op×Option Tmp) (ls:List (Op×Option Tmp)) (rest:List GO) (v:AV):gx C K d (l::ls) rest s v H=eH C (bw s d v) H (eU C K rest (bw s d v) H) (l::ls):=rfl
theorem xM (K:ah→J→Prop) (d:Option Tmp) (op:Op) (late:List (Op×Option Tmp)) (q th:Bool) (rest:List GO):eU C K (⟨d,op,none,late,th,q⟩::rest) s H=bh (aq C) C q th op s H (gx C K d late rest s):=rfl
theorem xN (K:ah→J→Prop) (d:Option Tmp) (op:Op) (t:Tmp) (w:Bool) (late:List (Op×Option Tmp)) (q th:Bool) (rest:List GO):eU C K (⟨d,op,some (some t,w),late,th,q⟩::rest) s H=jn C K (s.getD t .undef) w d op late th q rest s H:=rfl
variable (K:ah→J→Prop) (d:Option Tmp) (op:Op) (late:List (Op×Option Tmp)) (th q:Bool) (rest:List GO)
theorem xO:jn C K (.bool true) true d op late th q rest s H=bh (aq C) C q th op s H (gx C K d late rest s):=vt _ _
theorem xP:jn C K (.bool false) false d op late th q rest s H=bh (aq C) C q th op s H (gx C K d late rest s):=vu _ _
theorem xQ:jn C K (.bool true) false d op late th q rest s H=gx C K d late rest s (.aD []) H:=vv _ _
theorem xR:jn C K (.bool false) true d op late th q rest s H=gx C K d late rest s (.aD []) H:=vw _ _
theorem xS (l:List AV) (w:Bool):jn C K (.aD l) w d op late th q rest s H=gx C K d late rest s (.aD []) H:=rfl
theorem FD {α :Type} {c w:Bool} {x y:Option α} {r: α} {K:ah→J→Prop} {d:Option Tmp} {op:Op} {late:List (Op×Option Tmp)} {th q:Bool} {rest:List GO} (h:(bif c then x else y)=some r) (ht:c=true→x=some r→jn C K (.bool true) w d op late th q rest s H) (hf:c=false→y=some r→jn C K (.bool false) w d op late th q rest s H):jn C K (.bool c) w d op late th q rest s H:=by
 cases c with
 |true=>exact ht rfl h
 |false=>exact hf rfl h
variable (fz:List (Nat×List (List Nat×List Sh))) (i:Nat)
def gY (C:aJ) (fz:List (Nat×List (List Nat×List Sh))) (K:ah→J→Prop) (d:Option Tmp) (rest:List GO) (i:Nat) (s:ah):AV→J→Prop:=fun v H=>gX C fz K rest (i+1) (bw s d v) H
def lG (C:aJ) (fz:List (Nat×List (List Nat×List Sh))) (K:ah→J→Prop) (v:AV) (w:Bool) (d:Option Tmp) (op:Op) (th q:Bool) (rest:List GO) (i:Nat) (s:ah) (H:J):Prop:=iE v w (bh (aq C) C q th op s H (gY C fz K d rest i s)) (gY C fz K d rest i s (.aD []) H)
def rT (C:aJ) (fz:List (Nat×List (List Nat×List Sh))) (K:ah→J→Prop) (o:GO) (rest:List GO) (i:Nat):ah→J→Prop:=fun s H=>i_ o.g s (bh (aq C) C o.q o.th o.op s H (gY C fz K o.d rest i s)) (gY C fz K o.d rest i s (.aD []) H)
theorem xT (o:GO):gX C fz K (o::rest) i s H=FZ ((fz.lookup i).getD []) s H (rT C fz K o rest i):=rfl
theorem xU:rT C fz K ⟨d,op,none,late,th,q⟩ rest i s H=bh (aq C) C q th op s H (gY C fz K d rest i s):=rfl
theorem xV (t:Tmp) (w:Bool):rT C fz K ⟨d,op,some (some t,w),late,th,q⟩ rest i s H=lG C fz K (s.getD t .undef) w d op th q rest i s H:=rfl
theorem xW (v:AV):gY C fz K d rest i s v H=gX C fz K rest (i+1) (bw s d v) H:=rfl
theorem xX:lG C fz K (.bool true) true d op th q rest i s H=bh (aq C) C q th op s H (gY C fz K d rest i s):=vt _ _
theorem xY:lG C fz K (.bool false) false d op th q rest i s H=bh (aq C) C q th op s H (gY C fz K d rest i s):=vu _ _
theorem xZ:lG C fz K (.bool true) false d op th q rest i s H=gY C fz K d rest i s (.aD []) H:=vv _ _
theorem x4:lG C fz K (.bool false) true d op th q rest i s H=gY C fz K d rest i s (.aD []) H:=vw _ _
theorem x5 (l:List AV) (w:Bool):lG C fz K (.aD l) w d op th q rest i s H=gY C fz K d rest i s (.aD []) H:=rfl
end
theorem x6 {β :Type} (i:Nat) (l: β) (r:List (Nat× β)):((i,l)::r).lookup i=some l:=by simp [List.lookup]
theorem x7 {β :Type} (i k:Nat) (l: β) (r:List (Nat× β)) (h:(i==k)=false):((k,l)::r).lookup i=r.lookup i:=by simp only [List.lookup,h]
theorem x8 {β :Type} (i:Nat):([]:List (Nat× β)).lookup i=none:=rfl
theorem x9 (all:List Oper) (q:Nat→Bool) (late:Nat→List Nat) (th:List Nat) (i:Nat):eI all q late th [] i=[]:=rfl
theorem x_ (all:List Oper) (q:Nat→Bool) (late:Nat→List Nat) (th:List Nat) (o:Oper) (rest:List Oper) (i:Nat):eI all q late th (o::rest) i=⟨o.dst,o.op,o.guard.map fun p=>(lk all p.1,p.2),(late i).map (lD all),th.contains i,q i⟩::eI all q late th rest (i+1):=rfl
theorem ya (o:Oper) (os:List Oper):lk (o::os) 0=o.dst:=rfl
theorem yb (o:Oper) (os:List Oper) (n:Nat):lk (o::os) (n+1)=lk os n:=rfl
theorem yc (K:Ex→ah→J→Prop) (s:ah) (H:J):jP K s H=K .normal s H:=rfl
theorem yd (E:aK) (t:TypeId) (f:Nat):mP E t f=match E t with
 |some ti=>match ti.aw with
  | .st fs=>match fs[f]? with
   |some (o,ft)=>match E ft with
    |some tf=>some (o,tf)
    |none=>none
   |none=>none
  |_=>none
 |none=>none:=rfl
theorem ye (ti:TI) (hu:kH ti.aw=true) (xs:List AV) (n:Nat) {H:J} {K:AV→J→Prop}:eV (some ti) (.fz xs) (some n) H K=K (.int .i64 n) H:=by cases h:ti.aw<;>rw [h] at hu<;>simp [kH] at hu;exact CH ti h xs n
theorem yf (ti:TI) (hu:kH ti.aw=true) (n:Nat) {H:J} {K:AV→J→Prop}:eV (some ti) .nil (some n) H K=K (.int .i64 n) H:=by cases h:ti.aw<;>rw [h] at hu<;>simp [kH] at hu;exact CI ti h n
theorem yg (ti:TI) (hu:kH ti.aw=true) (n:Nat) {H:J} {K:AV→J→Prop}:eV (some ti) .e0 (some n) H K=K (.int .i64 n) H:=by cases h:ti.aw<;>rw [h] at hu<;>simp [kH] at hu;exact CJ ti h n
theorem yh (ti:TI) (hu:mR ti.aw=true) (l:List UInt8) (n:Nat) {H:J} {K:AV→J→Prop}:eV (some ti) (.str l) (some n) H K=K (.int .i64 n) H:=by cases h:ti.aw<;>rw [h] at hu<;>simp [mR] at hu;exact CK ti h l n
theorem yi (ta tb:TI) (n:Int) (H:J) (K:AV→J→Prop):rP (some ta) (some tb) n H K=match tb.aw with| .it k=>K (.int k (k.wrap n)) H|_=>False:=rfl
theorem yj (o:Nat) (tf:TI) (y:AV) (off:Nat) (h:(tf.sz==0)=false) {H:J} {K:AV→J→Prop}:jR (some (o,tf)) (.fe y off) H K=K (.fe y (off+o)) H:=CD o tf h y off
def rU (b:Option bu) (k:Prop):Prop:=match b with|some _=>k|none=>False
theorem yl (o:Nat) (tf:TI) (id ad idx off:Nat) (h:(tf.sz==0)=false) {H:J} {K:AV→J→Prop}:jR (some (o,tf)) (.ptr id ad idx off) H K=rU (H.ap id ad) (K (.ptr id ad idx (off+o)) H):=by
 rw [CE o tf h];rfl
theorem ym (b:bu) (k:Prop):rU (some b) k=k:=rfl
theorem yn {C:aJ} {q th:Bool} {s:ah} {H:J} {K:AV→J→Prop} (x:Operand):bh (aq C) C q th (.nilCheck x) s H K=(match ev s x with| .ptr a b c d=>rU (H.ap a b) (K (.ptr a b c d) H)| .fe x o=>K (.fe x o) H|_=>False):=by
 rw [dy _ rfl];simp only [aQ];generalize ev s x=r;cases r<;>try rfl
 rename_i a b c d;simp only;cases H.ap a b<;>rfl
theorem yo (z:List AV) (b:Nat) (w:UD) (e:Bool) (cs:List AV) (off:Nat):bY ⟨1,false,z,b,w,e⟩ (.agg cs) off=cs[off]? :=by
 by_cases h:off<cs.length
 ·have e1:aB cs off 1=[cs[off]]:=by
   simp only [aB,List.drop_eq_getElem_cons h,List.take_succ_cons,List.take_zero]
  have e2:bY ⟨1,false,z,b,w,e⟩ (.agg cs) off=kR false (aB cs off 1):=if_pos (show off+1≤cs.length from h);rw [e2,e1,List.getElem?_eq_getElem h];rfl
 ·rw [List.getElem?_eq_none (by omega)]
  exact if_neg (show¬off+1≤cs.length from h)
theorem yp (z:List AV) (b:Nat) (w:UD) (e:Bool) (k:IntKind) (n:Int):bY ⟨1,false,z,b,w,e⟩ (.int k n) 0=some (.int k n):=rfl
theorem yq (z:List AV) (b:Nat) (w:UD) (e:Bool) (n:Bool):bY ⟨1,false,z,b,w,e⟩ (.bool n) 0=some (.bool n):=rfl
theorem yr (z:List AV) (b:Nat) (w:UD) (e:Bool) (n:List UInt8):bY ⟨1,false,z,b,w,e⟩ (.str n) 0=some (.str n):=rfl
theorem yt (z:List AV) (b:Nat) (w:UD) (e:Bool) (n:List AV):bY ⟨1,false,z,b,w,e⟩ (.fz n) 0=some (.fz n):=rfl
theorem yu (z:List AV) (b:Nat) (w:UD) (e:Bool):bY ⟨1,false,z,b,w,e⟩ .nil 0=some .nil:=rfl
theorem yv (z:List AV) (b:Nat) (w:UD) (e:Bool):bY ⟨1,false,z,b,w,e⟩ .e0 0=some .e0:=rfl
theorem yw (z:List AV) (b:Nat) (w:UD) (e:Bool) (a c d f:Nat):bY ⟨1,false,z,b,w,e⟩ (.ref a c d f) 0=some (.ref a c d f):=rfl
theorem yx (n:Nat) (z:List AV) (b:Nat) (w:UD) (e:Bool) (cs:List AV) (off:Nat):bY ⟨n,true,z,b,w,e⟩ (.agg cs) off=if off+n≤cs.length then some (.agg ((cs.drop off).take n)) else none:=rfl
theorem yy (ti:TI) (r:Bool) (neg:Bool):mO (some ti) (some r) neg=if ti.agg then some (.bool (if neg then !r else r)) else none:=rfl
theorem yz (ti:TI) (x y:AV) (neg:Bool):jj (some ti) x y neg=match isNil ti.aw x y with|some b=>some (.bool (if neg then !b else b))|none=>none:=rfl
theorem yA (E:aK) (d:Nat) (t:TypeId) (xs ys:List AV):eo E (d+1) t xs ys=match E t with
 |none=>none
 |some ti=>match ti.aw with
  | .it _=>match xs,ys with
   |[.int k a],[.int j b]=>if k=j then some (a==b) else none
   |_,_=>none
  | .bl=>match xs,ys with
   |[.bool a],[.bool b]=>some (a==b)
   |_,_=>none
  | .str=>match xs,ys with
   |[.str a],[.str b]=>some (a==b)
   |_,_=>none
  | .st fs=>if ti.lP then iL E (eo E d) fs xs ys else none
  |_=>none:=rfl
theorem yB (E:aK) (f:TypeId→List AV→List AV→Option Bool) (xs ys:List AV):iL E f [] xs ys=some true:=rfl
theorem yC (E:aK) (f:TypeId→List AV→List AV→Option Bool) (o:Nat) (ft:TypeId) (fs:List (Nat×TypeId)) (xs ys:List AV):iL E f ((o,ft)::fs) xs ys=match E ft with
 |none=>none
 |some tf=>
  if o+tf.sz≤xs.length∧o+tf.sz≤ys.length then
   match f ft (aB xs o tf.sz) (aB ys o tf.sz) with
   |some b=>match iL E f fs xs ys with
    |some r=>some (b&&r)
    |none=>none
   |none=>none
  else none:=rfl
theorem yD (cs:List AV) (off n:Nat):aB cs off n=(cs.drop off).take n:=rfl
def oW (E:aK) (t:TypeId) (ps:List (Nat×AV)) (H:J) (K:AV→J→Prop):Prop:=match E t with
 |some ti=>match ti.aw with
  | .st fs=>if !(fs.all fun f=>(E f.2).isSome)|| !(ti.zero.all db) then False else cI ((gy (fun i=>match fs[i]? with|some (o,ft)=>(E ft).map fun tf=>(o,tf.sz)|none=>none) ti.zero ps).map .agg) H K
  | .ar n e=>match E e with
   |some te=>if !(ti.zero.all db) then False else cI ((gy (fun i=>if i<n then some (i*te.sz,te.sz) else none) ti.zero ps).map .agg) H K
   |none=>False
  |_=>False
 |none=>False
theorem yE {C:aJ} {q th:Bool} {s:ah} {H:J} {K:AV→J→Prop} (t:TypeId) (ps:Array (Nat×Operand)):bh (aq C) C q th (.build t ps) s H K=oW C.E t (ps.toList.map fun p=>(p.1,ev s p.2)) H K:=by
 rw [dy _ rfl];simp only [aQ,oW];cases C.E t with
 |none=>rfl
 |some ti=>
  simp only;cases ti.aw<;>try rfl
  ·rename_i fs;simp only;split
   ·rfl
   ·generalize Option.map AV.agg _=r;cases r<;>rfl
  ·rename_i n e;simp only;cases C.E e with
   |none=>rfl
   |some te=>
    simp only;split
    ·rfl
    ·generalize Option.map AV.agg _=r;cases r<;>rfl
theorem FE {E:aK} {t:TypeId} {ps:List (Nat×AV)} {H:J} {K:AV→J→Prop} {ti:TI} {fs:List (Nat×TypeId)} {cs:List AV} (ht:E t=some ti) (hu:ti.aw= .st fs) (h1:(fs.all fun f=>(E f.2).isSome)=true) (h2:ti.zero.all db=true)
 (hf:gy (fun i=>match fs[i]? with|some (o,ft)=>(E ft).map fun tf=>(o,tf.sz)|none=>none) ti.zero ps=some cs) (h:K (.agg cs) H):oW E t ps H K:=by
 simp only [oW,ht,hu,h1,h2,Bool.not_true,Bool.or_self,Bool.false_eq_true,if_false,hf];exact h
theorem yF {C:aJ} {q th:Bool} {s:ah} {H:J} {K:AV→J→Prop} (f:FuncId) (cap:Array Operand):bh (aq C) C q th (.makeFunc (.func f) #[] cap) s H K=K (.fn f (cap.toList.map (ev s))) H:=by
 rw [dy _ rfl];simp only [aQ];rfl
theorem W:type_of% (And.intro @x6<|And.intro @xp<|And.intro @xq<|And.intro @xr<|And.intro @xt<|And.intro @xu<|And.intro @xv<|And.intro @xw<|And.intro @xx<|And.intro @xy<|And.intro @xA<|And.intro @xB<|And.intro @xC<|And.intro @Bool.or_false<|And.intro @x7<|And.intro @x8<|And.intro @vr<|And.intro @xM<|And.intro @xN<|And.intro @xK<|And.intro @xL<|And.intro @xO<|And.intro @xP<|And.intro @xQ<|And.intro @xR<|And.intro @xS<|And.intro @xT<|And.intro @xU<|And.intro @xV<|And.intro @xW<|And.intro @xX<|And.intro @xY<|And.intro @xZ<|And.intro @x4<|And.intro @x5<|
 And.intro @vx<|And.intro @vy<|And.intro @vz<|And.intro @vA<|And.intro @vB<|And.intro @vC<|And.intro @vD<|And.intro @vE<|And.intro @vF<|And.intro @vG<|And.intro @vH<|And.intro @vI<|And.intro @vJ<|
 And.intro @vK<|And.intro @vL<|And.intro @vM<|And.intro @vN<|And.intro @vO<|And.intro @vP<|And.intro @vQ<|And.intro @vR<|And.intro @vS<|And.intro @vU<|And.intro @vV<|And.intro @vW<|
 And.intro @xc<|And.intro @xd<|And.intro @xe<|And.intro @vX<|And.intro @vY<|And.intro @vZ<|And.intro @v7<|And.intro @v8<|And.intro @v_<|And.intro @wa<|And.intro @wb<|And.intro @wc<|And.intro @wg<|
 And.intro @wh<|And.intro @wi<|And.intro @wj<|And.intro @wk<|And.intro @wl<|And.intro @wm<|And.intro @wo<|And.intro @wq<|And.intro @wu<|And.intro @wv<|And.intro @ww<|And.intro @wx<|And.intro @wy<|
 And.intro @wz<|And.intro @wA<|And.intro @wB<|And.intro @wC<|And.intro @wD<|And.intro @o_load<|And.intro @wE<|And.intro @wF<|And.intro @wG<|And.intro @wH<|And.intro @wI<|And.intro @wJ<|And.intro @wK<|
 And.intro @wL<|And.intro @wM<|And.intro @wN<|And.intro @wO<|And.intro @min2<|And.intro @max2<|And.intro @wR<|And.intro @wV<|And.intro @wW<|And.intro @wX<|And.intro @wY<|And.intro @wZ<|
 And.intro @w9<|And.intro @w_<|And.intro @xa<|And.intro @xf<|And.intro @xg<|And.intro @xh<|And.intro @xi<|And.intro @xj<|And.intro @xk<|And.intro @xD<|And.intro @xE<|And.intro @xF<|And.intro @xG<|
 And.intro @xH<|And.intro @x9<|And.intro @x_<|And.intro @ya<|And.intro @yb<|And.intro @yc<|And.intro @yd<|And.intro @ye<|And.intro @yf<|And.intro @yg<|And.intro @yh<|And.intro @yi<|
 And.intro @yj<|And.intro @yl<|And.intro @ym<|And.intro @yn<|And.intro @yo<|And.intro @yp<|And.intro @yq<|And.intro @yr<|And.intro @yt<|And.intro @yu<|And.intro @yv<|And.intro @yw<|And.intro @yx<|And.intro @yy<|And.intro @yz<|
 And.intro @yA<|And.intro @yB<|And.intro @yC<|And.intro @yD<|And.intro @yE<|And.intro @yF<|And.intro @wS<|And.intro @wT<|And.intro @wU<|
 And.intro @List.set_cons_succ.{0}<|And.intro @List.set_cons_zero.{0}<|And.intro @List.getD_cons_succ.{0}<|And.intro @List.getD_cons_zero.{0}<|And.intro @Option.map_some.{0,0}<|And.intro @Option.map_none.{0,0}<|And.intro @List.map_nil.{0,0}<|And.intro @List.map_cons.{0,0}<|And.intro @List.contains_nil.{0}<|
 And.intro @List.getElem?_cons_succ.{0}<|And.intro @List.getElem?_cons_zero.{0}<|And.intro @List.length_map.{0,0}<|And.intro @List.drop_succ_cons.{0}<|And.intro @List.drop_zero.{0}<|And.intro @List.take_succ_cons.{0}<|And.intro @List.take_zero.{0}<|And.intro @List.length_cons.{0}<|And.intro @List.length_nil.{0}<|
 And.intro @if_true.{0}<|And.intro @if_false.{0}<|And.intro @Bool.not_true<|And.intro @Bool.not_false<|And.intro @Option.getD_none.{0}<|And.intro @Option.getD_some.{0}<|And.intro @List.cons_append.{0}<|And.intro @List.nil_append.{0}<|And.intro @and_self<|And.intro @and_true @true_and):=
 And.intro @x6<|And.intro @xp<|And.intro @xq<|And.intro @xr<|And.intro @xt<|And.intro @xu<|And.intro @xv<|And.intro @xw<|And.intro @xx<|And.intro @xy<|And.intro @xA<|And.intro @xB<|And.intro @xC<|And.intro @Bool.or_false<|And.intro @x7<|And.intro @x8<|And.intro @vr<|And.intro @xM<|And.intro @xN<|And.intro @xK<|And.intro @xL<|And.intro @xO<|And.intro @xP<|And.intro @xQ<|And.intro @xR<|And.intro @xS<|And.intro @xT<|And.intro @xU<|And.intro @xV<|And.intro @xW<|And.intro @xX<|And.intro @xY<|And.intro @xZ<|And.intro @x4<|And.intro @x5<|
 And.intro @vx<|And.intro @vy<|And.intro @vz<|And.intro @vA<|And.intro @vB<|And.intro @vC<|And.intro @vD<|And.intro @vE<|And.intro @vF<|And.intro @vG<|And.intro @vH<|And.intro @vI<|And.intro @vJ<|
 And.intro @vK<|And.intro @vL<|And.intro @vM<|And.intro @vN<|And.intro @vO<|And.intro @vP<|And.intro @vQ<|And.intro @vR<|And.intro @vS<|And.intro @vU<|And.intro @vV<|And.intro @vW<|
 And.intro @xc<|And.intro @xd<|And.intro @xe<|And.intro @vX<|And.intro @vY<|And.intro @vZ<|And.intro @v7<|And.intro @v8<|And.intro @v_<|And.intro @wa<|And.intro @wb<|And.intro @wc<|And.intro @wg<|
 And.intro @wh<|And.intro @wi<|And.intro @wj<|And.intro @wk<|And.intro @wl<|And.intro @wm<|And.intro @wo<|And.intro @wq<|And.intro @wu<|And.intro @wv<|And.intro @ww<|And.intro @wx<|And.intro @wy<|
 And.intro @wz<|And.intro @wA<|And.intro @wB<|And.intro @wC<|And.intro @wD<|And.intro @o_load<|And.intro @wE<|And.intro @wF<|And.intro @wG<|And.intro @wH<|And.intro @wI<|And.intro @wJ<|And.intro @wK<|
 And.intro @wL<|And.intro @wM<|And.intro @wN<|And.intro @wO<|And.intro @min2<|And.intro @max2<|And.intro @wR<|And.intro @wV<|And.intro @wW<|And.intro @wX<|And.intro @wY<|And.intro @wZ<|
 And.intro @w9<|And.intro @w_<|And.intro @xa<|And.intro @xf<|And.intro @xg<|And.intro @xh<|And.intro @xi<|And.intro @xj<|And.intro @xk<|And.intro @xD<|And.intro @xE<|And.intro @xF<|And.intro @xG<|
 And.intro @xH<|And.intro @x9<|And.intro @x_<|And.intro @ya<|And.intro @yb<|And.intro @yc<|And.intro @yd<|And.intro @ye<|And.intro @yf<|And.intro @yg<|And.intro @yh<|And.intro @yi<|
 And.intro @yj<|And.intro @yl<|And.intro @ym<|And.intro @yn<|And.intro @yo<|And.intro @yp<|And.intro @yq<|And.intro @yr<|And.intro @yt<|And.intro @yu<|And.intro @yv<|And.intro @yw<|And.intro @yx<|And.intro @yy<|And.intro @yz<|
 And.intro @yA<|And.intro @yB<|And.intro @yC<|And.intro @yD<|And.intro @yE<|And.intro @yF<|And.intro @wS<|And.intro @wT<|And.intro @wU<|
 And.intro @List.set_cons_succ.{0}<|And.intro @List.set_cons_zero.{0}<|And.intro @List.getD_cons_succ.{0}<|And.intro @List.getD_cons_zero.{0}<|And.intro @Option.map_some.{0,0}<|And.intro @Option.map_none.{0,0}<|And.intro @List.map_nil.{0,0}<|And.intro @List.map_cons.{0,0}<|And.intro @List.contains_nil.{0}<|
 And.intro @List.getElem?_cons_succ.{0}<|And.intro @List.getElem?_cons_zero.{0}<|And.intro @List.length_map.{0,0}<|And.intro @List.drop_succ_cons.{0}<|And.intro @List.drop_zero.{0}<|And.intro @List.take_succ_cons.{0}<|And.intro @List.take_zero.{0}<|And.intro @List.length_cons.{0}<|And.intro @List.length_nil.{0}<|
 And.intro @if_true.{0}<|And.intro @if_false.{0}<|And.intro @Bool.not_true<|And.intro @Bool.not_false<|And.intro @Option.getD_none.{0}<|And.intro @Option.getD_some.{0}<|And.intro @List.cons_append.{0}<|And.intro @List.nil_append.{0}<|And.intro @and_self<|And.intro @and_true @true_and
end Go.VS
namespace Go.VS
def jT:List (Nat×List Nat)→Nat→List Nat
 |[],_=>[]
 |(a,l)::t,i=>if i=a then l else jT t i
def mV:List Nat→Nat→Bool
 |[],_=>true
 |a::t,i=>if i=a then false else mV t i
theorem yG: ∀(ls:List Nat) (i:Nat),(!ls.contains i)=mV ls i
 |[],_=>rfl
 |a::t,i=>by
  have:=yG t i;unfold mV;by_cases h:i=a
  ·simp [h]
  ·rw [if_neg h,←this];simp [h]
theorem CV {f:Nat→List Nat}: ∀(jo:List (Nat×List Nat)) (_:jo.all (fun p=>f p.1==p.2)=true) (_: ∀i,i∉jo.map (·.1)→f i=[]) (i:Nat),f i=jT jo i
 |[],_,h,i=>h i (by simp)
 |(a,l)::t,h1,h2,i=>by
  simp only [List.all_cons,Bool.and_eq_true,beq_iff_eq] at h1;unfold jT;by_cases h:i=a
  ·rw [if_pos h,h];exact h1.1
  ·rw [if_neg h];by_cases hm:i∈t.map (·.1)
   ·clear h2;have go: ∀(t:List (Nat×List Nat)),t.all (fun p=>f p.1==p.2)=true→i∈t.map (·.1)→f i=jT t i:=by
     intro t;induction t with
     |nil=>intro _ hm;simp at hm
     |cons p t ih=>
      intro h1 hm;simp only [List.all_cons,Bool.and_eq_true,beq_iff_eq] at h1;obtain ⟨a,l⟩:=p;unfold jT;by_cases h:i=a
      ·rw [if_pos h,h];exact h1.1
      ·rw [if_neg h];exact ih h1.2 (by simpa [h] using hm)
    exact go t h1.2 hm
   ·have e:f i=[]:=h2 i (by simp only [List.map_cons,List.mem_cons,not_or];exact ⟨h,hm⟩)
    rw [e];clear h1 h2;induction t with
    |nil=>rfl
    |cons p t ih=>
     obtain ⟨b,m⟩:=p;simp only [List.map_cons,List.mem_cons,not_or] at hm;unfold jT;rw [if_neg hm.1];exact ih hm.2
section
variable {C:aJ} {s:ah} {H:J} {K:Ex→ah→J→Prop}
theorem FF (gC:Good C) {id:Nat} {ops:List Oper} {ls th:List Nat} {fz:List (Nat×List (List Nat×List Sh))} (jo:List (Nat×List Nat)) (hd:jv ops.toArray ls=true) (h1:jo.map (·.1)=ls) (h2:jo.all (fun p=>gF ops.toArray ls p.1==p.2)=true)
 (h:eU C (jP K) (eI ops (mV ls) (jT jo) th ops 0) s H):aH (aq C) C (.region id ops.toArray true ls th fz) s H K:=by
 refine vp gC hd ?_;have e1:(fun i=> !ls.contains i)=mV ls:=funext (yG ls);have e2:gF ops.toArray ls=jT jo:=funext (CV jo h2 (fun i hi=>by
  unfold gF;rw [h1] at hi;rw [if_neg (by simpa using hi)]))
 rw [e1,e2];exact h
end
theorem FG {C:aJ} {K:ah→J→Prop} {d:Option Tmp} {l:List (Op×Option Tmp)} {rest:List GO} {s:ah} {v:AV} {H:J} (h:eH C (bw s d v) H (gx C K d [] rest s v H) l):gx C K d l rest s v H:=h
theorem FH {C:aJ} {s:ah} {H:J} {P:Prop} {op:Op} {t:Tmp} {js:List (Op×Option Tmp)} (h1:fJ C.E op s H=some (s.getD t .undef,H)) (h:eH C s H P js):eH C s H P ((op,some t)::js):=⟨⟨t,rfl,h1⟩,h⟩
theorem FI {C:aJ} {s:ah} {H:J} {P:Prop} (h:P):eH C s H P []:=h
theorem CW {x:Int} (h: -9223372036854775808≤x∧x≤9223372036854775807):IntKind.i64.wrap x=x:=IntWalk.i64_in x (by omega)
end Go.VS
namespace Go.VS
section
variable {C:aJ} {H:J} {L:List It}
theorem FJ (π :List Nat) (l:List Oper):nj π l= π.map (fun i=>fT π (l.getD i default)):=rfl
theorem FK (π :List Nat) (o:Oper):(fT π o).dst=o.dst:=rfl
theorem FL (π :List Nat) (o:Oper):(fT π o).op=o.op:=rfl
theorem FM (π :List Nat) (o:Oper):(fT π o).guard=o.guard.map (fun p=>(dB π p.1,p.2)):=rfl
theorem FN (a:Nat) (l:List Nat) (i:Nat):dB (a::l) i=if a=i then 0 else dB l i+1:=by
 unfold dB;rw [List.idxOf_cons];by_cases h:a=i
 ·simp [h]
 ·have:(a==i)=false:=by simpa using h
  simp [h,this]
theorem FO (f:AV→Option AV):([]:List AV).mapM f=some []:=rfl
theorem CX {f:AV→Option AV} {c y:AV} {cs ys:List AV} (h1:f c=some y) (h2:cs.mapM f=some ys):(c::cs).mapM f=some (y::ys):=by
 simp [List.mapM_cons,h1,h2]
theorem yH {f:AV→Option AV}: ∀(cs:List AV),(∀c∈cs,f c=some c)→cs.mapM f=some cs
 |[],_=>rfl
 |c::cs,h=>CX (h c (by simp)) (yH cs fun d hd=>h d (by simp [hd]))
theorem FP {n:Nat} {cs ys:List AV} (h:cs.mapM (aY n H)=some ys):aY (n+1) H (.agg cs)=some (.agg ys):=by
 simp only [aY,h,Option.map_some]
theorem FQ {α :Type} {n:Nat} (hS:aA H L) (j:Nat) {v:AV} {sz:Nat} {l:List α} {c: α →AV} (hj:L[j]? =some ⟨v,sz,l.map c⟩) (hp:bj v) (hc: ∀x,aY n H (c x)=some (c x)):aY (n+1) H v=some (.fz (l.map c)):=by
 obtain ⟨k0,af⟩:=hS.ok j _ hj;simp only at af;rcases hp.ok with rfl|rfl|⟨id,ad,off,len,rfl⟩
 ·simp only at af;simp only [aY,af]
 ·simp only at af;simp only [aY,af]
 ·simp only at af;obtain ⟨k1,b,hb,k2,k3,k4,k5⟩:=af;simp only [aY,hb];rw [if_pos k4,k5,yH (l.map c) (by
   intro d hd;obtain ⟨x,_,rfl⟩:=List.mem_map.1 hd;exact hc x),Option.map_some]
theorem FT {n o:Nat} (hS:aA H L) (j:Nat) {id ad sz:Nat} {a y:AV} (hj:L[j]? =some ⟨.ptr id ad 0 0,sz,[a]⟩) (h:aY n H a=some y):aY (n+1) H (.ptr id ad 0 o)=some (.fe y o):=by
 simp only [aY,hS.var j hj,List.getElem?_cons_zero,h,Option.map_some]
theorem FU:cg [] [] H=some ([],false):=rfl
theorem FW {v y:AV} {vs ys:List AV} {b:Bool} (h1:aY 8 H v=some y) (h2:cg [] vs H=some (ys,b)):cg [] (v::vs) H=some (y::ys,fI v||b):=by
 simp only [cg,h1,h2]
def TV (bS:List (List Sh)) (rs:List AV) (H:J) (K:List AV→Prop):Prop:= ∃zs H',dr bS rs H=some (zs,H')∧K zs
theorem FX {bS:List (List Sh)} {K:List AV→Prop} (h:K []):TV bS [] H K:=⟨[],H,rfl,h⟩
theorem rV {e:List Sh} {bS:List (List Sh)} {v y:AV} {rs:List AV} {H1:J} {K:List AV→Prop} (ht:a8 e v H=some (y,H1)) (h:TV bS rs H1 fun zs=>K (y::zs)):TV (e::bS) (v::rs) H K:=by
 obtain ⟨zs,H',h1,h2⟩:=h;exact ⟨y::zs,H',by simp only [dr,List.headD_cons,List.tail_cons,ht,h1],h2⟩
theorem CY {v:AV} (hp:dT v=true) (H:J):a8 [.sc] v H=some (v,H):=by
 cases v<;>simp [dT] at hp<;>simp [a8,aT,dT]
theorem FY {bS:List (List Sh)} {v:AV} {rs:List AV} {K:List AV→Prop} (hp:dT v=true) (h:TV bS rs H fun zs=>K (v::zs)):TV ([.sc]::bS) (v::rs) H K:=
 rV (CY hp H) h
theorem F0 {α :Type} {bS:List (List Sh)} {es:List Sh} {v:AV} {rs:List AV} {K:List AV→Prop} {m:List α} {c: α →AV} (j:Nat) (hS:aA H L) (hj:L[j]? =some ⟨v,es.length,m.map c⟩) (hp:bj v) (hc: ∀x H,a8 es (c x) H=some (c x,H))
 (h: ∀H',aA H' (L.eraseIdx j)→TV bS rs H' fun zs=>K (.own es.length (m.map c)::zs)):TV ([.sl es]::bS) (v::rs) H K:=by
 obtain ⟨H',h1,h2⟩:=hS.take j hj hp hc;exact rV h1 (h H' h2)
theorem F1 {bS:List (List Sh)} {es:List Sh} {cs:List AV} {rs:List AV} {K:List AV→Prop} (h:TC es cs H fun ys H' =>TV bS rs H' fun zs=>K (.agg ys::zs)):TV (es::bS) (.agg cs::rs) H K:=by
 obtain ⟨ys,H',h1,h2⟩:=h;exact rV (by simp only [a8,h1]) h2
theorem F2 {bS:List (List Sh)} {rs:List AV} {y v:AV} (hv:v=ci rs) (h:TV bS rs H fun zs=>y=ci zs): ∃rs zs L2,v=ci rs∧dr bS rs H=some (zs,L2)∧y=ci zs:=by
 obtain ⟨zs,H',h1,h2⟩:=h;exact ⟨rs,zs,H',hv,h1,h2⟩
def TH (ys:List AV) (H:J) (K:List AV→J→Prop):Prop:=K (aM ys H).1 (aM ys H).2
theorem F3 {K:List AV→J→Prop} (h:K [] H):TH [] H K:=h
theorem yI {α :Type} {c: α →AV} (hc: ∀x H,aL (c x) H=(c x,H)): ∀(l:List α) (H:J),aM (l.map c) H=(l.map c,H)
 |[],_=>rfl
 |x::l,H=>by simp only [List.map_cons,aM,hc x H,yI hc l H]
theorem F4 {α :Type} {sz:Nat} {m:List α} {c: α →AV} {ys:List AV} {K:List AV→J→Prop} (hS:aA H L) (hc: ∀x H,aL (c x) H=(c x,H)) (hz: ∀x,(c x).cells.length=sz)
 (h: ∀v H',bj v→aA H' (⟨v,sz,m.map c⟩::L)→TH ys H' fun zs jH=>K (v::zs) jH):TH (.own sz (m.map c)::ys) H K:=by
 have hs:bD sz (m.map c)=true:=by simp [bD,hz]
 have:=h _ _ (fE H.bs.length H.st 0 (m.map c).length) (hS.kG (all:=m.map c) (List.take_of_length_le (Nat.le_refl _)) rfl hs);unfold TH at this⊢;simp only [aM,aL,yI hc m H];exact this
theorem F5 {y:AV} {K:AV→J→Prop} (h:TH [y] H fun zs H' =>K (zs.headD .undef) H'):K (aL y H).1 (aL y H).2:=by
 unfold TH at h;simp only [aM] at h;exact h
variable {q th:Bool} {K:AV→J→Prop}
theorem F6 {α β :Type} {g:FuncId} {bP args ys:List AV} {b6:Bool} {o:Option α} {f: α →Option β} {r: β} {bS:List (List Sh)} (h:o.bind f=some r) (hr:(C.fU g).bS=bS) (hp:cg [] (args ++ bP) H=some (ys,b6))
 (hk: ∀x,o=some x→f x=some r→ ∃y,aq C g ys ⟨0,[]⟩ (fun v L=> ∃rs zs L2,v=ci rs∧dr bS rs L=some (zs,L2)∧y=ci zs)∧(cZ y=true∧bE y=y∧ ∀H,aL y H=(y,H))∧K y H):kI C q th (.fn g bP) args H K:=by
 refine oU h hr hp fun x hx hf=> ?_;obtain ⟨y,h1,⟨h2,h3,h4⟩,h5⟩:=hk x hx hf;refine ⟨y,h1,.inr h2,?_⟩;rw [h3,h4 H];split<;>exact h5
theorem F7 {α β :Type} {g:FuncId} {bP args ys:List AV} {b6:Bool} {o:Option α} {f: α →Option β} {r: β} {bS:List (List Sh)} (h:o.bind f=some r) (hr:(C.fU g).bS=bS) (hp:cg [] (args ++ bP) H=some (ys,b6))
 (hk: ∀x,o=some x→f x=some r→ ∃y,aq C g ys ⟨0,[]⟩ (fun v L=> ∃rs zs L2,v=ci rs∧dr bS rs L=some (zs,L2)∧y=ci zs)∧cZ y=true∧K (aL y H).1 (aL y H).2):kI C q true (.fn g bP) args H K:=by
 refine oU h hr hp fun x hx hf=> ?_;obtain ⟨y,h1,h2,h5⟩:=hk x hx hf;refine ⟨y,h1,.inr h2,?_⟩;simpa using h5
theorem F8 {α β :Type} {g:FuncId} {bP args ys:List AV} {o:Option α} {f: α →Option β} {r: β} {bS:List (List Sh)} (h:o.bind f=some r) (hr:(C.fU g).bS=bS) (hp:cg [] (args ++ bP) H=some (ys,false))
 (hk: ∀x,o=some x→f x=some r→ ∃y,aq C g ys ⟨0,[]⟩ (fun v L=> ∃rs zs L2,v=ci rs∧dr bS rs L=some (zs,L2)∧y=ci zs)∧K (bE y) H):kI C q false (.fn g bP) args H K:=by
 refine oU h hr hp fun x hx hf=> ?_;obtain ⟨y,h1,h5⟩:=hk x hx hf;exact ⟨y,h1,.inl rfl,h5⟩
theorem F9 {α β :Type} {g:FuncId} {bP args ys:List AV} {o:Option α} {f: α →Option β} {r: β} {bS:List (List Sh)} (h:o.bind f=some r) (hr:(C.fU g).bS=bS) (hp:cg [] (args ++ bP) H=some (ys,false))
 (hk: ∀x,o=some x→f x=some r→ ∃y,aq C g ys ⟨0,[]⟩ (fun v L=> ∃rs zs L2,v=ci rs∧dr bS rs L=some (zs,L2)∧y=ci zs)∧K (aL y H).1 (aL y H).2):kI C q true (.fn g bP) args H K:=by
 refine oU h hr hp fun x hx hf=> ?_;obtain ⟨y,h1,h5⟩:=hk x hx hf;exact ⟨y,h1,.inl rfl,h5⟩
theorem yJ {α :Type} {c: α →AV} (hc: ∀x,cZ (c x)=true): ∀(l:List α),hI (l.map c)=true
 |[]=>rfl
 |x::l=>by simp only [List.map_cons,hI,hc x,yJ hc l,Bool.and_self]
theorem Ga {α :Type} {c: α →AV} (sz:Nat) (hc: ∀x,cZ (c x)=true) (l:List α):cZ (.own sz (l.map c))=true:=by
 simp only [cZ];exact yJ hc l
end
end Go.VS
namespace Go.VS
def yK (t b:TypeId):Code:=
 (Go.Code.seq
  (Go.Code.region 0 #[{dst:=some 2,op:=Go.Op.assign (Go.Operand.const (Go.Value.slice none 0 0)),type:=t,pos:= "slices.go:355",after:= #[],guard:=none}] false)
  (Go.Code.seq
   (Go.Code.seq
    (Go.Code.region 1
     #[{dst:=some 3,op:=Go.Op.move (Go.Operand.tmp 0),type:=t,pos:= "slices.go:357",after:= #[],guard:=none},
      {dst:=some 4,op:=Go.Op.binOp Go.BinOp.eql t (Go.Operand.tmp 3) (Go.Operand.const (Go.Value.slice none 0 0)) t,type:=b,pos:= "slices.go:357",after:= #[{on:=0,ground:=Go.Ground.data}],guard:=none}]
     false)
    (Go.Code.cond (Go.Operand.tmp 4)
     (Go.Code.seq
      (Go.Code.region 2 #[{dst:=some 2,op:=Go.Op.assign (Go.Operand.const (Go.Value.slice none 0 0)),type:=t,pos:= "slices.go:358",after:= #[],guard:=none}] false)
      Go.Code.ret)
     Go.Code.skip))
   (Go.Code.seq
    (Go.Code.region 3
     #[{dst:=some 5,op:=Go.Op.buildSlice t 0 #[],type:=t,pos:= "slices.go:362",after:= #[],guard:=none},
      {dst:=some 6,op:=Go.Op.move (Go.Operand.tmp 0),type:=t,pos:= "slices.go:362",after:= #[],guard:=none},
      {dst:=some 7,op:=Go.Op.call {callee:=Go.Callee.builtin Go.Builtin.append,args:= #[Go.Operand.tmp 5,Go.Operand.tmp 6],argTypes:= #[t,t]},type:=t,pos:= "slices.go:362",after:= #[{on:=0,ground:=Go.Ground.data},{on:=1,ground:=Go.Ground.data}],guard:=none},
      {dst:=some 2,op:=Go.Op.assign (Go.Operand.tmp 7),type:=t,pos:= "slices.go:362",after:= #[{on:=2,ground:=Go.Ground.data},{on:=2,ground:=Go.Ground.chain},{on:=0,ground:=Go.Ground.phase},{on:=1,ground:=Go.Ground.phase},{on:=2,ground:=Go.Ground.phase}],guard:=none}]
     false)
    Go.Code.ret)))
def lH:bK:=fun _ _ _ _=>False
def iG (E:aK):aJ:=⟨E,fun _=>{},fun _=>none,lH⟩
theorem CZ {w:World} {H:J} {φ :ag} {A:aj} {xs:List AV} {v:Value} (h:R w H φ A (.fz xs) v): ∃a cap,v= .slice a xs.length cap:=by
 cases h.ei with
 |c8 a cap=>exact ⟨a,cap,rfl⟩
 |fz _ c off cap n arr T fr=>exact ⟨_,_,rfl⟩
theorem C0 {P:Program} {w:World} {t e:TypeId} {a:Option Addr} {n cap:Nat} (h:(underlying t).run P w= .ok (.slice e) w) (d:Nat): ∃b,(Op.equalIn (d+1) t (.slice a n cap) (.slice none 0 0)).run P w= .ok b w∧(b=true→a=none):=by
 cases a with
 |none=>exact ⟨true,by simp [Op.equalIn,h],fun _=>rfl⟩
 |some a=>exact ⟨false,sH h d,by simp⟩
theorem C1: ∀c:Code,cT {} c=true:=by
 intro c;induction c with
 |seq a b gW fQ=>simp [cT,gW,fQ]
 |cond c a b gW fQ=>simp [cT,gW,fQ]
 |block id a ih=>simp [cT,ih]
 |loop a ih=>simp [cT,ih]
 |region id ops draw=>simp [cT]
 |_=>simp [cT]
section
variable {P:Program} {E:aK}
theorem C2 (hm:P.follows .mixedOrders=true) (hE: ∀t ti,E t=some ti→aU P t ti) {f:FuncId} {fn:Func} {t b e:TypeId} {ti te:TI} (hf:P.funcs[f]? =some fn) (rq:(fn.name== "runtime.NumGoroutine")=false)
 (hb:fn.body=some (yK t b)) (hr:fn.results= #[.tmp 2]) (hn:fn.ntmps=8) (ht:E t=some ti) (hu:ti.aw= .sl e) (he:E e=some te) (xs:List AV) (H:J) (hz:bD te.sz xs=true) (h0:te.sz≠0) (eG:roomy xs.length te.bytes=true):
 b_ P f [.fz xs] H (fun v H' =>v=(if xs=[] then .e0 else .ref H.bs.length H.st 0 xs.length)∧H' =(if xs=[] then H else H.new te.sz false xs)):=by
 have dM:Exact lH:=fun _ _ _ _ h=>h.elim;have hX: ∀f ys H K,lH f ys H K→b_ P f ys H K:=fun _ _ _ _ h=>h.elim;have hD:mB P (iG E) lH:=vf (C:=iG E) dM hm hE hX;have mW:=fun (c:Code) s H K Q w φ A a h=>uM (P:=P) (C:=iG E) (X:=lH) hm hE hX hD {} c 0 s H K Q w φ A a (C1 c) h;refine ⟨⟨fn,hf,rq,by simp [hb]⟩,fun w A φ us ae hl b8=> ?_⟩
 refine calls_of_wp hf hb ?_;rw [hn];obtain ⟨v,rfl⟩: ∃v,us= #[v]:=by
  match us,hl with
  |⟨[v]⟩,_=>exact ⟨v,rfl⟩
 have hv:R w H φ A (.fz xs) v:=b8 0 _ _ rfl rfl;have e9:SF w H φ A [.fz xs,.undef,.undef,.undef,.undef,.undef,.undef,.undef] {tmps:= #[v] ++ Array.replicate (8-1) undef,defers:=[]}:=by
  refine ⟨rfl,fun i x u hx hu=> ?_,rfl⟩
  match i with
  |0=>simp at hx hu;subst hx;subst hu;exact hv
  |i+1=>
   have:x= .undef:=by
    match i with
    |0|1|2|3|4|5|6=>simpa using hx.symm
    |i+7=>simp at hx
   subst this;exact .fr _ _ (.undef _)
 have fin: ∀(s' :ah) (H' :J) (ak:ag) (A' :aj) (a' :Act) (w' :World) (x:AV),Out w H φ A w' H' ak A' →SF w' H' ak A' s' a' →s'.getD 2 .undef=x→(∀u,R w' H' ak A' x u→ ∃y,R w' H' ak A' y u∧(y=(if xs=[] then .e0 else .ref H.bs.length H.st 0 xs.length)∧H' =(if xs=[] then H else H.new te.sz false xs)))→
  a'.defers=[]∧ ∃v,(results fn a'.tmps).run P w' = .ok v w' ∧jI w H φ A (fun v H' =>v=(if xs=[] then .e0 else .ref H.bs.length H.st 0 xs.length)∧H' =(if xs=[] then H else H.new te.sz false xs)) (.returned v) w' :=by
  intro s' H' ak A' a' w' x h1 h2 hx hy
  refine ⟨h2.fA,?_⟩;obtain ⟨cR,k1,k2,k3⟩:=uN (P:=P) (C:=iG E) hE h1.st h2 (fn:=fn) (rs:=[x]) (by rw [hr];simp only [ef,hx,Option.map_some])
  obtain ⟨u,rfl⟩: ∃u,cR=[u]:=by
   match cR,k2 with
   |[u],_=>exact ⟨u,rfl⟩
  obtain ⟨y,C3,C4⟩:=hy u (k3 0 x u rfl rfl);exact ⟨_,k1,y,H',ak,A',h1,by simpa [iZ] using C3,C4⟩
 refine wp_seq (mW _ _ H (fun e s1 H1=>e= .normal∧s1=[.fz xs,.undef,.nil,.undef,.undef,.undef,.undef,.undef]∧H1=H) _ w φ A _ ?_ ae e9 ?_)
 ·simp [cN,kW,jt,gD,aH,c7,de,wpOp,et,aQ,ev,ofValue,bw,iG]
 rintro e1 s1 H1 φ1 A1 a1 w1 o1 cJ ⟨rfl,rfl,rfl⟩;show (Code.seq _ _).wp P _ a1 w1;have kD:=o1.st;refine wp_seq (wp_seq (wp_region_list ?_));simp only [wpList];rw [if_pos (by simp [Region.wanted])]
 refine .inl (nX (C:=iG E) (X:=lH) hE hX kD (s:=[.fz xs,.undef,.nil,.undef,.undef,.undef,.undef,.undef]) (fun x _=>cJ.ev x) (th:=false) (K:=fun x H' =>x= .fz xs∧H' =H1) (by simp [wpOp,et,aQ,ev]) ?_)
 rintro x3 v3 w3 H3 cX A3 o3 rW ⟨rfl,rfl⟩;have rj:=(cJ.mono o3.bF).set (some 3) rW;have mK:=o3.st;rw [if_pos (by simp [Region.wanted])]
 have C5:(a1.put (some 3) v3).eval (.tmp 3)=v3:=by
  have:a1.tmps.size=8:=by have:=cJ.len;simpa using this.symm
  simp [Act.eval,Act.put,this]
 obtain ⟨a0,cap,rfl⟩:=CZ rW;obtain ⟨bb,n5,C6⟩:=C0 (a:=a0) (n:=xs.length) (cap:=cap) ((hE t ti ht).sl w3 hu) 9999;have C7:cz w3 H3 cX A3 H3 ((execOp (a1.put (some 3) (.slice a0 xs.length cap)).eval {dst:=some 4,op:=Go.Op.binOp Go.BinOp.eql t (Go.Operand.tmp 3) (Go.Operand.const (Go.Value.slice none 0 0)) t,type:=b,pos:= "slices.go:357",after:= #[{on:=0,ground:=Go.Ground.data}],guard:=none}).run P w3) (.bool bb):=by
  have hg:=jx P w3 .eql t (.tmp 3) (.const (.slice none 0 0)) (.slice a0 xs.length cap) (.slice none 0 0) (by simp) rfl
  have C8:binOp .eql t (.slice a0 xs.length cap) (.slice none 0 0)=(do pure (.bool (←Op.equal t (.slice a0 xs.length cap) (.slice none 0 0)))):=rfl
  rw [←pL] at n5;refine cz.ml mK (.inl rfl) (bn.gp mK ⟨.bool bb,?_,.fr _ _ (.bool _)⟩);rw [C5];show (do eqGuard .eql t (.tmp 3) (.const (.slice none 0 0)) (.slice a0 xs.length cap) (.slice none 0 0);binOp .eql t (.slice a0 xs.length cap) (.slice none 0 0):Sem Value).run P w3=_
  simp [hg,C8,n5]
 refine .inl (C7.upon fun v4 w4 od A4 o4 C9=> ?_);have yL:=(rj.mono o4.bF).set (some 4) C9;have rX:=o4.st;have yM:Out w H3 φ A w4 H3 od A4:=o1.trans ae (o3.trans kD (o4.trans mK (.refl rX)));simp only [bw,List.set_cons_succ,List.set_cons_zero] at yL;simp only [Exit.then];refine mW _ [.fz xs,.undef,.nil,.fz xs,.bool bb,.undef,.undef,.undef] H3 (fun e s' H' =>H' =H3∧if bb=true then e= .ret∧s' =[.fz xs,.undef,.nil,.fz xs,.bool bb,.undef,.undef,.undef] else e= .normal∧s' =[.fz xs,.undef,.nil,.fz xs,.bool bb,.undef,.undef,.undef]) _ w4 od A4 _ ?_ rX yL ?_
 ·cases bb
  ·simp [cN,h_,ni,aH,ev,iG]
  ·simp [cN,h_,ni,kW,jt,gD,aH,c7,de,wpOp,et,aQ,ev,ofValue,bw,iG];exact ⟨_,_,⟨rfl,rfl⟩,rfl,rfl⟩
 rintro e5 s5 H5 rk A5 a5 w5 o5 yN ⟨rfl,oX⟩;cases bb with
 |true=>
  simp only [if_true] at oX;obtain ⟨rfl,rfl⟩:=oX;obtain rfl:=C6 rfl;have eD:xs=[]:=by
   cases Gb:rW.ei with
   |c8=>rfl
  subst eD;show (bodyPost P fn _) .ret a5 w5;refine fin _ _ _ _ _ _ .nil (yM.trans ae o5) yN rfl fun u hu=>⟨.e0,?_,by simp⟩
  have:=hu.du;subst this;exact .fr _ _ (.e0 none)
 |false=>
  simp only [Bool.false_eq_true,if_false] at oX;obtain ⟨rfl,rfl⟩:=oX;show (Code.seq _ _).wp P _ a5 w5;refine mW _ [.fz xs,.undef,.nil,.fz xs,.bool false,.undef,.undef,.undef] H5 (fun e s' H' =>e= .ret∧s'.getD 2 .undef=(if xs=[] then .e0 else .ref H5.bs.length H5.st 0 xs.length)∧H' =(if xs=[] then H5 else H5.new te.sz false xs)) _ w5 rk A5 a5 ?_ o5.st yN ?_
  ·by_cases eD:xs=[]
   ·subst eD;simp [cN,h_,kW,jt,gD,aH,c7,de,wpOp,et,aQ,ev,bw,iG,cD,ht,hu,he,cS,ec,cC,bD,h0];refine ⟨_,_,⟨rfl,rfl⟩,_,_,⟨rfl,rfl⟩,_,_,⟨rfl,rfl⟩,?_⟩;simp
   ·have hlen: ¬xs.length=0:=by simpa using eD
    simp [cN,h_,kW,jt,gD,aH,c7,de,wpOp,et,aQ,ev,bw,iG,cD,ht,hu,he,cS,ec,cC,h0,eD];refine ⟨_,_,⟨rfl,rfl⟩,_,_,⟨rfl,rfl⟩,_,_,⟨rfl,rfl⟩,?_⟩;simp [hz,eG,eD]
  ·rintro e6 s6 H6 Gc A6 a6 w6 o6 C_ ⟨rfl,Da,rfl⟩;show (bodyPost P fn _) .ret a6 w6;exact fin _ _ _ _ _ _ _ (yM.trans ae (o5.trans rX o6)) C_ Da fun u hu=>⟨_,hu,rfl,rfl⟩
def Gd (ids:List (FuncId×Nat×Nat)):bK:=fun f ys H K=> ∃sz b xs,(f,sz,b)∈ids∧ys=[.fz xs]∧bD sz xs=true∧sz≠0∧roomy xs.length b=true∧K (if xs=[] then .e0 else .ref H.bs.length H.st 0 xs.length) (if xs=[] then H else H.new sz false xs)
structure yO (P:Program) (E:aK) (f:FuncId) (sz b:Nat):Prop where
 out: ∃fn t bt e ti te,P.funcs[f]? =some fn∧(fn.name== "runtime.NumGoroutine")=false∧fn.body=some (yK t bt)∧fn.results= #[.tmp 2]∧fn.ntmps=8∧E t=some ti∧ti.aw= .sl e∧E e=some te∧te.sz=sz∧te.bytes=b
end
theorem Ge {E:aK} {s:ah} {H:J} {L:List It} {γ :Type} {l:List γ} {c: γ →AV} {t:TypeId} {x:Operand} {ti:TI} {e:TypeId} (j:Nat) (hS:aA H L) {v w:AV} {sz:Nat} (hj:L[j]? =some ⟨v,sz,l.map c⟩) (hp:bj v)
 (ht:E t=some ti) (hu:ti.aw= .sl e) (hx:ev s x=v) (hw:w= .int .i64 l.length):fJ E (.call {callee:= .builtin .len,args:= #[x],argTypes:= #[t]}) s H=some (w,H):=by
 subst hx hw;have h1:(some t).bind E=some ti:=ht;have h2:=hS.len j hj hp;rw [List.length_map] at h2;simp only [fJ,List.map_cons,List.map_nil,cS,List.getElem?_toArray,List.getElem?_cons_zero,h1,h2,hu];rcases hp.ok with h|h|⟨_,_,_,_,h⟩<;>rw [h]
theorem Gf {E:aK} {s:ah} {H:J} {L:List It} {α β :Type} {t:TypeId} {x i:Operand} {ti te:TI} {e:TypeId} (j:Nat) (hS:aA H L) {v w:AV} {l:List α} {c: α →AV} {sz:Nat} (hj:L[j]? =some ⟨v,sz,l.map c⟩)
 (ht:E t=some ti) (hu:ti.aw= .sl e) (he:E e=some te) (aC:sz=te.sz) {k:IntKind} {n:Int} {l0:List β} {y: β} {id ad off:Nat} (hv:v= .ref id ad off l0.length) (hb:idx l0 n=some y)
 (hx:ev s x=v) (hi:ev s i= .int k n) (hw:w= .ptr id ad (off+n.toNat) 0):fJ E (.indexAddr t x i) s H=some (w,H):=by
 obtain ⟨h0,h2,h1⟩:=lF hb;subst hv;obtain ⟨_,h3,b,hb,h4,_,h5,h6⟩:=hS.ok j _ hj;simp only at h3 h4 h5;simp only [fJ,aQ,ht,hi,hu,he,hx,hb];rw [if_pos ⟨by rw [h4,aC],h0,h2,h5⟩,hw]
theorem Gg {E:aK} {s:ah} {H:J} {L:List It} {α :Type} {t:TypeId} {x:Operand} {ti:TI} (j:Nat) (hS:aA H L) {v w:AV} {l:List α} {c: α →AV} {sz:Nat} (hj:L[j]? =some ⟨v,sz,l.map c⟩)
 (ht:E t=some ti) {n:Int} {y: α} {id ad off k o:Nat} (hv:v= .ref id ad off k) (hb:idx l n=some y)
 (hx:ev s x= .ptr id ad (off+n.toNat) o) (hw:bY ti (c y) o=some w):fJ E (.load t x) s H=some (w,H):=by
 obtain ⟨b,h1,h2⟩:=hS.elem j hj hv hb;simp only [fJ,aQ,ht,hx,h1,h2,hw]
end Go.VS
namespace Go.VS
structure gZ (w:List AV) (n:Nat):Prop where
 len:w.length=n
 sl: ∀a∈w,bj a
def Db {α β :Type} (p: α →List β) (c: β →AV) (z:Nat) (w:List AV) (l:List α):List It:=List.zipWith (fun a x=>⟨a,z,(p x).map c⟩) w l
def Gh {α :Type} (m:AV→ α →AV) (w:List AV) (l:List α):List AV:=List.zipWith m w l
def Gi {α β :Type} (p: α →List β) (c: β →AV) (z:Nat) (w:List AV) (l:List α) (i:Nat):List It:=(Db p c z w l).eraseIdx i
theorem Gj {α :Type} (c: α →AV) (l:List α):CU c l= .fz (l.map c):=rfl
def Dc:List (List It)→List It→List It
 |[],F=>F
 |a::as,F=>a ++ Dc as F
section
variable {H:J} {L F R:List It}
variable {α β :Type} {p: α →List β} {c: β →AV} {z:Nat} {w:List AV} {l:List α} {m:AV→ α →AV} {v:AV} {sz:Nat}
theorem gZ.nil:gZ [] 0:=⟨rfl,by simp⟩
theorem gZ.get (h:gZ w l.length) {i:Int} {b: α} (hi:idx l i=some b): ∃a,w[i.toNat]? =some a∧bj a:=by
 obtain ⟨_,_,h1⟩:=lF hi;have:=(List.getElem?_eq_some_iff.1 h1).1;have hw:i.toNat<w.length:=by rw [h.len];exact this
 exact ⟨_,List.getElem?_eq_getElem hw,h.sl _ (List.getElem_mem hw)⟩
theorem gZ.set (h:gZ w l.length) {a:AV} (ha:bj a) (i:Nat) (y: α):gZ (w.set i a) (l.set i y).length:=by
 refine ⟨by simpa using h.len,fun x hx=> ?_⟩
 rcases List.mem_or_eq_of_mem_set hx with h1|rfl
 ·exact h.sl _ h1
 ·exact ha
theorem gZ.app {w' :List AV} {l' :List α} (h:gZ w l.length) (h' :gZ w' l'.length):gZ (w ++ w') (l ++ l').length:=by
 refine ⟨by simp [h.len,h'.len],fun x hx=> ?_⟩
 rcases List.mem_append.1 hx with h1|h1
 ·exact h.sl _ h1
 ·exact h'.sl _ h1
structure rY (v:AV) (lo n:Nat) (v' :AV):Prop where
 out:(v= .nil∧v' = .nil)∨(v= .e0∧v' = .e0)∨ ∃id ad off len,v= .ref id ad off len∧v' = .ref id ad (off+lo) n
theorem mX {γ :Type} {l m:List γ} {lo hi:Int} (h:cY l lo hi=some m):0≤lo∧lo≤hi∧hi≤l.length∧m=(l.drop lo.toNat).take (hi.toNat-lo.toNat)∧m.length=hi.toNat-lo.toNat:=by
 unfold cY at h;split at h
 ·rename_i hc;simp only [Option.some.injEq] at h;refine ⟨hc.1,hc.2.1,hc.2.2,h.symm,?_⟩;rw [←h,List.length_take,List.length_drop];omega
 ·simp at h
theorem Gk {γ δ :Type} {E:aK} {K:AV→J→Prop} {t e:TypeId} {ti te:TI} {l:List γ} {c: γ →AV} {lo hi:Option Int} {f:List γ →Option δ} {r: δ} (j:Nat) (hS:aA H L) (hj:L[j]? =some ⟨v,te.sz,l.map c⟩) (hp:bj v) (ht:E t=some ti) (hu:ti.aw= .sl e) (he:E e=some te) (hh:(cY l (lo.getD 0) (hi.getD l.length)).bind f=some r)
 (h: ∀v' m,bj v' →rY v (lo.getD 0).toNat m.length v' →cY l (lo.getD 0) (hi.getD l.length)=some m→f m=some r→K v' H):dz E t v (some lo) (some hi) (some none) H K:=by
 cases hm:cY l (lo.getD 0) (hi.getD l.length) with
 |none=>rw [hm] at hh;simp at hh
 |some m=>
  rw [hm] at hh;have hk:=fun v' bA hw=>h v' m bA hw hm hh
  obtain ⟨dm,dJ,jm,_,eW⟩:=mX hm;have af:=hS.ok j _ hj;obtain ⟨k0,af⟩:=af;simp only at af k0;have empty:l.map c=[]→lo.getD 0=0∧hi.getD 0=0:=by
   intro e;rw [List.map_eq_nil_iff] at e;subst e;have e0:(([]:List γ).length:Int)=0:=rfl;rw [e0] at jm dJ;refine ⟨by omega,?_⟩
   cases hi with
   |none=>rfl
   |some x=>simp at dJ jm⊢;omega
  split at af
  ·obtain ⟨e1,e2⟩:=empty af;simp only [dz,dR,ht,hu,he];rw [if_pos ⟨e1,e2,rfl,by simp⟩]
   exact hk .nil rL ⟨.inl ⟨rfl,rfl⟩⟩
  ·obtain ⟨e1,e2⟩:=empty af;simp only [dz,dR,ht,hu,he];rw [if_pos ⟨e1,e2,rfl,by simp⟩]
   exact hk .e0 oR ⟨.inr (.inl ⟨rfl,rfl⟩)⟩
  ·rename_i id ad off len;obtain ⟨k1,b,hb,k2,k3,k4,k5⟩:=af;simp only [List.length_map] at k1;subst k1;simp only [dz,dR,ht,hu,hb,he,k2,ne_eq,not_true_eq_false,if_false];rw [if_pos ⟨dm,dJ,by omega⟩]
   refine hk _ (fE ..) ⟨.inr (.inr ⟨id,ad,off,_,rfl,?_⟩)⟩;rw [eW]
  ·rename_i id ad ix off;obtain ⟨rfl,rfl,_⟩:=af;exact absurd rfl (hp.ne id ad)
  ·exact af.elim
theorem aA.Gl {γ :Type} (hS:aA H L) (j:Nat) {sz:Nat} {l m:List γ} {c: γ →AV} {v' :AV} {lo hi:Int} (hj:L[j]? =some ⟨v,sz,l.map c⟩) (hv:rY v lo.toNat m.length v') (hm:cY l lo hi=some m):cC H v' =some (m.map c):=by
 obtain ⟨dm,dJ,jm,mY,eW⟩:=mX hm;have af:=(hS.ok j _ hj).2;simp only at af;have empty:l.map c=[]→m=[]:=fun e=>by
  rw [List.map_eq_nil_iff] at e;subst e;rw [mY];simp
 rcases hv.out with ⟨rfl,rfl⟩|⟨rfl,rfl⟩|⟨id,ad,off,len,rfl,rfl⟩
 ·simp only at af;rw [empty af];rfl
 ·simp only at af;rw [empty af];rfl
 ·simp only at af;obtain ⟨k1,b,hb,k2,k3,k4,k5⟩:=af;simp only [List.length_map] at k1;subst k1;simp only [cC,hb];rw [if_pos (by omega)]
  simp only [aB] at k5⊢;rw [eW,mY,List.map_take,List.map_drop,←k5,List.drop_take,List.drop_drop,List.take_take];congr 2;omega
theorem Gm {γ δ :Type} {E:aK} {K:AV→J→Prop} {t e:TypeId} {ti te:TI} {l:List γ} {c: γ →AV} {lo hi mx:Int} {f:List γ →Option δ} {r: δ} (j:Nat) (hS:aA H L) (hj:L[j]? =some ⟨v,te.sz,l.map c⟩) (hp:bj v) (ht:E t=some ti) (hu:ti.aw= .sl e) (he:E e=some te) (ff:mx=l.length) (hh:(cY l lo hi).bind f=some r)
 (h: ∀x m,cY l lo hi=some m→f m=some r→K x H):dz E t v (some (some lo)) (some (some hi)) (some (some mx)) H K:=by
 cases hm:cY l lo hi with
 |none=>rw [hm] at hh;simp at hh
 |some m=>
  rw [hm] at hh;have hk:=fun x=>h x m hm hh;obtain ⟨dm,dJ,jm,_,eW⟩:=mX hm;have af:=hS.ok j _ hj;obtain ⟨k0,af⟩:=af;simp only at af k0;subst ff;have empty:l.map c=[]→lo=0∧hi=0∧(l.length:Int)=0:=by
   intro e;rw [List.map_eq_nil_iff] at e;subst e;have e0:(([]:List γ).length:Int)=0:=rfl;rw [e0] at jm;exact ⟨by omega,by omega,rfl⟩
  split at af
  ·obtain ⟨e1,e2,e3⟩:=empty af;simp only [dz,dR,ht,hu,he];rw [if_pos ⟨e1,e2,e3,by simp⟩]
   exact hk _
  ·obtain ⟨e1,e2,e3⟩:=empty af;simp only [dz,dR,ht,hu,he];rw [if_pos ⟨e1,e2,e3,by simp⟩]
   exact hk _
  ·rename_i id ad off len;obtain ⟨k1,b,hb,k2,k3,k4,k5⟩:=af;simp only [List.length_map] at k1;subst k1;simp only [dz,dR,ht,hu,hb,he,k2,ne_eq,not_true_eq_false,if_false];by_cases hq:(some hi).isSome=true∧0≤(some lo).getD 0∧(some lo).getD 0=(some hi).getD ↑l.length∧(some hi).getD ↑l.length= ↑l.length∧off+((some hi).getD ↑l.length).toNat≤b.el.length
   ·rw [if_pos hq];exact hk _
   ·rw [if_neg hq,if_pos ⟨rfl,dm,dJ,jm,by simpa using k4⟩];exact hk _
  ·rename_i id ad ix off;obtain ⟨rfl,rfl,_⟩:=af;exact absurd rfl (hp.ne id ad)
  ·exact af.elim
structure oY (H:J) (v:AV) (n:Nat):Prop where
 out:((v= .nil∨v= .e0)∧n=0)∨ ∃id ad off len b,v= .ref id ad off len∧H.ap id ad=some b∧off+n≤b.el.length
theorem Gn {γ δ :Type} {E:aK} {K:AV→J→Prop} {t u:TypeId} {te tu:TI} {e:TypeId} {v1 x:AV} {l m1 m:List γ} {c: γ →AV} {lo hi:Int} {f:List γ →Option δ} {r: δ} (j:Nat) (hS:aA H L) (hj:L[j]? =some ⟨v,te.sz,l.map c⟩) (Dd:bj v1) (hw:rY v lo.toNat m1.length v1) (De:cY l lo hi=some m1)
 (ht:cD E t=some te) (hu:E u=some tu) (fL:tu.aw= .sl e) (hx:cC H x=some (m.map c)) (aC: ∀x,(c x).cells.length=te.sz) (h0:(te.sz==0)=false) (hh:(app te.bytes m1 m).bind f=some r)
 (h: ∀v' H' lm,bj v' →app te.bytes m1 m=some lm→f lm=some r→aA H' (L.set j ⟨v',te.sz,lm.map c⟩)→(lo=0→m1.length+m.length≤l.length→oY H' v' l.length)→K v' H'):
 dq (cS E .append #[t,u] [v1,x] H) K:=by
 obtain ⟨dm,dJ,jm,mY,eW⟩:=mX De;have az:=(List.getElem?_eq_some_iff.1 hj).1;have af:=hS.ok j _ hj;obtain ⟨k0,af⟩:=af;simp only at af k0;have fO: ∀it:It,L[j]? =some it→L.set j it=L:=fun it h=>List.ext_getElem? fun k=>by
  rw [List.getElem?_set];split
  ·rename_i e;subst e;have:=(List.getElem?_eq_some_iff.1 h).1;first|exact h.symm|(simp only [this,if_true];exact h.symm)
  ·rfl
 have yP:l.map c=[]→m1=[]:=fun e=>by
  rw [List.map_eq_nil_iff] at e;subst e;rw [mY];simp
 have Df:aA H (L.set j ⟨v1,te.sz,m1.map c⟩):=by
  rcases hw.out with ⟨rfl,rfl⟩|⟨rfl,rfl⟩|⟨id,ad,off,len,rfl,rfl⟩
  ·try simp only at af
   rw [yP af,List.map_nil,←af,fO _ hj];exact hS
  ·try simp only at af
   rw [yP af,List.map_nil,←af,fO _ hj];exact hS
  ·try simp only at af
   obtain ⟨k1,b,hb,k2,k3,k4,k5⟩:=af;simp only [List.length_map] at k1;subst k1;refine hS.aZ hj rfl (fun _ _ _ _=>rfl) ⟨?_,by simp,b,hb,k2,k3,by first|omega|(simp only;omega),?_⟩ (fun k hk=>by simpa [bW] using hk.symm)
   ·simp only [bD,List.all_eq_true,List.mem_map];rintro z ⟨y,_,rfl⟩;simpa using aC y
   ·simp only [aB] at k5⊢;rw [eW,mY,List.map_take,List.map_drop,←k5,List.drop_take,List.drop_drop,List.take_take];congr 1;omega
 cases hr:app te.bytes m1 m with
 |none=>rw [hr] at hh;simp at hh
 |some lm=>
  have b5:=hr
  unfold app at hr;split at hr
  ·rename_i gj;simp only [Option.some.injEq] at hr;subst hr;rw [b5] at hh;have aI:te.sz≠0:=by simpa using h0
   obtain ⟨v',H',a1,a2,a3⟩:=w8 Df j (show (L.set j ⟨v1,te.sz,m1.map c⟩)[j]? =some ⟨v1,te.sz,m1.map c⟩ by simp [az]) Dd hx (kK aC m) aI (by simpa using gj)
   have e1:(#[t,u]:Array TypeId)[0]? =some t:=rfl;have e2:((#[t,u]:Array TypeId)[1]?).bind E=E u:=rfl;simp only [cS,e1,e2,ht,hu,fL,a1,dq];refine h v' H' _ a2 b5 hh (by rw [List.set_set] at a3;rw [List.map_append];exact a3) fun dI hle=> ?_
   rcases hw.out with ⟨rfl,rfl⟩|⟨rfl,rfl⟩|⟨id,ad,off,len,rfl,rfl⟩
   ·try simp only at af
    have hl:l=[]:=List.map_eq_nil_iff.1 af;subst hl;simp at hle;have hm:m=[]:=by simpa using hle.2
    subst hm;simp only [List.map_nil] at hx;simp only [ec,hx,bD,List.all_nil,Bool.not_true,Bool.false_eq_true,if_false,if_neg aI,List.length_nil,if_true,Option.some.injEq,Prod.mk.injEq] at a1;exact ⟨.inl ⟨.inl a1.1.symm,rfl⟩⟩
   ·try simp only at af
    have hl:l=[]:=List.map_eq_nil_iff.1 af;subst hl;simp at hle;have hm:m=[]:=by simpa using hle.2
    subst hm;simp only [List.map_nil] at hx;simp only [ec,hx,bD,List.all_nil,Bool.not_true,Bool.false_eq_true,if_false,if_neg aI,List.length_nil,if_true,Option.some.injEq,Prod.mk.injEq] at a1;exact ⟨.inl ⟨.inr a1.1.symm,rfl⟩⟩
   ·try simp only at af
    obtain ⟨k1,b,hb,k2,k3,k4,k5⟩:=af;simp only [List.length_map] at k1;subst k1;subst dI;have bN:=(J.bd hb).2;have hs:bD te.sz (m.map c)=true:=kK aC m;simp only [ec,hx,hs,Bool.not_true,Bool.false_eq_true,if_false,if_neg aI,hb,k2,ne_eq,not_true_eq_false] at a1;rw [if_pos (by simp;omega)] at a1
    simp only [Option.some.injEq,Prod.mk.injEq] at a1;obtain ⟨rfl,rfl⟩:=a1;refine ⟨.inr ⟨id,ad,_,_,{ad:=b.ad,sz:=te.sz,fix:=b.fix,el:=splice b.el (off+(0:Int).toNat+m1.length) (m.map c)},rfl,?_,?_⟩⟩
    ·have:=jk (H:=H) (b:={ad:=b.ad,sz:=te.sz,fix:=b.fix,el:=splice b.el (off+(0:Int).toNat+m1.length) (m.map c)}) ((hS.ok j _ hj).lt rfl);simpa only [bN] using this
    ·simp only;rw [j9 _ _ _ (by simp;omega)]
     simpa using k4
  ·simp at hr
structure rZ (v:AV) (n k:Nat) (v' :AV):Prop where
 out:((v= .nil∨v= .e0)∧v' =v)∨ ∃id ad off len,v= .ref id ad off len∧v' = .ref id ad (off+n) k
theorem Gp {γ :Type} {E:aK} {K:AV→J→Prop} {t e:TypeId} {ti te:TI} {l:List γ} {c: γ →AV} {hi:Int} (j:Nat) (hS:aA H L) (hj:L[j]? =some ⟨v,te.sz,l.map c⟩) (ht:E t=some ti) (hu:ti.aw= .sl e) (he:E e=some te) {n:Nat} (hr:oY H v n) (eA:hi=n) (hle:l.length≤n)
 (h: ∀v',rZ v l.length (n-l.length) v' →K v' H):dz E t v (some (some (l.length:Int))) (some (some hi)) (some none) H K:=by
 subst eA;rcases hr.out with ⟨h1|h1,rfl⟩|⟨id,ad,off,len,b,rfl,hb,hl⟩
 ·subst h1;have hl:l.length=0:=by omega
  simp only [dz,dR,ht,hu,he];rw [if_pos ⟨by simp [hl],by simp,rfl,by simp⟩]
  exact h .nil ⟨.inl ⟨.inl rfl,rfl⟩⟩
 ·subst h1;have hl:l.length=0:=by omega
  simp only [dz,dR,ht,hu,he];rw [if_pos ⟨by simp [hl],by simp,rfl,by simp⟩]
  exact h .e0 ⟨.inl ⟨.inr rfl,rfl⟩⟩
 ·obtain ⟨k0,k1,b',au,k2,k3,k4,k5⟩:=hS.ok j _ hj;rw [hb] at au;simp only [Option.some.injEq] at au;subst au;simp only [dz,dR,ht,hu,hb,he,k2,ne_eq,not_true_eq_false,if_false,Option.getD_some];rw [if_pos ⟨by omega,by omega,by omega⟩]
  exact h _ ⟨.inr ⟨id,ad,off,len,rfl,by simp⟩⟩
theorem Dg {C:aJ} {th:Bool} {s:ah} {K:AV→J→Prop} (x:Operand) (t:TypeId):bh (aq C) C false th (.call {callee:= .builtin .clear,args:= #[x],argTypes:= #[t]}) s H K=dq (cS C.E .clear #[t] [ev s x] H) K:=by
 unfold bh wpOp;simp only [Bool.false_eq_true,false_implies,true_and];rfl
theorem Dh {γ :Type} {E:aK} {K:AV→J→Prop} {t:TypeId} {te:TI} {l:List γ} {c: γ →AV} {v' z:AV} {n:Nat} (j:Nat) (hS:aA H L) (hj:L[j]? =some ⟨v,te.sz,l.map c⟩) (ht:cD E t=some te) (h0:(te.sz==0)=false) (hz:eL te=some z) (hr:oY H v n) (hle:l.length≤n) (hb:rZ v l.length (n-l.length) v')
 (h: ∀H',aA H' L→K (.aD []) H'):dq (cS E .clear #[t] [v'] H) K:=by
 have e1:((#[t]:Array TypeId)[0]?).bind (cD E)=some te:=ht;have aI:te.sz≠0:=by simpa using h0
 simp only [cS,e1];rcases hb.out with ⟨h1|h1,rfl⟩|⟨id,ad,off,len,rfl,rfl⟩
 ·subst h1;simp only [kS,dq];exact h H hS
 ·subst h1;simp only [kS,dq];exact h H hS
 ·rcases hr.out with ⟨h1|h1,_⟩|⟨e8,fD,Gq,Gr,b,he,au,hl⟩
  ·simp at h1
  ·simp at h1
  ·simp only [AV.ref.injEq] at he;obtain ⟨rfl,rfl,rfl,rfl⟩:=he;obtain ⟨k0,k1,b',cP,k2,k3,k4,k5⟩:=hS.ok j _ hj;rw [au] at cP;simp only [Option.some.injEq] at cP;subst cP;simp only [List.length_map] at k1;subst k1;have bN:=(J.bd au).2;simp only [kS,au,hz];rw [if_pos ⟨k2,by omega,aI⟩]
   simp only [dq];have fO:L.set j ⟨.ref id ad off l.length,te.sz,l.map c⟩=L:=List.ext_getElem? fun k=>by
    rw [List.getElem?_set];split
    ·rename_i e;subst e;have:=(List.getElem?_eq_some_iff.1 hj).1;simp only [this,if_true];exact hj.symm
    ·rfl
   refine h _ ?_;rw [←fO];have ln:(splice b.el (off+l.length) (List.replicate (n-l.length) z)).length=b.el.length:=j9 _ _ _ (by simp;omega)
   refine hS.aZ hj rfl (fun e8 fD aI _=>jS aI) ⟨k0,by simp,{b with el:=splice b.el (off+l.length) (List.replicate (n-l.length) z)},?_,k2,k3,by simp only [ln];exact k4,?_⟩ (fun k hk=>by simpa [bW] using hk.symm)
   ·have:=jk (H:=H) (b:={b with el:=splice b.el (off+l.length) (List.replicate (n-l.length) z)}) ((hS.ok j _ hj).lt rfl);simpa only [bN] using this
   ·simp only [aB] at k5⊢;unfold splice;rw [List.append_assoc,List.drop_append_of_le_length (by simp;omega),List.drop_take,List.take_append_of_le_length (by simp;omega),List.take_take]
    rw [show min l.length (off+l.length-off)=l.length by omega]
    exact k5
theorem Gs {γ :Type} {C:aJ} {th:Bool} {s:ah} {K:AV→J→Prop} {xo:Operand} {t:TypeId} {te:TI} {l:List γ} {c: γ →AV} {v' z:AV} {n:Nat} (j:Nat) (hS:aA H L) (hj:L[j]? =some ⟨v,te.sz,l.map c⟩) (hx:ev s xo=v') (ht:cD C.E t=some te) (h0:(te.sz==0)=false) (hz:eL te=some z) (hr:oY H v n) (hle:l.length≤n) (hb:rZ v l.length (n-l.length) v')
 (h: ∀H',aA H' L→K (.aD []) H'):bh (aq C) C false th (.call {callee:= .builtin .clear,args:= #[xo],argTypes:= #[t]}) s H K:=by
 rw [Dg,hx];exact Dh j hS hj ht h0 hz hr hle hb h
def Gt {γ :Type} (l:List γ) (lo:Int) (m:List γ) (d: γ):List γ :=l.take lo.toNat ++ List.replicate m.length d ++ l.drop (lo.toNat+m.length)
theorem Gu {γ :Type} {b:Nat} {l m r:List γ} (h:app b l m=some r):r.length=l.length+m.length:=by
 unfold app at h;split at h
 ·simp only [Option.some.injEq] at h;rw [←h];simp
 ·simp at h
theorem Gv {γ :Type} {l m:List γ} {lo hi:Int} (h:cY l lo hi=some m):0≤lo∧lo≤hi∧hi≤l.length∧(m.length:Int)=hi-lo:=by
 obtain ⟨h1,h2,h3,_,h5⟩:=mX h;exact ⟨h1,h2,h3,by omega⟩
end
theorem Gw {C:aJ} {kp:List Nat} {s s' :ah} {H:J} {K:Ex→ah→J→Prop} (hk:eu kp s=s') (h:K .normal s' H):aH (aq C) C (.gB [] (some kp)) s H K:=by
 subst hk;exact h
theorem Gx {l:List UInt8} {n:Nat} {H:J} {K:AV→J→Prop}:jQ (eM l n) 0 H K=K (.bool (decide (n<l.length))) H:=by
 unfold eM;split
 ·rename_i h;simp [jQ,cI,h]
 ·rename_i h;simp [jQ,cI,h]
theorem Gy {l:List UInt8} {n:Nat} (h:decide (n<l.length)=true) {H:J} {K:AV→J→Prop}:jQ (eM l n) 1 H K=K (.int .i64 (n:Int)) H:=by
 simp only [decide_eq_true_eq] at h;simp [eM,h,jQ,cI]
def r6 {σ ρ :Type} (keep:List Nat) (Inv: σ →ah→J→Prop) (pos: σ →Nat) (n:Nat) (y:LR σ ρ) (K:Ex→ah→J→Prop):Ex→ah→J→Prop
 | .normal,s,H=> ∃x',y= .next x' ∧Inv x' (eu keep s) H∧pos x' =n
 | .exit i,s,H=>K (.exit i) s H
 | .ret,s,H=>K .ret s H
section
variable {C:aJ} {K K1:Ex→ah→J→Prop} {s:ah} {H:J}
theorem Gz {σ ρ :Type} (gC:Good C) {f: σ →Option (LR σ ρ)} {x: σ} {r: ρ} {keep:List Nat} {a:AC} {x0:Operand} {T:TypeId} {t u:Nat} {l:List UInt8} {ti:TI} (hT:C.E T=some ti) (hu:ti.aw= .str) (he:ev s x0= .str l) (ek:t<s.length)
 (hw:fF f x=some r) (Inv: σ →ah→J→Prop) (pos: σ →Nat) (hp:pos x=0) (h0:Inv x (eu keep (s.set t .undef)) H)
 (hb: ∀x y s H,f x=some y→(∀r',y= .done r' →r' =r)→Inv x s H→ ∀K1,K1=r6 keep Inv pos (j7 l (pos x)) y K→aH (aq C) C a (s.set u (eM l (pos x))) H K1):aH (aq C) C (.kV x0 T t u ⟨keep,false⟩ a) s H K:=by
 obtain ⟨n,hn⟩:=mT.1 hw;have key: ∀(n:Nat) (x: σ) (s:ah) (H:J),iter f n x=some r→Inv x s H→ ∀m,j6 (fun n s H K=>aH (aq C) C a (s.set u (eM l n)) H K) (j7 l) (fq ⟨keep,false⟩ m) K (pos x) s H:=by
  intro n;induction n with
  |zero=>intro x s H h;simp [iter] at h
  |succ n ih=>
   intro x s H h hi m;simp only [iter] at h;cases hf:f x with
   |none=>rw [hf] at h;simp at h
   |some y=>
    rw [hf] at h;simp only [Option.bind_some] at h;refine j6.round (aq.up gC.up) (f:=fun n s=>s.set u (eM l n)) (dO (aq.up gC.up) _ _ _ _ _ (fun e s' H' he=> ?_) (hb x y s H hf (fun r' e=>by subst e;simpa using h) hi _ rfl))
    cases e with
    |normal=>
     obtain ⟨x',rfl,fL,Di⟩:=he;rw [←Di];exact ih x' _ _ h fL m
    |exit i=>exact he
    |ret=>exact he
 have:=key n x _ H hn h0 H.bs.length;rw [hp] at this;simp only [aH,hT,he];exact ⟨hu,ek,this⟩
theorem GA {σ ρ :Type} {keep:List Nat} {Inv: σ →ah→J→Prop} {pos: σ →Nat} {n:Nat} {y:LR σ ρ} {x' : σ} (hK:K1=r6 keep Inv pos n y K) (hy:some (LR.next x')=some y) (hi:Inv x' (eu keep s) H) (hp:pos x' =n):K1 .normal s H:=by
 rw [hK];exact ⟨x',(Option.some.inj hy).symm,hi,hp⟩
theorem GB {σ ρ :Type} {keep:List Nat} {Inv: σ →ah→J→Prop} {pos: σ →Nat} {n:Nat} {y:LR σ ρ} {i:Nat} (hK:K1=r6 keep Inv pos n y K) (h:K (.exit i) s H):K1 (.exit i) s H:=by rw [hK];exact h
end
end Go.VS
