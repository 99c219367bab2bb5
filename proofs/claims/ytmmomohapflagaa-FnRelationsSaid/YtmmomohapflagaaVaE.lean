import Derived.Test.YtmmomohapflagaaVaD
namespace Go.VS
def FZ (l:List (List Nat×List Sh)) (s:aj) (H:J) (P:aj→J→Prop):Prop:= ∃s' H',dm l s H=some (s',H')∧P s' H'
section
variable {C:aI} {s:aj} {H:J} {L:List It}
theorem uA (P:aj→J→Prop):FZ [] s H P=P s H:=by
 apply propext;constructor
 ·rintro ⟨s',H',h,hp⟩;simp only [dm,Option.some.injEq,Prod.mk.injEq] at h;obtain ⟨rfl,rfl⟩:=h;exact hp
 ·exact fun h=>⟨s,H,rfl,h⟩
theorem uB {t:Nat} {ts:List Nat} {e:Sh} {sh:List Sh} {l:List (List Nat×List Sh)} {P:aj→J→Prop} {y:AV} {H1:J} (ht:aY (e::sh) (s.getD t .undef) H=some (y,H1)) (h:FZ l (fE (s.getD t .undef) (br y) ts (s.set t (br y))) H1 P):FZ ((t::ts,e::sh)::l) s H P:=by
 obtain ⟨s',H',h1,h2⟩:=h;exact ⟨s',H',by simp only [dm,ht];exact h1,h2⟩
theorem uC {f:AV→J→Option (AV×J)}: ∀(xs:List AV) (H:J),(∀x∈xs,∀H,f x H=some (x,H))→di f xs H=some (xs,H)
 |[],H,_=>rfl
 |x::xs,H,h=>by
  simp only [di,h x (by simp) H,uC xs H (fun y hy=>h y (by simp [hy]))]
theorem uD {α :Type} {c: α →AV} (hz: ∀x,br (c x)=c x): ∀(l:List α),bS (l.map c)=l.map c
 |[]=>rfl
 |x::l=>by simp only [List.map_cons,bS,hz x,uD hz l]
theorem aD.del (hS:aD H L) {id:Nat} (h: ∀(i:Nat) (it:It),L[i]? =some it→b7 it.v≠some id):aD (H.del id) L:=
 ⟨fun i it hi=>(hS.ok i it hi).frame fun k ad hk=>by
  have aN: ¬id=k:=fun e=>h i it hi (by rw [hk,e])
  simp only [J.ap,J.del,List.getElem?_set,if_neg aN],hS.b8⟩
theorem zK (hS:aD H L) {j:Nat} {v:AV} {sz:Nat} {el:List AV} (hj:L[j]? =some ⟨v,sz,el⟩) (hp:bQ v):e9 v v=true:=by
 have ag:=(hS.ok j _ hj).2;simp only at ag;split at ag
 ·rfl
 ·rfl
 ·simp [e9]
 ·rename_i id ad ix off;obtain ⟨rfl,rfl,_⟩:=ag;exact absurd rfl (hp.ne id ad)
 ·exact ag.elim
theorem aD.take {α :Type} (hS:aD H L) (j:Nat) {v:AV} {es:List Sh} {l:List α} {c: α →AV} (hj:L[j]? =some ⟨v,es.length,l.map c⟩) (hp:bQ v) (hc: ∀x H,aY es (c x) H=some (c x,H)):
 ∃H',aY [.sl es] v H=some (.own es.length (l.map c),H')∧aD H' (L.eraseIdx j):=by
 have ag:=hS.ok j _ hj;have hf:=hS.front j hj;obtain ⟨k0,ag⟩:=ag;have e1:aY [.sl es] v H=aP (.sl es) v H:=by
  have zL: ∀cs,v≠ .agg cs:=by rintro cs rfl;exact ag
  cases v with
  |agg cs=>exact absurd rfl (zL cs)
  |_=>simp only [aY]
 rw [e1];simp only at ag;split at ag
 ·rename_i hv;exact ⟨H,by simp only [aP,ag],hf.tl⟩
 ·exact ⟨H,by simp only [aP,ag],hf.tl⟩
 ·rename_i id ad off len;obtain ⟨k1,b,hb,k2,k3,k4,k5⟩:=ag;have hm:di (aY es) (l.map c) (H.del id)=some (l.map c,H.del id):=uC _ _ (by
   intro x hx H;obtain ⟨y,_,rfl⟩:=List.mem_map.1 hx;exact hc y H)
  refine ⟨H.del id,?_,hf.tl.del fun i it hi e=> ?_⟩
  ·simp only [aP,hb];rw [if_pos ⟨k2,k4,.inl k3⟩,k5,hm]
  ·have:=hf.b8 0 (i+1) _ it id rfl (by simpa using hi) rfl e
   omega
 ·rename_i id ad ix off;obtain ⟨rfl,rfl,_⟩:=ag;exact absurd rfl (hp.ne id ad)
 ·exact ag.elim
theorem B6 {α :Type} {t:Nat} {ts:List Nat} {es:List Sh} {l:List (List Nat×List Sh)} {P:aj→J→Prop} {v:AV} {m:List α} {c: α →AV} (j:Nat) (hS:aD H L) (hj:L[j]? =some ⟨v,es.length,m.map c⟩) (hp:bQ v) (hv:s.getD t .undef=v) (hc: ∀x H,aY es (c x) H=some (c x,H)) (hz: ∀x,br (c x)=c x)
 (h: ∀H',e9 v v=true→aD H' (L.eraseIdx j)→FZ l (fE v (.fz (m.map c)) ts (s.set t (.fz (m.map c)))) H' P):FZ ((t::ts,[.sl es])::l) s H P:=by
 obtain ⟨H',h1,h2⟩:=hS.take j hj hp hc;rw [←hv] at h1;refine uB h1 ?_;simp only [br,uD hz,hv];exact h H' (zK hS hj hp) h2
theorem B7 {t:Nat} {ts:List Nat} {es:List Sh} {l:List (List Nat×List Sh)} {P:aj→J→Prop} (hv:s.getD t .undef= .nil) (h:FZ l (fE .nil (.fz []) ts (s.set t (.fz []))) H P):FZ ((t::ts,[.sl es])::l) s H P:=by
 refine uB (y:= .own es.length []) (H1:=H) (by rw [hv];simp only [aY,aP]) ?_
 rw [hv];exact h
def TC (es:List Sh) (cs:List AV) (H:J) (K:List AV→J→Prop):Prop:= ∃ys H',ct es cs H=some (ys,H')∧K ys H'
theorem uE (xs:List AV):br (.agg xs)= .agg (bS xs):=rfl
theorem uF (x:AV) (xs:List AV):bS (x::xs)=br x::bS xs:=rfl
theorem uG:bS []=[]:=rfl
theorem uH (k:IntKind) (n:Int):br (.int k n)= .int k n:=rfl
theorem uI (b:Bool):br (.bool b)= .bool b:=rfl
theorem uJ (b:List UInt8):br (.str b)= .str b:=rfl
theorem uK (b:List AV):br (.fz b)= .fz b:=rfl
theorem uL (n:Nat) (b:List AV):br (.own n b)= .fz (bS b):=rfl
theorem uM (xs:List AV):br (.aB xs)= .aB (bS xs):=rfl
theorem uN (x:AV):cg [x]=x:=rfl
theorem uO (x y:AV) (l:List AV):cg (x::y::l)= .aB (x::y::l):=rfl
theorem uP:cg []= .aB []:=rfl
theorem uQ (x y:AV):fE x y [] s=s:=rfl
theorem uR (x y:AV) (t:Nat) (ts:List Nat):fE x y (t::ts) s=fE x y ts (if e9 (s.getD t .undef) x then s.set t y else s):=rfl
theorem uS:e9 .nil .nil=true:=rfl
theorem uT:e9 .e0 .e0=true:=rfl
theorem uU (fz:List (Nat×List (List Nat×List Sh))) (K:aj→J→Prop) (i:Nat):fV C fz K [] i s H=K s H:=rfl
theorem B8 {l:List (List Nat×List Sh)} {kp:Option (List Nat)} {K:Ex→aj→J→Prop} (h:FZ l s H fun s H=>K .normal (dS kp s) H):aJ (aq C) C (.fA l kp) s H K:=by
 obtain ⟨s',H',h1,h2⟩:=h;exact zk h1 h2
theorem aD.B9 (hS:aD H L) (n:Nat) (js:List Nat) (hj:(js.Nodup∧ ∀j∈js,j<n)):aD H (js.filterMap (L[·]?) ++ L.drop n):=by
 refine ⟨fun i it hi=> ?_,fun i j a b id hi uV ha hb=> ?_⟩
 ·rcases List.mem_append.1 (List.mem_of_getElem? hi) with h|h
  ·obtain ⟨k,_,hk⟩:=List.mem_filterMap.1 h;exact hS.ok k it hk
  ·obtain ⟨k,hk⟩:=List.mem_iff_getElem?.1 (List.mem_of_mem_drop h);exact hS.ok k it hk
 ·
  have key: ∀(js:List Nat),js.Nodup→(∀j∈js,j<n)→ ∀(i j:Nat) (a b:It),(js.filterMap (L[·]?) ++ L.drop n)[i]? =some a→(js.filterMap (L[·]?) ++ L.drop n)[j]? =some b→b7 a.v=some id→b7 b.v=some id→i=j:=by
   intro js;induction js with
   |nil=>
    intro _ _ i j a b hi hj ha hb;simp only [List.filterMap_nil,List.nil_append,List.getElem?_drop] at hi hj;have:=hS.b8 _ _ a b id hi hj ha hb;omega
   |cons k ks ih=>
    intro qu aw i j a b hi hj ha hb;have uW:=(List.nodup_cons.1 qu)
    have lF:=ih uW.2 (fun j h=>aw j (by simp [h]))
    cases hk:L[k]? with
    |none=>
     simp only [List.filterMap_cons,hk] at hi hj;exact lF i j a b hi hj ha hb
    |some c=>
     simp only [List.filterMap_cons,hk,List.cons_append] at hi hj;have other: ∀(m:Nat) (d:It),(ks.filterMap (L[·]?) ++ L.drop n)[m]? =some d→b7 c.v=some id→b7 d.v≠some id:=by
      intro m d hm hc hd;rcases List.mem_append.1 (List.mem_of_getElem? hm) with h|h
      ·obtain ⟨k',zM,bD⟩:=List.mem_filterMap.1 h;have:=hS.b8 k k' c d id hk bD hc hd
       subst this;exact uW.1 zM
      ·obtain ⟨k',bD⟩:=List.mem_iff_getElem?.1 h;rw [List.getElem?_drop] at bD;have:=hS.b8 k _ c d id hk bD hc hd
       have:=aw k (by simp)
       omega
     cases i with
     |zero=>
      simp at hi;subst hi;cases j with
      |zero=>rfl
      |succ j=>exact absurd hb (other j b (by simpa using hj) ha)
     |succ i=>
      cases j with
      |zero=>simp at hj;subst hj;exact absurd ha (other i a (by simpa using hi) hb)
      |succ j=>have:=lF i j a b (by simpa using hi) (by simpa using hj) ha hb;omega
  exact key js hj.1 hj.2 i j a b hi uV ha hb
end
theorem B_ {α :Type} {L F:List α} {n:Nat} {x: α} (hL:L.drop n=F) (h:x∈F):x∈L:=List.mem_of_mem_drop (hL.symm▸h)
abbrev u:=AV.undef
def zN {α :Type} (c: α →AV) (l:List α):AV:= .fz (l.map c)
theorem Ca {E:aM} {s:aj} {H:J} {a:Tmp} {t:TypeId} {rs:List ResultVar} {ti:TI} {id ad sz:Nat} {x y:AV} {ys:List AV} (ht:E t=some ti) (ha:s.getD a .undef= .ptr id ad 0 0) (hb:H.ap id ad=some ⟨ad,sz,false,[x]⟩) (hx:bL ti x 0=some y) (hr:eb E s H rs=some ys):eb E s H (.cell a t::rs)=some (y::ys):=by
 have:aL E (.load t (.tmp a)) s H=some (y,H):=by
  have e:ev s (.tmp a)= .ptr id ad 0 0:=ha;simp only [aL,ht,e,hb,List.getElem?_cons_zero,hx]
 simp only [eb,this,hr,Option.map_some]
section
variable {C:aI} {s:aj} {H:J}
def fw (C:aI) (K:aj→J→Prop) (d:Option Tmp) (late:List (Op×Option Tmp)) (rest:List GO) (s:aj):AV→J→Prop:=fun v H=>dN C (bf s d v) H (dY C K rest (bf s d v) H) late
def h_ (C:aI) (K:aj→J→Prop) (v:AV) (w:Bool) (d:Option Tmp) (op:Op) (late:List (Op×Option Tmp)) (th q:Bool) (rest:List GO) (s:aj) (H:J):Prop:=gy v w (bh (aq C) C q th op s H (fw C K d late rest s)) (fw C K d late rest s (.aB []) H)
theorem uX (K:aj→J→Prop) (d:Option Tmp) (rest:List GO) (v:AV):fw C K d [] rest s v H=dY C K rest (bf s d v) H:=rfl
theorem uY (K:aj→J→Prop) (d:Option Tmp) (l:Op×Option Tmp) (ls:List (Op×Option Tmp)) (rest:List GO) (v:AV):fw C K d (l::ls) rest s v H=dN C (bf s d v) H (dY C K rest (bf s d v) H) (l::ls):=rfl
theorem uZ (K:aj→J→Prop) (d:Option Tmp) (op:Op) (late:List (Op×Option Tmp)) (q th:Bool) (rest:List GO):dY C K (⟨d,op,none,late,th,q⟩::rest) s H=bh (aq C) C q th op s H (fw C K d late rest s):=rfl
theorem u2 (K:aj→J→Prop) (d:Option Tmp) (op:Op) (t:Tmp) (w:Bool) (late:List (Op×Option Tmp)) (q th:Bool) (rest:List GO):dY C K (⟨d,op,some (some t,w),late,th,q⟩::rest) s H=h_ C K (s.getD t .undef) w d op late th q rest s H:=rfl
variable (K:aj→J→Prop) (d:Option Tmp) (op:Op) (late:List (Op×Option Tmp)) (th q:Bool) (rest:List GO)
theorem u3:h_ C K (.bool true) true d op late th q rest s H=bh (aq C) C q th op s H (fw C K d late rest s):=sj _ _
theorem u4:h_ C K (.bool false) false d op late th q rest s H=bh (aq C) C q th op s H (fw C K d late rest s):=sk _ _
theorem u5:h_ C K (.bool true) false d op late th q rest s H=fw C K d late rest s (.aB []) H:=sm _ _
theorem u6:h_ C K (.bool false) true d op late th q rest s H=fw C K d late rest s (.aB []) H:=sn _ _
theorem u7 (l:List AV) (w:Bool):h_ C K (.aB l) w d op late th q rest s H=fw C K d late rest s (.aB []) H:=rfl
theorem Cb {α :Type} {c w:Bool} {x y:Option α} {r: α} {K:aj→J→Prop} {d:Option Tmp} {op:Op} {late:List (Op×Option Tmp)} {th q:Bool} {rest:List GO} (h:(bif c then x else y)=some r) (ht:c=true→x=some r→h_ C K (.bool true) w d op late th q rest s H) (hf:c=false→y=some r→h_ C K (.bool false) w d op late th q rest s H):h_ C K (.bool c) w d op late th q rest s H:=by
 cases c with
 |true=>exact ht rfl h
 |false=>exact hf rfl h
variable (fz:List (Nat×List (List Nat×List Sh))) (i:Nat)
def fW (C:aI) (fz:List (Nat×List (List Nat×List Sh))) (K:aj→J→Prop) (d:Option Tmp) (rest:List GO) (i:Nat) (s:aj):AV→J→Prop:=fun v H=>fV C fz K rest (i+1) (bf s d v) H
def jX (C:aI) (fz:List (Nat×List (List Nat×List Sh))) (K:aj→J→Prop) (v:AV) (w:Bool) (d:Option Tmp) (op:Op) (th q:Bool) (rest:List GO) (i:Nat) (s:aj) (H:J):Prop:=gy v w (bh (aq C) C q th op s H (fW C fz K d rest i s)) (fW C fz K d rest i s (.aB []) H)
def pJ (C:aI) (fz:List (Nat×List (List Nat×List Sh))) (K:aj→J→Prop) (o:GO) (rest:List GO) (i:Nat):aj→J→Prop:=fun s H=>gY o.g s (bh (aq C) C o.q o.th o.op s H (fW C fz K o.d rest i s)) (fW C fz K o.d rest i s (.aB []) H)
theorem u9 (o:GO):fV C fz K (o::rest) i s H=FZ ((fz.lookup i).getD []) s H (pJ C fz K o rest i):=rfl
theorem u_:pJ C fz K ⟨d,op,none,late,th,q⟩ rest i s H=bh (aq C) C q th op s H (fW C fz K d rest i s):=rfl
theorem va (t:Tmp) (w:Bool):pJ C fz K ⟨d,op,some (some t,w),late,th,q⟩ rest i s H=jX C fz K (s.getD t .undef) w d op th q rest i s H:=rfl
theorem vb (v:AV):fW C fz K d rest i s v H=fV C fz K rest (i+1) (bf s d v) H:=rfl
theorem vd:jX C fz K (.bool true) true d op th q rest i s H=bh (aq C) C q th op s H (fW C fz K d rest i s):=sj _ _
theorem ve:jX C fz K (.bool false) false d op th q rest i s H=bh (aq C) C q th op s H (fW C fz K d rest i s):=sk _ _
theorem vf:jX C fz K (.bool true) false d op th q rest i s H=fW C fz K d rest i s (.aB []) H:=sm _ _
theorem vg:jX C fz K (.bool false) true d op th q rest i s H=fW C fz K d rest i s (.aB []) H:=sn _ _
theorem vh (l:List AV) (w:Bool):jX C fz K (.aB l) w d op th q rest i s H=fW C fz K d rest i s (.aB []) H:=rfl
end
theorem vi {β :Type} (i:Nat) (l: β) (r:List (Nat× β)):((i,l)::r).lookup i=some l:=by simp [List.lookup]
theorem vj {β :Type} (i k:Nat) (l: β) (r:List (Nat× β)) (h:(i==k)=false):((k,l)::r).lookup i=r.lookup i:=by simp only [List.lookup,h]
theorem vk {β :Type} (i:Nat):([]:List (Nat× β)).lookup i=none:=rfl
theorem vl (all:List Oper) (q:Nat→Bool) (late:Nat→List Nat) (th:List Nat) (i:Nat):dO all q late th [] i=[]:=rfl
theorem vm (all:List Oper) (q:Nat→Bool) (late:Nat→List Nat) (th:List Nat) (o:Oper) (rest:List Oper) (i:Nat):dO all q late th (o::rest) i=⟨o.dst,o.op,o.guard.map fun p=>(lk all p.1,p.2),(late i).map (jU all),th.contains i,q i⟩::dO all q late th rest (i+1):=rfl
theorem vn (o:Oper) (os:List Oper):lk (o::os) 0=o.dst:=rfl
theorem vo (o:Oper) (os:List Oper) (n:Nat):lk (o::os) (n+1)=lk os n:=rfl
theorem vp (K:Ex→aj→J→Prop) (s:aj) (H:J):iF K s H=K .normal s H:=rfl
theorem vq (E:aM) (t:TypeId) (f:Nat):lj E t f=match E t with
 |some ti=>match ti.au with
  | .st fs=>match fs[f]? with
   |some (o,ft)=>match E ft with
    |some tf=>some (o,tf)
    |none=>none
   |none=>none
  |_=>none
 |none=>none:=rfl
theorem vr (ti:TI) (hu:jq ti.au=true) (xs:List AV) (n:Nat) {H:J} {K:AV→J→Prop}:dZ (some ti) (.fz xs) (some n) H K=K (.int .i64 n) H:=by cases h:ti.au<;>rw [h] at hu<;>simp [jq] at hu;exact zx ti h xs n
theorem vt (ti:TI) (hu:jq ti.au=true) (n:Nat) {H:J} {K:AV→J→Prop}:dZ (some ti) .nil (some n) H K=K (.int .i64 n) H:=by cases h:ti.au<;>rw [h] at hu<;>simp [jq] at hu;exact zy ti h n
theorem vu (ti:TI) (hu:jq ti.au=true) (n:Nat) {H:J} {K:AV→J→Prop}:dZ (some ti) .e0 (some n) H K=K (.int .i64 n) H:=by cases h:ti.au<;>rw [h] at hu<;>simp [jq] at hu;exact zB ti h n
theorem vv (ti:TI) (hu:ln ti.au=true) (l:List UInt8) (n:Nat) {H:J} {K:AV→J→Prop}:dZ (some ti) (.str l) (some n) H K=K (.int .i64 n) H:=by cases h:ti.au<;>rw [h] at hu<;>simp [ln] at hu;exact zC ti h l n
theorem vw (ta tb:TI) (n:Int) (H:J) (K:AV→J→Prop):pH (some ta) (some tb) n H K=match tb.au with| .it k=>K (.int k (k.wrap n)) H|_=>False:=rfl
theorem vx (o:Nat) (tf:TI) (y:AV) (off:Nat) (h:(tf.sz==0)=false) {H:J} {K:AV→J→Prop}:iG (some (o,tf)) (.fe y off) H K=K (.fe y (off+o)) H:=zq o tf h y off
def pK (b:Option bE) (k:Prop):Prop:=match b with|some _=>k|none=>False
theorem vy (o:Nat) (tf:TI) (id ad idx off:Nat) (h:(tf.sz==0)=false) {H:J} {K:AV→J→Prop}:iG (some (o,tf)) (.ptr id ad idx off) H K=pK (H.ap id ad) (K (.ptr id ad idx (off+o)) H):=by
 rw [zr o tf h];rfl
theorem vz (b:bE) (k:Prop):pK (some b) k=k:=rfl
theorem vA {C:aI} {q th:Bool} {s:aj} {H:J} {K:AV→J→Prop} (x:Operand):bh (aq C) C q th (.nilCheck x) s H K=(match ev s x with| .ptr a b c d=>pK (H.ap a b) (K (.ptr a b c d) H)| .fe x o=>K (.fe x o) H|_=>False):=by
 rw [c8 _ rfl];simp only [aL];generalize ev s x=r;cases r<;>try rfl
 rename_i a b c d;simp only;cases H.ap a b<;>rfl
theorem vB (z:List AV) (b:Nat) (w:UD) (e:Bool) (cs:List AV) (off:Nat):bL ⟨1,false,z,b,w,e⟩ (.agg cs) off=cs[off]? :=by
 by_cases h:off<cs.length
 ·have e1:aE cs off 1=[cs[off]]:=by
   simp only [aE,List.drop_eq_getElem_cons h,List.take_succ_cons,List.take_zero]
  have e2:bL ⟨1,false,z,b,w,e⟩ (.agg cs) off=iJ false (aE cs off 1):=if_pos (show off+1≤cs.length from h);rw [e2,e1,List.getElem?_eq_getElem h];rfl
 ·rw [List.getElem?_eq_none (by omega)]
  exact if_neg (show¬off+1≤cs.length from h)
theorem vC (z:List AV) (b:Nat) (w:UD) (e:Bool) (k:IntKind) (n:Int):bL ⟨1,false,z,b,w,e⟩ (.int k n) 0=some (.int k n):=rfl
theorem vD (z:List AV) (b:Nat) (w:UD) (e:Bool) (n:Bool):bL ⟨1,false,z,b,w,e⟩ (.bool n) 0=some (.bool n):=rfl
theorem vE (z:List AV) (b:Nat) (w:UD) (e:Bool) (n:List UInt8):bL ⟨1,false,z,b,w,e⟩ (.str n) 0=some (.str n):=rfl
theorem vF (z:List AV) (b:Nat) (w:UD) (e:Bool) (n:List AV):bL ⟨1,false,z,b,w,e⟩ (.fz n) 0=some (.fz n):=rfl
theorem vG (z:List AV) (b:Nat) (w:UD) (e:Bool):bL ⟨1,false,z,b,w,e⟩ .nil 0=some .nil:=rfl
theorem vH (z:List AV) (b:Nat) (w:UD) (e:Bool):bL ⟨1,false,z,b,w,e⟩ .e0 0=some .e0:=rfl
theorem vI (z:List AV) (b:Nat) (w:UD) (e:Bool) (a c d f:Nat):bL ⟨1,false,z,b,w,e⟩ (.ref a c d f) 0=some (.ref a c d f):=rfl
theorem vJ (n:Nat) (z:List AV) (b:Nat) (w:UD) (e:Bool) (cs:List AV) (off:Nat):bL ⟨n,true,z,b,w,e⟩ (.agg cs) off=if off+n≤cs.length then some (.agg ((cs.drop off).take n)) else none:=rfl
theorem vK (ti:TI) (r:Bool) (neg:Bool):li (some ti) (some r) neg=if ti.agg then some (.bool (if neg then !r else r)) else none:=rfl
theorem vL (ti:TI) (x y:AV) (neg:Bool):hN (some ti) x y neg=match isNil ti.au x y with|some b=>some (.bool (if neg then !b else b))|none=>none:=rfl
theorem vM (E:aM) (d:Nat) (t:TypeId) (xs ys:List AV):dA E (d+1) t xs ys=match E t with
 |none=>none
 |some ti=>match ti.au with
  | .it _=>match xs,ys with
   |[.int k a],[.int j b]=>if k=j then some (a==b) else none
   |_,_=>none
  | .bl=>match xs,ys with
   |[.bool a],[.bool b]=>some (a==b)
   |_,_=>none
  | .str=>match xs,ys with
   |[.str a],[.str b]=>some (a==b)
   |_,_=>none
  | .st fs=>if ti.j9 then gG E (dA E d) fs xs ys else none
  |_=>none:=rfl
theorem vN (E:aM) (f:TypeId→List AV→List AV→Option Bool) (xs ys:List AV):gG E f [] xs ys=some true:=rfl
theorem vO (E:aM) (f:TypeId→List AV→List AV→Option Bool) (o:Nat) (ft:TypeId) (fs:List (Nat×TypeId)) (xs ys:List AV):gG E f ((o,ft)::fs) xs ys=match E ft with
 |none=>none
 |some tf=>
  if o+tf.sz≤xs.length∧o+tf.sz≤ys.length then
   match f ft (aE xs o tf.sz) (aE ys o tf.sz) with
   |some b=>match gG E f fs xs ys with
    |some r=>some (b&&r)
    |none=>none
   |none=>none
  else none:=rfl
theorem vP (cs:List AV) (off n:Nat):aE cs off n=(cs.drop off).take n:=rfl
def jY (E:aM) (t:TypeId) (ps:List (Nat×AV)) (H:J) (K:AV→J→Prop):Prop:=match E t with
 |some ti=>match ti.au with
  | .st fs=>if !(fs.all fun f=>(E f.2).isSome)|| !(ti.zero.all cA) then False else cR ((eU (fun i=>match fs[i]? with|some (o,ft)=>(E ft).map fun tf=>(o,tf.sz)|none=>none) ti.zero ps).map .agg) H K
  | .ar n e=>match E e with
   |some te=>if !(ti.zero.all cA) then False else cR ((eU (fun i=>if i<n then some (i*te.sz,te.sz) else none) ti.zero ps).map .agg) H K
   |none=>False
  |_=>False
 |none=>False
theorem vQ {C:aI} {q th:Bool} {s:aj} {H:J} {K:AV→J→Prop} (t:TypeId) (ps:Array (Nat×Operand)):bh (aq C) C q th (.build t ps) s H K=jY C.E t (ps.toList.map fun p=>(p.1,ev s p.2)) H K:=by
 rw [c8 _ rfl];simp only [aL,jY];cases C.E t with
 |none=>rfl
 |some ti=>
  simp only;cases ti.au<;>try rfl
  ·rename_i fs;simp only;split
   ·rfl
   ·generalize Option.map AV.agg _=r;cases r<;>rfl
  ·rename_i n e;simp only;cases C.E e with
   |none=>rfl
   |some te=>
    simp only;split
    ·rfl
    ·generalize Option.map AV.agg _=r;cases r<;>rfl
theorem Cc {E:aM} {t:TypeId} {ps:List (Nat×AV)} {H:J} {K:AV→J→Prop} {ti:TI} {fs:List (Nat×TypeId)} {cs:List AV} (ht:E t=some ti) (hu:ti.au= .st fs) (h1:(fs.all fun f=>(E f.2).isSome)=true) (h2:ti.zero.all cA=true)
 (hf:eU (fun i=>match fs[i]? with|some (o,ft)=>(E ft).map fun tf=>(o,tf.sz)|none=>none) ti.zero ps=some cs) (h:K (.agg cs) H):jY E t ps H K:=by
 simp only [jY,ht,hu,h1,h2,Bool.not_true,Bool.or_self,Bool.false_eq_true,if_false,hf];exact h
theorem vR {C:aI} {q th:Bool} {s:aj} {H:J} {K:AV→J→Prop} (f:FuncId) (cap:Array Operand):bh (aq C) C q th (.makeFunc (.func f) #[] cap) s H K=K (.fn f (cap.toList.map (ev s))) H:=by
 rw [c8 _ rfl];simp only [aL];rfl
theorem W:type_of% (And.intro @vi<|And.intro @uE<|And.intro @uF<|And.intro @uG<|And.intro @uH<|And.intro @uI<|And.intro @uJ<|And.intro @uK<|And.intro @uL<|And.intro @uM<|And.intro @uN<|And.intro @uO<|And.intro @uP<|And.intro @Bool.or_false<|And.intro @vj<|And.intro @vk<|And.intro @si<|And.intro @uZ<|And.intro @u2<|And.intro @uX<|And.intro @uY<|And.intro @u3<|And.intro @u4<|And.intro @u5<|And.intro @u6<|And.intro @u7<|And.intro @u9<|And.intro @u_<|And.intro @va<|And.intro @vb<|And.intro @vd<|And.intro @ve<|And.intro @vf<|And.intro @vg<|And.intro @vh<|
 And.intro @so<|And.intro @sq<|And.intro @ss<|And.intro @su<|And.intro @sw<|And.intro @sx<|And.intro @sy<|And.intro @sA<|And.intro @sB<|And.intro @sC<|And.intro @sD<|And.intro @sE<|And.intro @sF<|
 And.intro @sG<|And.intro @sH<|And.intro @sI<|And.intro @sJ<|And.intro @sK<|And.intro @sL<|And.intro @sM<|And.intro @sN<|And.intro @sO<|And.intro @sP<|And.intro @sQ<|And.intro @sR<|
 And.intro @ul<|And.intro @um<|And.intro @uo<|And.intro @sT<|And.intro @sU<|And.intro @sV<|And.intro @sW<|And.intro @sY<|And.intro @sZ<|And.intro @s4<|And.intro @s7<|And.intro @s8<|And.intro @s9<|
 And.intro @tc<|And.intro @tg<|And.intro @tj<|And.intro @tn<|And.intro @tp<|And.intro @tq<|And.intro @tv<|And.intro @tw<|And.intro @tz<|And.intro @tA<|And.intro @tB<|And.intro @tC<|And.intro @tD<|
 And.intro @tE<|And.intro @tF<|And.intro @tG<|And.intro @tH<|And.intro @tI<|And.intro @o_load<|And.intro @tJ<|And.intro @tK<|And.intro @tL<|And.intro @tM<|And.intro @tN<|And.intro @tO<|And.intro @tP<|
 And.intro @tQ<|And.intro @tR<|And.intro @tS<|And.intro @tT<|And.intro @min2<|And.intro @max2<|And.intro @tW<|And.intro @t_<|And.intro @ub<|And.intro @uc<|And.intro @ud<|And.intro @uf<|
 And.intro @uh<|And.intro @ui<|And.intro @uj<|And.intro @uq<|And.intro @ur<|And.intro @uw<|And.intro @ux<|And.intro @uy<|And.intro @uA<|And.intro @uQ<|And.intro @uR<|And.intro @uS<|And.intro @uT<|
 And.intro @uU<|And.intro @vl<|And.intro @vm<|And.intro @vn<|And.intro @vo<|And.intro @vp<|And.intro @vq<|And.intro @vr<|And.intro @vt<|And.intro @vu<|And.intro @vv<|And.intro @vw<|
 And.intro @vx<|And.intro @vy<|And.intro @vz<|And.intro @vA<|And.intro @vB<|And.intro @vC<|And.intro @vD<|And.intro @vE<|And.intro @vF<|And.intro @vG<|And.intro @vH<|And.intro @vI<|And.intro @vJ<|And.intro @vK<|And.intro @vL<|
 And.intro @vM<|And.intro @vN<|And.intro @vO<|And.intro @vP<|And.intro @vQ<|And.intro @vR<|And.intro @tX<|And.intro @tY<|And.intro @tZ<|
 And.intro @List.set_cons_succ.{0}<|And.intro @List.set_cons_zero.{0}<|And.intro @List.getD_cons_succ.{0}<|And.intro @List.getD_cons_zero.{0}<|And.intro @Option.map_some.{0,0}<|And.intro @Option.map_none.{0,0}<|And.intro @List.map_nil.{0,0}<|And.intro @List.map_cons.{0,0}<|And.intro @List.contains_nil.{0}<|
 And.intro @List.getElem?_cons_succ.{0}<|And.intro @List.getElem?_cons_zero.{0}<|And.intro @List.length_map.{0,0}<|And.intro @List.drop_succ_cons.{0}<|And.intro @List.drop_zero.{0}<|And.intro @List.take_succ_cons.{0}<|And.intro @List.take_zero.{0}<|And.intro @List.length_cons.{0}<|And.intro @List.length_nil.{0}<|
 And.intro @if_true.{0}<|And.intro @if_false.{0}<|And.intro @Bool.not_true<|And.intro @Bool.not_false<|And.intro @Option.getD_none.{0}<|And.intro @Option.getD_some.{0}<|And.intro @List.cons_append.{0}<|And.intro @List.nil_append.{0}<|And.intro @and_self<|And.intro @and_true @true_and):=
 And.intro @vi<|And.intro @uE<|And.intro @uF<|And.intro @uG<|And.intro @uH<|And.intro @uI<|And.intro @uJ<|And.intro @uK<|And.intro @uL<|And.intro @uM<|And.intro @uN<|And.intro @uO<|And.intro @uP<|And.intro @Bool.or_false<|And.intro @vj<|And.intro @vk<|And.intro @si<|And.intro @uZ<|And.intro @u2<|And.intro @uX<|And.intro @uY<|And.intro @u3<|And.intro @u4<|And.intro @u5<|And.intro @u6<|And.intro @u7<|And.intro @u9<|And.intro @u_<|And.intro @va<|And.intro @vb<|And.intro @vd<|And.intro @ve<|And.intro @vf<|And.intro @vg<|And.intro @vh<|
 And.intro @so<|And.intro @sq<|And.intro @ss<|And.intro @su<|And.intro @sw<|And.intro @sx<|And.intro @sy<|And.intro @sA<|And.intro @sB<|And.intro @sC<|And.intro @sD<|And.intro @sE<|And.intro @sF<|
 And.intro @sG<|And.intro @sH<|And.intro @sI<|And.intro @sJ<|And.intro @sK<|And.intro @sL<|And.intro @sM<|And.intro @sN<|And.intro @sO<|And.intro @sP<|And.intro @sQ<|And.intro @sR<|
 And.intro @ul<|And.intro @um<|And.intro @uo<|And.intro @sT<|And.intro @sU<|And.intro @sV<|And.intro @sW<|And.intro @sY<|And.intro @sZ<|And.intro @s4<|And.intro @s7<|And.intro @s8<|And.intro @s9<|
 And.intro @tc<|And.intro @tg<|And.intro @tj<|And.intro @tn<|And.intro @tp<|And.intro @tq<|And.intro @tv<|And.intro @tw<|And.intro @tz<|And.intro @tA<|And.intro @tB<|And.intro @tC<|And.intro @tD<|
 And.intro @tE<|And.intro @tF<|And.intro @tG<|And.intro @tH<|And.intro @tI<|And.intro @o_load<|And.intro @tJ<|And.intro @tK<|And.intro @tL<|And.intro @tM<|And.intro @tN<|And.intro @tO<|And.intro @tP<|
 And.intro @tQ<|And.intro @tR<|And.intro @tS<|And.intro @tT<|And.intro @min2<|And.intro @max2<|And.intro @tW<|And.intro @t_<|And.intro @ub<|And.intro @uc<|And.intro @ud<|And.intro @uf<|
 And.intro @uh<|And.intro @ui<|And.intro @uj<|And.intro @uq<|And.intro @ur<|And.intro @uw<|And.intro @ux<|And.intro @uy<|And.intro @uA<|And.intro @uQ<|And.intro @uR<|And.intro @uS<|And.intro @uT<|
 And.intro @uU<|And.intro @vl<|And.intro @vm<|And.intro @vn<|And.intro @vo<|And.intro @vp<|And.intro @vq<|And.intro @vr<|And.intro @vt<|And.intro @vu<|And.intro @vv<|And.intro @vw<|
 And.intro @vx<|And.intro @vy<|And.intro @vz<|And.intro @vA<|And.intro @vB<|And.intro @vC<|And.intro @vD<|And.intro @vE<|And.intro @vF<|And.intro @vG<|And.intro @vH<|And.intro @vI<|And.intro @vJ<|And.intro @vK<|And.intro @vL<|
 And.intro @vM<|And.intro @vN<|And.intro @vO<|And.intro @vP<|And.intro @vQ<|And.intro @vR<|And.intro @tX<|And.intro @tY<|And.intro @tZ<|
 And.intro @List.set_cons_succ.{0}<|And.intro @List.set_cons_zero.{0}<|And.intro @List.getD_cons_succ.{0}<|And.intro @List.getD_cons_zero.{0}<|And.intro @Option.map_some.{0,0}<|And.intro @Option.map_none.{0,0}<|And.intro @List.map_nil.{0,0}<|And.intro @List.map_cons.{0,0}<|And.intro @List.contains_nil.{0}<|
 And.intro @List.getElem?_cons_succ.{0}<|And.intro @List.getElem?_cons_zero.{0}<|And.intro @List.length_map.{0,0}<|And.intro @List.drop_succ_cons.{0}<|And.intro @List.drop_zero.{0}<|And.intro @List.take_succ_cons.{0}<|And.intro @List.take_zero.{0}<|And.intro @List.length_cons.{0}<|And.intro @List.length_nil.{0}<|
 And.intro @if_true.{0}<|And.intro @if_false.{0}<|And.intro @Bool.not_true<|And.intro @Bool.not_false<|And.intro @Option.getD_none.{0}<|And.intro @Option.getD_some.{0}<|And.intro @List.cons_append.{0}<|And.intro @List.nil_append.{0}<|And.intro @and_self<|And.intro @and_true @true_and
end Go.VS
namespace Go.VS
def iH:List (Nat×List Nat)→Nat→List Nat
 |[],_=>[]
 |(a,l)::t,i=>if i=a then l else iH t i
def lr:List Nat→Nat→Bool
 |[],_=>true
 |a::t,i=>if i=a then false else lr t i
theorem vS: ∀(ls:List Nat) (i:Nat),(!ls.contains i)=lr ls i
 |[],_=>rfl
 |a::t,i=>by
  have:=vS t i;unfold lr;by_cases h:i=a
  ·simp [h]
  ·rw [if_neg h,←this];simp [h]
theorem zO {f:Nat→List Nat}: ∀(ia:List (Nat×List Nat)) (_:ia.all (fun p=>f p.1==p.2)=true) (_: ∀i,i∉ia.map (·.1)→f i=[]) (i:Nat),f i=iH ia i
 |[],_,h,i=>h i (by simp)
 |(a,l)::t,h1,h2,i=>by
  simp only [List.all_cons,Bool.and_eq_true,beq_iff_eq] at h1;unfold iH;by_cases h:i=a
  ·rw [if_pos h,h];exact h1.1
  ·rw [if_neg h];by_cases hm:i∈t.map (·.1)
   ·clear h2;have go: ∀(t:List (Nat×List Nat)),t.all (fun p=>f p.1==p.2)=true→i∈t.map (·.1)→f i=iH t i:=by
     intro t;induction t with
     |nil=>intro _ hm;simp at hm
     |cons p t ih=>
      intro h1 hm;simp only [List.all_cons,Bool.and_eq_true,beq_iff_eq] at h1;obtain ⟨a,l⟩:=p;unfold iH;by_cases h:i=a
      ·rw [if_pos h,h];exact h1.1
      ·rw [if_neg h];exact ih h1.2 (by simpa [h] using hm)
    exact go t h1.2 hm
   ·have e:f i=[]:=h2 i (by simp only [List.map_cons,List.mem_cons,not_or];exact ⟨h,hm⟩)
    rw [e];clear h1 h2;induction t with
    |nil=>rfl
    |cons p t ih=>
     obtain ⟨b,m⟩:=p;simp only [List.map_cons,List.mem_cons,not_or] at hm;unfold iH;rw [if_neg hm.1];exact ih hm.2
section
variable {C:aI} {s:aj} {H:J} {K:Ex→aj→J→Prop}
theorem Cd (gC:Good C) {id:Nat} {ops:List Oper} {ls th:List Nat} {fz:List (Nat×List (List Nat×List Sh))} (ia:List (Nat×List Nat)) (hd:ig ops.toArray ls=true) (h1:ia.map (·.1)=ls) (h2:ia.all (fun p=>fD ops.toArray ls p.1==p.2)=true)
 (h:dY C (iF K) (dO ops (lr ls) (iH ia) th ops 0) s H):aJ (aq C) C (.region id ops.toArray true ls th fz) s H K:=by
 refine sf gC hd ?_;have e1:(fun i=> !ls.contains i)=lr ls:=funext (vS ls);have e2:fD ops.toArray ls=iH ia:=funext (zO ia h2 (fun i hi=>by
  unfold fD;rw [h1] at hi;rw [if_neg (by simpa using hi)]))
 rw [e1,e2];exact h
end
theorem Ce {C:aI} {K:aj→J→Prop} {d:Option Tmp} {l:List (Op×Option Tmp)} {rest:List GO} {s:aj} {v:AV} {H:J} (h:dN C (bf s d v) H (fw C K d [] rest s v H) l):fw C K d l rest s v H:=h
theorem Cf {C:aI} {s:aj} {H:J} {P:Prop} {op:Op} {t:Tmp} {js:List (Op×Option Tmp)} (h1:aL C.E op s H=some (s.getD t .undef,H)) (h:dN C s H P js):dN C s H P ((op,some t)::js):=⟨⟨t,rfl,h1⟩,h⟩
theorem Cg {C:aI} {s:aj} {H:J} {P:Prop} (h:P):dN C s H P []:=h
theorem zP {x:Int} (h: -9223372036854775808≤x∧x≤9223372036854775807):IntKind.i64.wrap x=x:=IntWalk.i64_in x (by omega)
end Go.VS
namespace Go.VS
section
variable {C:aI} {H:J} {L:List It}
theorem Ch (π :List Nat) (l:List Oper):ly π l= π.map (fun i=>eW π (l.getD i default)):=rfl
theorem Ci (π :List Nat) (o:Oper):(eW π o).dst=o.dst:=rfl
theorem Cj (π :List Nat) (o:Oper):(eW π o).op=o.op:=rfl
theorem Ck (π :List Nat) (o:Oper):(eW π o).guard=o.guard.map (fun p=>(c5 π p.1,p.2)):=rfl
theorem Cl (a:Nat) (l:List Nat) (i:Nat):c5 (a::l) i=if a=i then 0 else c5 l i+1:=by
 unfold c5;rw [List.idxOf_cons];by_cases h:a=i
 ·simp [h]
 ·have:(a==i)=false:=by simpa using h
  simp [h,this]
theorem zQ {f:AV→Option AV} {c y:AV} {cs ys:List AV} (h1:f c=some y) (h2:cs.mapM f=some ys):(c::cs).mapM f=some (y::ys):=by
 simp [List.mapM_cons,h1,h2]
theorem vT {f:AV→Option AV}: ∀(cs:List AV),(∀c∈cs,f c=some c)→cs.mapM f=some cs
 |[],_=>rfl
 |c::cs,h=>zQ (h c (by simp)) (vT cs fun d hd=>h d (by simp [hd]))
theorem Cm {α :Type} {n:Nat} (hS:aD H L) (j:Nat) {v:AV} {sz:Nat} {l:List α} {c: α →AV} (hj:L[j]? =some ⟨v,sz,l.map c⟩) (hp:bQ v) (hc: ∀x,aX n H (c x)=some (c x)):aX (n+1) H v=some (.fz (l.map c)):=by
 obtain ⟨k0,ag⟩:=hS.ok j _ hj;simp only at ag;rcases hp.ok with rfl|rfl|⟨id,ad,off,len,rfl⟩
 ·simp only at ag;simp only [aX,ag]
 ·simp only at ag;simp only [aX,ag]
 ·simp only at ag;obtain ⟨k1,b,hb,k2,k3,k4,k5⟩:=ag;simp only [aX,hb];rw [if_pos k4,k5,vT (l.map c) (by
   intro d hd;obtain ⟨x,_,rfl⟩:=List.mem_map.1 hd;exact hc x),Option.map_some]
theorem Cn:b_ [] [] H=some ([],false):=rfl
theorem Co {v y:AV} {vs ys:List AV} {b:Bool} (h1:aX 8 H v=some y) (h2:b_ [] vs H=some (ys,b)):b_ [] (v::vs) H=some (y::ys,eH v||b):=by
 simp only [b_,h1,h2]
def TV (cb:List (List Sh)) (rs:List AV) (H:J) (K:List AV→Prop):Prop:= ∃zs H',db cb rs H=some (zs,H')∧K zs
theorem Cp {cb:List (List Sh)} {K:List AV→Prop} (h:K []):TV cb [] H K:=⟨[],H,rfl,h⟩
theorem vU {e:List Sh} {cb:List (List Sh)} {v y:AV} {rs:List AV} {H1:J} {K:List AV→Prop} (ht:aY e v H=some (y,H1)) (h:TV cb rs H1 fun zs=>K (y::zs)):TV (e::cb) (v::rs) H K:=by
 obtain ⟨zs,H',h1,h2⟩:=h;exact ⟨y::zs,H',by simp only [db,List.headD_cons,List.tail_cons,ht,h1],h2⟩
theorem zR {v:AV} (hp:du v=true) (H:J):aY [.sc] v H=some (v,H):=by
 cases v<;>simp [du] at hp<;>simp [aY,aP,du]
theorem Cq {cb:List (List Sh)} {v:AV} {rs:List AV} {K:List AV→Prop} (hp:du v=true) (h:TV cb rs H fun zs=>K (v::zs)):TV ([.sc]::cb) (v::rs) H K:=
 vU (zR hp H) h
theorem Cr {α :Type} {cb:List (List Sh)} {es:List Sh} {v:AV} {rs:List AV} {K:List AV→Prop} {m:List α} {c: α →AV} (j:Nat) (hS:aD H L) (hj:L[j]? =some ⟨v,es.length,m.map c⟩) (hp:bQ v) (hc: ∀x H,aY es (c x) H=some (c x,H))
 (h: ∀H',aD H' (L.eraseIdx j)→TV cb rs H' fun zs=>K (.own es.length (m.map c)::zs)):TV ([.sl es]::cb) (v::rs) H K:=by
 obtain ⟨H',h1,h2⟩:=hS.take j hj hp hc;exact vU h1 (h H' h2)
theorem Cs {cb:List (List Sh)} {rs:List AV} {y v:AV} (hv:v=cg rs) (h:TV cb rs H fun zs=>y=cg zs): ∃rs zs L2,v=cg rs∧db cb rs H=some (zs,L2)∧y=cg zs:=by
 obtain ⟨zs,H',h1,h2⟩:=h;exact ⟨rs,zs,H',hv,h1,h2⟩
def TH (ys:List AV) (H:J) (K:List AV→J→Prop):Prop:=K (aF ys H).1 (aF ys H).2
theorem Ct {K:List AV→J→Prop} (h:K [] H):TH [] H K:=h
theorem vV {α :Type} {c: α →AV} (hc: ∀x H,aG (c x) H=(c x,H)): ∀(l:List α) (H:J),aF (l.map c) H=(l.map c,H)
 |[],_=>rfl
 |x::l,H=>by simp only [List.map_cons,aF,hc x H,vV hc l H]
theorem Cu {α :Type} {sz:Nat} {m:List α} {c: α →AV} {ys:List AV} {K:List AV→J→Prop} (hS:aD H L) (hc: ∀x H,aG (c x) H=(c x,H)) (hz: ∀x,(c x).cells.length=sz)
 (h: ∀v H',bQ v→aD H' (⟨v,sz,m.map c⟩::L)→TH ys H' fun zs iw=>K (v::zs) iw):TH (.own sz (m.map c)::ys) H K:=by
 have hs:bU sz (m.map c)=true:=by simp [bU,hz]
 have:=h _ _ (jr H.bs.length H.st 0 (m.map c).length) (hS.pB (all:=m.map c) (List.take_of_length_le (Nat.le_refl _)) rfl hs);unfold TH at this⊢;simp only [aF,aG,vV hc m H];exact this
theorem Cv {y:AV} {K:AV→J→Prop} (h:TH [y] H fun zs H' =>K (zs.headD .undef) H'):K (aG y H).1 (aG y H).2:=by
 unfold TH at h;simp only [aF] at h;exact h
variable {q th:Bool} {K:AV→J→Prop}
theorem Cw {α β :Type} {g:FuncId} {bR args ys:List AV} {bT:Bool} {o:Option α} {f: α →Option β} {r: β} {cb:List (List Sh)} (h:o.bind f=some r) (hr:(C.gb g).cb=cb) (hp:b_ [] (args ++ bR) H=some (ys,bT))
 (hk: ∀x,o=some x→f x=some r→ ∃y,aq C g ys ⟨0,[]⟩ (fun v L=> ∃rs zs L2,v=cg rs∧db cb rs L=some (zs,L2)∧y=cg zs)∧(cB y=true∧br y=y∧ ∀H,aG y H=(y,H))∧K y H):lq C q th (.fn g bR) args H K:=by
 refine uz h hr hp fun x hx hf=> ?_;obtain ⟨y,h1,⟨h2,h3,h4⟩,h5⟩:=hk x hx hf;refine ⟨y,h1,.inr h2,?_⟩;rw [h3,h4 H];split<;>exact h5
theorem Cx {α β :Type} {g:FuncId} {bR args ys:List AV} {bT:Bool} {o:Option α} {f: α →Option β} {r: β} {cb:List (List Sh)} (h:o.bind f=some r) (hr:(C.gb g).cb=cb) (hp:b_ [] (args ++ bR) H=some (ys,bT))
 (hk: ∀x,o=some x→f x=some r→ ∃y,aq C g ys ⟨0,[]⟩ (fun v L=> ∃rs zs L2,v=cg rs∧db cb rs L=some (zs,L2)∧y=cg zs)∧cB y=true∧K (aG y H).1 (aG y H).2):lq C q true (.fn g bR) args H K:=by
 refine uz h hr hp fun x hx hf=> ?_;obtain ⟨y,h1,h2,h5⟩:=hk x hx hf;refine ⟨y,h1,.inr h2,?_⟩;simpa using h5
theorem vW {α :Type} {c: α →AV} (hc: ∀x,cB (c x)=true): ∀(l:List α),fZ (l.map c)=true
 |[]=>rfl
 |x::l=>by simp only [List.map_cons,fZ,hc x,vW hc l,Bool.and_self]
theorem Cy {α :Type} {c: α →AV} (sz:Nat) (hc: ∀x,cB (c x)=true) (l:List α):cB (.own sz (l.map c))=true:=by
 simp only [cB];exact vW hc l
end
end Go.VS
namespace Go.VS
def vX (t b:TypeId):Code:=
 (Go.Code.seq
  (Go.Code.region 0 #[{dst:=some 2,op:=Go.Op.assign (Go.Operand.const (Go.Value.slice none 0 0)),type:=t,pos:= "slices.go:355",after:= #[],guard:=none}] false)
  (Go.Code.seq
   (Go.Code.seq
    (Go.Code.region 1
     #[{dst:=some 3,op:=Go.Op.move (Go.Operand.tmp 0),type:=t,pos:= "slices.go:357",after:= #[],guard:=none},
      {dst:=some 4,op:=Go.Op.binOp Go.BinOp.eql t (Go.Operand.tmp 3) (Go.Operand.const (Go.Value.slice none 0 0)) t,type:=b,pos:= "slices.go:357",after:= #[{on:=0,ground:=Go.Ground.data}],guard:=none}]
     false)
    (Go.Code.cond (Go.Operand.tmp 4)
     (Go.Code.seq
      (Go.Code.region 2 #[{dst:=some 2,op:=Go.Op.assign (Go.Operand.const (Go.Value.slice none 0 0)),type:=t,pos:= "slices.go:358",after:= #[],guard:=none}] false)
      Go.Code.ret)
     Go.Code.skip))
   (Go.Code.seq
    (Go.Code.region 3
     #[{dst:=some 5,op:=Go.Op.buildSlice t 0 #[],type:=t,pos:= "slices.go:362",after:= #[],guard:=none},
      {dst:=some 6,op:=Go.Op.move (Go.Operand.tmp 0),type:=t,pos:= "slices.go:362",after:= #[],guard:=none},
      {dst:=some 7,op:=Go.Op.call {callee:=Go.Callee.builtin Go.Builtin.append,args:= #[Go.Operand.tmp 5,Go.Operand.tmp 6],argTypes:= #[t,t]},type:=t,pos:= "slices.go:362",after:= #[{on:=0,ground:=Go.Ground.data},{on:=1,ground:=Go.Ground.data}],guard:=none},
      {dst:=some 2,op:=Go.Op.assign (Go.Operand.tmp 7),type:=t,pos:= "slices.go:362",after:= #[{on:=2,ground:=Go.Ground.data},{on:=2,ground:=Go.Ground.chain},{on:=0,ground:=Go.Ground.phase},{on:=1,ground:=Go.Ground.phase},{on:=2,ground:=Go.Ground.phase}],guard:=none}]
     false)
    Go.Code.ret)))
def jZ:bz:=fun _ _ _ _=>False
def gB (E:aM):aI:=⟨E,fun _=>{},fun _=>none,jZ⟩
theorem zS {w:World} {H:J} {φ :af} {A:ah} {xs:List AV} {v:Value} (h:R w H φ A (.fz xs) v): ∃a cap,v= .slice a xs.length cap:=by
 cases h.dw with
 |cC a cap=>exact ⟨a,cap,rfl⟩
 |fz _ c off cap n arr T fr=>exact ⟨_,_,rfl⟩
theorem zT {P:Program} {w:World} {t e:TypeId} {a:Option Addr} {n cap:Nat} (h:(underlying t).run P w= .ok (.slice e) w) (d:Nat): ∃b,(Op.equalIn (d+1) t (.slice a n cap) (.slice none 0 0)).run P w= .ok b w∧(b=true→a=none):=by
 cases a with
 |none=>exact ⟨true,by simp [Op.equalIn,h],fun _=>rfl⟩
 |some a=>exact ⟨false,p_ h d,by simp⟩
theorem zU: ∀c:Code,cT {} c=true:=by
 intro c;induction c with
 |seq a b fT fU=>simp [cT,fT,fU]
 |cond c a b fT fU=>simp [cT,fT,fU]
 |block id a ih=>simp [cT,ih]
 |loop a ih=>simp [cT,ih]
 |region id ops draw=>simp [cT]
 |_=>simp [cT]
section
variable {P:Program} {E:aM}
theorem zV (hm:P.follows .mixedOrders=true) (hE: ∀t ti,E t=some ti→aQ P t ti) {f:FuncId} {fn:Func} {t b e:TypeId} {ti te:TI} (hf:P.funcs[f]? =some fn) (pd:(fn.name== "runtime.NumGoroutine")=false)
 (hb:fn.body=some (vX t b)) (hr:fn.results= #[.tmp 2]) (hn:fn.ntmps=8) (ht:E t=some ti) (hu:ti.au= .sl e) (he:E e=some te) (xs:List AV) (H:J) (hz:bU te.sz xs=true) (h0:te.sz≠0) (dM:roomy xs.length te.bytes=true):
 cz P f [.fz xs] H (fun v H' =>v=(if xs=[] then .e0 else .ref H.bs.length H.st 0 xs.length)∧H' =(if xs=[] then H else H.new te.sz false xs)):=by
 have df:Exact jZ:=fun _ _ _ _ h=>h.elim;have hX: ∀f ys H K,jZ f ys H K→cz P f ys H K:=fun _ _ _ _ h=>h.elim;have hD:mn P (gB E) jZ:=rZ (C:=gB E) df hm hE hX;have pL:=fun (c:Code) s H K Q w φ A a h=>rA (P:=P) (C:=gB E) (X:=jZ) hm hE hX hD {} c 0 s H K Q w φ A a (zU c) h;refine ⟨⟨fn,hf,pd,by simp [hb]⟩,fun w A φ us ae hl dW=> ?_⟩
 refine calls_of_wp hf hb ?_;rw [hn];obtain ⟨v,rfl⟩: ∃v,us= #[v]:=by
  match us,hl with
  |⟨[v]⟩,_=>exact ⟨v,rfl⟩
 have hv:R w H φ A (.fz xs) v:=dW 0 _ _ rfl rfl;have ec:SF w H φ A [.fz xs,.undef,.undef,.undef,.undef,.undef,.undef,.undef] {tmps:= #[v] ++ Array.replicate (8-1) undef,defers:=[]}:=by
  refine ⟨rfl,fun i x u hx hu=> ?_,rfl⟩
  match i with
  |0=>simp at hx hu;subst hx;subst hu;exact hv
  |i+1=>
   have:x= .undef:=by
    match i with
    |0|1|2|3|4|5|6=>simpa using hx.symm
    |i+7=>simp at hx
   subst this;exact .fr _ _ (.undef _)
 have fin: ∀(s' :aj) (H' :J) (ak:af) (A' :ah) (a' :Act) (w' :World) (x:AV),Out w H φ A w' H' ak A' →SF w' H' ak A' s' a' →s'.getD 2 .undef=x→(∀u,R w' H' ak A' x u→ ∃y,R w' H' ak A' y u∧(y=(if xs=[] then .e0 else .ref H.bs.length H.st 0 xs.length)∧H' =(if xs=[] then H else H.new te.sz false xs)))→
  a'.defers=[]∧ ∃v,(results fn a'.tmps).run P w' = .ok v w' ∧iy w H φ A (fun v H' =>v=(if xs=[] then .e0 else .ref H.bs.length H.st 0 xs.length)∧H' =(if xs=[] then H else H.new te.sz false xs)) (.returned v) w' :=by
  intro s' H' ak A' a' w' x h1 h2 hx hy
  refine ⟨h2.eD,?_⟩;obtain ⟨cx,k1,k2,k3⟩:=rC (P:=P) (C:=gB E) hE h1.st h2 (fn:=fn) (rs:=[x]) (by rw [hr];simp only [eb,hx,Option.map_some])
  obtain ⟨u,rfl⟩: ∃u,cx=[u]:=by
   match cx,k2 with
   |[u],_=>exact ⟨u,rfl⟩
  obtain ⟨y,zW,zX⟩:=hy u (k3 0 x u rfl rfl);exact ⟨_,k1,y,H',ak,A',h1,by simpa [gW] using zW,zX⟩
 refine wp_seq (pL _ _ H (fun e s1 H1=>e= .normal∧s1=[.fz xs,.undef,.nil,.undef,.undef,.undef,.undef,.undef]∧H1=H) _ w φ A _ ?_ ae ec ?_)
 ·simp [cU,jy,ic,fB,aJ,cK,dm,wpOp,dD,aL,ev,ofValue,bf,gB]
 rintro e1 s1 H1 φ1 A1 a1 w1 o1 cD ⟨rfl,rfl,rfl⟩;show (Code.seq _ _).wp P _ a1 w1;have jn:=o1.st;refine wp_seq (wp_seq (wp_region_list ?_));simp only [wpList];rw [if_pos (by simp [Region.wanted])]
 refine .inl (mg (C:=gB E) (X:=jZ) hE hX jn (s:=[.fz xs,.undef,.nil,.undef,.undef,.undef,.undef,.undef]) (fun x _=>cD.ev x) (th:=false) (K:=fun x H' =>x= .fz xs∧H' =H1) (by simp [wpOp,dD,aL,ev]) ?_)
 rintro x3 v3 w3 H3 cQ A3 o3 pM ⟨rfl,rfl⟩;have zY:=(cD.mono o3.bV).set (some 3) pM;have lb:=o3.st;rw [if_pos (by simp [Region.wanted])]
 have zZ:(a1.put (some 3) v3).eval (.tmp 3)=v3:=by
  have:a1.tmps.size=8:=by have:=cD.len;simpa using this.symm
  simp [Act.eval,Act.put,this]
 obtain ⟨a0,cap,rfl⟩:=zS pM;obtain ⟨bb,vY,z6⟩:=zT (a:=a0) (n:=xs.length) (cap:=cap) ((hE t ti ht).sl w3 hu) 9999;have z7:cd w3 H3 cQ A3 H3 ((execOp (a1.put (some 3) (.slice a0 xs.length cap)).eval {dst:=some 4,op:=Go.Op.binOp Go.BinOp.eql t (Go.Operand.tmp 3) (Go.Operand.const (Go.Value.slice none 0 0)) t,type:=b,pos:= "slices.go:357",after:= #[{on:=0,ground:=Go.Ground.data}],guard:=none}).run P w3) (.bool bb):=by
  have hg:=ii P w3 .eql t (.tmp 3) (.const (.slice none 0 0)) (.slice a0 xs.length cap) (.slice none 0 0) (by simp) rfl
  have z8:binOp .eql t (.slice a0 xs.length cap) (.slice none 0 0)=(do pure (.bool (←Op.equal t (.slice a0 xs.length cap) (.slice none 0 0)))):=rfl
  rw [←nG] at vY;refine cd.kH lb (.inl rfl) (bd.fl lb ⟨.bool bb,?_,.fr _ _ (.bool _)⟩);rw [zZ];show (do eqGuard .eql t (.tmp 3) (.const (.slice none 0 0)) (.slice a0 xs.length cap) (.slice none 0 0);binOp .eql t (.slice a0 xs.length cap) (.slice none 0 0):Sem Value).run P w3=_
  simp [hg,z8,vY]
 refine .inl (z7.upon fun v4 w4 vZ A4 o4 z_=> ?_);have v7:=(zY.mono o4.bV).set (some 4) z_;have pN:=o4.st;have v8:Out w H3 φ A w4 H3 vZ A4:=o1.trans ae (o3.trans jn (o4.trans lb (.refl pN)));simp only [bf,List.set_cons_succ,List.set_cons_zero] at v7;simp only [Exit.then];refine pL _ [.fz xs,.undef,.nil,.fz xs,.bool bb,.undef,.undef,.undef] H3 (fun e s' H' =>H' =H3∧if bb=true then e= .ret∧s' =[.fz xs,.undef,.nil,.fz xs,.bool bb,.undef,.undef,.undef] else e= .normal∧s' =[.fz xs,.undef,.nil,.fz xs,.bool bb,.undef,.undef,.undef]) _ w4 vZ A4 _ ?_ pN v7 ?_
 ·cases bb
  ·simp [cU,lx,aJ,ev,gB]
  ·simp [cU,lx,jy,ic,fB,aJ,cK,dm,wpOp,dD,aL,ev,ofValue,bf,gB];exact ⟨_,_,⟨rfl,rfl⟩,rfl,rfl⟩
 rintro e5 s5 H5 Aa A5 a5 w5 o5 v_ ⟨rfl,mZ⟩;cases bb with
 |true=>
  simp only [if_true] at mZ;obtain ⟨rfl,rfl⟩:=mZ;obtain rfl:=z6 rfl;have dJ:xs=[]:=by
   cases Cz:pM.dw with
   |cC=>rfl
  subst dJ;show (bodyPost P fn _) .ret a5 w5;refine fin _ _ _ _ _ _ .nil (v8.trans ae o5) v_ rfl fun u hu=>⟨.e0,?_,by simp⟩
  have:=hu.c6;subst this;exact .fr _ _ (.e0 none)
 |false=>
  simp only [Bool.false_eq_true,if_false] at mZ;obtain ⟨rfl,rfl⟩:=mZ;show (Code.seq _ _).wp P _ a5 w5;refine pL _ [.fz xs,.undef,.nil,.fz xs,.bool false,.undef,.undef,.undef] H5 (fun e s' H' =>e= .ret∧s'.getD 2 .undef=(if xs=[] then .e0 else .ref H5.bs.length H5.st 0 xs.length)∧H' =(if xs=[] then H5 else H5.new te.sz false xs)) _ w5 Aa A5 a5 ?_ o5.st v_ ?_
  ·by_cases dJ:xs=[]
   ·subst dJ;simp [cU,jy,ic,fB,aJ,cK,dm,wpOp,dD,aL,ev,bf,gB,cS,ht,hu,he,dt,ea,cJ,bU,h0];refine ⟨_,_,⟨rfl,rfl⟩,_,_,⟨rfl,rfl⟩,_,_,⟨rfl,rfl⟩,?_⟩;simp
   ·have hlen: ¬xs.length=0:=by simpa using dJ
    simp [cU,jy,ic,fB,aJ,cK,dm,wpOp,dD,aL,ev,bf,gB,cS,ht,hu,he,dt,ea,cJ,h0,dJ];refine ⟨_,_,⟨rfl,rfl⟩,_,_,⟨rfl,rfl⟩,_,_,⟨rfl,rfl⟩,?_⟩;simp [hz,dM,dJ]
  ·rintro e6 s6 H6 CA A6 a6 w6 o6 Ab ⟨rfl,Ac,rfl⟩;show (bodyPost P fn _) .ret a6 w6;exact fin _ _ _ _ _ _ _ (v8.trans ae (o5.trans pN o6)) Ab Ac fun u hu=>⟨_,hu,rfl,rfl⟩
def wa (ids:List (FuncId×Nat×Nat)):bz:=fun f ys H K=> ∃sz b xs,(f,sz,b)∈ids∧ys=[.fz xs]∧bU sz xs=true∧sz≠0∧roomy xs.length b=true∧K (if xs=[] then .e0 else .ref H.bs.length H.st 0 xs.length) (if xs=[] then H else H.new sz false xs)
structure wb (P:Program) (E:aM) (f:FuncId) (sz b:Nat):Prop where
 out: ∃fn t bt e ti te,P.funcs[f]? =some fn∧(fn.name== "runtime.NumGoroutine")=false∧fn.body=some (vX t bt)∧fn.results= #[.tmp 2]∧fn.ntmps=8∧E t=some ti∧ti.au= .sl e∧E e=some te∧te.sz=sz∧te.bytes=b
theorem Ad (hm:P.follows .mixedOrders=true) (hE: ∀t ti,E t=some ti→aQ P t ti) {ids:List (FuncId×Nat×Nat)} (pO: ∀x∈ids,wb P E x.1 x.2.1 x.2.2):
 ∀f ys H K,wa ids f ys H K→ ∃v H',cz P f ys H (fun v1 H1=>v1=v∧H1=H')∧K v H' :=by
 rintro f ys H K ⟨sz,b,xs,h1,rfl,h2,h3,h4,h5⟩;obtain ⟨fn,t,bt,e,ti,te,k1,k2,k3,k4,k5,k6,k7,k8,rfl,rfl⟩:=(pO _ h1).out;exact ⟨_,_,zV hm hE k1 k2 k3 k4 k5 k6 k7 k8 xs H h2 h3 h4,h5⟩
end
end Go.VS
namespace Go.VS
structure fX (w:List AV) (n:Nat):Prop where
 len:w.length=n
 sl: ∀a∈w,bQ a
def Ae {α β :Type} (p: α →List β) (c: β →AV) (z:Nat) (w:List AV) (l:List α):List It:=List.zipWith (fun a x=>⟨a,z,(p x).map c⟩) w l
def CB {α :Type} (m:AV→ α →AV) (w:List AV) (l:List α):List AV:=List.zipWith m w l
def CC {α β :Type} (p: α →List β) (c: β →AV) (z:Nat) (w:List AV) (l:List α) (i:Nat):List It:=(Ae p c z w l).eraseIdx i
theorem CD {α :Type} (c: α →AV) (l:List α):zN c l= .fz (l.map c):=rfl
def Af:List (List It)→List It→List It
 |[],F=>F
 |a::as,F=>a ++ Af as F
section
variable {H:J} {L F R:List It}
variable {α β :Type} {p: α →List β} {c: β →AV} {z:Nat} {w:List AV} {l:List α} {m:AV→ α →AV} {v:AV} {sz:Nat}
theorem fX.nil:fX [] 0:=⟨rfl,by simp⟩
theorem fX.get (h:fX w l.length) {i:Int} {b: α} (hi:idx l i=some b): ∃a,w[i.toNat]? =some a∧bQ a:=by
 obtain ⟨_,_,h1⟩:=ll hi;have:=(List.getElem?_eq_some_iff.1 h1).1;have hw:i.toNat<w.length:=by rw [h.len];exact this
 exact ⟨_,List.getElem?_eq_getElem hw,h.sl _ (List.getElem_mem hw)⟩
theorem fX.set (h:fX w l.length) {a:AV} (ha:bQ a) (i:Nat) (y: α):fX (w.set i a) (l.set i y).length:=by
 refine ⟨by simpa using h.len,fun x hx=> ?_⟩
 rcases List.mem_or_eq_of_mem_set hx with h1|rfl
 ·exact h.sl _ h1
 ·exact ha
theorem fX.app {w' :List AV} {l' :List α} (h:fX w l.length) (h' :fX w' l'.length):fX (w ++ w') (l ++ l').length:=by
 refine ⟨by simp [h.len,h'.len],fun x hx=> ?_⟩
 rcases List.mem_append.1 hx with h1|h1
 ·exact h.sl _ h1
 ·exact h'.sl _ h1
structure CE (v:AV) (lo n:Nat) (v' :AV):Prop where
 out:(v= .nil∧v' = .nil)∨(v= .e0∧v' = .e0)∨ ∃id ad off len,v= .ref id ad off len∧v' = .ref id ad (off+lo) n
structure CF (H:J) (v:AV) (n:Nat):Prop where
 out:((v= .nil∨v= .e0)∧n=0)∨ ∃id ad off len b,v= .ref id ad off len∧H.ap id ad=some b∧off+n≤b.el.length
structure CG (v:AV) (n k:Nat) (v' :AV):Prop where
 out:((v= .nil∨v= .e0)∧v' =v)∨ ∃id ad off len,v= .ref id ad off len∧v' = .ref id ad (off+n) k
end
theorem CH {C:aI} {kp:List Nat} {s s' :aj} {H:J} {K:Ex→aj→J→Prop} (hk:ez kp s=s') (h:K .normal s' H):aJ (aq C) C (.fA [] (some kp)) s H K:=by
 subst hk;exact h
theorem CI {E:aM} {t:TypeId} {ps:List (Nat×AV)} {H:J} {K:AV→J→Prop} {ti te:TI} {n:Nat} {e:TypeId} {cs:List AV} (ht:E t=some ti) (hu:ti.au= .ar n e) (he:E e=some te) (h2:ti.zero.all cA=true)
 (hf:eU (fun i=>if i<n then some (i*te.sz,te.sz) else none) ti.zero ps=some cs) (h:K (.agg cs) H):jY E t ps H K:=by
 simp only [jY,ht,hu,he,h2,Bool.not_true,Bool.false_eq_true,if_false,hf];exact h
theorem CJ {α :Type} {E:aM} {H:J} {K:AV→J→Prop} {l:List Int} {k j:IntKind} {n:Int} {f:Int→Option α} {r: α} {ti te:TI} {m:Nat} {e:TypeId} (hu:ti.au= .ar m e) (he:E e=some te) (aC:te.sz=1) (bN:te.agg=false) (hm:l.length=m)
 (h:(idx l n).bind f=some r) (hk: ∀b,idx l n=some b→f b=some r→K (.int k b) H):jW E (some ti) (.agg (l.map (AV.int k))) (.int j n) H K:=by
 cases hi:idx l n with
 |none=>rw [hi] at h;simp at h
 |some b=>
  rw [hi] at h;have eE:=hi
  unfold idx at eE;split at eE
  ·rename_i h0;obtain ⟨aw,hb⟩:=List.getElem?_eq_some_iff.1 eE;have hr:bL te (.agg (l.map (AV.int k))) (n.toNat*te.sz)=some (.int k b):=by
    unfold bL;rw [aC,Nat.mul_one,if_pos (by simp [AV.cells];omega),bN]
    simp only [AV.cells,aE];rw [List.drop_eq_getElem_cons (by simpa using aw)]
    simp [iJ,hb]
   simp only [jW,hu,he];rw [if_pos ⟨h0,by omega⟩,hr]
   exact hk b hi h
  ·simp at eE
end Go.VS
