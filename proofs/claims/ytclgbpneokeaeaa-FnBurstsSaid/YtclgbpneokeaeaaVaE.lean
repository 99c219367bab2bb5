import Derived.Test.YtclgbpneokeaeaaVaD
namespace Go.VS
def FZ (l:List (List Nat×List Sh)) (s:ak) (H:J) (P:ak→J→Prop):Prop:= ∃s' H',dt l s H=some (s',H')∧P s' H'
section
variable {C:aH} {s:ak} {H:J} {L:List It}
theorem uK (P:ak→J→Prop):FZ [] s H P=P s H:=by
 apply propext;constructor
 ·rintro ⟨s',H',h,hp⟩;simp only [dt,Option.some.injEq,Prod.mk.injEq] at h;obtain ⟨rfl,rfl⟩:=h;exact hp
 ·exact fun h=>⟨s,H,rfl,h⟩
theorem zY {t:Nat} {ts:List Nat} {e:Sh} {sh:List Sh} {l:List (List Nat×List Sh)} {P:ak→J→Prop} {y:AV} {H1:J} (ht:a8 (e::sh) (s.getD t .undef) H=some (y,H1)) (h:FZ l (fU (s.getD t .undef) (bA y) ts (s.set t (bA y))) H1 P):FZ ((t::ts,e::sh)::l) s H P:=by
 obtain ⟨s',H',h1,h2⟩:=h;exact ⟨s',H',by simp only [dt,ht];exact h1,h2⟩
theorem uL {f:AV→J→Option (AV×J)}: ∀(xs:List AV) (H:J),(∀x∈xs,∀H,f x H=some (x,H))→dg f xs H=some (xs,H)
 |[],H,_=>rfl
 |x::xs,H,h=>by
  simp only [dg,h x (by simp) H,uL xs H (fun y hy=>h y (by simp [hy]))]
theorem uM {α :Type} {c: α →AV} (hz: ∀x,bA (c x)=c x): ∀(l:List α),bR (l.map c)=l.map c
 |[]=>rfl
 |x::l=>by simp only [List.map_cons,bR,hz x,uM hz l]
theorem aE.del (hS:aE H L) {id:Nat} (h: ∀(i:Nat) (it:It),L[i]? =some it→b4 it.v≠some id):aE (H.del id) L:=
 ⟨fun i it hi=>(hS.ok i it hi).frame fun k ad hk=>by
  have aM: ¬id=k:=fun e=>h i it hi (by rw [hk,e])
  simp only [J.ap,J.del,List.getElem?_set,if_neg aM],hS.b8⟩
theorem zZ (hS:aE H L) {j:Nat} {v:AV} {sz:Nat} {el:List AV} (hj:L[j]? =some ⟨v,sz,el⟩) (hp:bL v):eU v v=true:=by
 have ag:=(hS.ok j _ hj).2;simp only at ag;split at ag
 ·rfl
 ·rfl
 ·simp [eU]
 ·rename_i id ad ix off;obtain ⟨rfl,rfl,_⟩:=ag;exact absurd rfl (hp.ne id ad)
 ·exact ag.elim
theorem aE.take {α :Type} (hS:aE H L) (j:Nat) {v:AV} {es:List Sh} {l:List α} {c: α →AV} (hj:L[j]? =some ⟨v,es.length,l.map c⟩) (hp:bL v) (hc: ∀x H,a8 es (c x) H=some (c x,H)):
 ∃H',a8 [.sl es] v H=some (.own es.length (l.map c),H')∧aE H' (L.eraseIdx j):=by
 have ag:=hS.ok j _ hj;have hf:=hS.front j hj;obtain ⟨k0,ag⟩:=ag;have e1:a8 [.sl es] v H=aT (.sl es) v H:=by
  have z6: ∀cs,v≠ .agg cs:=by rintro cs rfl;exact ag
  cases v with
  |agg cs=>exact absurd rfl (z6 cs)
  |_=>simp only [a8]
 rw [e1];simp only at ag;split at ag
 ·rename_i hv;exact ⟨H,by simp only [aT,ag],hf.tl⟩
 ·exact ⟨H,by simp only [aT,ag],hf.tl⟩
 ·rename_i id ad off len;obtain ⟨k1,b,hb,k2,k3,k4,k5⟩:=ag;have hm:dg (a8 es) (l.map c) (H.del id)=some (l.map c,H.del id):=uL _ _ (by
   intro x hx H;obtain ⟨y,_,rfl⟩:=List.mem_map.1 hx;exact hc y H)
  refine ⟨H.del id,?_,hf.tl.del fun i it hi e=> ?_⟩
  ·simp only [aT,hb];rw [if_pos ⟨k2,k4,.inl k3⟩,k5,hm]
  ·have:=hf.b8 0 (i+1) _ it id rfl (by simpa using hi) rfl e
   omega
 ·rename_i id ad ix off;obtain ⟨rfl,rfl,_⟩:=ag;exact absurd rfl (hp.ne id ad)
 ·exact ag.elim
theorem Cx {α :Type} {t:Nat} {ts:List Nat} {es:List Sh} {l:List (List Nat×List Sh)} {P:ak→J→Prop} {v:AV} {m:List α} {c: α →AV} (j:Nat) (hS:aE H L) (hj:L[j]? =some ⟨v,es.length,m.map c⟩) (hp:bL v) (hv:s.getD t .undef=v) (hc: ∀x H,a8 es (c x) H=some (c x,H)) (hz: ∀x,bA (c x)=c x)
 (h: ∀H',eU v v=true→aE H' (L.eraseIdx j)→FZ l (fU v (.fz (m.map c)) ts (s.set t (.fz (m.map c)))) H' P):FZ ((t::ts,[.sl es])::l) s H P:=by
 obtain ⟨H',h1,h2⟩:=hS.take j hj hp hc;rw [←hv] at h1;refine zY h1 ?_;simp only [bA,uM hz,hv];exact h H' (zZ hS hj hp) h2
def TC (es:List Sh) (cs:List AV) (H:J) (K:List AV→J→Prop):Prop:= ∃ys H',cv es cs H=some (ys,H')∧K ys H'
theorem uN (xs:List AV):bA (.agg xs)= .agg (bR xs):=rfl
theorem uO (x:AV) (xs:List AV):bR (x::xs)=bA x::bR xs:=rfl
theorem uP:bR []=[]:=rfl
theorem uQ (k:IntKind) (n:Int):bA (.int k n)= .int k n:=rfl
theorem uR (b:Bool):bA (.bool b)= .bool b:=rfl
theorem uS (b:List UInt8):bA (.str b)= .str b:=rfl
theorem uT (b:List AV):bA (.fz b)= .fz b:=rfl
theorem uU (n:Nat) (b:List AV):bA (.own n b)= .fz (bR b):=rfl
theorem uV (xs:List AV):bA (.ay xs)= .ay (bR xs):=rfl
theorem uW (x:AV):cB [x]=x:=rfl
theorem uX (x y:AV) (l:List AV):cB (x::y::l)= .ay (x::y::l):=rfl
theorem uY:cB []= .ay []:=rfl
theorem uZ (x y:AV):fU x y [] s=s:=rfl
theorem u2 (x y:AV) (t:Nat) (ts:List Nat):fU x y (t::ts) s=fU x y ts (if eU (s.getD t .undef) x then s.set t y else s):=rfl
theorem u3:eU .nil .nil=true:=rfl
theorem u4:eU .e0 .e0=true:=rfl
theorem u5 (fz:List (Nat×List (List Nat×List Sh))) (K:ak→J→Prop) (i:Nat):fM C fz K [] i s H=K s H:=rfl
theorem aE.Cy (hS:aE H L) (n:Nat) (js:List Nat) (hj:(js.Nodup∧ ∀j∈js,j<n)):aE H (js.filterMap (L[·]?) ++ L.drop n):=by
 refine ⟨fun i it hi=> ?_,fun i j a b id hi u6 ha hb=> ?_⟩
 ·rcases List.mem_append.1 (List.mem_of_getElem? hi) with h|h
  ·obtain ⟨k,_,hk⟩:=List.mem_filterMap.1 h;exact hS.ok k it hk
  ·obtain ⟨k,hk⟩:=List.mem_iff_getElem?.1 (List.mem_of_mem_drop h);exact hS.ok k it hk
 ·
  have key: ∀(js:List Nat),js.Nodup→(∀j∈js,j<n)→ ∀(i j:Nat) (a b:It),(js.filterMap (L[·]?) ++ L.drop n)[i]? =some a→(js.filterMap (L[·]?) ++ L.drop n)[j]? =some b→b4 a.v=some id→b4 b.v=some id→i=j:=by
   intro js;induction js with
   |nil=>
    intro _ _ i j a b hi hj ha hb;simp only [List.filterMap_nil,List.nil_append,List.getElem?_drop] at hi hj;have:=hS.b8 _ _ a b id hi hj ha hb;omega
   |cons k ks ih=>
    intro qG ax i j a b hi hj ha hb;have u7:=(List.nodup_cons.1 qG)
    have lI:=ih u7.2 (fun j h=>ax j (by simp [h]))
    cases hk:L[k]? with
    |none=>
     simp only [List.filterMap_cons,hk] at hi hj;exact lI i j a b hi hj ha hb
    |some c=>
     simp only [List.filterMap_cons,hk,List.cons_append] at hi hj;have other: ∀(m:Nat) (d:It),(ks.filterMap (L[·]?) ++ L.drop n)[m]? =some d→b4 c.v=some id→b4 d.v≠some id:=by
      intro m d hm hc hd;rcases List.mem_append.1 (List.mem_of_getElem? hm) with h|h
      ·obtain ⟨k',z7,bE⟩:=List.mem_filterMap.1 h;have:=hS.b8 k k' c d id hk bE hc hd
       subst this;exact u7.1 z7
      ·obtain ⟨k',bE⟩:=List.mem_iff_getElem?.1 h;rw [List.getElem?_drop] at bE;have:=hS.b8 k _ c d id hk bE hc hd
       have:=ax k (by simp)
       omega
     cases i with
     |zero=>
      simp at hi;subst hi;cases j with
      |zero=>rfl
      |succ j=>exact absurd hb (other j b (by simpa using hj) ha)
     |succ i=>
      cases j with
      |zero=>simp at hj;subst hj;exact absurd ha (other i a (by simpa using hi) hb)
      |succ j=>have:=lI i j a b (by simpa using hi) (by simpa using hj) ha hb;omega
  exact key js hj.1 hj.2 i j a b hi u6 ha hb
end
theorem Cz {α :Type} {L F:List α} {n:Nat} {x: α} (hL:L.drop n=F) (h:x∈F):x∈L:=List.mem_of_mem_drop (hL.symm▸h)
abbrev u:=AV.undef
def z8 {α :Type} (c: α →AV) (l:List α):AV:= .fz (l.map c)
section
variable {C:aH} {s:ak} {H:J}
def gw (C:aH) (K:ak→J→Prop) (d:Option Tmp) (late:List (Op×Option Tmp)) (rest:List GO) (s:ak):AV→J→Prop:=fun v H=>eN C (bj s d v) H (dT C K rest (bj s d v) H) late
def hN (C:aH) (K:ak→J→Prop) (v:AV) (w:Bool) (d:Option Tmp) (op:Op) (late:List (Op×Option Tmp)) (th q:Bool) (rest:List GO) (s:ak) (H:J):Prop:=gq v w (bg (au C) C q th op s H (gw C K d late rest s)) (gw C K d late rest s (.ay []) H)
theorem u9 (K:ak→J→Prop) (d:Option Tmp) (rest:List GO) (v:AV):gw C K d [] rest s v H=dT C K rest (bj s d v) H:=rfl
theorem u_ (K:ak→J→Prop) (d:Option Tmp) (l:Op×Option Tmp) (ls:List (Op×Option Tmp)) (rest:List GO) (v:AV):gw C K d (l::ls) rest s v H=eN C (bj s d v) H (dT C K rest (bj s d v) H) (l::ls):=rfl
theorem va (K:ak→J→Prop) (d:Option Tmp) (op:Op) (late:List (Op×Option Tmp)) (q th:Bool) (rest:List GO):dT C K (⟨d,op,none,late,th,q⟩::rest) s H=bg (au C) C q th op s H (gw C K d late rest s):=rfl
theorem vb (K:ak→J→Prop) (d:Option Tmp) (op:Op) (t:Tmp) (w:Bool) (late:List (Op×Option Tmp)) (q th:Bool) (rest:List GO):dT C K (⟨d,op,some (some t,w),late,th,q⟩::rest) s H=hN C K (s.getD t .undef) w d op late th q rest s H:=rfl
variable (K:ak→J→Prop) (d:Option Tmp) (op:Op) (late:List (Op×Option Tmp)) (th q:Bool) (rest:List GO)
theorem vd:hN C K (.bool true) true d op late th q rest s H=bg (au C) C q th op s H (gw C K d late rest s):=sB _ _
theorem ve:hN C K (.bool false) false d op late th q rest s H=bg (au C) C q th op s H (gw C K d late rest s):=sC _ _
theorem vf:hN C K (.bool true) false d op late th q rest s H=gw C K d late rest s (.ay []) H:=sD _ _
theorem vg:hN C K (.bool false) true d op late th q rest s H=gw C K d late rest s (.ay []) H:=sE _ _
theorem vh (l:List AV) (w:Bool):hN C K (.ay l) w d op late th q rest s H=gw C K d late rest s (.ay []) H:=rfl
theorem CA {α :Type} {c w:Bool} {x y:Option α} {r: α} {K:ak→J→Prop} {d:Option Tmp} {op:Op} {late:List (Op×Option Tmp)} {th q:Bool} {rest:List GO} (h:(bif c then x else y)=some r) (ht:c=true→x=some r→hN C K (.bool true) w d op late th q rest s H) (hf:c=false→y=some r→hN C K (.bool false) w d op late th q rest s H):hN C K (.bool c) w d op late th q rest s H:=by
 cases c with
 |true=>exact ht rfl h
 |false=>exact hf rfl h
variable (fz:List (Nat×List (List Nat×List Sh))) (i:Nat)
def fN (C:aH) (fz:List (Nat×List (List Nat×List Sh))) (K:ak→J→Prop) (d:Option Tmp) (rest:List GO) (i:Nat) (s:ak):AV→J→Prop:=fun v H=>fM C fz K rest (i+1) (bj s d v) H
def jZ (C:aH) (fz:List (Nat×List (List Nat×List Sh))) (K:ak→J→Prop) (v:AV) (w:Bool) (d:Option Tmp) (op:Op) (th q:Bool) (rest:List GO) (i:Nat) (s:ak) (H:J):Prop:=gq v w (bg (au C) C q th op s H (fN C fz K d rest i s)) (fN C fz K d rest i s (.ay []) H)
def pP (C:aH) (fz:List (Nat×List (List Nat×List Sh))) (K:ak→J→Prop) (o:GO) (rest:List GO) (i:Nat):ak→J→Prop:=fun s H=>gW o.g s (bg (au C) C o.q o.th o.op s H (fN C fz K o.d rest i s)) (fN C fz K o.d rest i s (.ay []) H)
theorem vi (o:GO):fM C fz K (o::rest) i s H=FZ ((fz.lookup i).getD []) s H (pP C fz K o rest i):=rfl
theorem vj:pP C fz K ⟨d,op,none,late,th,q⟩ rest i s H=bg (au C) C q th op s H (fN C fz K d rest i s):=rfl
theorem vk (t:Tmp) (w:Bool):pP C fz K ⟨d,op,some (some t,w),late,th,q⟩ rest i s H=jZ C fz K (s.getD t .undef) w d op th q rest i s H:=rfl
theorem vl (v:AV):fN C fz K d rest i s v H=fM C fz K rest (i+1) (bj s d v) H:=rfl
theorem vm:jZ C fz K (.bool true) true d op th q rest i s H=bg (au C) C q th op s H (fN C fz K d rest i s):=sB _ _
theorem vn:jZ C fz K (.bool false) false d op th q rest i s H=bg (au C) C q th op s H (fN C fz K d rest i s):=sC _ _
theorem vo:jZ C fz K (.bool true) false d op th q rest i s H=fN C fz K d rest i s (.ay []) H:=sD _ _
theorem vp:jZ C fz K (.bool false) true d op th q rest i s H=fN C fz K d rest i s (.ay []) H:=sE _ _
theorem vq (l:List AV) (w:Bool):jZ C fz K (.ay l) w d op th q rest i s H=fN C fz K d rest i s (.ay []) H:=rfl
end
theorem vr {β :Type} (i:Nat) (l: β) (r:List (Nat× β)):((i,l)::r).lookup i=some l:=by simp [List.lookup]
theorem vt {β :Type} (i k:Nat) (l: β) (r:List (Nat× β)) (h:(i==k)=false):((k,l)::r).lookup i=r.lookup i:=by simp only [List.lookup,h]
theorem vu {β :Type} (i:Nat):([]:List (Nat× β)).lookup i=none:=rfl
theorem vv (all:List Oper) (q:Nat→Bool) (late:Nat→List Nat) (th:List Nat) (i:Nat):dL all q late th [] i=[]:=rfl
theorem vw (all:List Oper) (q:Nat→Bool) (late:Nat→List Nat) (th:List Nat) (o:Oper) (rest:List Oper) (i:Nat):dL all q late th (o::rest) i=⟨o.dst,o.op,o.guard.map fun p=>(lk all p.1,p.2),(late i).map (jX all),th.contains i,q i⟩::dL all q late th rest (i+1):=rfl
theorem vx (o:Oper) (os:List Oper):lk (o::os) 0=o.dst:=rfl
theorem vy (o:Oper) (os:List Oper) (n:Nat):lk (o::os) (n+1)=lk os n:=rfl
theorem vz (K:Ex→ak→J→Prop) (s:ak) (H:J):iG K s H=K .normal s H:=rfl
theorem vA (E:aL) (t:TypeId) (f:Nat):li E t f=match E t with
 |some ti=>match ti.aq with
  | .st fs=>match fs[f]? with
   |some (o,ft)=>match E ft with
    |some tf=>some (o,tf)
    |none=>none
   |none=>none
  |_=>none
 |none=>none:=rfl
theorem vB (ti:TI) (hu:jo ti.aq=true) (xs:List AV) (n:Nat) {H:J} {K:AV→J→Prop}:dV (some ti) (.fz xs) (some n) H K=K (.int .i64 n) H:=by cases h:ti.aq<;>rw [h] at hu<;>simp [jo] at hu;exact zL ti h xs n
theorem vC (ti:TI) (hu:jo ti.aq=true) (n:Nat) {H:J} {K:AV→J→Prop}:dV (some ti) .nil (some n) H K=K (.int .i64 n) H:=by cases h:ti.aq<;>rw [h] at hu<;>simp [jo] at hu;exact zM ti h n
theorem vD (ti:TI) (hu:jo ti.aq=true) (n:Nat) {H:J} {K:AV→J→Prop}:dV (some ti) .e0 (some n) H K=K (.int .i64 n) H:=by cases h:ti.aq<;>rw [h] at hu<;>simp [jo] at hu;exact zN ti h n
theorem vE (ti:TI) (hu:lq ti.aq=true) (l:List UInt8) (n:Nat) {H:J} {K:AV→J→Prop}:dV (some ti) (.str l) (some n) H K=K (.int .i64 n) H:=by cases h:ti.aq<;>rw [h] at hu<;>simp [lq] at hu;exact zO ti h l n
theorem vF (ta tb:TI) (n:Int) (H:J) (K:AV→J→Prop):pM (some ta) (some tb) n H K=match tb.aq with| .it k=>K (.int k (k.wrap n)) H|_=>False:=rfl
theorem vG (o:Nat) (tf:TI) (y:AV) (off:Nat) (h:(tf.sz==0)=false) {H:J} {K:AV→J→Prop}:iH (some (o,tf)) (.fe y off) H K=K (.fe y (off+o)) H:=zF o tf h y off
def pQ (b:Option bw) (k:Prop):Prop:=match b with|some _=>k|none=>False
theorem vH (o:Nat) (tf:TI) (id ad idx off:Nat) (h:(tf.sz==0)=false) {H:J} {K:AV→J→Prop}:iH (some (o,tf)) (.ptr id ad idx off) H K=pQ (H.ap id ad) (K (.ptr id ad idx (off+o)) H):=by
 rw [zG o tf h];rfl
theorem vI (b:bw) (k:Prop):pQ (some b) k=k:=rfl
theorem vJ {C:aH} {q th:Bool} {s:ak} {H:J} {K:AV→J→Prop} (x:Operand):bg (au C) C q th (.nilCheck x) s H K=(match ev s x with| .ptr a b c d=>pQ (H.ap a b) (K (.ptr a b c d) H)| .fe x o=>K (.fe x o) H|_=>False):=by
 rw [cW _ rfl];simp only [aO];generalize ev s x=r;cases r<;>try rfl
 rename_i a b c d;simp only;cases H.ap a b<;>rfl
theorem vK (z:List AV) (b:Nat) (w:UD) (e:Bool) (cs:List AV) (off:Nat):bS ⟨1,false,z,b,w,e⟩ (.agg cs) off=cs[off]? :=by
 by_cases h:off<cs.length
 ·have e1:aD cs off 1=[cs[off]]:=by
   simp only [aD,List.drop_eq_getElem_cons h,List.take_succ_cons,List.take_zero]
  have e2:bS ⟨1,false,z,b,w,e⟩ (.agg cs) off=jv false (aD cs off 1):=if_pos (show off+1≤cs.length from h);rw [e2,e1,List.getElem?_eq_getElem h];rfl
 ·rw [List.getElem?_eq_none (by omega)]
  exact if_neg (show¬off+1≤cs.length from h)
theorem vL (z:List AV) (b:Nat) (w:UD) (e:Bool) (k:IntKind) (n:Int):bS ⟨1,false,z,b,w,e⟩ (.int k n) 0=some (.int k n):=rfl
theorem vM (z:List AV) (b:Nat) (w:UD) (e:Bool) (n:Bool):bS ⟨1,false,z,b,w,e⟩ (.bool n) 0=some (.bool n):=rfl
theorem vN (z:List AV) (b:Nat) (w:UD) (e:Bool) (n:List UInt8):bS ⟨1,false,z,b,w,e⟩ (.str n) 0=some (.str n):=rfl
theorem vO (z:List AV) (b:Nat) (w:UD) (e:Bool) (n:List AV):bS ⟨1,false,z,b,w,e⟩ (.fz n) 0=some (.fz n):=rfl
theorem vP (z:List AV) (b:Nat) (w:UD) (e:Bool):bS ⟨1,false,z,b,w,e⟩ .nil 0=some .nil:=rfl
theorem vQ (z:List AV) (b:Nat) (w:UD) (e:Bool):bS ⟨1,false,z,b,w,e⟩ .e0 0=some .e0:=rfl
theorem vR (z:List AV) (b:Nat) (w:UD) (e:Bool) (a c d f:Nat):bS ⟨1,false,z,b,w,e⟩ (.ref a c d f) 0=some (.ref a c d f):=rfl
theorem vS (n:Nat) (z:List AV) (b:Nat) (w:UD) (e:Bool) (cs:List AV) (off:Nat):bS ⟨n,true,z,b,w,e⟩ (.agg cs) off=if off+n≤cs.length then some (.agg ((cs.drop off).take n)) else none:=rfl
theorem vT (ti:TI) (r:Bool) (neg:Bool):lh (some ti) (some r) neg=if ti.agg then some (.bool (if neg then !r else r)) else none:=rfl
theorem vU (ti:TI) (x y:AV) (neg:Bool):hJ (some ti) x y neg=match isNil ti.aq x y with|some b=>some (.bool (if neg then !b else b))|none=>none:=rfl
theorem vV (E:aL) (d:Nat) (t:TypeId) (xs ys:List AV):dy E (d+1) t xs ys=match E t with
 |none=>none
 |some ti=>match ti.aq with
  | .it _=>match xs,ys with
   |[.int k a],[.int j b]=>if k=j then some (a==b) else none
   |_,_=>none
  | .bl=>match xs,ys with
   |[.bool a],[.bool b]=>some (a==b)
   |_,_=>none
  | .str=>match xs,ys with
   |[.str a],[.str b]=>some (a==b)
   |_,_=>none
  | .st fs=>if ti.j9 then gB E (dy E d) fs xs ys else none
  |_=>none:=rfl
theorem vW (E:aL) (f:TypeId→List AV→List AV→Option Bool) (xs ys:List AV):gB E f [] xs ys=some true:=rfl
theorem vX (E:aL) (f:TypeId→List AV→List AV→Option Bool) (o:Nat) (ft:TypeId) (fs:List (Nat×TypeId)) (xs ys:List AV):gB E f ((o,ft)::fs) xs ys=match E ft with
 |none=>none
 |some tf=>
  if o+tf.sz≤xs.length∧o+tf.sz≤ys.length then
   match f ft (aD xs o tf.sz) (aD ys o tf.sz) with
   |some b=>match gB E f fs xs ys with
    |some r=>some (b&&r)
    |none=>none
   |none=>none
  else none:=rfl
theorem vY (cs:List AV) (off n:Nat):aD cs off n=(cs.drop off).take n:=rfl
def nf (E:aL) (t:TypeId) (ps:List (Nat×AV)) (H:J) (K:AV→J→Prop):Prop:=match E t with
 |some ti=>match ti.aq with
  | .st fs=>if !(fs.all fun f=>(E f.2).isSome)|| !(ti.zero.all cI) then False else cQ ((fi (fun i=>match fs[i]? with|some (o,ft)=>(E ft).map fun tf=>(o,tf.sz)|none=>none) ti.zero ps).map .agg) H K
  | .ar n e=>match E e with
   |some te=>if !(ti.zero.all cI) then False else cQ ((fi (fun i=>if i<n then some (i*te.sz,te.sz) else none) ti.zero ps).map .agg) H K
   |none=>False
  |_=>False
 |none=>False
theorem vZ {C:aH} {q th:Bool} {s:ak} {H:J} {K:AV→J→Prop} (t:TypeId) (ps:Array (Nat×Operand)):bg (au C) C q th (.build t ps) s H K=nf C.E t (ps.toList.map fun p=>(p.1,ev s p.2)) H K:=by
 rw [cW _ rfl];simp only [aO,nf];cases C.E t with
 |none=>rfl
 |some ti=>
  simp only;cases ti.aq<;>try rfl
  ·rename_i fs;simp only;split
   ·rfl
   ·generalize Option.map AV.agg _=r;cases r<;>rfl
  ·rename_i n e;simp only;cases C.E e with
   |none=>rfl
   |some te=>
    simp only;split
    ·rfl
    ·generalize Option.map AV.agg _=r;cases r<;>rfl
theorem CB {E:aL} {t:TypeId} {ps:List (Nat×AV)} {H:J} {K:AV→J→Prop} {ti:TI} {fs:List (Nat×TypeId)} {cs:List AV} (ht:E t=some ti) (hu:ti.aq= .st fs) (h1:(fs.all fun f=>(E f.2).isSome)=true) (h2:ti.zero.all cI=true)
 (hf:fi (fun i=>match fs[i]? with|some (o,ft)=>(E ft).map fun tf=>(o,tf.sz)|none=>none) ti.zero ps=some cs) (h:K (.agg cs) H):nf E t ps H K:=by
 simp only [nf,ht,hu,h1,h2,Bool.not_true,Bool.or_self,Bool.false_eq_true,if_false,hf];exact h
theorem v7 {C:aH} {q th:Bool} {s:ak} {H:J} {K:AV→J→Prop} (f:FuncId) (cap:Array Operand):bg (au C) C q th (.makeFunc (.func f) #[] cap) s H K=K (.fn f (cap.toList.map (ev s))) H:=by
 rw [cW _ rfl];simp only [aO];rfl
theorem W:type_of% (And.intro @vr<|And.intro @uN<|And.intro @uO<|And.intro @uP<|And.intro @uQ<|And.intro @uR<|And.intro @uS<|And.intro @uT<|And.intro @uU<|And.intro @uV<|And.intro @uW<|And.intro @uX<|And.intro @uY<|And.intro @Bool.or_false<|And.intro @vt<|And.intro @vu<|And.intro @sA<|And.intro @va<|And.intro @vb<|And.intro @u9<|And.intro @u_<|And.intro @vd<|And.intro @ve<|And.intro @vf<|And.intro @vg<|And.intro @vh<|And.intro @vi<|And.intro @vj<|And.intro @vk<|And.intro @vl<|And.intro @vm<|And.intro @vn<|And.intro @vo<|And.intro @vp<|And.intro @vq<|
 And.intro @sF<|And.intro @sG<|And.intro @sH<|And.intro @sI<|And.intro @sJ<|And.intro @sK<|And.intro @sL<|And.intro @sM<|And.intro @sN<|And.intro @sO<|And.intro @sP<|And.intro @sQ<|And.intro @sR<|
 And.intro @sT<|And.intro @sU<|And.intro @sV<|And.intro @sW<|And.intro @sY<|And.intro @sZ<|And.intro @s4<|And.intro @s7<|And.intro @s8<|And.intro @s9<|And.intro @tc<|And.intro @tg<|
 And.intro @uB<|And.intro @uC<|And.intro @uD<|And.intro @tj<|And.intro @tn<|And.intro @tp<|And.intro @tq<|And.intro @tv<|And.intro @tw<|And.intro @tz<|And.intro @tA<|And.intro @tB<|And.intro @tC<|
 And.intro @tD<|And.intro @tE<|And.intro @tF<|And.intro @tG<|And.intro @tH<|And.intro @tI<|And.intro @tJ<|And.intro @tK<|And.intro @tL<|And.intro @tM<|And.intro @tN<|And.intro @tO<|And.intro @tP<|
 And.intro @tQ<|And.intro @tR<|And.intro @tS<|And.intro @tT<|And.intro @tU<|And.intro @o_load<|And.intro @tV<|And.intro @tW<|And.intro @tX<|And.intro @tY<|And.intro @tZ<|And.intro @t_<|And.intro @ua<|
 And.intro @ub<|And.intro @uc<|And.intro @ud<|And.intro @uf<|And.intro @min2<|And.intro @max2<|And.intro @ui<|And.intro @um<|And.intro @uo<|And.intro @uq<|And.intro @ur<|And.intro @uu<|
 And.intro @ux<|And.intro @uy<|And.intro @uz<|And.intro @uE<|And.intro @uF<|And.intro @uH<|And.intro @uI<|And.intro @uJ<|And.intro @uK<|And.intro @uZ<|And.intro @u2<|And.intro @u3<|And.intro @u4<|
 And.intro @u5<|And.intro @vv<|And.intro @vw<|And.intro @vx<|And.intro @vy<|And.intro @vz<|And.intro @vA<|And.intro @vB<|And.intro @vC<|And.intro @vD<|And.intro @vE<|And.intro @vF<|
 And.intro @vG<|And.intro @vH<|And.intro @vI<|And.intro @vJ<|And.intro @vK<|And.intro @vL<|And.intro @vM<|And.intro @vN<|And.intro @vO<|And.intro @vP<|And.intro @vQ<|And.intro @vR<|And.intro @vS<|And.intro @vT<|And.intro @vU<|
 And.intro @vV<|And.intro @vW<|And.intro @vX<|And.intro @vY<|And.intro @vZ<|And.intro @v7<|And.intro @uj<|And.intro @uk<|And.intro @ul<|
 And.intro @List.set_cons_succ.{0}<|And.intro @List.set_cons_zero.{0}<|And.intro @List.getD_cons_succ.{0}<|And.intro @List.getD_cons_zero.{0}<|And.intro @Option.map_some.{0,0}<|And.intro @Option.map_none.{0,0}<|And.intro @List.map_nil.{0,0}<|And.intro @List.map_cons.{0,0}<|And.intro @List.contains_nil.{0}<|
 And.intro @List.getElem?_cons_succ.{0}<|And.intro @List.getElem?_cons_zero.{0}<|And.intro @List.length_map.{0,0}<|And.intro @List.drop_succ_cons.{0}<|And.intro @List.drop_zero.{0}<|And.intro @List.take_succ_cons.{0}<|And.intro @List.take_zero.{0}<|And.intro @List.length_cons.{0}<|And.intro @List.length_nil.{0}<|
 And.intro @if_true.{0}<|And.intro @if_false.{0}<|And.intro @Bool.not_true<|And.intro @Bool.not_false<|And.intro @Option.getD_none.{0}<|And.intro @Option.getD_some.{0}<|And.intro @List.cons_append.{0}<|And.intro @List.nil_append.{0}<|And.intro @and_self<|And.intro @and_true @true_and):=
 And.intro @vr<|And.intro @uN<|And.intro @uO<|And.intro @uP<|And.intro @uQ<|And.intro @uR<|And.intro @uS<|And.intro @uT<|And.intro @uU<|And.intro @uV<|And.intro @uW<|And.intro @uX<|And.intro @uY<|And.intro @Bool.or_false<|And.intro @vt<|And.intro @vu<|And.intro @sA<|And.intro @va<|And.intro @vb<|And.intro @u9<|And.intro @u_<|And.intro @vd<|And.intro @ve<|And.intro @vf<|And.intro @vg<|And.intro @vh<|And.intro @vi<|And.intro @vj<|And.intro @vk<|And.intro @vl<|And.intro @vm<|And.intro @vn<|And.intro @vo<|And.intro @vp<|And.intro @vq<|
 And.intro @sF<|And.intro @sG<|And.intro @sH<|And.intro @sI<|And.intro @sJ<|And.intro @sK<|And.intro @sL<|And.intro @sM<|And.intro @sN<|And.intro @sO<|And.intro @sP<|And.intro @sQ<|And.intro @sR<|
 And.intro @sT<|And.intro @sU<|And.intro @sV<|And.intro @sW<|And.intro @sY<|And.intro @sZ<|And.intro @s4<|And.intro @s7<|And.intro @s8<|And.intro @s9<|And.intro @tc<|And.intro @tg<|
 And.intro @uB<|And.intro @uC<|And.intro @uD<|And.intro @tj<|And.intro @tn<|And.intro @tp<|And.intro @tq<|And.intro @tv<|And.intro @tw<|And.intro @tz<|And.intro @tA<|And.intro @tB<|And.intro @tC<|
 And.intro @tD<|And.intro @tE<|And.intro @tF<|And.intro @tG<|And.intro @tH<|And.intro @tI<|And.intro @tJ<|And.intro @tK<|And.intro @tL<|And.intro @tM<|And.intro @tN<|And.intro @tO<|And.intro @tP<|
 And.intro @tQ<|And.intro @tR<|And.intro @tS<|And.intro @tT<|And.intro @tU<|And.intro @o_load<|And.intro @tV<|And.intro @tW<|And.intro @tX<|And.intro @tY<|And.intro @tZ<|And.intro @t_<|And.intro @ua<|
 And.intro @ub<|And.intro @uc<|And.intro @ud<|And.intro @uf<|And.intro @min2<|And.intro @max2<|And.intro @ui<|And.intro @um<|And.intro @uo<|And.intro @uq<|And.intro @ur<|And.intro @uu<|
 And.intro @ux<|And.intro @uy<|And.intro @uz<|And.intro @uE<|And.intro @uF<|And.intro @uH<|And.intro @uI<|And.intro @uJ<|And.intro @uK<|And.intro @uZ<|And.intro @u2<|And.intro @u3<|And.intro @u4<|
 And.intro @u5<|And.intro @vv<|And.intro @vw<|And.intro @vx<|And.intro @vy<|And.intro @vz<|And.intro @vA<|And.intro @vB<|And.intro @vC<|And.intro @vD<|And.intro @vE<|And.intro @vF<|
 And.intro @vG<|And.intro @vH<|And.intro @vI<|And.intro @vJ<|And.intro @vK<|And.intro @vL<|And.intro @vM<|And.intro @vN<|And.intro @vO<|And.intro @vP<|And.intro @vQ<|And.intro @vR<|And.intro @vS<|And.intro @vT<|And.intro @vU<|
 And.intro @vV<|And.intro @vW<|And.intro @vX<|And.intro @vY<|And.intro @vZ<|And.intro @v7<|And.intro @uj<|And.intro @uk<|And.intro @ul<|
 And.intro @List.set_cons_succ.{0}<|And.intro @List.set_cons_zero.{0}<|And.intro @List.getD_cons_succ.{0}<|And.intro @List.getD_cons_zero.{0}<|And.intro @Option.map_some.{0,0}<|And.intro @Option.map_none.{0,0}<|And.intro @List.map_nil.{0,0}<|And.intro @List.map_cons.{0,0}<|And.intro @List.contains_nil.{0}<|
 And.intro @List.getElem?_cons_succ.{0}<|And.intro @List.getElem?_cons_zero.{0}<|And.intro @List.length_map.{0,0}<|And.intro @List.drop_succ_cons.{0}<|And.intro @List.drop_zero.{0}<|And.intro @List.take_succ_cons.{0}<|And.intro @List.take_zero.{0}<|And.intro @List.length_cons.{0}<|And.intro @List.length_nil.{0}<|
 And.intro @if_true.{0}<|And.intro @if_false.{0}<|And.intro @Bool.not_true<|And.intro @Bool.not_false<|And.intro @Option.getD_none.{0}<|And.intro @Option.getD_some.{0}<|And.intro @List.cons_append.{0}<|And.intro @List.nil_append.{0}<|And.intro @and_self<|And.intro @and_true @true_and
end Go.VS
namespace Go.VS
def iJ:List (Nat×List Nat)→Nat→List Nat
 |[],_=>[]
 |(a,l)::t,i=>if i=a then l else iJ t i
def lu:List Nat→Nat→Bool
 |[],_=>true
 |a::t,i=>if i=a then false else lu t i
theorem v8: ∀(ls:List Nat) (i:Nat),(!ls.contains i)=lu ls i
 |[],_=>rfl
 |a::t,i=>by
  have:=v8 t i;unfold lu;by_cases h:i=a
  ·simp [h]
  ·rw [if_neg h,←this];simp [h]
theorem z_ {f:Nat→List Nat}: ∀(hZ:List (Nat×List Nat)) (_:hZ.all (fun p=>f p.1==p.2)=true) (_: ∀i,i∉hZ.map (·.1)→f i=[]) (i:Nat),f i=iJ hZ i
 |[],_,h,i=>h i (by simp)
 |(a,l)::t,h1,h2,i=>by
  simp only [List.all_cons,Bool.and_eq_true,beq_iff_eq] at h1;unfold iJ;by_cases h:i=a
  ·rw [if_pos h,h];exact h1.1
  ·rw [if_neg h];by_cases hm:i∈t.map (·.1)
   ·clear h2;have go: ∀(t:List (Nat×List Nat)),t.all (fun p=>f p.1==p.2)=true→i∈t.map (·.1)→f i=iJ t i:=by
     intro t;induction t with
     |nil=>intro _ hm;simp at hm
     |cons p t ih=>
      intro h1 hm;simp only [List.all_cons,Bool.and_eq_true,beq_iff_eq] at h1;obtain ⟨a,l⟩:=p;unfold iJ;by_cases h:i=a
      ·rw [if_pos h,h];exact h1.1
      ·rw [if_neg h];exact ih h1.2 (by simpa [h] using hm)
    exact go t h1.2 hm
   ·have e:f i=[]:=h2 i (by simp only [List.map_cons,List.mem_cons,not_or];exact ⟨h,hm⟩)
    rw [e];clear h1 h2;induction t with
    |nil=>rfl
    |cons p t ih=>
     obtain ⟨b,m⟩:=p;simp only [List.map_cons,List.mem_cons,not_or] at hm;unfold iJ;rw [if_neg hm.1];exact ih hm.2
section
variable {C:aH} {s:ak} {H:J} {K:Ex→ak→J→Prop}
theorem CC (gC:Good C) {id:Nat} {ops:List Oper} {ls th:List Nat} {fz:List (Nat×List (List Nat×List Sh))} (hZ:List (Nat×List Nat)) (hd:ij ops.toArray ls=true) (h1:hZ.map (·.1)=ls) (h2:hZ.all (fun p=>fm ops.toArray ls p.1==p.2)=true)
 (h:dT C (iG K) (dL ops (lu ls) (iJ hZ) th ops 0) s H):aJ (au C) C (.region id ops.toArray true ls th fz) s H K:=by
 refine sx gC hd ?_;have e1:(fun i=> !ls.contains i)=lu ls:=funext (v8 ls);have e2:fm ops.toArray ls=iJ hZ:=funext (z_ hZ h2 (fun i hi=>by
  unfold fm;rw [h1] at hi;rw [if_neg (by simpa using hi)]))
 rw [e1,e2];exact h
end
theorem Aa {x:Int} (h: -9223372036854775808≤x∧x≤9223372036854775807):IntKind.i64.wrap x=x:=IntWalk.i64_in x (by omega)
end Go.VS
namespace Go.VS
section
variable {C:aH} {H:J} {L:List It}
theorem Ab {f:AV→Option AV} {c y:AV} {cs ys:List AV} (h1:f c=some y) (h2:cs.mapM f=some ys):(c::cs).mapM f=some (y::ys):=by
 simp [List.mapM_cons,h1,h2]
theorem v_ {f:AV→Option AV}: ∀(cs:List AV),(∀c∈cs,f c=some c)→cs.mapM f=some cs
 |[],_=>rfl
 |c::cs,h=>Ab (h c (by simp)) (v_ cs fun d hd=>h d (by simp [hd]))
theorem CD {α :Type} {n:Nat} (hS:aE H L) (j:Nat) {v:AV} {sz:Nat} {l:List α} {c: α →AV} (hj:L[j]? =some ⟨v,sz,l.map c⟩) (hp:bL v) (hc: ∀x,aX n H (c x)=some (c x)):aX (n+1) H v=some (.fz (l.map c)):=by
 obtain ⟨k0,ag⟩:=hS.ok j _ hj;simp only at ag;rcases hp.ok with rfl|rfl|⟨id,ad,off,len,rfl⟩
 ·simp only at ag;simp only [aX,ag]
 ·simp only at ag;simp only [aX,ag]
 ·simp only at ag;obtain ⟨k1,b,hb,k2,k3,k4,k5⟩:=ag;simp only [aX,hb];rw [if_pos k4,k5,v_ (l.map c) (by
   intro d hd;obtain ⟨x,_,rfl⟩:=List.mem_map.1 hd;exact hc x),Option.map_some]
theorem CE:cb [] [] H=some ([],false):=rfl
theorem CF {v y:AV} {vs ys:List AV} {b:Bool} (h1:aX 8 H v=some y) (h2:cb [] vs H=some (ys,b)):cb [] (v::vs) H=some (y::ys,eE v||b):=by
 simp only [cb,h1,h2]
def TV (cR:List (List Sh)) (rs:List AV) (H:J) (K:List AV→Prop):Prop:= ∃zs H',di cR rs H=some (zs,H')∧K zs
theorem CG {cR:List (List Sh)} {K:List AV→Prop} (h:K []):TV cR [] H K:=⟨[],H,rfl,h⟩
theorem Ac {e:List Sh} {cR:List (List Sh)} {v y:AV} {rs:List AV} {H1:J} {K:List AV→Prop} (ht:a8 e v H=some (y,H1)) (h:TV cR rs H1 fun zs=>K (y::zs)):TV (e::cR) (v::rs) H K:=by
 obtain ⟨zs,H',h1,h2⟩:=h;exact ⟨y::zs,H',by simp only [di,List.headD_cons,List.tail_cons,ht,h1],h2⟩
theorem Ad {v:AV} (hp:dr v=true) (H:J):a8 [.sc] v H=some (v,H):=by
 cases v<;>simp [dr] at hp<;>simp [a8,aT,dr]
theorem CH {cR:List (List Sh)} {v:AV} {rs:List AV} {K:List AV→Prop} (hp:dr v=true) (h:TV cR rs H fun zs=>K (v::zs)):TV ([.sc]::cR) (v::rs) H K:=
 Ac (Ad hp H) h
theorem CI {cR:List (List Sh)} {rs:List AV} {y v:AV} (hv:v=cB rs) (h:TV cR rs H fun zs=>y=cB zs): ∃rs zs L2,v=cB rs∧di cR rs H=some (zs,L2)∧y=cB zs:=by
 obtain ⟨zs,H',h1,h2⟩:=h;exact ⟨rs,zs,H',hv,h1,h2⟩
def TH (ys:List AV) (H:J) (K:List AV→J→Prop):Prop:=K (aG ys H).1 (aG ys H).2
variable {q th:Bool} {K:AV→J→Prop}
theorem CJ {α β :Type} {g:FuncId} {b5 args ys:List AV} {bU:Bool} {o:Option α} {f: α →Option β} {r: β} {cR:List (List Sh)} (h:o.bind f=some r) (hr:(C.gF g).cR=cR) (hp:cb [] (args ++ b5) H=some (ys,bU))
 (hk: ∀x,o=some x→f x=some r→ ∃y,au C g ys ⟨0,[]⟩ (fun v L=> ∃rs zs L2,v=cB rs∧di cR rs L=some (zs,L2)∧y=cB zs)∧(dh y=true∧bA y=y∧ ∀H,aI y H=(y,H))∧K y H):m_ C q th (.fn g b5) args H K:=by
 refine zX h hr hp fun x hx hf=> ?_;obtain ⟨y,h1,⟨h2,h3,h4⟩,h5⟩:=hk x hx hf;refine ⟨y,h1,.inr h2,?_⟩;rw [h3,h4 H];split<;>exact h5
end
end Go.VS
namespace Go.VS
def wa (t b:TypeId):Code:=
 (Go.Code.seq
  (Go.Code.region 0 #[{dst:=some 2,op:=Go.Op.assign (Go.Operand.const (Go.Value.slice none 0 0)),type:=t,pos:= "slices.go:355",after:= #[],guard:=none}] false)
  (Go.Code.seq
   (Go.Code.seq
    (Go.Code.region 1
     #[{dst:=some 3,op:=Go.Op.move (Go.Operand.tmp 0),type:=t,pos:= "slices.go:357",after:= #[],guard:=none},
      {dst:=some 4,op:=Go.Op.binOp Go.BinOp.eql t (Go.Operand.tmp 3) (Go.Operand.const (Go.Value.slice none 0 0)) t,type:=b,pos:= "slices.go:357",after:= #[{on:=0,ground:=Go.Ground.data}],guard:=none}]
     false)
    (Go.Code.cond (Go.Operand.tmp 4)
     (Go.Code.seq
      (Go.Code.region 2 #[{dst:=some 2,op:=Go.Op.assign (Go.Operand.const (Go.Value.slice none 0 0)),type:=t,pos:= "slices.go:358",after:= #[],guard:=none}] false)
      Go.Code.ret)
     Go.Code.skip))
   (Go.Code.seq
    (Go.Code.region 3
     #[{dst:=some 5,op:=Go.Op.buildSlice t 0 #[],type:=t,pos:= "slices.go:362",after:= #[],guard:=none},
      {dst:=some 6,op:=Go.Op.move (Go.Operand.tmp 0),type:=t,pos:= "slices.go:362",after:= #[],guard:=none},
      {dst:=some 7,op:=Go.Op.call {callee:=Go.Callee.builtin Go.Builtin.append,args:= #[Go.Operand.tmp 5,Go.Operand.tmp 6],argTypes:= #[t,t]},type:=t,pos:= "slices.go:362",after:= #[{on:=0,ground:=Go.Ground.data},{on:=1,ground:=Go.Ground.data}],guard:=none},
      {dst:=some 2,op:=Go.Op.assign (Go.Operand.tmp 7),type:=t,pos:= "slices.go:362",after:= #[{on:=2,ground:=Go.Ground.data},{on:=2,ground:=Go.Ground.chain},{on:=0,ground:=Go.Ground.phase},{on:=1,ground:=Go.Ground.phase},{on:=2,ground:=Go.Ground.phase}],guard:=none}]
     false)
    Go.Code.ret)))
def j0:bq:=fun _ _ _ _=>False
def gx (E:aL):aH:=⟨E,fun _=>{},fun _=>none,j0⟩
theorem Ae {w:World} {H:J} {φ :af} {A:ah} {xs:List AV} {v:Value} (h:R w H φ A (.fz xs) v): ∃a cap,v= .slice a xs.length cap:=by
 cases h.du with
 |cE a cap=>exact ⟨a,cap,rfl⟩
 |fz _ c off cap n arr T fr=>exact ⟨_,_,rfl⟩
theorem Af {P:Program} {w:World} {t e:TypeId} {a:Option Addr} {n cap:Nat} (h:(underlying t).run P w= .ok (.slice e) w) (d:Nat): ∃b,(Op.equalIn (d+1) t (.slice a n cap) (.slice none 0 0)).run P w= .ok b w∧(b=true→a=none):=by
 cases a with
 |none=>exact ⟨true,by simp [Op.equalIn,h],fun _=>rfl⟩
 |some a=>exact ⟨false,qk h d,by simp⟩
theorem Ag: ∀c:Code,cS {} c=true:=by
 intro c;induction c with
 |seq a b fK fL=>simp [cS,fK,fL]
 |cond c a b fK fL=>simp [cS,fK,fL]
 |block id a ih=>simp [cS,ih]
 |loop a ih=>simp [cS,ih]
 |region id ops draw=>simp [cS]
 |_=>simp [cS]
section
variable {P:Program} {E:aL}
theorem Ah (hm:P.follows .mixedOrders=true) (hE: ∀t ti,E t=some ti→aQ P t ti) {f:FuncId} {fn:Func} {t b e:TypeId} {ti te:TI} (hf:P.funcs[f]? =some fn) (pk:(fn.name== "runtime.NumGoroutine")=false)
 (hb:fn.body=some (wa t b)) (hr:fn.results= #[.tmp 2]) (hn:fn.ntmps=8) (ht:E t=some ti) (hu:ti.aq= .sl e) (he:E e=some te) (xs:List AV) (H:J) (hz:bQ te.sz xs=true) (h0:te.sz≠0) (dK:roomy xs.length te.bytes=true):
 b_ P f [.fz xs] H (fun v H' =>v=(if xs=[] then .e0 else .ref H.bs.length H.st 0 xs.length)∧H' =(if xs=[] then H else H.new te.sz false xs)):=by
 have dc:Exact j0:=fun _ _ _ _ h=>h.elim;have hX: ∀f ys H K,j0 f ys H K→b_ P f ys H K:=fun _ _ _ _ h=>h.elim;have hD:mu P (gx E) j0:=si (C:=gx E) dc hm hE hX;have lv:=fun (c:Code) s H K Q w φ A a h=>rM (P:=P) (C:=gx E) (X:=j0) hm hE hX hD {} c 0 s H K Q w φ A a (Ag c) h;refine ⟨⟨fn,hf,pk,by simp [hb]⟩,fun w A φ us ae hl cr=> ?_⟩
 refine calls_of_wp hf hb ?_;rw [hn];obtain ⟨v,rfl⟩: ∃v,us= #[v]:=by
  match us,hl with
  |⟨[v]⟩,_=>exact ⟨v,rfl⟩
 have hv:R w H φ A (.fz xs) v:=cr 0 _ _ rfl rfl;have dX:SF w H φ A [.fz xs,.undef,.undef,.undef,.undef,.undef,.undef,.undef] {tmps:= #[v] ++ Array.replicate (8-1) undef,defers:=[]}:=by
  refine ⟨rfl,fun i x u hx hu=> ?_,rfl⟩
  match i with
  |0=>simp at hx hu;subst hx;subst hu;exact hv
  |i+1=>
   have:x= .undef:=by
    match i with
    |0|1|2|3|4|5|6=>simpa using hx.symm
    |i+7=>simp at hx
   subst this;exact .fr _ _ (.undef _)
 have fin: ∀(s' :ak) (H' :J) (aj:af) (A' :ah) (a' :Act) (w' :World) (x:AV),Out w H φ A w' H' aj A' →SF w' H' aj A' s' a' →s'.getD 2 .undef=x→(∀u,R w' H' aj A' x u→ ∃y,R w' H' aj A' y u∧(y=(if xs=[] then .e0 else .ref H.bs.length H.st 0 xs.length)∧H' =(if xs=[] then H else H.new te.sz false xs)))→
  a'.defers=[]∧ ∃v,(results fn a'.tmps).run P w' = .ok v w' ∧iA w H φ A (fun v H' =>v=(if xs=[] then .e0 else .ref H.bs.length H.st 0 xs.length)∧H' =(if xs=[] then H else H.new te.sz false xs)) (.returned v) w' :=by
  intro s' H' aj A' a' w' x h1 h2 hx hy
  refine ⟨h2.ez,?_⟩;obtain ⟨cz,k1,k2,k3⟩:=rO (P:=P) (C:=gx E) hE h1.st h2 (fn:=fn) (rs:=[x]) (by rw [hr];simp only [fo,hx,Option.map_some])
  obtain ⟨u,rfl⟩: ∃u,cz=[u]:=by
   match cz,k2 with
   |[u],_=>exact ⟨u,rfl⟩
  obtain ⟨y,Ai,Aj⟩:=hy u (k3 0 x u rfl rfl);exact ⟨_,k1,y,H',aj,A',h1,by simpa [gV] using Ai,Aj⟩
 refine wp_seq (lv _ _ H (fun e s1 H1=>e= .normal∧s1=[.fz xs,.undef,.nil,.undef,.undef,.undef,.undef,.undef]∧H1=H) _ w φ A _ ?_ ae dX ?_)
 ·simp [cT,jy,ie,fk,aJ,cJ,dt,wpOp,dC,aO,ev,ofValue,bj,gx]
 rintro e1 s1 H1 φ1 A1 a1 w1 o1 cF ⟨rfl,rfl,rfl⟩;show (Code.seq _ _).wp P _ a1 w1;have jl:=o1.st;refine wp_seq (wp_seq (wp_region_list ?_));simp only [wpList];rw [if_pos (by simp [Region.wanted])]
 refine .inl (mm (C:=gx E) (X:=j0) hE hX jl (s:=[.fz xs,.undef,.nil,.undef,.undef,.undef,.undef,.undef]) (fun x _=>cF.ev x) (th:=false) (K:=fun x H' =>x= .fz xs∧H' =H1) (by simp [wpOp,dC,aO,ev]) ?_)
 rintro x3 v3 w3 H3 cP A3 o3 pR ⟨rfl,rfl⟩;have Ak:=(cF.mono o3.bM).set (some 3) pR;have la:=o3.st;rw [if_pos (by simp [Region.wanted])]
 have Al:(a1.put (some 3) v3).eval (.tmp 3)=v3:=by
  have:a1.tmps.size=8:=by have:=cF.len;simpa using this.symm
  simp [Act.eval,Act.put,this]
 obtain ⟨a0,cap,rfl⟩:=Ae pR;obtain ⟨bb,wb,Am⟩:=Af (a:=a0) (n:=xs.length) (cap:=cap) ((hE t ti ht).sl w3 hu) 9999;have An:cd w3 H3 cP A3 H3 ((execOp (a1.put (some 3) (.slice a0 xs.length cap)).eval {dst:=some 4,op:=Go.Op.binOp Go.BinOp.eql t (Go.Operand.tmp 3) (Go.Operand.const (Go.Value.slice none 0 0)) t,type:=b,pos:= "slices.go:357",after:= #[{on:=0,ground:=Go.Ground.data}],guard:=none}).run P w3) (.bool bb):=by
  have hg:=ik P w3 .eql t (.tmp 3) (.const (.slice none 0 0)) (.slice a0 xs.length cap) (.slice none 0 0) (by simp) rfl
  have Ao:binOp .eql t (.slice a0 xs.length cap) (.slice none 0 0)=(do pure (.bool (←Op.equal t (.slice a0 xs.length cap) (.slice none 0 0)))):=rfl
  rw [←nO] at wb;refine cd.kG la (.inl rfl) (bf.fb la ⟨.bool bb,?_,.fr _ _ (.bool _)⟩);rw [Al];show (do eqGuard .eql t (.tmp 3) (.const (.slice none 0 0)) (.slice a0 xs.length cap) (.slice none 0 0);binOp .eql t (.slice a0 xs.length cap) (.slice none 0 0):Sem Value).run P w3=_
  simp [hg,Ao,wb]
 refine .inl (An.upon fun v4 w4 wc A4 o4 Ap=> ?_);have wg:=(Ak.mono o4.bM).set (some 4) Ap;have pS:=o4.st;have wh:Out w H3 φ A w4 H3 wc A4:=o1.trans ae (o3.trans jl (o4.trans la (.refl pS)));simp only [bj,List.set_cons_succ,List.set_cons_zero] at wg;simp only [Exit.then];refine lv _ [.fz xs,.undef,.nil,.fz xs,.bool bb,.undef,.undef,.undef] H3 (fun e s' H' =>H' =H3∧if bb=true then e= .ret∧s' =[.fz xs,.undef,.nil,.fz xs,.bool bb,.undef,.undef,.undef] else e= .normal∧s' =[.fz xs,.undef,.nil,.fz xs,.bool bb,.undef,.undef,.undef]) _ w4 wc A4 _ ?_ pS wg ?_
 ·cases bb
  ·simp [cT,lB,aJ,ev,gx]
  ·simp [cT,lB,jy,ie,fk,aJ,cJ,dt,wpOp,dC,aO,ev,ofValue,bj,gx];exact ⟨_,_,⟨rfl,rfl⟩,rfl,rfl⟩
 rintro e5 s5 H5 Aq A5 a5 w5 o5 wi ⟨rfl,ng⟩;cases bb with
 |true=>
  simp only [if_true] at ng;obtain ⟨rfl,rfl⟩:=ng;obtain rfl:=Am rfl;have dH:xs=[]:=by
   cases CK:pR.du with
   |cE=>rfl
  subst dH;show (bodyPost P fn _) .ret a5 w5;refine fin _ _ _ _ _ _ .nil (wh.trans ae o5) wi rfl fun u hu=>⟨.e0,?_,by simp⟩
  have:=hu.cX;subst this;exact .fr _ _ (.e0 none)
 |false=>
  simp only [Bool.false_eq_true,if_false] at ng;obtain ⟨rfl,rfl⟩:=ng;show (Code.seq _ _).wp P _ a5 w5;refine lv _ [.fz xs,.undef,.nil,.fz xs,.bool false,.undef,.undef,.undef] H5 (fun e s' H' =>e= .ret∧s'.getD 2 .undef=(if xs=[] then .e0 else .ref H5.bs.length H5.st 0 xs.length)∧H' =(if xs=[] then H5 else H5.new te.sz false xs)) _ w5 Aq A5 a5 ?_ o5.st wi ?_
  ·by_cases dH:xs=[]
   ·subst dH;simp [cT,jy,ie,fk,aJ,cJ,dt,wpOp,dC,aO,ev,bj,gx,cD,ht,hu,he,df,dW,cA,bQ,h0];refine ⟨_,_,⟨rfl,rfl⟩,_,_,⟨rfl,rfl⟩,_,_,⟨rfl,rfl⟩,?_⟩;simp
   ·have hlen: ¬xs.length=0:=by simpa using dH
    simp [cT,jy,ie,fk,aJ,cJ,dt,wpOp,dC,aO,ev,bj,gx,cD,ht,hu,he,df,dW,cA,h0,dH];refine ⟨_,_,⟨rfl,rfl⟩,_,_,⟨rfl,rfl⟩,_,_,⟨rfl,rfl⟩,?_⟩;simp [hz,dK,dH]
  ·rintro e6 s6 H6 CL A6 a6 w6 o6 Ar ⟨rfl,As,rfl⟩;show (bodyPost P fn _) .ret a6 w6;exact fin _ _ _ _ _ _ _ (wh.trans ae (o5.trans pS o6)) Ar As fun u hu=>⟨_,hu,rfl,rfl⟩
def wj (ids:List (FuncId×Nat×Nat)):bq:=fun f ys H K=> ∃sz b xs,(f,sz,b)∈ids∧ys=[.fz xs]∧bQ sz xs=true∧sz≠0∧roomy xs.length b=true∧K (if xs=[] then .e0 else .ref H.bs.length H.st 0 xs.length) (if xs=[] then H else H.new sz false xs)
structure wk (P:Program) (E:aL) (f:FuncId) (sz b:Nat):Prop where
 out: ∃fn t bt e ti te,P.funcs[f]? =some fn∧(fn.name== "runtime.NumGoroutine")=false∧fn.body=some (wa t bt)∧fn.results= #[.tmp 2]∧fn.ntmps=8∧E t=some ti∧ti.aq= .sl e∧E e=some te∧te.sz=sz∧te.bytes=b
theorem Au (hm:P.follows .mixedOrders=true) (hE: ∀t ti,E t=some ti→aQ P t ti) {ids:List (FuncId×Nat×Nat)} (pT: ∀x∈ids,wk P E x.1 x.2.1 x.2.2):
 ∀f ys H K,wj ids f ys H K→ ∃v H',b_ P f ys H (fun v1 H1=>v1=v∧H1=H')∧K v H' :=by
 rintro f ys H K ⟨sz,b,xs,h1,rfl,h2,h3,h4,h5⟩;obtain ⟨fn,t,bt,e,ti,te,k1,k2,k3,k4,k5,k6,k7,k8,rfl,rfl⟩:=(pT _ h1).out;exact ⟨_,_,Ah hm hE k1 k2 k3 k4 k5 k6 k7 k8 xs H h2 h3 h4,h5⟩
end
end Go.VS
namespace Go.VS
structure fO (w:List AV) (n:Nat):Prop where
 len:w.length=n
 sl: ∀a∈w,bL a
def Av {α β :Type} (p: α →List β) (c: β →AV) (z:Nat) (w:List AV) (l:List α):List It:=List.zipWith (fun a x=>⟨a,z,(p x).map c⟩) w l
def CM {α :Type} (m:AV→ α →AV) (w:List AV) (l:List α):List AV:=List.zipWith m w l
def CN {α β :Type} (p: α →List β) (c: β →AV) (z:Nat) (w:List AV) (l:List α) (i:Nat):List It:=(Av p c z w l).eraseIdx i
theorem CO {α :Type} (c: α →AV) (l:List α):z8 c l= .fz (l.map c):=rfl
def Aw:List (List It)→List It→List It
 |[],F=>F
 |a::as,F=>a ++ Aw as F
section
variable {H:J} {L F R:List It}
variable {α β :Type} {p: α →List β} {c: β →AV} {z:Nat} {w:List AV} {l:List α} {m:AV→ α →AV} {v:AV} {sz:Nat}
theorem fO.nil:fO [] 0:=⟨rfl,by simp⟩
theorem fO.get (h:fO w l.length) {i:Int} {b: α} (hi:idx l i=some b): ∃a,w[i.toNat]? =some a∧bL a:=by
 obtain ⟨_,_,h1⟩:=ln hi;have:=(List.getElem?_eq_some_iff.1 h1).1;have hw:i.toNat<w.length:=by rw [h.len];exact this
 exact ⟨_,List.getElem?_eq_getElem hw,h.sl _ (List.getElem_mem hw)⟩
theorem fO.set (h:fO w l.length) {a:AV} (ha:bL a) (i:Nat) (y: α):fO (w.set i a) (l.set i y).length:=by
 refine ⟨by simpa using h.len,fun x hx=> ?_⟩
 rcases List.mem_or_eq_of_mem_set hx with h1|rfl
 ·exact h.sl _ h1
 ·exact ha
theorem fO.app {w' :List AV} {l' :List α} (h:fO w l.length) (h' :fO w' l'.length):fO (w ++ w') (l ++ l').length:=by
 refine ⟨by simp [h.len,h'.len],fun x hx=> ?_⟩
 rcases List.mem_append.1 hx with h1|h1
 ·exact h.sl _ h1
 ·exact h'.sl _ h1
structure CP (v:AV) (lo n:Nat) (v' :AV):Prop where
 out:(v= .nil∧v' = .nil)∨(v= .e0∧v' = .e0)∨ ∃id ad off len,v= .ref id ad off len∧v' = .ref id ad (off+lo) n
structure CQ (H:J) (v:AV) (n:Nat):Prop where
 out:((v= .nil∨v= .e0)∧n=0)∨ ∃id ad off len b,v= .ref id ad off len∧H.ap id ad=some b∧off+n≤b.el.length
structure CR (v:AV) (n k:Nat) (v' :AV):Prop where
 out:((v= .nil∨v= .e0)∧v' =v)∨ ∃id ad off len,v= .ref id ad off len∧v' = .ref id ad (off+n) k
def CS {γ :Type} (l:List γ) (lo:Int) (m:List γ) (d: γ):List γ :=l.take lo.toNat ++ List.replicate m.length d ++ l.drop (lo.toNat+m.length)
end
theorem CT {C:aH} {kp:List Nat} {s s' :ak} {H:J} {K:Ex→ak→J→Prop} (hk:eo kp s=s') (h:K .normal s' H):aJ (au C) C (.gE [] (some kp)) s H K:=by
 subst hk;exact h
end Go.VS
