import Derived.Test.YtmmomohapflagaaVaD
namespace Go.VS
def FZ (l:List (List Nat×List Sh)) (s:aj) (H:J) (P:aj→J→Prop):Prop:= ∃s' H',dn l s H=some (s',H')∧P s' H'
section
variable {C:aI} {s:aj} {H:J} {L:List It}
theorem uO (P:aj→J→Prop):FZ [] s H P=P s H:=by
 apply propext;constructor
 ·rintro ⟨s',H',h,hp⟩;simp only [dn,Option.some.injEq,Prod.mk.injEq] at h;obtain ⟨rfl,rfl⟩:=h;exact hp
 ·exact fun h=>⟨s,H,rfl,h⟩
theorem uP {t:Nat} {ts:List Nat} {e:Sh} {sh:List Sh} {l:List (List Nat×List Sh)} {P:aj→J→Prop} {y:AV} {H1:J} (ht:aY (e::sh) (s.getD t .undef) H=some (y,H1)) (h:FZ l (fE (s.getD t .undef) (bu y) ts (s.set t (bu y))) H1 P):FZ ((t::ts,e::sh)::l) s H P:=by
 obtain ⟨s',H',h1,h2⟩:=h;exact ⟨s',H',by simp only [dn,ht];exact h1,h2⟩
theorem uQ {f:AV→J→Option (AV×J)}: ∀(xs:List AV) (H:J),(∀x∈xs,∀H,f x H=some (x,H))→dj f xs H=some (xs,H)
 |[],H,_=>rfl
 |x::xs,H,h=>by
  simp only [dj,h x (by simp) H,uQ xs H (fun y hy=>h y (by simp [hy]))]
theorem uR {α :Type} {c: α →AV} (hz: ∀x,bu (c x)=c x): ∀(l:List α),bS (l.map c)=l.map c
 |[]=>rfl
 |x::l=>by simp only [List.map_cons,bS,hz x,uR hz l]
theorem aD.del (hS:aD H L) {id:Nat} (h: ∀(i:Nat) (it:It),L[i]? =some it→b5 it.v≠some id):aD (H.del id) L:=
 ⟨fun i it hi=>(hS.ok i it hi).frame fun k ad hk=>by
  have aM: ¬id=k:=fun e=>h i it hi (by rw [hk,e])
  simp only [J.ap,J.del,List.getElem?_set,if_neg aM],hS.b8⟩
theorem z_ (hS:aD H L) {j:Nat} {v:AV} {sz:Nat} {el:List AV} (hj:L[j]? =some ⟨v,sz,el⟩) (hp:bJ v):eZ v v=true:=by
 have af:=(hS.ok j _ hj).2;simp only at af;split at af
 ·rfl
 ·rfl
 ·simp [eZ]
 ·rename_i id ad ix off;obtain ⟨rfl,rfl,_⟩:=af;exact absurd rfl (hp.ne id ad)
 ·exact af.elim
theorem aD.take {α :Type} (hS:aD H L) (j:Nat) {v:AV} {es:List Sh} {l:List α} {c: α →AV} (hj:L[j]? =some ⟨v,es.length,l.map c⟩) (hp:bJ v) (hc: ∀x H,aY es (c x) H=some (c x,H)):
 ∃H',aY [.sl es] v H=some (.own es.length (l.map c),H')∧aD H' (L.eraseIdx j):=by
 have af:=hS.ok j _ hj;have hf:=hS.front j hj;obtain ⟨k0,af⟩:=af;have e1:aY [.sl es] v H=aQ (.sl es) v H:=by
  have Aa: ∀cs,v≠ .agg cs:=by rintro cs rfl;exact af
  cases v with
  |agg cs=>exact absurd rfl (Aa cs)
  |_=>simp only [aY]
 rw [e1];simp only at af;split at af
 ·rename_i hv;exact ⟨H,by simp only [aQ,af],hf.tl⟩
 ·exact ⟨H,by simp only [aQ,af],hf.tl⟩
 ·rename_i id ad off len;obtain ⟨k1,b,hb,k2,k3,k4,k5⟩:=af;have hm:dj (aY es) (l.map c) (H.del id)=some (l.map c,H.del id):=uQ _ _ (by
   intro x hx H;obtain ⟨y,_,rfl⟩:=List.mem_map.1 hx;exact hc y H)
  refine ⟨H.del id,?_,hf.tl.del fun i it hi e=> ?_⟩
  ·simp only [aQ,hb];rw [if_pos ⟨k2,k4,.inl k3⟩,k5,hm]
  ·have:=hf.b8 0 (i+1) _ it id rfl (by simpa using hi) rfl e
   omega
 ·rename_i id ad ix off;obtain ⟨rfl,rfl,_⟩:=af;exact absurd rfl (hp.ne id ad)
 ·exact af.elim
theorem Cs {α :Type} {t:Nat} {ts:List Nat} {es:List Sh} {l:List (List Nat×List Sh)} {P:aj→J→Prop} {v:AV} {m:List α} {c: α →AV} (j:Nat) (hS:aD H L) (hj:L[j]? =some ⟨v,es.length,m.map c⟩) (hp:bJ v) (hv:s.getD t .undef=v) (hc: ∀x H,aY es (c x) H=some (c x,H)) (hz: ∀x,bu (c x)=c x)
 (h: ∀H',eZ v v=true→aD H' (L.eraseIdx j)→FZ l (fE v (.fz (m.map c)) ts (s.set t (.fz (m.map c)))) H' P):FZ ((t::ts,[.sl es])::l) s H P:=by
 obtain ⟨H',h1,h2⟩:=hS.take j hj hp hc;rw [←hv] at h1;refine uP h1 ?_;simp only [bu,uR hz,hv];exact h H' (z_ hS hj hp) h2
theorem Ct {t:Nat} {ts:List Nat} {es:List Sh} {l:List (List Nat×List Sh)} {P:aj→J→Prop} (hv:s.getD t .undef= .nil) (h:FZ l (fE .nil (.fz []) ts (s.set t (.fz []))) H P):FZ ((t::ts,[.sl es])::l) s H P:=by
 refine uP (y:= .own es.length []) (H1:=H) (by rw [hv];simp only [aY,aQ]) ?_
 rw [hv];exact h
def TC (es:List Sh) (cs:List AV) (H:J) (K:List AV→J→Prop):Prop:= ∃ys H',cx es cs H=some (ys,H')∧K ys H'
theorem uS (xs:List AV):bu (.agg xs)= .agg (bS xs):=rfl
theorem uT (x:AV) (xs:List AV):bS (x::xs)=bu x::bS xs:=rfl
theorem uU:bS []=[]:=rfl
theorem uV (k:IntKind) (n:Int):bu (.int k n)= .int k n:=rfl
theorem uW (b:Bool):bu (.bool b)= .bool b:=rfl
theorem uX (b:List UInt8):bu (.str b)= .str b:=rfl
theorem uY (b:List AV):bu (.fz b)= .fz b:=rfl
theorem uZ (n:Nat) (b:List AV):bu (.own n b)= .fz (bS b):=rfl
theorem u2 (xs:List AV):bu (.ay xs)= .ay (bS xs):=rfl
theorem u3 (x:AV):ci [x]=x:=rfl
theorem u4 (x y:AV) (l:List AV):ci (x::y::l)= .ay (x::y::l):=rfl
theorem u5:ci []= .ay []:=rfl
theorem u6 (x y:AV):fE x y [] s=s:=rfl
theorem u7 (x y:AV) (t:Nat) (ts:List Nat):fE x y (t::ts) s=fE x y ts (if eZ (s.getD t .undef) x then s.set t y else s):=rfl
theorem u9:eZ .nil .nil=true:=rfl
theorem u_:eZ .e0 .e0=true:=rfl
theorem va (fz:List (Nat×List (List Nat×List Sh))) (K:aj→J→Prop) (i:Nat):fV C fz K [] i s H=K s H:=rfl
theorem Cu {l:List (List Nat×List Sh)} {kp:Option (List Nat)} {K:Ex→aj→J→Prop} (h:FZ l s H fun s H=>K .normal (dU kp s) H):aJ (aq C) C (.fA l kp) s H K:=by
 obtain ⟨s',H',h1,h2⟩:=h;exact zE h1 h2
theorem aD.Cv (hS:aD H L) (n:Nat) (js:List Nat) (hj:(js.Nodup∧ ∀j∈js,j<n)):aD H (js.filterMap (L[·]?) ++ L.drop n):=by
 refine ⟨fun i it hi=> ?_,fun i j a b id hi vb ha hb=> ?_⟩
 ·rcases List.mem_append.1 (List.mem_of_getElem? hi) with h|h
  ·obtain ⟨k,_,hk⟩:=List.mem_filterMap.1 h;exact hS.ok k it hk
  ·obtain ⟨k,hk⟩:=List.mem_iff_getElem?.1 (List.mem_of_mem_drop h);exact hS.ok k it hk
 ·
  have key: ∀(js:List Nat),js.Nodup→(∀j∈js,j<n)→ ∀(i j:Nat) (a b:It),(js.filterMap (L[·]?) ++ L.drop n)[i]? =some a→(js.filterMap (L[·]?) ++ L.drop n)[j]? =some b→b5 a.v=some id→b5 b.v=some id→i=j:=by
   intro js;induction js with
   |nil=>
    intro _ _ i j a b hi hj ha hb;simp only [List.filterMap_nil,List.nil_append,List.getElem?_drop] at hi hj;have:=hS.b8 _ _ a b id hi hj ha hb;omega
   |cons k ks ih=>
    intro qK ax i j a b hi hj ha hb;have vd:=(List.nodup_cons.1 qK)
    have lK:=ih vd.2 (fun j h=>ax j (by simp [h]))
    cases hk:L[k]? with
    |none=>
     simp only [List.filterMap_cons,hk] at hi hj;exact lK i j a b hi hj ha hb
    |some c=>
     simp only [List.filterMap_cons,hk,List.cons_append] at hi hj;have other: ∀(m:Nat) (d:It),(ks.filterMap (L[·]?) ++ L.drop n)[m]? =some d→b5 c.v=some id→b5 d.v≠some id:=by
      intro m d hm hc hd;rcases List.mem_append.1 (List.mem_of_getElem? hm) with h|h
      ·obtain ⟨k',Ab,bE⟩:=List.mem_filterMap.1 h;have:=hS.b8 k k' c d id hk bE hc hd
       subst this;exact vd.1 Ab
      ·obtain ⟨k',bE⟩:=List.mem_iff_getElem?.1 h;rw [List.getElem?_drop] at bE;have:=hS.b8 k _ c d id hk bE hc hd
       have:=ax k (by simp)
       omega
     cases i with
     |zero=>
      simp at hi;subst hi;cases j with
      |zero=>rfl
      |succ j=>exact absurd hb (other j b (by simpa using hj) ha)
     |succ i=>
      cases j with
      |zero=>simp at hj;subst hj;exact absurd ha (other i a (by simpa using hi) hb)
      |succ j=>have:=lK i j a b (by simpa using hi) (by simpa using hj) ha hb;omega
  exact key js hj.1 hj.2 i j a b hi vb ha hb
end
theorem Cw {α :Type} {L F:List α} {n:Nat} {x: α} (hL:L.drop n=F) (h:x∈F):x∈L:=List.mem_of_mem_drop (hL.symm▸h)
abbrev u:=AV.undef
def Ac {α :Type} (c: α →AV) (l:List α):AV:= .fz (l.map c)
theorem Cx {E:aK} {s:aj} {H:J} {a:Tmp} {t:TypeId} {rs:List ResultVar} {ti:TI} {id ad sz:Nat} {x y:AV} {ys:List AV} (ht:E t=some ti) (ha:s.getD a .undef= .ptr id ad 0 0) (hb:H.ap id ad=some ⟨ad,sz,false,[x]⟩) (hx:bQ ti x 0=some y) (hr:dw E s H rs=some ys):dw E s H (.cell a t::rs)=some (y::ys):=by
 have:aN E (.load t (.tmp a)) s H=some (y,H):=by
  have e:ev s (.tmp a)= .ptr id ad 0 0:=ha;simp only [aN,ht,e,hb,List.getElem?_cons_zero,hx]
 simp only [dw,this,hr,Option.map_some]
theorem Cy {E:aK} {s:aj} {H:J} {a:Tmp} {rs:List ResultVar} {y:AV} {ys:List AV} (ha:s.getD a .undef=y) (hr:dw E s H rs=some ys):dw E s H (.tmp a::rs)=some (y::ys):=by
 simp only [dw,hr,Option.map_some,ha]
section
variable {C:aI} {s:aj} {H:J}
def gF (C:aI) (K:aj→J→Prop) (d:Option Tmp) (late:List (Op×Option Tmp)) (rest:List GO) (s:aj):AV→J→Prop:=fun v H=>eU C (bj s d v) H (d_ C K rest (bj s d v) H) late
def ik (C:aI) (K:aj→J→Prop) (v:AV) (w:Bool) (d:Option Tmp) (op:Op) (late:List (Op×Option Tmp)) (th q:Bool) (rest:List GO) (s:aj) (H:J):Prop:=gA v w (bf (aq C) C q th op s H (gF C K d late rest s)) (gF C K d late rest s (.ay []) H)
theorem ve (K:aj→J→Prop) (d:Option Tmp) (rest:List GO) (v:AV):gF C K d [] rest s v H=d_ C K rest (bj s d v) H:=rfl
theorem vf (K:aj→J→Prop) (d:Option Tmp) (l:Op×Option Tmp) (ls:List (Op×Option Tmp)) (rest:List GO) (v:AV):gF C K d (l::ls) rest s v H=eU C (bj s d v) H (d_ C K rest (bj s d v) H) (l::ls):=rfl
theorem vg (K:aj→J→Prop) (d:Option Tmp) (op:Op) (late:List (Op×Option Tmp)) (q th:Bool) (rest:List GO):d_ C K (⟨d,op,none,late,th,q⟩::rest) s H=bf (aq C) C q th op s H (gF C K d late rest s):=rfl
theorem vh (K:aj→J→Prop) (d:Option Tmp) (op:Op) (t:Tmp) (w:Bool) (late:List (Op×Option Tmp)) (q th:Bool) (rest:List GO):d_ C K (⟨d,op,some (some t,w),late,th,q⟩::rest) s H=ik C K (s.getD t .undef) w d op late th q rest s H:=rfl
variable (K:aj→J→Prop) (d:Option Tmp) (op:Op) (late:List (Op×Option Tmp)) (th q:Bool) (rest:List GO)
theorem vi:ik C K (.bool true) true d op late th q rest s H=bf (aq C) C q th op s H (gF C K d late rest s):=sF _ _
theorem vj:ik C K (.bool false) false d op late th q rest s H=bf (aq C) C q th op s H (gF C K d late rest s):=sG _ _
theorem vk:ik C K (.bool true) false d op late th q rest s H=gF C K d late rest s (.ay []) H:=sH _ _
theorem vl:ik C K (.bool false) true d op late th q rest s H=gF C K d late rest s (.ay []) H:=sI _ _
theorem vm (l:List AV) (w:Bool):ik C K (.ay l) w d op late th q rest s H=gF C K d late rest s (.ay []) H:=rfl
theorem Cz {α :Type} {c w:Bool} {x y:Option α} {r: α} {K:aj→J→Prop} {d:Option Tmp} {op:Op} {late:List (Op×Option Tmp)} {th q:Bool} {rest:List GO} (h:(bif c then x else y)=some r) (ht:c=true→x=some r→ik C K (.bool true) w d op late th q rest s H) (hf:c=false→y=some r→ik C K (.bool false) w d op late th q rest s H):ik C K (.bool c) w d op late th q rest s H:=by
 cases c with
 |true=>exact ht rfl h
 |false=>exact hf rfl h
variable (fz:List (Nat×List (List Nat×List Sh))) (i:Nat)
def fW (C:aI) (fz:List (Nat×List (List Nat×List Sh))) (K:aj→J→Prop) (d:Option Tmp) (rest:List GO) (i:Nat) (s:aj):AV→J→Prop:=fun v H=>fV C fz K rest (i+1) (bj s d v) H
def ka (C:aI) (fz:List (Nat×List (List Nat×List Sh))) (K:aj→J→Prop) (v:AV) (w:Bool) (d:Option Tmp) (op:Op) (th q:Bool) (rest:List GO) (i:Nat) (s:aj) (H:J):Prop:=gA v w (bf (aq C) C q th op s H (fW C fz K d rest i s)) (fW C fz K d rest i s (.ay []) H)
def pW (C:aI) (fz:List (Nat×List (List Nat×List Sh))) (K:aj→J→Prop) (o:GO) (rest:List GO) (i:Nat):aj→J→Prop:=fun s H=>hM o.g s (bf (aq C) C o.q o.th o.op s H (fW C fz K o.d rest i s)) (fW C fz K o.d rest i s (.ay []) H)
theorem vn (o:GO):fV C fz K (o::rest) i s H=FZ ((fz.lookup i).getD []) s H (pW C fz K o rest i):=rfl
theorem vo:pW C fz K ⟨d,op,none,late,th,q⟩ rest i s H=bf (aq C) C q th op s H (fW C fz K d rest i s):=rfl
theorem vp (t:Tmp) (w:Bool):pW C fz K ⟨d,op,some (some t,w),late,th,q⟩ rest i s H=ka C fz K (s.getD t .undef) w d op th q rest i s H:=rfl
theorem vq (v:AV):fW C fz K d rest i s v H=fV C fz K rest (i+1) (bj s d v) H:=rfl
theorem vr:ka C fz K (.bool true) true d op th q rest i s H=bf (aq C) C q th op s H (fW C fz K d rest i s):=sF _ _
theorem vt:ka C fz K (.bool false) false d op th q rest i s H=bf (aq C) C q th op s H (fW C fz K d rest i s):=sG _ _
theorem vu:ka C fz K (.bool true) false d op th q rest i s H=fW C fz K d rest i s (.ay []) H:=sH _ _
theorem vv:ka C fz K (.bool false) true d op th q rest i s H=fW C fz K d rest i s (.ay []) H:=sI _ _
theorem vw (l:List AV) (w:Bool):ka C fz K (.ay l) w d op th q rest i s H=fW C fz K d rest i s (.ay []) H:=rfl
end
theorem vx {β :Type} (i:Nat) (l: β) (r:List (Nat× β)):((i,l)::r).lookup i=some l:=by simp [List.lookup]
theorem vy {β :Type} (i k:Nat) (l: β) (r:List (Nat× β)) (h:(i==k)=false):((k,l)::r).lookup i=r.lookup i:=by simp only [List.lookup,h]
theorem vz {β :Type} (i:Nat):([]:List (Nat× β)).lookup i=none:=rfl
theorem vA (all:List Oper) (q:Nat→Bool) (late:Nat→List Nat) (th:List Nat) (i:Nat):dQ all q late th [] i=[]:=rfl
theorem vB (all:List Oper) (q:Nat→Bool) (late:Nat→List Nat) (th:List Nat) (o:Oper) (rest:List Oper) (i:Nat):dQ all q late th (o::rest) i=⟨o.dst,o.op,o.guard.map fun p=>(lk all p.1,p.2),(late i).map (j8 all),th.contains i,q i⟩::dQ all q late th rest (i+1):=rfl
theorem vC (o:Oper) (os:List Oper):lk (o::os) 0=o.dst:=rfl
theorem vD (o:Oper) (os:List Oper) (n:Nat):lk (o::os) (n+1)=lk os n:=rfl
theorem vE (K:Ex→aj→J→Prop) (s:aj) (H:J):iQ K s H=K .normal s H:=rfl
theorem vF (E:aK) (t:TypeId) (f:Nat):lq E t f=match E t with
 |some ti=>match ti.au with
  | .st fs=>match fs[f]? with
   |some (o,ft)=>match E ft with
    |some tf=>some (o,tf)
    |none=>none
   |none=>none
  |_=>none
 |none=>none:=rfl
theorem vG (ti:TI) (hu:jy ti.au=true) (xs:List AV) (n:Nat) {H:J} {K:AV→J→Prop}:eb (some ti) (.fz xs) (some n) H K=K (.int .i64 n) H:=by cases h:ti.au<;>rw [h] at hu<;>simp [jy] at hu;exact zO ti h xs n
theorem vH (ti:TI) (hu:jy ti.au=true) (n:Nat) {H:J} {K:AV→J→Prop}:eb (some ti) .nil (some n) H K=K (.int .i64 n) H:=by cases h:ti.au<;>rw [h] at hu<;>simp [jy] at hu;exact zP ti h n
theorem vI (ti:TI) (hu:jy ti.au=true) (n:Nat) {H:J} {K:AV→J→Prop}:eb (some ti) .e0 (some n) H K=K (.int .i64 n) H:=by cases h:ti.au<;>rw [h] at hu<;>simp [jy] at hu;exact zQ ti h n
theorem vJ (ti:TI) (hu:lu ti.au=true) (l:List UInt8) (n:Nat) {H:J} {K:AV→J→Prop}:eb (some ti) (.str l) (some n) H K=K (.int .i64 n) H:=by cases h:ti.au<;>rw [h] at hu<;>simp [lu] at hu;exact zR ti h l n
theorem vK (ta tb:TI) (n:Int) (H:J) (K:AV→J→Prop):pV (some ta) (some tb) n H K=match tb.au with| .it k=>K (.int k (k.wrap n)) H|_=>False:=rfl
theorem vL (o:Nat) (tf:TI) (y:AV) (off:Nat) (h:(tf.sz==0)=false) {H:J} {K:AV→J→Prop}:iR (some (o,tf)) (.fe y off) H K=K (.fe y (off+o)) H:=zK o tf h y off
def pX (b:Option bB) (k:Prop):Prop:=match b with|some _=>k|none=>False
theorem vM (o:Nat) (tf:TI) (id ad idx off:Nat) (h:(tf.sz==0)=false) {H:J} {K:AV→J→Prop}:iR (some (o,tf)) (.ptr id ad idx off) H K=pX (H.ap id ad) (K (.ptr id ad idx (off+o)) H):=by
 rw [zL o tf h];rfl
theorem vN (b:bB) (k:Prop):pX (some b) k=k:=rfl
theorem vO {C:aI} {q th:Bool} {s:aj} {H:J} {K:AV→J→Prop} (x:Operand):bf (aq C) C q th (.nilCheck x) s H K=(match ev s x with| .ptr a b c d=>pX (H.ap a b) (K (.ptr a b c d) H)| .fe x o=>K (.fe x o) H|_=>False):=by
 rw [c9 _ rfl];simp only [aN];generalize ev s x=r;cases r<;>try rfl
 rename_i a b c d;simp only;cases H.ap a b<;>rfl
theorem vP (z:List AV) (b:Nat) (w:UD) (e:Bool) (cs:List AV) (off:Nat):bQ ⟨1,false,z,b,w,e⟩ (.agg cs) off=cs[off]? :=by
 by_cases h:off<cs.length
 ·have e1:aE cs off 1=[cs[off]]:=by
   simp only [aE,List.drop_eq_getElem_cons h,List.take_succ_cons,List.take_zero]
  have e2:bQ ⟨1,false,z,b,w,e⟩ (.agg cs) off=jD false (aE cs off 1):=if_pos (show off+1≤cs.length from h);rw [e2,e1,List.getElem?_eq_getElem h];rfl
 ·rw [List.getElem?_eq_none (by omega)]
  exact if_neg (show¬off+1≤cs.length from h)
theorem vQ (z:List AV) (b:Nat) (w:UD) (e:Bool) (k:IntKind) (n:Int):bQ ⟨1,false,z,b,w,e⟩ (.int k n) 0=some (.int k n):=rfl
theorem vR (z:List AV) (b:Nat) (w:UD) (e:Bool) (n:Bool):bQ ⟨1,false,z,b,w,e⟩ (.bool n) 0=some (.bool n):=rfl
theorem vS (z:List AV) (b:Nat) (w:UD) (e:Bool) (n:List UInt8):bQ ⟨1,false,z,b,w,e⟩ (.str n) 0=some (.str n):=rfl
theorem vT (z:List AV) (b:Nat) (w:UD) (e:Bool) (n:List AV):bQ ⟨1,false,z,b,w,e⟩ (.fz n) 0=some (.fz n):=rfl
theorem vU (z:List AV) (b:Nat) (w:UD) (e:Bool):bQ ⟨1,false,z,b,w,e⟩ .nil 0=some .nil:=rfl
theorem vV (z:List AV) (b:Nat) (w:UD) (e:Bool):bQ ⟨1,false,z,b,w,e⟩ .e0 0=some .e0:=rfl
theorem vW (z:List AV) (b:Nat) (w:UD) (e:Bool) (a c d f:Nat):bQ ⟨1,false,z,b,w,e⟩ (.ref a c d f) 0=some (.ref a c d f):=rfl
theorem vX (n:Nat) (z:List AV) (b:Nat) (w:UD) (e:Bool) (cs:List AV) (off:Nat):bQ ⟨n,true,z,b,w,e⟩ (.agg cs) off=if off+n≤cs.length then some (.agg ((cs.drop off).take n)) else none:=rfl
theorem vY (ti:TI) (r:Bool) (neg:Bool):lp (some ti) (some r) neg=if ti.agg then some (.bool (if neg then !r else r)) else none:=rfl
theorem vZ (ti:TI) (x y:AV) (neg:Bool):ig (some ti) x y neg=match isNil ti.au x y with|some b=>some (.bool (if neg then !b else b))|none=>none:=rfl
theorem v7 (E:aK) (d:Nat) (t:TypeId) (xs ys:List AV):dC E (d+1) t xs ys=match E t with
 |none=>none
 |some ti=>match ti.au with
  | .it _=>match xs,ys with
   |[.int k a],[.int j b]=>if k=j then some (a==b) else none
   |_,_=>none
  | .bl=>match xs,ys with
   |[.bool a],[.bool b]=>some (a==b)
   |_,_=>none
  | .str=>match xs,ys with
   |[.str a],[.str b]=>some (a==b)
   |_,_=>none
  | .st fs=>if ti.kg then gJ E (dC E d) fs xs ys else none
  |_=>none:=rfl
theorem v8 (E:aK) (f:TypeId→List AV→List AV→Option Bool) (xs ys:List AV):gJ E f [] xs ys=some true:=rfl
theorem v_ (E:aK) (f:TypeId→List AV→List AV→Option Bool) (o:Nat) (ft:TypeId) (fs:List (Nat×TypeId)) (xs ys:List AV):gJ E f ((o,ft)::fs) xs ys=match E ft with
 |none=>none
 |some tf=>
  if o+tf.sz≤xs.length∧o+tf.sz≤ys.length then
   match f ft (aE xs o tf.sz) (aE ys o tf.sz) with
   |some b=>match gJ E f fs xs ys with
    |some r=>some (b&&r)
    |none=>none
   |none=>none
  else none:=rfl
theorem wa (cs:List AV) (off n:Nat):aE cs off n=(cs.drop off).take n:=rfl
def nj (E:aK) (t:TypeId) (ps:List (Nat×AV)) (H:J) (K:AV→J→Prop):Prop:=match E t with
 |some ti=>match ti.au with
  | .st fs=>if !(fs.all fun f=>(E f.2).isSome)|| !(ti.zero.all cJ) then False else cI ((fw (fun i=>match fs[i]? with|some (o,ft)=>(E ft).map fun tf=>(o,tf.sz)|none=>none) ti.zero ps).map .agg) H K
  | .ar n e=>match E e with
   |some te=>if !(ti.zero.all cJ) then False else cI ((fw (fun i=>if i<n then some (i*te.sz,te.sz) else none) ti.zero ps).map .agg) H K
   |none=>False
  |_=>False
 |none=>False
theorem wb {C:aI} {q th:Bool} {s:aj} {H:J} {K:AV→J→Prop} (t:TypeId) (ps:Array (Nat×Operand)):bf (aq C) C q th (.build t ps) s H K=nj C.E t (ps.toList.map fun p=>(p.1,ev s p.2)) H K:=by
 rw [c9 _ rfl];simp only [aN,nj];cases C.E t with
 |none=>rfl
 |some ti=>
  simp only;cases ti.au<;>try rfl
  ·rename_i fs;simp only;split
   ·rfl
   ·generalize Option.map AV.agg _=r;cases r<;>rfl
  ·rename_i n e;simp only;cases C.E e with
   |none=>rfl
   |some te=>
    simp only;split
    ·rfl
    ·generalize Option.map AV.agg _=r;cases r<;>rfl
theorem CA {E:aK} {t:TypeId} {ps:List (Nat×AV)} {H:J} {K:AV→J→Prop} {ti:TI} {fs:List (Nat×TypeId)} {cs:List AV} (ht:E t=some ti) (hu:ti.au= .st fs) (h1:(fs.all fun f=>(E f.2).isSome)=true) (h2:ti.zero.all cJ=true)
 (hf:fw (fun i=>match fs[i]? with|some (o,ft)=>(E ft).map fun tf=>(o,tf.sz)|none=>none) ti.zero ps=some cs) (h:K (.agg cs) H):nj E t ps H K:=by
 simp only [nj,ht,hu,h1,h2,Bool.not_true,Bool.or_self,Bool.false_eq_true,if_false,hf];exact h
theorem wc {C:aI} {q th:Bool} {s:aj} {H:J} {K:AV→J→Prop} (f:FuncId) (cap:Array Operand):bf (aq C) C q th (.makeFunc (.func f) #[] cap) s H K=K (.fn f (cap.toList.map (ev s))) H:=by
 rw [c9 _ rfl];simp only [aN];rfl
theorem W:type_of% (And.intro @vx<|And.intro @uS<|And.intro @uT<|And.intro @uU<|And.intro @uV<|And.intro @uW<|And.intro @uX<|And.intro @uY<|And.intro @uZ<|And.intro @u2<|And.intro @u3<|And.intro @u4<|And.intro @u5<|And.intro @Bool.or_false<|And.intro @vy<|And.intro @vz<|And.intro @sE<|And.intro @vg<|And.intro @vh<|And.intro @ve<|And.intro @vf<|And.intro @vi<|And.intro @vj<|And.intro @vk<|And.intro @vl<|And.intro @vm<|And.intro @vn<|And.intro @vo<|And.intro @vp<|And.intro @vq<|And.intro @vr<|And.intro @vt<|And.intro @vu<|And.intro @vv<|And.intro @vw<|
 And.intro @sJ<|And.intro @sK<|And.intro @sL<|And.intro @sM<|And.intro @sN<|And.intro @sO<|And.intro @sP<|And.intro @sQ<|And.intro @sR<|And.intro @sT<|And.intro @sU<|And.intro @sV<|And.intro @sW<|
 And.intro @sY<|And.intro @sZ<|And.intro @s4<|And.intro @s7<|And.intro @s8<|And.intro @s9<|And.intro @tc<|And.intro @tg<|And.intro @tj<|And.intro @tn<|And.intro @tp<|And.intro @tq<|
 And.intro @uF<|And.intro @uG<|And.intro @uH<|And.intro @tv<|And.intro @tw<|And.intro @tz<|And.intro @tA<|And.intro @tB<|And.intro @tC<|And.intro @tD<|And.intro @tE<|And.intro @tF<|And.intro @tG<|
 And.intro @tH<|And.intro @tI<|And.intro @tJ<|And.intro @tK<|And.intro @tL<|And.intro @tM<|And.intro @tN<|And.intro @tO<|And.intro @tP<|And.intro @tQ<|And.intro @tR<|And.intro @tS<|And.intro @tT<|
 And.intro @tU<|And.intro @tV<|And.intro @tW<|And.intro @tX<|And.intro @tY<|And.intro @o_load<|And.intro @tZ<|And.intro @t_<|And.intro @ua<|And.intro @ub<|And.intro @uc<|And.intro @ud<|And.intro @uf<|
 And.intro @ug<|And.intro @uh<|And.intro @ui<|And.intro @uj<|And.intro @min2<|And.intro @max2<|And.intro @um<|And.intro @uu<|And.intro @uw<|And.intro @ux<|And.intro @uy<|And.intro @uz<|
 And.intro @uB<|And.intro @uC<|And.intro @uD<|And.intro @uI<|And.intro @uJ<|And.intro @uK<|And.intro @uL<|And.intro @uM<|And.intro @uO<|And.intro @u6<|And.intro @u7<|And.intro @u9<|And.intro @u_<|
 And.intro @va<|And.intro @vA<|And.intro @vB<|And.intro @vC<|And.intro @vD<|And.intro @vE<|And.intro @vF<|And.intro @vG<|And.intro @vH<|And.intro @vI<|And.intro @vJ<|And.intro @vK<|
 And.intro @vL<|And.intro @vM<|And.intro @vN<|And.intro @vO<|And.intro @vP<|And.intro @vQ<|And.intro @vR<|And.intro @vS<|And.intro @vT<|And.intro @vU<|And.intro @vV<|And.intro @vW<|And.intro @vX<|And.intro @vY<|And.intro @vZ<|
 And.intro @v7<|And.intro @v8<|And.intro @v_<|And.intro @wa<|And.intro @wb<|And.intro @wc<|And.intro @uo<|And.intro @uq<|And.intro @ur<|
 And.intro @List.set_cons_succ.{0}<|And.intro @List.set_cons_zero.{0}<|And.intro @List.getD_cons_succ.{0}<|And.intro @List.getD_cons_zero.{0}<|And.intro @Option.map_some.{0,0}<|And.intro @Option.map_none.{0,0}<|And.intro @List.map_nil.{0,0}<|And.intro @List.map_cons.{0,0}<|And.intro @List.contains_nil.{0}<|
 And.intro @List.getElem?_cons_succ.{0}<|And.intro @List.getElem?_cons_zero.{0}<|And.intro @List.length_map.{0,0}<|And.intro @List.drop_succ_cons.{0}<|And.intro @List.drop_zero.{0}<|And.intro @List.take_succ_cons.{0}<|And.intro @List.take_zero.{0}<|And.intro @List.length_cons.{0}<|And.intro @List.length_nil.{0}<|
 And.intro @if_true.{0}<|And.intro @if_false.{0}<|And.intro @Bool.not_true<|And.intro @Bool.not_false<|And.intro @Option.getD_none.{0}<|And.intro @Option.getD_some.{0}<|And.intro @List.cons_append.{0}<|And.intro @List.nil_append.{0}<|And.intro @and_self<|And.intro @and_true @true_and):=
 And.intro @vx<|And.intro @uS<|And.intro @uT<|And.intro @uU<|And.intro @uV<|And.intro @uW<|And.intro @uX<|And.intro @uY<|And.intro @uZ<|And.intro @u2<|And.intro @u3<|And.intro @u4<|And.intro @u5<|And.intro @Bool.or_false<|And.intro @vy<|And.intro @vz<|And.intro @sE<|And.intro @vg<|And.intro @vh<|And.intro @ve<|And.intro @vf<|And.intro @vi<|And.intro @vj<|And.intro @vk<|And.intro @vl<|And.intro @vm<|And.intro @vn<|And.intro @vo<|And.intro @vp<|And.intro @vq<|And.intro @vr<|And.intro @vt<|And.intro @vu<|And.intro @vv<|And.intro @vw<|
 And.intro @sJ<|And.intro @sK<|And.intro @sL<|And.intro @sM<|And.intro @sN<|And.intro @sO<|And.intro @sP<|And.intro @sQ<|And.intro @sR<|And.intro @sT<|And.intro @sU<|And.intro @sV<|And.intro @sW<|
 And.intro @sY<|And.intro @sZ<|And.intro @s4<|And.intro @s7<|And.intro @s8<|And.intro @s9<|And.intro @tc<|And.intro @tg<|And.intro @tj<|And.intro @tn<|And.intro @tp<|And.intro @tq<|
 And.intro @uF<|And.intro @uG<|And.intro @uH<|And.intro @tv<|And.intro @tw<|And.intro @tz<|And.intro @tA<|And.intro @tB<|And.intro @tC<|And.intro @tD<|And.intro @tE<|And.intro @tF<|And.intro @tG<|
 And.intro @tH<|And.intro @tI<|And.intro @tJ<|And.intro @tK<|And.intro @tL<|And.intro @tM<|And.intro @tN<|And.intro @tO<|And.intro @tP<|And.intro @tQ<|And.intro @tR<|And.intro @tS<|And.intro @tT<|
 And.intro @tU<|And.intro @tV<|And.intro @tW<|And.intro @tX<|And.intro @tY<|And.intro @o_load<|And.intro @tZ<|And.intro @t_<|And.intro @ua<|And.intro @ub<|And.intro @uc<|And.intro @ud<|And.intro @uf<|
 And.intro @ug<|And.intro @uh<|And.intro @ui<|And.intro @uj<|And.intro @min2<|And.intro @max2<|And.intro @um<|And.intro @uu<|And.intro @uw<|And.intro @ux<|And.intro @uy<|And.intro @uz<|
 And.intro @uB<|And.intro @uC<|And.intro @uD<|And.intro @uI<|And.intro @uJ<|And.intro @uK<|And.intro @uL<|And.intro @uM<|And.intro @uO<|And.intro @u6<|And.intro @u7<|And.intro @u9<|And.intro @u_<|
 And.intro @va<|And.intro @vA<|And.intro @vB<|And.intro @vC<|And.intro @vD<|And.intro @vE<|And.intro @vF<|And.intro @vG<|And.intro @vH<|And.intro @vI<|And.intro @vJ<|And.intro @vK<|
 And.intro @vL<|And.intro @vM<|And.intro @vN<|And.intro @vO<|And.intro @vP<|And.intro @vQ<|And.intro @vR<|And.intro @vS<|And.intro @vT<|And.intro @vU<|And.intro @vV<|And.intro @vW<|And.intro @vX<|And.intro @vY<|And.intro @vZ<|
 And.intro @v7<|And.intro @v8<|And.intro @v_<|And.intro @wa<|And.intro @wb<|And.intro @wc<|And.intro @uo<|And.intro @uq<|And.intro @ur<|
 And.intro @List.set_cons_succ.{0}<|And.intro @List.set_cons_zero.{0}<|And.intro @List.getD_cons_succ.{0}<|And.intro @List.getD_cons_zero.{0}<|And.intro @Option.map_some.{0,0}<|And.intro @Option.map_none.{0,0}<|And.intro @List.map_nil.{0,0}<|And.intro @List.map_cons.{0,0}<|And.intro @List.contains_nil.{0}<|
 And.intro @List.getElem?_cons_succ.{0}<|And.intro @List.getElem?_cons_zero.{0}<|And.intro @List.length_map.{0,0}<|And.intro @List.drop_succ_cons.{0}<|And.intro @List.drop_zero.{0}<|And.intro @List.take_succ_cons.{0}<|And.intro @List.take_zero.{0}<|And.intro @List.length_cons.{0}<|And.intro @List.length_nil.{0}<|
 And.intro @if_true.{0}<|And.intro @if_false.{0}<|And.intro @Bool.not_true<|And.intro @Bool.not_false<|And.intro @Option.getD_none.{0}<|And.intro @Option.getD_some.{0}<|And.intro @List.cons_append.{0}<|And.intro @List.nil_append.{0}<|And.intro @and_self<|And.intro @and_true @true_and
end Go.VS
namespace Go.VS
def iT:List (Nat×List Nat)→Nat→List Nat
 |[],_=>[]
 |(a,l)::t,i=>if i=a then l else iT t i
def ly:List Nat→Nat→Bool
 |[],_=>true
 |a::t,i=>if i=a then false else ly t i
theorem wg: ∀(ls:List Nat) (i:Nat),(!ls.contains i)=ly ls i
 |[],_=>rfl
 |a::t,i=>by
  have:=wg t i;unfold ly;by_cases h:i=a
  ·simp [h]
  ·rw [if_neg h,←this];simp [h]
theorem Ad {f:Nat→List Nat}: ∀(il:List (Nat×List Nat)) (_:il.all (fun p=>f p.1==p.2)=true) (_: ∀i,i∉il.map (·.1)→f i=[]) (i:Nat),f i=iT il i
 |[],_,h,i=>h i (by simp)
 |(a,l)::t,h1,h2,i=>by
  simp only [List.all_cons,Bool.and_eq_true,beq_iff_eq] at h1;unfold iT;by_cases h:i=a
  ·rw [if_pos h,h];exact h1.1
  ·rw [if_neg h];by_cases hm:i∈t.map (·.1)
   ·clear h2;have go: ∀(t:List (Nat×List Nat)),t.all (fun p=>f p.1==p.2)=true→i∈t.map (·.1)→f i=iT t i:=by
     intro t;induction t with
     |nil=>intro _ hm;simp at hm
     |cons p t ih=>
      intro h1 hm;simp only [List.all_cons,Bool.and_eq_true,beq_iff_eq] at h1;obtain ⟨a,l⟩:=p;unfold iT;by_cases h:i=a
      ·rw [if_pos h,h];exact h1.1
      ·rw [if_neg h];exact ih h1.2 (by simpa [h] using hm)
    exact go t h1.2 hm
   ·have e:f i=[]:=h2 i (by simp only [List.map_cons,List.mem_cons,not_or];exact ⟨h,hm⟩)
    rw [e];clear h1 h2;induction t with
    |nil=>rfl
    |cons p t ih=>
     obtain ⟨b,m⟩:=p;simp only [List.map_cons,List.mem_cons,not_or] at hm;unfold iT;rw [if_neg hm.1];exact ih hm.2
section
variable {C:aI} {s:aj} {H:J} {K:Ex→aj→J→Prop}
theorem CB (gC:Good C) {id:Nat} {ops:List Oper} {ls th:List Nat} {fz:List (Nat×List (List Nat×List Sh))} (il:List (Nat×List Nat)) (hd:iA ops.toArray ls=true) (h1:il.map (·.1)=ls) (h2:il.all (fun p=>fD ops.toArray ls p.1==p.2)=true)
 (h:d_ C (iQ K) (dQ ops (ly ls) (iT il) th ops 0) s H):aJ (aq C) C (.region id ops.toArray true ls th fz) s H K:=by
 refine sC gC hd ?_;have e1:(fun i=> !ls.contains i)=ly ls:=funext (wg ls);have e2:fD ops.toArray ls=iT il:=funext (Ad il h2 (fun i hi=>by
  unfold fD;rw [h1] at hi;rw [if_neg (by simpa using hi)]))
 rw [e1,e2];exact h
end
theorem Ae {x:Int} (h: -9223372036854775808≤x∧x≤9223372036854775807):IntKind.i64.wrap x=x:=IntWalk.i64_in x (by omega)
end Go.VS
namespace Go.VS
section
variable {C:aI} {H:J} {L:List It}
theorem Af {f:AV→Option AV} {c y:AV} {cs ys:List AV} (h1:f c=some y) (h2:cs.mapM f=some ys):(c::cs).mapM f=some (y::ys):=by
 simp [List.mapM_cons,h1,h2]
theorem wh {f:AV→Option AV}: ∀(cs:List AV),(∀c∈cs,f c=some c)→cs.mapM f=some cs
 |[],_=>rfl
 |c::cs,h=>Af (h c (by simp)) (wh cs fun d hd=>h d (by simp [hd]))
theorem CC {α :Type} {n:Nat} (hS:aD H L) (j:Nat) {v:AV} {sz:Nat} {l:List α} {c: α →AV} (hj:L[j]? =some ⟨v,sz,l.map c⟩) (hp:bJ v) (hc: ∀x,aX n H (c x)=some (c x)):aX (n+1) H v=some (.fz (l.map c)):=by
 obtain ⟨k0,af⟩:=hS.ok j _ hj;simp only at af;rcases hp.ok with rfl|rfl|⟨id,ad,off,len,rfl⟩
 ·simp only at af;simp only [aX,af]
 ·simp only at af;simp only [aX,af]
 ·simp only at af;obtain ⟨k1,b,hb,k2,k3,k4,k5⟩:=af;simp only [aX,hb];rw [if_pos k4,k5,wh (l.map c) (by
   intro d hd;obtain ⟨x,_,rfl⟩:=List.mem_map.1 hd;exact hc x),Option.map_some]
theorem CD:b_ [] [] H=some ([],false):=rfl
theorem CE {v y:AV} {vs ys:List AV} {b:Bool} (h1:aX 8 H v=some y) (h2:b_ [] vs H=some (ys,b)):b_ [] (v::vs) H=some (y::ys,eJ v||b):=by
 simp only [b_,h1,h2]
def TV (cc:List (List Sh)) (rs:List AV) (H:J) (K:List AV→Prop):Prop:= ∃zs H',dc cc rs H=some (zs,H')∧K zs
theorem CF {cc:List (List Sh)} {K:List AV→Prop} (h:K []):TV cc [] H K:=⟨[],H,rfl,h⟩
theorem wi {e:List Sh} {cc:List (List Sh)} {v y:AV} {rs:List AV} {H1:J} {K:List AV→Prop} (ht:aY e v H=some (y,H1)) (h:TV cc rs H1 fun zs=>K (y::zs)):TV (e::cc) (v::rs) H K:=by
 obtain ⟨zs,H',h1,h2⟩:=h;exact ⟨y::zs,H',by simp only [dc,List.headD_cons,List.tail_cons,ht,h1],h2⟩
theorem Ag {v:AV} (hp:du v=true) (H:J):aY [.sc] v H=some (v,H):=by
 cases v<;>simp [du] at hp<;>simp [aY,aQ,du]
theorem CG {cc:List (List Sh)} {v:AV} {rs:List AV} {K:List AV→Prop} (hp:du v=true) (h:TV cc rs H fun zs=>K (v::zs)):TV ([.sc]::cc) (v::rs) H K:=
 wi (Ag hp H) h
theorem CH {α :Type} {cc:List (List Sh)} {es:List Sh} {v:AV} {rs:List AV} {K:List AV→Prop} {m:List α} {c: α →AV} (j:Nat) (hS:aD H L) (hj:L[j]? =some ⟨v,es.length,m.map c⟩) (hp:bJ v) (hc: ∀x H,aY es (c x) H=some (c x,H))
 (h: ∀H',aD H' (L.eraseIdx j)→TV cc rs H' fun zs=>K (.own es.length (m.map c)::zs)):TV ([.sl es]::cc) (v::rs) H K:=by
 obtain ⟨H',h1,h2⟩:=hS.take j hj hp hc;exact wi h1 (h H' h2)
theorem CI {cc:List (List Sh)} {rs:List AV} {y v:AV} (hv:v=ci rs) (h:TV cc rs H fun zs=>y=ci zs): ∃rs zs L2,v=ci rs∧dc cc rs H=some (zs,L2)∧y=ci zs:=by
 obtain ⟨zs,H',h1,h2⟩:=h;exact ⟨rs,zs,H',hv,h1,h2⟩
def TH (ys:List AV) (H:J) (K:List AV→J→Prop):Prop:=K (aG ys H).1 (aG ys H).2
theorem CJ {K:List AV→J→Prop} (h:K [] H):TH [] H K:=h
theorem CK {y:AV} {ys:List AV} {K:List AV→J→Prop} (hp: ∀H,aF y H=(y,H)) (h:TH ys H fun zs H' =>K (y::zs) H'):TH (y::ys) H K:=by
 unfold TH at h⊢;simp only [aG,hp H];exact h
theorem wj {α :Type} {c: α →AV} (hc: ∀x H,aF (c x) H=(c x,H)): ∀(l:List α) (H:J),aG (l.map c) H=(l.map c,H)
 |[],_=>rfl
 |x::l,H=>by simp only [List.map_cons,aG,hc x H,wj hc l H]
theorem CL {α :Type} {sz:Nat} {m:List α} {c: α →AV} {ys:List AV} {K:List AV→J→Prop} (hS:aD H L) (hc: ∀x H,aF (c x) H=(c x,H)) (hz: ∀x,(c x).cells.length=sz)
 (h: ∀v H',bJ v→aD H' (⟨v,sz,m.map c⟩::L)→TH ys H' fun zs iK=>K (v::zs) iK):TH (.own sz (m.map c)::ys) H K:=by
 have hs:bM sz (m.map c)=true:=by simp [bM,hz]
 have:=h _ _ (ii H.bs.length H.st 0 (m.map c).length) (hS.nb (all:=m.map c) (List.take_of_length_le (Nat.le_refl _)) rfl hs);unfold TH at this⊢;simp only [aG,aF,wj hc m H];exact this
theorem CM {y:AV} {K:AV→J→Prop} (h:TH [y] H fun zs H' =>K (zs.headD .undef) H'):K (aF y H).1 (aF y H).2:=by
 unfold TH at h;simp only [aG] at h;exact h
theorem CN {ys:List AV} {K:AV→J→Prop} (h:TH ys H fun zs H' =>K (.ay zs) H'):K (aF (.ay ys) H).1 (aF (.ay ys) H).2:=by
 unfold TH at h;simp only [aF];exact h
variable {q th:Bool} {K:AV→J→Prop}
theorem CO {α β :Type} {g:FuncId} {bR args ys:List AV} {bT:Bool} {o:Option α} {f: α →Option β} {r: β} {cc:List (List Sh)} (h:o.bind f=some r) (hr:(C.gb g).cc=cc) (hp:b_ [] (args ++ bR) H=some (ys,bT))
 (hk: ∀x,o=some x→f x=some r→ ∃y,aq C g ys ⟨0,[]⟩ (fun v L=> ∃rs zs L2,v=ci rs∧dc cc rs L=some (zs,L2)∧y=ci zs)∧(cr y=true∧bu y=y∧ ∀H,aF y H=(y,H))∧K y H):lx C q th (.fn g bR) args H K:=by
 refine uN h hr hp fun x hx hf=> ?_;obtain ⟨y,h1,⟨h2,h3,h4⟩,h5⟩:=hk x hx hf;refine ⟨y,h1,.inr h2,?_⟩;rw [h3,h4 H];split<;>exact h5
theorem CP {α β :Type} {g:FuncId} {bR args ys:List AV} {bT:Bool} {o:Option α} {f: α →Option β} {r: β} {cc:List (List Sh)} (h:o.bind f=some r) (hr:(C.gb g).cc=cc) (hp:b_ [] (args ++ bR) H=some (ys,bT))
 (hk: ∀x,o=some x→f x=some r→ ∃y,aq C g ys ⟨0,[]⟩ (fun v L=> ∃rs zs L2,v=ci rs∧dc cc rs L=some (zs,L2)∧y=ci zs)∧cr y=true∧K (aF y H).1 (aF y H).2):lx C q true (.fn g bR) args H K:=by
 refine uN h hr hp fun x hx hf=> ?_;obtain ⟨y,h1,h2,h5⟩:=hk x hx hf;refine ⟨y,h1,.inr h2,?_⟩;simpa using h5
theorem wk {α :Type} {c: α →AV} (hc: ∀x,cr (c x)=true): ∀(l:List α),ei (l.map c)=true
 |[]=>rfl
 |x::l=>by simp only [List.map_cons,ei,hc x,wk hc l,Bool.and_self]
theorem CQ {α :Type} {c: α →AV} (sz:Nat) (hc: ∀x,cr (c x)=true) (l:List α):cr (.own sz (l.map c))=true:=by
 simp only [cr];exact wk hc l
theorem CR:ei []=true:=rfl
theorem CS {y:AV} {ys:List AV} (h1:cr y=true) (h2:ei ys=true):ei (y::ys)=true:=by simp only [ei,h1,h2,Bool.and_self]
theorem CT {ys:List AV} (h:ei ys=true):cr (.ay ys)=true:=by simp only [cr];exact h
end
end Go.VS
namespace Go.VS
def wl (t b:TypeId):Code:=
 (Go.Code.seq
  (Go.Code.region 0 #[{dst:=some 2,op:=Go.Op.assign (Go.Operand.const (Go.Value.slice none 0 0)),type:=t,pos:= "slices.go:355",after:= #[],guard:=none}] false)
  (Go.Code.seq
   (Go.Code.seq
    (Go.Code.region 1
     #[{dst:=some 3,op:=Go.Op.move (Go.Operand.tmp 0),type:=t,pos:= "slices.go:357",after:= #[],guard:=none},
      {dst:=some 4,op:=Go.Op.binOp Go.BinOp.eql t (Go.Operand.tmp 3) (Go.Operand.const (Go.Value.slice none 0 0)) t,type:=b,pos:= "slices.go:357",after:= #[{on:=0,ground:=Go.Ground.data}],guard:=none}]
     false)
    (Go.Code.cond (Go.Operand.tmp 4)
     (Go.Code.seq
      (Go.Code.region 2 #[{dst:=some 2,op:=Go.Op.assign (Go.Operand.const (Go.Value.slice none 0 0)),type:=t,pos:= "slices.go:358",after:= #[],guard:=none}] false)
      Go.Code.ret)
     Go.Code.skip))
   (Go.Code.seq
    (Go.Code.region 3
     #[{dst:=some 5,op:=Go.Op.buildSlice t 0 #[],type:=t,pos:= "slices.go:362",after:= #[],guard:=none},
      {dst:=some 6,op:=Go.Op.move (Go.Operand.tmp 0),type:=t,pos:= "slices.go:362",after:= #[],guard:=none},
      {dst:=some 7,op:=Go.Op.call {callee:=Go.Callee.builtin Go.Builtin.append,args:= #[Go.Operand.tmp 5,Go.Operand.tmp 6],argTypes:= #[t,t]},type:=t,pos:= "slices.go:362",after:= #[{on:=0,ground:=Go.Ground.data},{on:=1,ground:=Go.Ground.data}],guard:=none},
      {dst:=some 2,op:=Go.Op.assign (Go.Operand.tmp 7),type:=t,pos:= "slices.go:362",after:= #[{on:=2,ground:=Go.Ground.data},{on:=2,ground:=Go.Ground.chain},{on:=0,ground:=Go.Ground.phase},{on:=1,ground:=Go.Ground.phase},{on:=2,ground:=Go.Ground.phase}],guard:=none}]
     false)
    Go.Code.ret)))
def kb:bw:=fun _ _ _ _=>False
def gG (E:aK):aI:=⟨E,fun _=>{},fun _=>none,kb⟩
theorem Ah {w:World} {H:J} {φ :ag} {A:ah} {xs:List AV} {v:Value} (h:R w H φ A (.fz xs) v): ∃a cap,v= .slice a xs.length cap:=by
 cases h.dx with
 |cD a cap=>exact ⟨a,cap,rfl⟩
 |fz _ c off cap n arr T fr=>exact ⟨_,_,rfl⟩
theorem Ai {P:Program} {w:World} {t e:TypeId} {a:Option Addr} {n cap:Nat} (h:(underlying t).run P w= .ok (.slice e) w) (d:Nat): ∃b,(Op.equalIn (d+1) t (.slice a n cap) (.slice none 0 0)).run P w= .ok b w∧(b=true→a=none):=by
 cases a with
 |none=>exact ⟨true,by simp [Op.equalIn,h],fun _=>rfl⟩
 |some a=>exact ⟨false,qp h d,by simp⟩
theorem Aj: ∀c:Code,cU {} c=true:=by
 intro c;induction c with
 |seq a b fT fU=>simp [cU,fT,fU]
 |cond c a b fT fU=>simp [cU,fT,fU]
 |block id a ih=>simp [cU,ih]
 |loop a ih=>simp [cU,ih]
 |region id ops draw=>simp [cU]
 |_=>simp [cU]
section
variable {P:Program} {E:aK}
theorem Ak (hm:P.follows .mixedOrders=true) (hE: ∀t ti,E t=some ti→aR P t ti) {f:FuncId} {fn:Func} {t b e:TypeId} {ti te:TI} (hf:P.funcs[f]? =some fn) (pw:(fn.name== "runtime.NumGoroutine")=false)
 (hb:fn.body=some (wl t b)) (hr:fn.results= #[.tmp 2]) (hn:fn.ntmps=8) (ht:E t=some ti) (hu:ti.au= .sl e) (he:E e=some te) (xs:List AV) (H:J) (hz:bM te.sz xs=true) (h0:te.sz≠0) (dP:roomy xs.length te.bytes=true):
 cq P f [.fz xs] H (fun v H' =>v=(if xs=[] then .e0 else .ref H.bs.length H.st 0 xs.length)∧H' =(if xs=[] then H else H.new te.sz false xs)):=by
 have dg:Exact kb:=fun _ _ _ _ h=>h.elim;have hX: ∀f ys H K,kb f ys H K→cq P f ys H K:=fun _ _ _ _ h=>h.elim;have hD:mv P (gG E) kb:=sn (C:=gG E) dg hm hE hX;have pY:=fun (c:Code) s H K Q w φ A a h=>rQ (P:=P) (C:=gG E) (X:=kb) hm hE hX hD {} c 0 s H K Q w φ A a (Aj c) h;refine ⟨⟨fn,hf,pw,by simp [hb]⟩,fun w A φ us ae hl cP=> ?_⟩
 refine calls_of_wp hf hb ?_;rw [hn];obtain ⟨v,rfl⟩: ∃v,us= #[v]:=by
  match us,hl with
  |⟨[v]⟩,_=>exact ⟨v,rfl⟩
 have hv:R w H φ A (.fz xs) v:=cP 0 _ _ rfl rfl;have ej:SF w H φ A [.fz xs,.undef,.undef,.undef,.undef,.undef,.undef,.undef] {tmps:= #[v] ++ Array.replicate (8-1) undef,defers:=[]}:=by
  refine ⟨rfl,fun i x u hx hu=> ?_,rfl⟩
  match i with
  |0=>simp at hx hu;subst hx;subst hu;exact hv
  |i+1=>
   have:x= .undef:=by
    match i with
    |0|1|2|3|4|5|6=>simpa using hx.symm
    |i+7=>simp at hx
   subst this;exact .fr _ _ (.undef _)
 have fin: ∀(s' :aj) (H' :J) (ak:ag) (A' :ah) (a' :Act) (w' :World) (x:AV),Out w H φ A w' H' ak A' →SF w' H' ak A' s' a' →s'.getD 2 .undef=x→(∀u,R w' H' ak A' x u→ ∃y,R w' H' ak A' y u∧(y=(if xs=[] then .e0 else .ref H.bs.length H.st 0 xs.length)∧H' =(if xs=[] then H else H.new te.sz false xs)))→
  a'.defers=[]∧ ∃v,(results fn a'.tmps).run P w' = .ok v w' ∧hI w H φ A (fun v H' =>v=(if xs=[] then .e0 else .ref H.bs.length H.st 0 xs.length)∧H' =(if xs=[] then H else H.new te.sz false xs)) (.returned v) w' :=by
  intro s' H' ak A' a' w' x h1 h2 hx hy
  refine ⟨h2.eG,?_⟩;obtain ⟨cB,k1,k2,k3⟩:=rS (P:=P) (C:=gG E) hE h1.st h2 (fn:=fn) (rs:=[x]) (by rw [hr];simp only [dw,hx,Option.map_some])
  obtain ⟨u,rfl⟩: ∃u,cB=[u]:=by
   match cB,k2 with
   |[u],_=>exact ⟨u,rfl⟩
  obtain ⟨y,Al,Am⟩:=hy u (k3 0 x u rfl rfl);exact ⟨_,k1,y,H',ak,A',h1,by simpa [g_] using Al,Am⟩
 refine wp_seq (pY _ _ H (fun e s1 H1=>e= .normal∧s1=[.fz xs,.undef,.nil,.undef,.undef,.undef,.undef,.undef]∧H1=H) _ w φ A _ ?_ ae ej ?_)
 ·simp [cV,jH,iw,fB,aJ,cM,dn,wpOp,dG,aN,ev,ofValue,bj,gG]
 rintro e1 s1 H1 φ1 A1 a1 w1 o1 cE ⟨rfl,rfl,rfl⟩;show (Code.seq _ _).wp P _ a1 w1;have jw:=o1.st;refine wp_seq (wp_seq (wp_region_list ?_));simp only [wpList];rw [if_pos (by simp [Region.wanted])]
 refine .inl (mn (C:=gG E) (X:=kb) hE hX jw (s:=[.fz xs,.undef,.nil,.undef,.undef,.undef,.undef,.undef]) (fun x _=>cE.ev x) (th:=false) (K:=fun x H' =>x= .fz xs∧H' =H1) (by simp [wpOp,dG,aN,ev]) ?_)
 rintro x3 v3 w3 H3 cT A3 o3 pZ ⟨rfl,rfl⟩;have An:=(cE.mono o3.bU).set (some 3) pZ;have li:=o3.st;rw [if_pos (by simp [Region.wanted])]
 have Ao:(a1.put (some 3) v3).eval (.tmp 3)=v3:=by
  have:a1.tmps.size=8:=by have:=cE.len;simpa using this.symm
  simp [Act.eval,Act.put,this]
 obtain ⟨a0,cap,rfl⟩:=Ah pZ;obtain ⟨bb,wm,Ap⟩:=Ai (a:=a0) (n:=xs.length) (cap:=cap) ((hE t ti ht).sl w3 hu) 9999;have Aq:cf w3 H3 cT A3 H3 ((execOp (a1.put (some 3) (.slice a0 xs.length cap)).eval {dst:=some 4,op:=Go.Op.binOp Go.BinOp.eql t (Go.Operand.tmp 3) (Go.Operand.const (Go.Value.slice none 0 0)) t,type:=b,pos:= "slices.go:357",after:= #[{on:=0,ground:=Go.Ground.data}],guard:=none}).run P w3) (.bool bb):=by
  have hg:=iB P w3 .eql t (.tmp 3) (.const (.slice none 0 0)) (.slice a0 xs.length cap) (.slice none 0 0) (by simp) rfl
  have Ar:binOp .eql t (.slice a0 xs.length cap) (.slice none 0 0)=(do pure (.bool (←Op.equal t (.slice a0 xs.length cap) (.slice none 0 0)))):=rfl
  rw [←nU] at wm;refine cf.kM li (.inl rfl) (bd.fk li ⟨.bool bb,?_,.fr _ _ (.bool _)⟩);rw [Ao];show (do eqGuard .eql t (.tmp 3) (.const (.slice none 0 0)) (.slice a0 xs.length cap) (.slice none 0 0);binOp .eql t (.slice a0 xs.length cap) (.slice none 0 0):Sem Value).run P w3=_
  simp [hg,Ar,wm]
 refine .inl (Aq.upon fun v4 w4 wo A4 o4 As=> ?_);have wq:=(An.mono o4.bU).set (some 4) As;have p0:=o4.st;have wu:Out w H3 φ A w4 H3 wo A4:=o1.trans ae (o3.trans jw (o4.trans li (.refl p0)));simp only [bj,List.set_cons_succ,List.set_cons_zero] at wq;simp only [Exit.then];refine pY _ [.fz xs,.undef,.nil,.fz xs,.bool bb,.undef,.undef,.undef] H3 (fun e s' H' =>H' =H3∧if bb=true then e= .ret∧s' =[.fz xs,.undef,.nil,.fz xs,.bool bb,.undef,.undef,.undef] else e= .normal∧s' =[.fz xs,.undef,.nil,.fz xs,.bool bb,.undef,.undef,.undef]) _ w4 wo A4 _ ?_ p0 wq ?_
 ·cases bb
  ·simp [cV,lD,aJ,ev,gG]
  ·simp [cV,lD,jH,iw,fB,aJ,cM,dn,wpOp,dG,aN,ev,ofValue,bj,gG];exact ⟨_,_,⟨rfl,rfl⟩,rfl,rfl⟩
 rintro e5 s5 H5 Au A5 a5 w5 o5 wv ⟨rfl,nk⟩;cases bb with
 |true=>
  simp only [if_true] at nk;obtain ⟨rfl,rfl⟩:=nk;obtain rfl:=Ap rfl;have dL:xs=[]:=by
   cases CU:pZ.dx with
   |cD=>rfl
  subst dL;show (bodyPost P fn _) .ret a5 w5;refine fin _ _ _ _ _ _ .nil (wu.trans ae o5) wv rfl fun u hu=>⟨.e0,?_,by simp⟩
  have:=hu.c7;subst this;exact .fr _ _ (.e0 none)
 |false=>
  simp only [Bool.false_eq_true,if_false] at nk;obtain ⟨rfl,rfl⟩:=nk;show (Code.seq _ _).wp P _ a5 w5;refine pY _ [.fz xs,.undef,.nil,.fz xs,.bool false,.undef,.undef,.undef] H5 (fun e s' H' =>e= .ret∧s'.getD 2 .undef=(if xs=[] then .e0 else .ref H5.bs.length H5.st 0 xs.length)∧H' =(if xs=[] then H5 else H5.new te.sz false xs)) _ w5 Au A5 a5 ?_ o5.st wv ?_
  ·by_cases dL:xs=[]
   ·subst dL;simp [cV,jH,iw,fB,aJ,cM,dn,wpOp,dG,aN,ev,bj,gG,cL,ht,hu,he,c6,eg,cK,bM,h0];refine ⟨_,_,⟨rfl,rfl⟩,_,_,⟨rfl,rfl⟩,_,_,⟨rfl,rfl⟩,?_⟩;simp
   ·have hlen: ¬xs.length=0:=by simpa using dL
    simp [cV,jH,iw,fB,aJ,cM,dn,wpOp,dG,aN,ev,bj,gG,cL,ht,hu,he,c6,eg,cK,h0,dL];refine ⟨_,_,⟨rfl,rfl⟩,_,_,⟨rfl,rfl⟩,_,_,⟨rfl,rfl⟩,?_⟩;simp [hz,dP,dL]
  ·rintro e6 s6 H6 CV A6 a6 w6 o6 Av ⟨rfl,Aw,rfl⟩;show (bodyPost P fn _) .ret a6 w6;exact fin _ _ _ _ _ _ _ (wu.trans ae (o5.trans p0 o6)) Av Aw fun u hu=>⟨_,hu,rfl,rfl⟩
def ww (ids:List (FuncId×Nat×Nat)):bw:=fun f ys H K=> ∃sz b xs,(f,sz,b)∈ids∧ys=[.fz xs]∧bM sz xs=true∧sz≠0∧roomy xs.length b=true∧K (if xs=[] then .e0 else .ref H.bs.length H.st 0 xs.length) (if xs=[] then H else H.new sz false xs)
structure wx (P:Program) (E:aK) (f:FuncId) (sz b:Nat):Prop where
 out: ∃fn t bt e ti te,P.funcs[f]? =some fn∧(fn.name== "runtime.NumGoroutine")=false∧fn.body=some (wl t bt)∧fn.results= #[.tmp 2]∧fn.ntmps=8∧E t=some ti∧ti.au= .sl e∧E e=some te∧te.sz=sz∧te.bytes=b
theorem Ax (hm:P.follows .mixedOrders=true) (hE: ∀t ti,E t=some ti→aR P t ti) {ids:List (FuncId×Nat×Nat)} (p6: ∀x∈ids,wx P E x.1 x.2.1 x.2.2):
 ∀f ys H K,ww ids f ys H K→ ∃v H',cq P f ys H (fun v1 H1=>v1=v∧H1=H')∧K v H' :=by
 rintro f ys H K ⟨sz,b,xs,h1,rfl,h2,h3,h4,h5⟩;obtain ⟨fn,t,bt,e,ti,te,k1,k2,k3,k4,k5,k6,k7,k8,rfl,rfl⟩:=(p6 _ h1).out;exact ⟨_,_,Ak hm hE k1 k2 k3 k4 k5 k6 k7 k8 xs H h2 h3 h4,h5⟩
end
end Go.VS
namespace Go.VS
structure fX (w:List AV) (n:Nat):Prop where
 len:w.length=n
 sl: ∀a∈w,bJ a
def Ay {α β :Type} (p: α →List β) (c: β →AV) (z:Nat) (w:List AV) (l:List α):List It:=List.zipWith (fun a x=>⟨a,z,(p x).map c⟩) w l
def CW {α :Type} (m:AV→ α →AV) (w:List AV) (l:List α):List AV:=List.zipWith m w l
def CX {α β :Type} (p: α →List β) (c: β →AV) (z:Nat) (w:List AV) (l:List α) (i:Nat):List It:=(Ay p c z w l).eraseIdx i
theorem CY {α :Type} (c: α →AV) (l:List α):Ac c l= .fz (l.map c):=rfl
def Az:List (List It)→List It→List It
 |[],F=>F
 |a::as,F=>a ++ Az as F
section
variable {H:J} {L F R:List It}
variable {α β :Type} {p: α →List β} {c: β →AV} {z:Nat} {w:List AV} {l:List α} {m:AV→ α →AV} {v:AV} {sz:Nat}
theorem fX.nil:fX [] 0:=⟨rfl,by simp⟩
theorem fX.get (h:fX w l.length) {i:Int} {b: α} (hi:idx l i=some b): ∃a,w[i.toNat]? =some a∧bJ a:=by
 obtain ⟨_,_,h1⟩:=lr hi;have:=(List.getElem?_eq_some_iff.1 h1).1;have hw:i.toNat<w.length:=by rw [h.len];exact this
 exact ⟨_,List.getElem?_eq_getElem hw,h.sl _ (List.getElem_mem hw)⟩
theorem fX.set (h:fX w l.length) {a:AV} (ha:bJ a) (i:Nat) (y: α):fX (w.set i a) (l.set i y).length:=by
 refine ⟨by simpa using h.len,fun x hx=> ?_⟩
 rcases List.mem_or_eq_of_mem_set hx with h1|rfl
 ·exact h.sl _ h1
 ·exact ha
theorem fX.app {w' :List AV} {l' :List α} (h:fX w l.length) (h' :fX w' l'.length):fX (w ++ w') (l ++ l').length:=by
 refine ⟨by simp [h.len,h'.len],fun x hx=> ?_⟩
 rcases List.mem_append.1 hx with h1|h1
 ·exact h.sl _ h1
 ·exact h'.sl _ h1
theorem CZ {C:aI} {q th:Bool} {s:aj} {K:AV→J→Prop} {t e:TypeId} {x:Operand} {ti:TI} (ht:C.E t=some ti) (hu:ti.au= .sl e) (hx:ev s x= .nil) (h:K (.int .i64 0) H):bf (aq C) C q th (.call {callee:= .builtin .cap,args:= #[x],argTypes:= #[t]}) s H K:=by
 unfold bf wpOp;have e1:((#[t]:Array TypeId)[0]?).bind C.E=C.E t:=rfl;simp only [eK,implies_true,true_and,List.map_cons,List.map_nil,hx,c6,e1,ht,hu];exact h
theorem C0 {E:aK} {K:AV→J→Prop} {t e:TypeId} {ti te:TI} {lo hi:Option Int} (ht:E t=some ti) (hu:ti.au= .sl e) (he:E e=some te) (h1:lo.getD 0=0) (h2:hi.getD 0=0) (h:K .nil H):gE E t .nil (some lo) (some hi) (some none) H K:=by
 simp only [gE,fZ,ht,hu,he];rw [if_pos ⟨h1,h2,rfl,by simp⟩]
 exact h
structure C1 (v:AV) (lo n:Nat) (v' :AV):Prop where
 out:(v= .nil∧v' = .nil)∨(v= .e0∧v' = .e0)∨ ∃id ad off len,v= .ref id ad off len∧v' = .ref id ad (off+lo) n
structure C2 (H:J) (v:AV) (n:Nat):Prop where
 out:((v= .nil∨v= .e0)∧n=0)∨ ∃id ad off len b,v= .ref id ad off len∧H.ap id ad=some b∧off+n≤b.el.length
structure C3 (v:AV) (n k:Nat) (v' :AV):Prop where
 out:((v= .nil∨v= .e0)∧v' =v)∨ ∃id ad off len,v= .ref id ad off len∧v' = .ref id ad (off+n) k
theorem C4 {γ δ :Type} {E:aK} {K:AV→J→Prop} {t u:TypeId} {te tu:TI} {k:IntKind} {n:Int} {z0:AV} {d: γ} {c: γ →AV} {f:List γ →Option δ} {r: δ} (hS:aD H L) (ht:cL E t=some te) (hu:E u=some tu) (hi:tu.au= .it k) (hz:iv te=some z0) (hd:c d=z0) (h0:(te.sz==0)=false) (hh:(j_ te.bytes n d).bind f=some r)
 (h: ∀v H' l,bJ v→j_ te.bytes n d=some l→f l=some r→aD H' (⟨v,te.sz,l.map c⟩::L)→K v H'):ea (c6 E .append #[t,u] [.nil,.int .i64 n] H) K:=by
 cases hm:j_ te.bytes n d with
 |none=>rw [hm] at hh;simp at hh
 |some l=>
  rw [hm] at hh;have lz:=hm
  unfold j_ at lz;split at lz
  ·rename_i hc;simp only [Option.some.injEq] at lz;subst lz;have aM:te.sz≠0:=by simpa using h0
   have e1:(#[t,u]:Array TypeId)[0]? =some t:=rfl;have e2:((#[t,u]:Array TypeId)[1]?).bind E=E u:=rfl;simp only [c6,e1,e2,ht,hu,hi,jE,hz];rw [if_pos ⟨hc.1,hc.2,aM⟩];by_cases hn:n=0
   ·rw [if_pos hn];subst hn;exact h .nil H _ pP hm hh (hS.z7 te.sz)
   ·rw [if_neg hn];refine h _ _ _ (ii ..) hm hh (hS.nb (by simp [hd]) (by simp) ?_)
    simp only [bM,List.map_replicate,List.all_replicate,hd,zM hz];simp
  ·simp at lz
end
theorem C5 {C:aI} {kp:List Nat} {s s' :aj} {H:J} {K:Ex→aj→J→Prop} (hk:eA kp s=s') (h:K .normal s' H):aJ (aq C) C (.fA [] (some kp)) s H K:=by
 subst hk;exact h
end Go.VS
