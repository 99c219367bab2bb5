import Derived.Test.YtclgbpneokeaeaaVaD
namespace Go.VS
def FZ (l:List (List Nat×List Sh)) (s:aj) (H:J) (P:aj→J→Prop):Prop:= ∃s' H',eg l s H=some (s',H')∧P s' H'
section
variable {C:aI} {s:aj} {H:J} {L:List It}
theorem tB (P:aj→J→Prop):FZ [] s H P=P s H:=by
 apply propext;constructor
 ·rintro ⟨s',H',h,hp⟩;simp only [eg,Option.some.injEq,Prod.mk.injEq] at h;obtain ⟨rfl,rfl⟩:=h;exact hp
 ·exact fun h=>⟨s,H,rfl,h⟩
theorem yE {t:Nat} {ts:List Nat} {e:Sh} {sh:List Sh} {l:List (List Nat×List Sh)} {P:aj→J→Prop} {y:AV} {H1:J} (ht:aY (e::sh) (s.getD t .undef) H=some (y,H1)) (h:FZ l (fO (s.getD t .undef) (bh y) ts (s.set t (bh y))) H1 P):FZ ((t::ts,e::sh)::l) s H P:=by
 obtain ⟨s',H',h1,h2⟩:=h;exact ⟨s',H',by simp only [eg,ht];exact h1,h2⟩
theorem tC {f:AV→J→Option (AV×J)}: ∀(xs:List AV) (H:J),(∀x∈xs,∀H,f x H=some (x,H))→cZ f xs H=some (xs,H)
 |[],H,_=>rfl
 |x::xs,H,h=>by
  simp only [cZ,h x (by simp) H,tC xs H (fun y hy=>h y (by simp [hy]))]
theorem tD {α :Type} {c: α →AV} (hz: ∀x,bh (c x)=c x): ∀(l:List α),bK (l.map c)=l.map c
 |[]=>rfl
 |x::l=>by simp only [List.map_cons,bK,hz x,tD hz l]
theorem aA.del (hS:aA H L) {id:Nat} (h: ∀(i:Nat) (it:It),L[i]? =some it→bW it.v≠some id):aA (H.del id) L:=
 ⟨fun i it hi=>(hS.ok i it hi).frame fun k ad hk=>by
  have aN: ¬id=k:=fun e=>h i it hi (by rw [hk,e])
  simp only [J.ap,J.del,List.getElem?_set,if_neg aN],hS.bY⟩
theorem yF (hS:aA H L) {j:Nat} {v:AV} {sz:Nat} {el:List AV} (hj:L[j]? =some ⟨v,sz,el⟩) (hp:bB v):eS v v=true:=by
 have af:=(hS.ok j _ hj).2;simp only at af;split at af
 ·rfl
 ·rfl
 ·simp [eS]
 ·rename_i id ad ix off;obtain ⟨rfl,rfl,_⟩:=af;exact absurd rfl (hp.ne id ad)
 ·exact af.elim
theorem aA.take {α :Type} (hS:aA H L) (j:Nat) {v:AV} {es:List Sh} {l:List α} {c: α →AV} (hj:L[j]? =some ⟨v,es.length,l.map c⟩) (hp:bB v) (hc: ∀x H,aY es (c x) H=some (c x,H)):
 ∃H',aY [.sl es] v H=some (.own es.length (l.map c),H')∧aA H' (L.eraseIdx j):=by
 have af:=hS.ok j _ hj;have hf:=hS.front j hj;obtain ⟨k0,af⟩:=af;have e1:aY [.sl es] v H=aR (.sl es) v H:=by
  have yG: ∀cs,v≠ .agg cs:=by rintro cs rfl;exact af
  cases v with
  |agg cs=>exact absurd rfl (yG cs)
  |_=>simp only [aY]
 rw [e1];simp only at af;split at af
 ·rename_i hv;exact ⟨H,by simp only [aR,af],hf.tl⟩
 ·exact ⟨H,by simp only [aR,af],hf.tl⟩
 ·rename_i id ad off len;obtain ⟨k1,b,hb,k2,k3,k4,k5⟩:=af;have hm:cZ (aY es) (l.map c) (H.del id)=some (l.map c,H.del id):=tC _ _ (by
   intro x hx H;obtain ⟨y,_,rfl⟩:=List.mem_map.1 hx;exact hc y H)
  refine ⟨H.del id,?_,hf.tl.del fun i it hi e=> ?_⟩
  ·simp only [aR,hb];rw [if_pos ⟨k2,k4,.inl k3⟩,k5,hm]
  ·have:=hf.bY 0 (i+1) _ it id rfl (by simpa using hi) rfl e
   omega
 ·rename_i id ad ix off;obtain ⟨rfl,rfl,_⟩:=af;exact absurd rfl (hp.ne id ad)
 ·exact af.elim
theorem As {α :Type} {t:Nat} {ts:List Nat} {es:List Sh} {l:List (List Nat×List Sh)} {P:aj→J→Prop} {v:AV} {m:List α} {c: α →AV} (j:Nat) (hS:aA H L) (hj:L[j]? =some ⟨v,es.length,m.map c⟩) (hp:bB v) (hv:s.getD t .undef=v) (hc: ∀x H,aY es (c x) H=some (c x,H)) (hz: ∀x,bh (c x)=c x)
 (h: ∀H',eS v v=true→aA H' (L.eraseIdx j)→FZ l (fO v (.fz (m.map c)) ts (s.set t (.fz (m.map c)))) H' P):FZ ((t::ts,[.sl es])::l) s H P:=by
 obtain ⟨H',h1,h2⟩:=hS.take j hj hp hc;rw [←hv] at h1;refine yE h1 ?_;simp only [bh,tD hz,hv];exact h H' (yF hS hj hp) h2
def TC (es:List Sh) (cs:List AV) (H:J) (K:List AV→J→Prop):Prop:= ∃ys H',cj es cs H=some (ys,H')∧K ys H'
theorem tE (xs:List AV):bh (.agg xs)= .agg (bK xs):=rfl
theorem tF (x:AV) (xs:List AV):bK (x::xs)=bh x::bK xs:=rfl
theorem tG:bK []=[]:=rfl
theorem tH (k:IntKind) (n:Int):bh (.int k n)= .int k n:=rfl
theorem tI (b:Bool):bh (.bool b)= .bool b:=rfl
theorem tJ (b:List UInt8):bh (.str b)= .str b:=rfl
theorem tK (b:List AV):bh (.fz b)= .fz b:=rfl
theorem tL (n:Nat) (b:List AV):bh (.own n b)= .fz (bK b):=rfl
theorem tM (xs:List AV):bh (.aC xs)= .aC (bK xs):=rfl
theorem tN (x:AV):cd [x]=x:=rfl
theorem tO (x y:AV) (l:List AV):cd (x::y::l)= .aC (x::y::l):=rfl
theorem tP:cd []= .aC []:=rfl
theorem tQ (x y:AV):fO x y [] s=s:=rfl
theorem tR (x y:AV) (t:Nat) (ts:List Nat):fO x y (t::ts) s=fO x y ts (if eS (s.getD t .undef) x then s.set t y else s):=rfl
theorem tS:eS .nil .nil=true:=rfl
theorem tT:eS .e0 .e0=true:=rfl
theorem tU (fz:List (Nat×List (List Nat×List Sh))) (K:aj→J→Prop) (i:Nat):fG C fz K [] i s H=K s H:=rfl
theorem aA.At (hS:aA H L) (n:Nat) (js:List Nat) (hj:(js.Nodup∧ ∀j∈js,j<n)):aA H (js.filterMap (L[·]?) ++ L.drop n):=by
 refine ⟨fun i it hi=> ?_,fun i j a b id hi yH ha hb=> ?_⟩
 ·rcases List.mem_append.1 (List.mem_of_getElem? hi) with h|h
  ·obtain ⟨k,_,hk⟩:=List.mem_filterMap.1 h;exact hS.ok k it hk
  ·obtain ⟨k,hk⟩:=List.mem_iff_getElem?.1 (List.mem_of_mem_drop h);exact hS.ok k it hk
 ·
  have key: ∀(js:List Nat),js.Nodup→(∀j∈js,j<n)→ ∀(i j:Nat) (a b:It),(js.filterMap (L[·]?) ++ L.drop n)[i]? =some a→(js.filterMap (L[·]?) ++ L.drop n)[j]? =some b→bW a.v=some id→bW b.v=some id→i=j:=by
   intro js;induction js with
   |nil=>
    intro _ _ i j a b hi hj ha hb;simp only [List.filterMap_nil,List.nil_append,List.getElem?_drop] at hi hj;have:=hS.bY _ _ a b id hi hj ha hb;omega
   |cons k ks ih=>
    intro pH aw i j a b hi hj ha hb;have tV:=(List.nodup_cons.1 pH)
    have k_:=ih tV.2 (fun j h=>aw j (by simp [h]))
    cases hk:L[k]? with
    |none=>
     simp only [List.filterMap_cons,hk] at hi hj;exact k_ i j a b hi hj ha hb
    |some c=>
     simp only [List.filterMap_cons,hk,List.cons_append] at hi hj;have other: ∀(m:Nat) (d:It),(ks.filterMap (L[·]?) ++ L.drop n)[m]? =some d→bW c.v=some id→bW d.v≠some id:=by
      intro m d hm hc hd;rcases List.mem_append.1 (List.mem_of_getElem? hm) with h|h
      ·obtain ⟨k',yI,bu⟩:=List.mem_filterMap.1 h;have:=hS.bY k k' c d id hk bu hc hd
       subst this;exact tV.1 yI
      ·obtain ⟨k',bu⟩:=List.mem_iff_getElem?.1 h;rw [List.getElem?_drop] at bu;have:=hS.bY k _ c d id hk bu hc hd
       have:=aw k (by simp)
       omega
     cases i with
     |zero=>
      simp at hi;subst hi;cases j with
      |zero=>rfl
      |succ j=>exact absurd hb (other j b (by simpa using hj) ha)
     |succ i=>
      cases j with
      |zero=>simp at hj;subst hj;exact absurd ha (other i a (by simpa using hi) hb)
      |succ j=>have:=k_ i j a b (by simpa using hi) (by simpa using hj) ha hb;omega
  exact key js hj.1 hj.2 i j a b hi yH ha hb
end
theorem Au {α :Type} {L F:List α} {n:Nat} {x: α} (hL:L.drop n=F) (h:x∈F):x∈L:=List.mem_of_mem_drop (hL.symm▸h)
abbrev u:=AV.undef
def yJ {α :Type} (c: α →AV) (l:List α):AV:= .fz (l.map c)
section
variable {C:aI} {s:aj} {H:J}
def fg (C:aI) (K:aj→J→Prop) (d:Option Tmp) (late:List (Op×Option Tmp)) (rest:List GO) (s:aj):AV→J→Prop:=fun v H=>dz C (bf s d v) H (dL C K rest (bf s d v) H) late
def gT (C:aI) (K:aj→J→Prop) (v:AV) (w:Bool) (d:Option Tmp) (op:Op) (late:List (Op×Option Tmp)) (th q:Bool) (rest:List GO) (s:aj) (H:J):Prop:=gf v w (a7 (au C) C q th op s H (fg C K d late rest s)) (fg C K d late rest s (.aC []) H)
theorem tW (K:aj→J→Prop) (d:Option Tmp) (rest:List GO) (v:AV):fg C K d [] rest s v H=dL C K rest (bf s d v) H:=rfl
theorem tX (K:aj→J→Prop) (d:Option Tmp) (l:Op×Option Tmp) (ls:List (Op×Option Tmp)) (rest:List GO) (v:AV):fg C K d (l::ls) rest s v H=dz C (bf s d v) H (dL C K rest (bf s d v) H) (l::ls):=rfl
theorem tY (K:aj→J→Prop) (d:Option Tmp) (op:Op) (late:List (Op×Option Tmp)) (q th:Bool) (rest:List GO):dL C K (⟨d,op,none,late,th,q⟩::rest) s H=a7 (au C) C q th op s H (fg C K d late rest s):=rfl
theorem tZ (K:aj→J→Prop) (d:Option Tmp) (op:Op) (t:Tmp) (w:Bool) (late:List (Op×Option Tmp)) (q th:Bool) (rest:List GO):dL C K (⟨d,op,some (some t,w),late,th,q⟩::rest) s H=gT C K (s.getD t .undef) w d op late th q rest s H:=rfl
variable (K:aj→J→Prop) (d:Option Tmp) (op:Op) (late:List (Op×Option Tmp)) (th q:Bool) (rest:List GO)
theorem t_:gT C K (.bool true) true d op late th q rest s H=a7 (au C) C q th op s H (fg C K d late rest s):=rq _ _
theorem ua:gT C K (.bool false) false d op late th q rest s H=a7 (au C) C q th op s H (fg C K d late rest s):=rr _ _
theorem ub:gT C K (.bool true) false d op late th q rest s H=fg C K d late rest s (.aC []) H:=ru _ _
theorem uc:gT C K (.bool false) true d op late th q rest s H=fg C K d late rest s (.aC []) H:=rv _ _
theorem ud (l:List AV) (w:Bool):gT C K (.aC l) w d op late th q rest s H=fg C K d late rest s (.aC []) H:=rfl
theorem Av {α :Type} {c w:Bool} {x y:Option α} {r: α} {K:aj→J→Prop} {d:Option Tmp} {op:Op} {late:List (Op×Option Tmp)} {th q:Bool} {rest:List GO} (h:(bif c then x else y)=some r) (ht:c=true→x=some r→gT C K (.bool true) w d op late th q rest s H) (hf:c=false→y=some r→gT C K (.bool false) w d op late th q rest s H):gT C K (.bool c) w d op late th q rest s H:=by
 cases c with
 |true=>exact ht rfl h
 |false=>exact hf rfl h
variable (fz:List (Nat×List (List Nat×List Sh))) (i:Nat)
def fH (C:aI) (fz:List (Nat×List (List Nat×List Sh))) (K:aj→J→Prop) (d:Option Tmp) (rest:List GO) (i:Nat) (s:aj):AV→J→Prop:=fun v H=>fG C fz K rest (i+1) (bf s d v) H
def jI (C:aI) (fz:List (Nat×List (List Nat×List Sh))) (K:aj→J→Prop) (v:AV) (w:Bool) (d:Option Tmp) (op:Op) (th q:Bool) (rest:List GO) (i:Nat) (s:aj) (H:J):Prop:=gf v w (a7 (au C) C q th op s H (fH C fz K d rest i s)) (fH C fz K d rest i s (.aC []) H)
def oV (C:aI) (fz:List (Nat×List (List Nat×List Sh))) (K:aj→J→Prop) (o:GO) (rest:List GO) (i:Nat):aj→J→Prop:=fun s H=>gJ o.g s (a7 (au C) C o.q o.th o.op s H (fH C fz K o.d rest i s)) (fH C fz K o.d rest i s (.aC []) H)
theorem uf (o:GO):fG C fz K (o::rest) i s H=FZ ((fz.lookup i).getD []) s H (oV C fz K o rest i):=rfl
theorem ug:oV C fz K ⟨d,op,none,late,th,q⟩ rest i s H=a7 (au C) C q th op s H (fH C fz K d rest i s):=rfl
theorem uh (t:Tmp) (w:Bool):oV C fz K ⟨d,op,some (some t,w),late,th,q⟩ rest i s H=jI C fz K (s.getD t .undef) w d op th q rest i s H:=rfl
theorem ui (v:AV):fH C fz K d rest i s v H=fG C fz K rest (i+1) (bf s d v) H:=rfl
theorem uj:jI C fz K (.bool true) true d op th q rest i s H=a7 (au C) C q th op s H (fH C fz K d rest i s):=rq _ _
theorem uk:jI C fz K (.bool false) false d op th q rest i s H=a7 (au C) C q th op s H (fH C fz K d rest i s):=rr _ _
theorem ul:jI C fz K (.bool true) false d op th q rest i s H=fH C fz K d rest i s (.aC []) H:=ru _ _
theorem um:jI C fz K (.bool false) true d op th q rest i s H=fH C fz K d rest i s (.aC []) H:=rv _ _
theorem uo (l:List AV) (w:Bool):jI C fz K (.aC l) w d op th q rest i s H=fH C fz K d rest i s (.aC []) H:=rfl
end
theorem uq {β :Type} (i:Nat) (l: β) (r:List (Nat× β)):((i,l)::r).lookup i=some l:=by simp [List.lookup]
theorem ur {β :Type} (i k:Nat) (l: β) (r:List (Nat× β)) (h:(i==k)=false):((k,l)::r).lookup i=r.lookup i:=by simp only [List.lookup,h]
theorem uu {β :Type} (i:Nat):([]:List (Nat× β)).lookup i=none:=rfl
theorem uw (all:List Oper) (q:Nat→Bool) (late:Nat→List Nat) (th:List Nat) (i:Nat):dA all q late th [] i=[]:=rfl
theorem ux (all:List Oper) (q:Nat→Bool) (late:Nat→List Nat) (th:List Nat) (o:Oper) (rest:List Oper) (i:Nat):dA all q late th (o::rest) i=⟨o.dst,o.op,o.guard.map fun p=>(lk all p.1,p.2),(late i).map (jF all),th.contains i,q i⟩::dA all q late th rest (i+1):=rfl
theorem uy (o:Oper) (os:List Oper):lk (o::os) 0=o.dst:=rfl
theorem uz (o:Oper) (os:List Oper) (n:Nat):lk (o::os) (n+1)=lk os n:=rfl
theorem uA (K:Ex→aj→J→Prop) (s:aj) (H:J):ic K s H=K .normal s H:=rfl
theorem uB (E:aK) (t:TypeId) (f:Nat):kL E t f=match E t with
 |some ti=>match ti.aq with
  | .st fs=>match fs[f]? with
   |some (o,ft)=>match E ft with
    |some tf=>some (o,tf)
    |none=>none
   |none=>none
  |_=>none
 |none=>none:=rfl
theorem uC (ti:TI) (hu:i_ ti.aq=true) (xs:List AV) (n:Nat) {H:J} {K:AV→J→Prop}:dM (some ti) (.fz xs) (some n) H K=K (.int .i64 n) H:=by cases h:ti.aq<;>rw [h] at hu<;>simp [i_] at hu;exact yq ti h xs n
theorem uD (ti:TI) (hu:i_ ti.aq=true) (n:Nat) {H:J} {K:AV→J→Prop}:dM (some ti) .nil (some n) H K=K (.int .i64 n) H:=by cases h:ti.aq<;>rw [h] at hu<;>simp [i_] at hu;exact yr ti h n
theorem uE (ti:TI) (hu:i_ ti.aq=true) (n:Nat) {H:J} {K:AV→J→Prop}:dM (some ti) .e0 (some n) H K=K (.int .i64 n) H:=by cases h:ti.aq<;>rw [h] at hu<;>simp [i_] at hu;exact yt ti h n
theorem uF (ti:TI) (hu:kM ti.aq=true) (l:List UInt8) (n:Nat) {H:J} {K:AV→J→Prop}:dM (some ti) (.str l) (some n) H K=K (.int .i64 n) H:=by cases h:ti.aq<;>rw [h] at hu<;>simp [kM] at hu;exact yu ti h l n
theorem uG (ta tb:TI) (n:Int) (H:J) (K:AV→J→Prop):oU (some ta) (some tb) n H K=match tb.aq with| .it k=>K (.int k (k.wrap n)) H|_=>False:=rfl
theorem uH (o:Nat) (tf:TI) (y:AV) (off:Nat) (h:(tf.sz==0)=false) {H:J} {K:AV→J→Prop}:ie (some (o,tf)) (.fe y off) H K=K (.fe y (off+o)) H:=ym o tf h y off
def oW (b:Option bD) (k:Prop):Prop:=match b with|some _=>k|none=>False
theorem uI (o:Nat) (tf:TI) (id ad idx off:Nat) (h:(tf.sz==0)=false) {H:J} {K:AV→J→Prop}:ie (some (o,tf)) (.ptr id ad idx off) H K=oW (H.ap id ad) (K (.ptr id ad idx (off+o)) H):=by
 rw [yn o tf h];rfl
theorem uJ (b:bD) (k:Prop):oW (some b) k=k:=rfl
theorem uK {C:aI} {q th:Bool} {s:aj} {H:J} {K:AV→J→Prop} (x:Operand):a7 (au C) C q th (.nilCheck x) s H K=(match ev s x with| .ptr a b c d=>oW (H.ap a b) (K (.ptr a b c d) H)| .fe x o=>K (.fe x o) H|_=>False):=by
 rw [cN _ rfl];simp only [aM];generalize ev s x=r;cases r<;>try rfl
 rename_i a b c d;simp only;cases H.ap a b<;>rfl
theorem uL (z:List AV) (b:Nat) (w:UD) (e:Bool) (cs:List AV) (off:Nat):bI ⟨1,false,z,b,w,e⟩ (.agg cs) off=cs[off]? :=by
 by_cases h:off<cs.length
 ·have e1:aF cs off 1=[cs[off]]:=by
   simp only [aF,List.drop_eq_getElem_cons h,List.take_succ_cons,List.take_zero]
  have e2:bI ⟨1,false,z,b,w,e⟩ (.agg cs) off=jd false (aF cs off 1):=if_pos (show off+1≤cs.length from h);rw [e2,e1,List.getElem?_eq_getElem h];rfl
 ·rw [List.getElem?_eq_none (by omega)]
  exact if_neg (show¬off+1≤cs.length from h)
theorem uM (z:List AV) (b:Nat) (w:UD) (e:Bool) (k:IntKind) (n:Int):bI ⟨1,false,z,b,w,e⟩ (.int k n) 0=some (.int k n):=rfl
theorem uN (z:List AV) (b:Nat) (w:UD) (e:Bool) (n:Bool):bI ⟨1,false,z,b,w,e⟩ (.bool n) 0=some (.bool n):=rfl
theorem uO (z:List AV) (b:Nat) (w:UD) (e:Bool) (n:List UInt8):bI ⟨1,false,z,b,w,e⟩ (.str n) 0=some (.str n):=rfl
theorem uP (z:List AV) (b:Nat) (w:UD) (e:Bool) (n:List AV):bI ⟨1,false,z,b,w,e⟩ (.fz n) 0=some (.fz n):=rfl
theorem uQ (z:List AV) (b:Nat) (w:UD) (e:Bool):bI ⟨1,false,z,b,w,e⟩ .nil 0=some .nil:=rfl
theorem uR (z:List AV) (b:Nat) (w:UD) (e:Bool):bI ⟨1,false,z,b,w,e⟩ .e0 0=some .e0:=rfl
theorem uS (z:List AV) (b:Nat) (w:UD) (e:Bool) (a c d f:Nat):bI ⟨1,false,z,b,w,e⟩ (.ref a c d f) 0=some (.ref a c d f):=rfl
theorem uT (n:Nat) (z:List AV) (b:Nat) (w:UD) (e:Bool) (cs:List AV) (off:Nat):bI ⟨n,true,z,b,w,e⟩ (.agg cs) off=if off+n≤cs.length then some (.agg ((cs.drop off).take n)) else none:=rfl
theorem uU (ti:TI) (r:Bool) (neg:Bool):kK (some ti) (some r) neg=if ti.agg then some (.bool (if neg then !r else r)) else none:=rfl
theorem uV (ti:TI) (x y:AV) (neg:Bool):gQ (some ti) x y neg=match isNil ti.aq x y with|some b=>some (.bool (if neg then !b else b))|none=>none:=rfl
theorem uW (E:aK) (d:Nat) (t:TypeId) (xs ys:List AV):di E (d+1) t xs ys=match E t with
 |none=>none
 |some ti=>match ti.aq with
  | .it _=>match xs,ys with
   |[.int k a],[.int j b]=>if k=j then some (a==b) else none
   |_,_=>none
  | .bl=>match xs,ys with
   |[.bool a],[.bool b]=>some (a==b)
   |_,_=>none
  | .str=>match xs,ys with
   |[.str a],[.str b]=>some (a==b)
   |_,_=>none
  | .st fs=>if ti.jK then gh E (di E d) fs xs ys else none
  |_=>none:=rfl
theorem uX (E:aK) (f:TypeId→List AV→List AV→Option Bool) (xs ys:List AV):gh E f [] xs ys=some true:=rfl
theorem uY (E:aK) (f:TypeId→List AV→List AV→Option Bool) (o:Nat) (ft:TypeId) (fs:List (Nat×TypeId)) (xs ys:List AV):gh E f ((o,ft)::fs) xs ys=match E ft with
 |none=>none
 |some tf=>
  if o+tf.sz≤xs.length∧o+tf.sz≤ys.length then
   match f ft (aF xs o tf.sz) (aF ys o tf.sz) with
   |some b=>match gh E f fs xs ys with
    |some r=>some (b&&r)
    |none=>none
   |none=>none
  else none:=rfl
theorem uZ (cs:List AV) (off n:Nat):aF cs off n=(cs.drop off).take n:=rfl
def mw (E:aK) (t:TypeId) (ps:List (Nat×AV)) (H:J) (K:AV→J→Prop):Prop:=match E t with
 |some ti=>match ti.aq with
  | .st fs=>if !(fs.all fun f=>(E f.2).isSome)|| !(ti.zero.all cw) then False else cv ((fh (fun i=>match fs[i]? with|some (o,ft)=>(E ft).map fun tf=>(o,tf.sz)|none=>none) ti.zero ps).map .agg) H K
  | .ar n e=>match E e with
   |some te=>if !(ti.zero.all cw) then False else cv ((fh (fun i=>if i<n then some (i*te.sz,te.sz) else none) ti.zero ps).map .agg) H K
   |none=>False
  |_=>False
 |none=>False
theorem u0 {C:aI} {q th:Bool} {s:aj} {H:J} {K:AV→J→Prop} (t:TypeId) (ps:Array (Nat×Operand)):a7 (au C) C q th (.build t ps) s H K=mw C.E t (ps.toList.map fun p=>(p.1,ev s p.2)) H K:=by
 rw [cN _ rfl];simp only [aM,mw];cases C.E t with
 |none=>rfl
 |some ti=>
  simp only;cases ti.aq<;>try rfl
  ·rename_i fs;simp only;split
   ·rfl
   ·generalize Option.map AV.agg _=r;cases r<;>rfl
  ·rename_i n e;simp only;cases C.E e with
   |none=>rfl
   |some te=>
    simp only;split
    ·rfl
    ·generalize Option.map AV.agg _=r;cases r<;>rfl
theorem Aw {E:aK} {t:TypeId} {ps:List (Nat×AV)} {H:J} {K:AV→J→Prop} {ti:TI} {fs:List (Nat×TypeId)} {cs:List AV} (ht:E t=some ti) (hu:ti.aq= .st fs) (h1:(fs.all fun f=>(E f.2).isSome)=true) (h2:ti.zero.all cw=true)
 (hf:fh (fun i=>match fs[i]? with|some (o,ft)=>(E ft).map fun tf=>(o,tf.sz)|none=>none) ti.zero ps=some cs) (h:K (.agg cs) H):mw E t ps H K:=by
 simp only [mw,ht,hu,h1,h2,Bool.not_true,Bool.or_self,Bool.false_eq_true,if_false,hf];exact h
theorem u1 {C:aI} {q th:Bool} {s:aj} {H:J} {K:AV→J→Prop} (f:FuncId) (cap:Array Operand):a7 (au C) C q th (.makeFunc (.func f) #[] cap) s H K=K (.fn f (cap.toList.map (ev s))) H:=by
 rw [cN _ rfl];simp only [aM];rfl
theorem W:type_of% (And.intro @uq<|And.intro @tE<|And.intro @tF<|And.intro @tG<|And.intro @tH<|And.intro @tI<|And.intro @tJ<|And.intro @tK<|And.intro @tL<|And.intro @tM<|And.intro @tN<|And.intro @tO<|And.intro @tP<|And.intro @Bool.or_false<|And.intro @ur<|And.intro @uu<|And.intro @rn<|And.intro @tY<|And.intro @tZ<|And.intro @tW<|And.intro @tX<|And.intro @t_<|And.intro @ua<|And.intro @ub<|And.intro @uc<|And.intro @ud<|And.intro @uf<|And.intro @ug<|And.intro @uh<|And.intro @ui<|And.intro @uj<|And.intro @uk<|And.intro @ul<|And.intro @um<|And.intro @uo<|
 And.intro @ry<|And.intro @rz<|And.intro @rA<|And.intro @rB<|And.intro @rC<|And.intro @rD<|And.intro @rE<|And.intro @rF<|And.intro @rG<|And.intro @rH<|And.intro @rI<|And.intro @rJ<|And.intro @rK<|
 And.intro @rL<|And.intro @rM<|And.intro @rN<|And.intro @rO<|And.intro @rP<|And.intro @rQ<|And.intro @rR<|And.intro @rS<|And.intro @rT<|And.intro @rU<|And.intro @rV<|And.intro @rW<|
 And.intro @tc<|And.intro @tg<|And.intro @tj<|And.intro @rX<|And.intro @rY<|And.intro @rZ<|And.intro @r6<|And.intro @r7<|And.intro @r8<|And.intro @r9<|And.intro @r_<|And.intro @sa<|And.intro @sb<|
 And.intro @sd<|And.intro @se<|And.intro @sf<|And.intro @sg<|And.intro @si<|And.intro @sj<|And.intro @sk<|And.intro @sm<|And.intro @sn<|And.intro @so<|And.intro @sq<|And.intro @ss<|And.intro @su<|
 And.intro @sw<|And.intro @sx<|And.intro @sy<|And.intro @sA<|And.intro @sB<|And.intro @o_load<|And.intro @sC<|And.intro @sD<|And.intro @sE<|And.intro @sF<|And.intro @sG<|And.intro @sH<|And.intro @sI<|
 And.intro @sJ<|And.intro @sK<|And.intro @sL<|And.intro @sM<|And.intro @min2<|And.intro @max2<|And.intro @sQ<|And.intro @sV<|And.intro @sW<|And.intro @sY<|And.intro @sZ<|And.intro @s4<|
 And.intro @s6<|And.intro @s7<|And.intro @s8<|And.intro @tn<|And.intro @tp<|And.intro @tq<|And.intro @tv<|And.intro @tw<|And.intro @tB<|And.intro @tQ<|And.intro @tR<|And.intro @tS<|And.intro @tT<|
 And.intro @tU<|And.intro @uw<|And.intro @ux<|And.intro @uy<|And.intro @uz<|And.intro @uA<|And.intro @uB<|And.intro @uC<|And.intro @uD<|And.intro @uE<|And.intro @uF<|And.intro @uG<|
 And.intro @uH<|And.intro @uI<|And.intro @uJ<|And.intro @uK<|And.intro @uL<|And.intro @uM<|And.intro @uN<|And.intro @uO<|And.intro @uP<|And.intro @uQ<|And.intro @uR<|And.intro @uS<|And.intro @uT<|And.intro @uU<|And.intro @uV<|
 And.intro @uW<|And.intro @uX<|And.intro @uY<|And.intro @uZ<|And.intro @u0<|And.intro @u1<|And.intro @sR<|And.intro @sT<|And.intro @sU<|
 And.intro @List.set_cons_succ.{0}<|And.intro @List.set_cons_zero.{0}<|And.intro @List.getD_cons_succ.{0}<|And.intro @List.getD_cons_zero.{0}<|And.intro @Option.map_some.{0,0}<|And.intro @Option.map_none.{0,0}<|And.intro @List.map_nil.{0,0}<|And.intro @List.map_cons.{0,0}<|And.intro @List.contains_nil.{0}<|
 And.intro @List.getElem?_cons_succ.{0}<|And.intro @List.getElem?_cons_zero.{0}<|And.intro @List.length_map.{0,0}<|And.intro @List.drop_succ_cons.{0}<|And.intro @List.drop_zero.{0}<|And.intro @List.take_succ_cons.{0}<|And.intro @List.take_zero.{0}<|And.intro @List.length_cons.{0}<|And.intro @List.length_nil.{0}<|
 And.intro @if_true.{0}<|And.intro @if_false.{0}<|And.intro @Bool.not_true<|And.intro @Bool.not_false<|And.intro @Option.getD_none.{0}<|And.intro @Option.getD_some.{0}<|And.intro @List.cons_append.{0}<|And.intro @List.nil_append.{0}<|And.intro @and_self<|And.intro @and_true @true_and):=
 And.intro @uq<|And.intro @tE<|And.intro @tF<|And.intro @tG<|And.intro @tH<|And.intro @tI<|And.intro @tJ<|And.intro @tK<|And.intro @tL<|And.intro @tM<|And.intro @tN<|And.intro @tO<|And.intro @tP<|And.intro @Bool.or_false<|And.intro @ur<|And.intro @uu<|And.intro @rn<|And.intro @tY<|And.intro @tZ<|And.intro @tW<|And.intro @tX<|And.intro @t_<|And.intro @ua<|And.intro @ub<|And.intro @uc<|And.intro @ud<|And.intro @uf<|And.intro @ug<|And.intro @uh<|And.intro @ui<|And.intro @uj<|And.intro @uk<|And.intro @ul<|And.intro @um<|And.intro @uo<|
 And.intro @ry<|And.intro @rz<|And.intro @rA<|And.intro @rB<|And.intro @rC<|And.intro @rD<|And.intro @rE<|And.intro @rF<|And.intro @rG<|And.intro @rH<|And.intro @rI<|And.intro @rJ<|And.intro @rK<|
 And.intro @rL<|And.intro @rM<|And.intro @rN<|And.intro @rO<|And.intro @rP<|And.intro @rQ<|And.intro @rR<|And.intro @rS<|And.intro @rT<|And.intro @rU<|And.intro @rV<|And.intro @rW<|
 And.intro @tc<|And.intro @tg<|And.intro @tj<|And.intro @rX<|And.intro @rY<|And.intro @rZ<|And.intro @r6<|And.intro @r7<|And.intro @r8<|And.intro @r9<|And.intro @r_<|And.intro @sa<|And.intro @sb<|
 And.intro @sd<|And.intro @se<|And.intro @sf<|And.intro @sg<|And.intro @si<|And.intro @sj<|And.intro @sk<|And.intro @sm<|And.intro @sn<|And.intro @so<|And.intro @sq<|And.intro @ss<|And.intro @su<|
 And.intro @sw<|And.intro @sx<|And.intro @sy<|And.intro @sA<|And.intro @sB<|And.intro @o_load<|And.intro @sC<|And.intro @sD<|And.intro @sE<|And.intro @sF<|And.intro @sG<|And.intro @sH<|And.intro @sI<|
 And.intro @sJ<|And.intro @sK<|And.intro @sL<|And.intro @sM<|And.intro @min2<|And.intro @max2<|And.intro @sQ<|And.intro @sV<|And.intro @sW<|And.intro @sY<|And.intro @sZ<|And.intro @s4<|
 And.intro @s6<|And.intro @s7<|And.intro @s8<|And.intro @tn<|And.intro @tp<|And.intro @tq<|And.intro @tv<|And.intro @tw<|And.intro @tB<|And.intro @tQ<|And.intro @tR<|And.intro @tS<|And.intro @tT<|
 And.intro @tU<|And.intro @uw<|And.intro @ux<|And.intro @uy<|And.intro @uz<|And.intro @uA<|And.intro @uB<|And.intro @uC<|And.intro @uD<|And.intro @uE<|And.intro @uF<|And.intro @uG<|
 And.intro @uH<|And.intro @uI<|And.intro @uJ<|And.intro @uK<|And.intro @uL<|And.intro @uM<|And.intro @uN<|And.intro @uO<|And.intro @uP<|And.intro @uQ<|And.intro @uR<|And.intro @uS<|And.intro @uT<|And.intro @uU<|And.intro @uV<|
 And.intro @uW<|And.intro @uX<|And.intro @uY<|And.intro @uZ<|And.intro @u0<|And.intro @u1<|And.intro @sR<|And.intro @sT<|And.intro @sU<|
 And.intro @List.set_cons_succ.{0}<|And.intro @List.set_cons_zero.{0}<|And.intro @List.getD_cons_succ.{0}<|And.intro @List.getD_cons_zero.{0}<|And.intro @Option.map_some.{0,0}<|And.intro @Option.map_none.{0,0}<|And.intro @List.map_nil.{0,0}<|And.intro @List.map_cons.{0,0}<|And.intro @List.contains_nil.{0}<|
 And.intro @List.getElem?_cons_succ.{0}<|And.intro @List.getElem?_cons_zero.{0}<|And.intro @List.length_map.{0,0}<|And.intro @List.drop_succ_cons.{0}<|And.intro @List.drop_zero.{0}<|And.intro @List.take_succ_cons.{0}<|And.intro @List.take_zero.{0}<|And.intro @List.length_cons.{0}<|And.intro @List.length_nil.{0}<|
 And.intro @if_true.{0}<|And.intro @if_false.{0}<|And.intro @Bool.not_true<|And.intro @Bool.not_false<|And.intro @Option.getD_none.{0}<|And.intro @Option.getD_some.{0}<|And.intro @List.cons_append.{0}<|And.intro @List.nil_append.{0}<|And.intro @and_self<|And.intro @and_true @true_and
end Go.VS
namespace Go.VS
def ig:List (Nat×List Nat)→Nat→List Nat
 |[],_=>[]
 |(a,l)::t,i=>if i=a then l else ig t i
def kS:List Nat→Nat→Bool
 |[],_=>true
 |a::t,i=>if i=a then false else kS t i
theorem u2: ∀(ls:List Nat) (i:Nat),(!ls.contains i)=kS ls i
 |[],_=>rfl
 |a::t,i=>by
  have:=u2 t i;unfold kS;by_cases h:i=a
  ·simp [h]
  ·rw [if_neg h,←this];simp [h]
theorem yK {f:Nat→List Nat}: ∀(gU:List (Nat×List Nat)) (_:gU.all (fun p=>f p.1==p.2)=true) (_: ∀i,i∉gU.map (·.1)→f i=[]) (i:Nat),f i=ig gU i
 |[],_,h,i=>h i (by simp)
 |(a,l)::t,h1,h2,i=>by
  simp only [List.all_cons,Bool.and_eq_true,beq_iff_eq] at h1;unfold ig;by_cases h:i=a
  ·rw [if_pos h,h];exact h1.1
  ·rw [if_neg h];by_cases hm:i∈t.map (·.1)
   ·clear h2;have go: ∀(t:List (Nat×List Nat)),t.all (fun p=>f p.1==p.2)=true→i∈t.map (·.1)→f i=ig t i:=by
     intro t;induction t with
     |nil=>intro _ hm;simp at hm
     |cons p t ih=>
      intro h1 hm;simp only [List.all_cons,Bool.and_eq_true,beq_iff_eq] at h1;obtain ⟨a,l⟩:=p;unfold ig;by_cases h:i=a
      ·rw [if_pos h,h];exact h1.1
      ·rw [if_neg h];exact ih h1.2 (by simpa [h] using hm)
    exact go t h1.2 hm
   ·have e:f i=[]:=h2 i (by simp only [List.map_cons,List.mem_cons,not_or];exact ⟨h,hm⟩)
    rw [e];clear h1 h2;induction t with
    |nil=>rfl
    |cons p t ih=>
     obtain ⟨b,m⟩:=p;simp only [List.map_cons,List.mem_cons,not_or] at hm;unfold ig;rw [if_neg hm.1];exact ih hm.2
section
variable {C:aI} {s:aj} {H:J} {K:Ex→aj→J→Prop}
theorem Ax (gC:Good C) {id:Nat} {ops:List Oper} {ls th:List Nat} {fz:List (Nat×List (List Nat×List Sh))} (gU:List (Nat×List Nat)) (hd:gY ops.toArray ls=true) (h1:gU.map (·.1)=ls) (h2:gU.all (fun p=>fk ops.toArray ls p.1==p.2)=true)
 (h:dL C (ic K) (dA ops (kS ls) (ig gU) th ops 0) s H):aL (au C) C (.region id ops.toArray true ls th fz) s H K:=by
 refine rl gC hd ?_;have e1:(fun i=> !ls.contains i)=kS ls:=funext (u2 ls);have e2:fk ops.toArray ls=ig gU:=funext (yK gU h2 (fun i hi=>by
  unfold fk;rw [h1] at hi;rw [if_neg (by simpa using hi)]))
 rw [e1,e2];exact h
end
theorem Ay {C:aI} {K:aj→J→Prop} {d:Option Tmp} {l:List (Op×Option Tmp)} {rest:List GO} {s:aj} {v:AV} {H:J} (h:dz C (bf s d v) H (fg C K d [] rest s v H) l):fg C K d l rest s v H:=h
theorem Az {C:aI} {s:aj} {H:J} {P:Prop} {op:Op} {t:Tmp} {js:List (Op×Option Tmp)} (h1:aM C.E op s H=some (s.getD t .undef,H)) (h:dz C s H P js):dz C s H P ((op,some t)::js):=⟨⟨t,rfl,h1⟩,h⟩
theorem AA {C:aI} {s:aj} {H:J} {P:Prop} (h:P):dz C s H P []:=h
theorem u3 {x:Int} (h: -9223372036854775808≤x∧x≤9223372036854775807):IntKind.i64.wrap x=x:=IntWalk.i64_in x (by omega)
end Go.VS
namespace Go.VS
section
variable {C:aI} {H:J} {L:List It}
theorem yL {f:AV→Option AV} {c y:AV} {cs ys:List AV} (h1:f c=some y) (h2:cs.mapM f=some ys):(c::cs).mapM f=some (y::ys):=by
 simp [List.mapM_cons,h1,h2]
theorem u4 {f:AV→Option AV}: ∀(cs:List AV),(∀c∈cs,f c=some c)→cs.mapM f=some cs
 |[],_=>rfl
 |c::cs,h=>yL (h c (by simp)) (u4 cs fun d hd=>h d (by simp [hd]))
theorem AB {α :Type} {n:Nat} (hS:aA H L) (j:Nat) {v:AV} {sz:Nat} {l:List α} {c: α →AV} (hj:L[j]? =some ⟨v,sz,l.map c⟩) (hp:bB v) (hc: ∀x,aV n H (c x)=some (c x)):aV (n+1) H v=some (.fz (l.map c)):=by
 obtain ⟨k0,af⟩:=hS.ok j _ hj;simp only at af;rcases hp.ok with rfl|rfl|⟨id,ad,off,len,rfl⟩
 ·simp only at af;simp only [aV,af]
 ·simp only at af;simp only [aV,af]
 ·simp only at af;obtain ⟨k1,b,hb,k2,k3,k4,k5⟩:=af;simp only [aV,hb];rw [if_pos k4,k5,u4 (l.map c) (by
   intro d hd;obtain ⟨x,_,rfl⟩:=List.mem_map.1 hd;exact hc x),Option.map_some]
theorem AD:b4 [] [] H=some ([],false):=rfl
theorem AE {v y:AV} {vs ys:List AV} {b:Bool} (h1:aV 8 H v=some y) (h2:b4 [] vs H=some (ys,b)):b4 [] (v::vs) H=some (y::ys,ey v||b):=by
 simp only [b4,h1,h2]
def TV (b7:List (List Sh)) (rs:List AV) (H:J) (K:List AV→Prop):Prop:= ∃zs H',cQ b7 rs H=some (zs,H')∧K zs
theorem AF {b7:List (List Sh)} {K:List AV→Prop} (h:K []):TV b7 [] H K:=⟨[],H,rfl,h⟩
theorem u5 {e:List Sh} {b7:List (List Sh)} {v y:AV} {rs:List AV} {H1:J} {K:List AV→Prop} (ht:aY e v H=some (y,H1)) (h:TV b7 rs H1 fun zs=>K (y::zs)):TV (e::b7) (v::rs) H K:=by
 obtain ⟨zs,H',h1,h2⟩:=h;exact ⟨y::zs,H',by simp only [cQ,List.headD_cons,List.tail_cons,ht,h1],h2⟩
theorem yM {v:AV} (hp:de v=true) (H:J):aY [.sc] v H=some (v,H):=by
 cases v<;>simp [de] at hp<;>simp [aY,aR,de]
theorem AG {b7:List (List Sh)} {v:AV} {rs:List AV} {K:List AV→Prop} (hp:de v=true) (h:TV b7 rs H fun zs=>K (v::zs)):TV ([.sc]::b7) (v::rs) H K:=
 u5 (yM hp H) h
theorem AI {α :Type} {b7:List (List Sh)} {es:List Sh} {v:AV} {rs:List AV} {K:List AV→Prop} {m:List α} {c: α →AV} (j:Nat) (hS:aA H L) (hj:L[j]? =some ⟨v,es.length,m.map c⟩) (hp:bB v) (hc: ∀x H,aY es (c x) H=some (c x,H))
 (h: ∀H',aA H' (L.eraseIdx j)→TV b7 rs H' fun zs=>K (.own es.length (m.map c)::zs)):TV ([.sl es]::b7) (v::rs) H K:=by
 obtain ⟨H',h1,h2⟩:=hS.take j hj hp hc;exact u5 h1 (h H' h2)
theorem AJ {b7:List (List Sh)} {rs:List AV} {y v:AV} (hv:v=cd rs) (h:TV b7 rs H fun zs=>y=cd zs): ∃rs zs L2,v=cd rs∧cQ b7 rs H=some (zs,L2)∧y=cd zs:=by
 obtain ⟨zs,H',h1,h2⟩:=h;exact ⟨rs,zs,H',hv,h1,h2⟩
def TH (ys:List AV) (H:J) (K:List AV→J→Prop):Prop:=K (aE ys H).1 (aE ys H).2
theorem AK {K:List AV→J→Prop} (h:K [] H):TH [] H K:=h
theorem AM {y:AV} {ys:List AV} {K:List AV→J→Prop} (hp: ∀H,aD y H=(y,H)) (h:TH ys H fun zs H' =>K (y::zs) H'):TH (y::ys) H K:=by
 unfold TH at h⊢;simp only [aE,hp H];exact h
theorem u6 {α :Type} {c: α →AV} (hc: ∀x H,aD (c x) H=(c x,H)): ∀(l:List α) (H:J),aE (l.map c) H=(l.map c,H)
 |[],_=>rfl
 |x::l,H=>by simp only [List.map_cons,aE,hc x H,u6 hc l H]
theorem AN {α :Type} {sz:Nat} {m:List α} {c: α →AV} {ys:List AV} {K:List AV→J→Prop} (hS:aA H L) (hc: ∀x H,aD (c x) H=(c x,H)) (hz: ∀x,(c x).cells.length=sz)
 (h: ∀v H',bB v→aA H' (⟨v,sz,m.map c⟩::L)→TH ys H' fun zs hO=>K (v::zs) hO):TH (.own sz (m.map c)::ys) H K:=by
 have hs:bN sz (m.map c)=true:=by simp [bN,hz]
 have:=h _ _ (gR H.bs.length H.st 0 (m.map c).length) (hS.oM (all:=m.map c) (List.take_of_length_le (Nat.le_refl _)) rfl hs);unfold TH at this⊢;simp only [aE,aD,u6 hc m H];exact this
theorem AO {y:AV} {K:AV→J→Prop} (h:TH [y] H fun zs H' =>K (zs.headD .undef) H'):K (aD y H).1 (aD y H).2:=by
 unfold TH at h;simp only [aE] at h;exact h
theorem AP {ys:List AV} {K:AV→J→Prop} (h:TH ys H fun zs H' =>K (.aC zs) H'):K (aD (.aC ys) H).1 (aD (.aC ys) H).2:=by
 unfold TH at h;simp only [aD];exact h
variable {q th:Bool} {K:AV→J→Prop}
theorem AQ {α β :Type} {g:FuncId} {bJ args ys:List AV} {bL:Bool} {o:Option α} {f: α →Option β} {r: β} {b7:List (List Sh)} (h:o.bind f=some r) (hr:(C.fM g).b7=b7) (hp:b4 [] (args ++ bJ) H=some (ys,bL))
 (hk: ∀x,o=some x→f x=some r→ ∃y,au C g ys ⟨0,[]⟩ (fun v L=> ∃rs zs L2,v=cd rs∧cQ b7 rs L=some (zs,L2)∧y=cd zs)∧(cc y=true∧bh y=y∧ ∀H,aD y H=(y,H))∧K y H):kO C q th (.fn g bJ) args H K:=by
 refine tA h hr hp fun x hx hf=> ?_;obtain ⟨y,h1,⟨h2,h3,h4⟩,h5⟩:=hk x hx hf;refine ⟨y,h1,.inr h2,?_⟩;rw [h3,h4 H];split<;>exact h5
theorem AR {α β :Type} {g:FuncId} {bJ args ys:List AV} {bL:Bool} {o:Option α} {f: α →Option β} {r: β} {b7:List (List Sh)} (h:o.bind f=some r) (hr:(C.fM g).b7=b7) (hp:b4 [] (args ++ bJ) H=some (ys,bL))
 (hk: ∀x,o=some x→f x=some r→ ∃y,au C g ys ⟨0,[]⟩ (fun v L=> ∃rs zs L2,v=cd rs∧cQ b7 rs L=some (zs,L2)∧y=cd zs)∧cc y=true∧K (aD y H).1 (aD y H).2):kO C q true (.fn g bJ) args H K:=by
 refine tA h hr hp fun x hx hf=> ?_;obtain ⟨y,h1,h2,h5⟩:=hk x hx hf;refine ⟨y,h1,.inr h2,?_⟩;simpa using h5
theorem u7 {α :Type} {c: α →AV} (hc: ∀x,cc (c x)=true): ∀(l:List α),dO (l.map c)=true
 |[]=>rfl
 |x::l=>by simp only [List.map_cons,dO,hc x,u7 hc l,Bool.and_self]
theorem AS {α :Type} {c: α →AV} (sz:Nat) (hc: ∀x,cc (c x)=true) (l:List α):cc (.own sz (l.map c))=true:=by
 simp only [cc];exact u7 hc l
theorem AT:dO []=true:=rfl
theorem AU {y:AV} {ys:List AV} (h1:cc y=true) (h2:dO ys=true):dO (y::ys)=true:=by simp only [dO,h1,h2,Bool.and_self]
theorem AW {ys:List AV} (h:dO ys=true):cc (.aC ys)=true:=by simp only [cc];exact h
end
end Go.VS
namespace Go.VS
def yN (t b:TypeId):Code:=
 (Go.Code.seq
  (Go.Code.region 0 #[{dst:=some 2,op:=Go.Op.assign (Go.Operand.const (Go.Value.slice none 0 0)),type:=t,pos:= "slices.go:355",after:= #[],guard:=none}] false)
  (Go.Code.seq
   (Go.Code.seq
    (Go.Code.region 1
     #[{dst:=some 3,op:=Go.Op.move (Go.Operand.tmp 0),type:=t,pos:= "slices.go:357",after:= #[],guard:=none},
      {dst:=some 4,op:=Go.Op.binOp Go.BinOp.eql t (Go.Operand.tmp 3) (Go.Operand.const (Go.Value.slice none 0 0)) t,type:=b,pos:= "slices.go:357",after:= #[{on:=0,ground:=Go.Ground.data}],guard:=none}]
     false)
    (Go.Code.cond (Go.Operand.tmp 4)
     (Go.Code.seq
      (Go.Code.region 2 #[{dst:=some 2,op:=Go.Op.assign (Go.Operand.const (Go.Value.slice none 0 0)),type:=t,pos:= "slices.go:358",after:= #[],guard:=none}] false)
      Go.Code.ret)
     Go.Code.skip))
   (Go.Code.seq
    (Go.Code.region 3
     #[{dst:=some 5,op:=Go.Op.buildSlice t 0 #[],type:=t,pos:= "slices.go:362",after:= #[],guard:=none},
      {dst:=some 6,op:=Go.Op.move (Go.Operand.tmp 0),type:=t,pos:= "slices.go:362",after:= #[],guard:=none},
      {dst:=some 7,op:=Go.Op.call {callee:=Go.Callee.builtin Go.Builtin.append,args:= #[Go.Operand.tmp 5,Go.Operand.tmp 6],argTypes:= #[t,t]},type:=t,pos:= "slices.go:362",after:= #[{on:=0,ground:=Go.Ground.data},{on:=1,ground:=Go.Ground.data}],guard:=none},
      {dst:=some 2,op:=Go.Op.assign (Go.Operand.tmp 7),type:=t,pos:= "slices.go:362",after:= #[{on:=2,ground:=Go.Ground.data},{on:=2,ground:=Go.Ground.chain},{on:=0,ground:=Go.Ground.phase},{on:=1,ground:=Go.Ground.phase},{on:=2,ground:=Go.Ground.phase}],guard:=none}]
     false)
    Go.Code.ret)))
def yO:bw:=fun _ _ _ _=>False
def AX (E:aK):aI:=⟨E,fun _=>{},fun _=>none,yO⟩
section
variable {P:Program} {E:aK}
def AY (ids:List (FuncId×Nat×Nat)):bw:=fun f ys H K=> ∃sz b xs,(f,sz,b)∈ids∧ys=[.fz xs]∧bN sz xs=true∧sz≠0∧roomy xs.length b=true∧K (if xs=[] then .e0 else .ref H.bs.length H.st 0 xs.length) (if xs=[] then H else H.new sz false xs)
structure AZ (P:Program) (E:aK) (f:FuncId) (sz b:Nat):Prop where
 out: ∃fn t bt e ti te,P.funcs[f]? =some fn∧(fn.name== "runtime.NumGoroutine")=false∧fn.body=some (yN t bt)∧fn.results= #[.tmp 2]∧fn.ntmps=8∧E t=some ti∧ti.aq= .sl e∧E e=some te∧te.sz=sz∧te.bytes=b
end
theorem A3 {E:aK} {s:aj} {H:J} {L:List It} {α β :Type} {t:TypeId} {x i:Operand} {ti te:TI} {e:TypeId} (j:Nat) (hS:aA H L) {v w:AV} {l:List α} {c: α →AV} {sz:Nat} (hj:L[j]? =some ⟨v,sz,l.map c⟩)
 (ht:E t=some ti) (hu:ti.aq= .sl e) (he:E e=some te) (aG:sz=te.sz) {k:IntKind} {n:Int} {l0:List β} {y: β} {id ad off:Nat} (hv:v= .ref id ad off l0.length) (hb:idx l0 n=some y)
 (hx:ev s x=v) (hi:ev s i= .int k n) (hw:w= .ptr id ad (off+n.toNat) 0) {op:Op} (bg:op= .indexAddr t x i):aM E op s H=some (w,H):=by
 subst bg;obtain ⟨h0,h2,h1⟩:=jH hb;subst hv;obtain ⟨_,h3,b,hb,h4,_,h5,h6⟩:=hS.ok j _ hj;simp only at h3 h4 h5;simp only [aM,ht,hi,hu,he,hx,hb];rw [if_pos ⟨by rw [h4,aG],h0,h2,h5⟩,hw]
theorem A4 {E:aK} {s:aj} {H:J} {L:List It} {α :Type} {t:TypeId} {x:Operand} {ti:TI} (j:Nat) (hS:aA H L) {v w:AV} {l:List α} {c: α →AV} {sz:Nat} (hj:L[j]? =some ⟨v,sz,l.map c⟩)
 (ht:E t=some ti) {n:Int} {y: α} {id ad off k o:Nat} (hv:v= .ref id ad off k) (hb:idx l n=some y)
 (hx:ev s x= .ptr id ad (off+n.toNat) o) (hw:bI ti (c y) o=some w) {op:Op} (bg:op= .load t x):aM E op s H=some (w,H):=by
 subst bg;obtain ⟨b,h1,h2⟩:=hS.elem j hj hv hb;simp only [aM,ht,hx,h1,h2,hw]
end Go.VS
namespace Go.VS
structure fI (w:List AV) (n:Nat):Prop where
 len:w.length=n
 sl: ∀a∈w,bB a
def yP {α β :Type} (p: α →List β) (c: β →AV) (z:Nat) (w:List AV) (l:List α):List It:=List.zipWith (fun a x=>⟨a,z,(p x).map c⟩) w l
def A5 {α :Type} (m:AV→ α →AV) (w:List AV) (l:List α):List AV:=List.zipWith m w l
def A6 {α β :Type} (p: α →List β) (c: β →AV) (z:Nat) (w:List AV) (l:List α) (i:Nat):List It:=(yP p c z w l).eraseIdx i
theorem A7 {α :Type} (c: α →AV) (l:List α):yJ c l= .fz (l.map c):=rfl
def yQ:List (List It)→List It→List It
 |[],F=>F
 |a::as,F=>a ++ yQ as F
section
variable {H:J} {L F R:List It}
variable {α β :Type} {p: α →List β} {c: β →AV} {z:Nat} {w:List AV} {l:List α} {m:AV→ α →AV} {v:AV} {sz:Nat}
theorem fI.nil:fI [] 0:=⟨rfl,by simp⟩
theorem fI.get (h:fI w l.length) {i:Int} {b: α} (hi:idx l i=some b): ∃a,w[i.toNat]? =some a∧bB a:=by
 obtain ⟨_,_,h1⟩:=jH hi;have:=(List.getElem?_eq_some_iff.1 h1).1;have hw:i.toNat<w.length:=by rw [h.len];exact this
 exact ⟨_,List.getElem?_eq_getElem hw,h.sl _ (List.getElem_mem hw)⟩
theorem fI.set (h:fI w l.length) {a:AV} (ha:bB a) (i:Nat) (y: α):fI (w.set i a) (l.set i y).length:=by
 refine ⟨by simpa using h.len,fun x hx=> ?_⟩
 rcases List.mem_or_eq_of_mem_set hx with h1|rfl
 ·exact h.sl _ h1
 ·exact ha
theorem fI.app {w' :List AV} {l' :List α} (h:fI w l.length) (h' :fI w' l'.length):fI (w ++ w') (l ++ l').length:=by
 refine ⟨by simp [h.len,h'.len],fun x hx=> ?_⟩
 rcases List.mem_append.1 hx with h1|h1
 ·exact h.sl _ h1
 ·exact h'.sl _ h1
structure u9 (v:AV) (lo n:Nat) (v' :AV):Prop where
 out:(v= .nil∧v' = .nil)∨(v= .e0∧v' = .e0)∨ ∃id ad off len,v= .ref id ad off len∧v' = .ref id ad (off+lo) n
theorem u_ {γ :Type} {l m:List γ} {lo hi:Int} (h:dN l lo hi=some m):0≤lo∧lo≤hi∧hi≤l.length∧m=(l.drop lo.toNat).take (hi.toNat-lo.toNat)∧m.length=hi.toNat-lo.toNat:=by
 unfold dN at h;split at h
 ·rename_i hc;simp only [Option.some.injEq] at h;refine ⟨hc.1,hc.2.1,hc.2.2,h.symm,?_⟩;rw [←h,List.length_take,List.length_drop];omega
 ·simp at h
theorem A8 {γ δ :Type} {E:aK} {K:AV→J→Prop} {t e:TypeId} {ti te:TI} {l:List γ} {c: γ →AV} {lo hi:Option Int} {f:List γ →Option δ} {r: δ} (j:Nat) (hS:aA H L) (hj:L[j]? =some ⟨v,te.sz,l.map c⟩) (hp:bB v) (ht:E t=some ti) (hu:ti.aq= .sl e) (he:E e=some te) (hh:(dN l (lo.getD 0) (hi.getD l.length)).bind f=some r)
 (h: ∀v' m,bB v' →u9 v (lo.getD 0).toNat m.length v' →dN l (lo.getD 0) (hi.getD l.length)=some m→f m=some r→K v' H):ff E t v (some lo) (some hi) (some none) H K:=by
 cases hm:dN l (lo.getD 0) (hi.getD l.length) with
 |none=>rw [hm] at hh;simp at hh
 |some m=>
  rw [hm] at hh;have hk:=fun v' a9 hw=>h v' m a9 hw hm hh
  obtain ⟨cX,dw,kP,_,kQ⟩:=u_ hm;have af:=hS.ok j _ hj;obtain ⟨k0,af⟩:=af;simp only at af k0;have empty:l.map c=[]→lo.getD 0=0∧hi.getD 0=0:=by
   intro e;rw [List.map_eq_nil_iff] at e;subst e;have e0:(([]:List γ).length:Int)=0:=rfl;rw [e0] at kP dw;refine ⟨by omega,?_⟩
   cases hi with
   |none=>rfl
   |some x=>simp at dw kP⊢;omega
  split at af
  ·obtain ⟨e1,e2⟩:=empty af;simp only [ff,eL,ht,hu,he];rw [if_pos ⟨e1,e2,rfl,by simp⟩]
   exact hk .nil oO ⟨.inl ⟨rfl,rfl⟩⟩
  ·obtain ⟨e1,e2⟩:=empty af;simp only [ff,eL,ht,hu,he];rw [if_pos ⟨e1,e2,rfl,by simp⟩]
   exact hk .e0 oP ⟨.inr (.inl ⟨rfl,rfl⟩)⟩
  ·rename_i id ad off len;obtain ⟨k1,b,hb,k2,k3,k4,k5⟩:=af;simp only [List.length_map] at k1;subst k1;simp only [ff,eL,ht,hu,hb,he,k2,ne_eq,not_true_eq_false,if_false];rw [if_pos ⟨cX,dw,by omega⟩]
   refine hk _ (gR ..) ⟨.inr (.inr ⟨id,ad,off,_,rfl,?_⟩)⟩;rw [kQ]
  ·rename_i id ad ix off;obtain ⟨rfl,rfl,_⟩:=af;exact absurd rfl (hp.ne id ad)
  ·exact af.elim
theorem aA.A9 {γ :Type} (hS:aA H L) (j:Nat) {sz:Nat} {l m:List γ} {c: γ →AV} {v' :AV} {lo hi:Int} (hj:L[j]? =some ⟨v,sz,l.map c⟩) (hv:u9 v lo.toNat m.length v') (hm:dN l lo hi=some m):cx H v' =some (m.map c):=by
 obtain ⟨cX,dw,kP,va,kQ⟩:=u_ hm;have af:=(hS.ok j _ hj).2;simp only at af;have empty:l.map c=[]→m=[]:=fun e=>by
  rw [List.map_eq_nil_iff] at e;subst e;rw [va];simp
 rcases hv.out with ⟨rfl,rfl⟩|⟨rfl,rfl⟩|⟨id,ad,off,len,rfl,rfl⟩
 ·simp only at af;rw [empty af];rfl
 ·simp only at af;rw [empty af];rfl
 ·simp only at af;obtain ⟨k1,b,hb,k2,k3,k4,k5⟩:=af;simp only [List.length_map] at k1;subst k1;simp only [cx,hb];rw [if_pos (by omega)]
  simp only [aF] at k5⊢;rw [kQ,va,List.map_take,List.map_drop,←k5,List.drop_take,List.drop_drop,List.take_take];congr 2;omega
structure A_ (H:J) (v:AV) (n:Nat):Prop where
 out:((v= .nil∨v= .e0)∧n=0)∨ ∃id ad off len b,v= .ref id ad off len∧H.ap id ad=some b∧off+n≤b.el.length
structure Ba (v:AV) (n k:Nat) (v' :AV):Prop where
 out:((v= .nil∨v= .e0)∧v' =v)∨ ∃id ad off len,v= .ref id ad off len∧v' = .ref id ad (off+n) k
def Bb {γ :Type} (l:List γ) (lo:Int) (m:List γ) (d: γ):List γ :=l.take lo.toNat ++ List.replicate m.length d ++ l.drop (lo.toNat+m.length)
end
theorem Bc {C:aI} {kp:List Nat} {s s' :aj} {H:J} {K:Ex→aj→J→Prop} (hk:ec kp s=s') (h:K .normal s' H):aL (au C) C (.gj [] (some kp)) s H K:=by
 subst hk;exact h
end Go.VS
