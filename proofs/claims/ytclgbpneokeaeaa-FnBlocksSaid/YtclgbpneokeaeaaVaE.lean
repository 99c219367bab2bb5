import Derived.Test.YtclgbpneokeaeaaVaD
namespace Go.VS
def FZ (l:List (List Nat×List Sh)) (s:ah) (H:J) (P:ah→J→Prop):Prop:= ∃s' H',dH l s H=some (s',H')∧P s' H'
section
variable {C:aK} {s:ah} {H:J} {L:List It}
theorem vM (P:ah→J→Prop):FZ [] s H P=P s H:=by
 apply propext;constructor
 ·rintro ⟨s',H',h,hp⟩;simp only [dH,Option.some.injEq,Prod.mk.injEq] at h;obtain ⟨rfl,rfl⟩:=h;exact hp
 ·exact fun h=>⟨s,H,rfl,h⟩
theorem vN {t:Nat} {ts:List Nat} {e:Sh} {sh:List Sh} {l:List (List Nat×List Sh)} {P:ah→J→Prop} {y:AV} {H1:J} (ht:a_ (e::sh) (s.getD t .undef) H=some (y,H1)) (h:FZ l (gH (s.getD t .undef) (bw y) ts (s.set t (bw y))) H1 P):FZ ((t::ts,e::sh)::l) s H P:=by
 obtain ⟨s',H',h1,h2⟩:=h;exact ⟨s',H',by simp only [dH,ht];exact h1,h2⟩
theorem vO {f:AV→J→Option (AV×J)}: ∀(xs:List AV) (H:J),(∀x∈xs,∀H,f x H=some (x,H))→dz f xs H=some (xs,H)
 |[],H,_=>rfl
 |x::xs,H,h=>by
  simp only [dz,h x (by simp) H,vO xs H (fun y hy=>h y (by simp [hy]))]
theorem vP {α :Type} {c: α →AV} (hz: ∀x,bw (c x)=c x): ∀(l:List α),bW (l.map c)=l.map c
 |[]=>rfl
 |x::l=>by simp only [List.map_cons,bW,hz x,vP hz l]
theorem aC.del (hS:aC H L) {id:Nat} (h: ∀(i:Nat) (it:It),L[i]? =some it→cb it.v≠some id):aC (H.del id) L:=
 ⟨fun i it hi=>(hS.ok i it hi).frame fun k ad hk=>by
  have aP: ¬id=k:=fun e=>h i it hi (by rw [hk,e])
  simp only [J.ap,J.del,List.getElem?_set,if_neg aP],hS.cg⟩
theorem BB (hS:aC H L) {j:Nat} {v:AV} {sz:Nat} {el:List AV} (hj:L[j]? =some ⟨v,sz,el⟩) (hp:bG v):fA v v=true:=by
 have ag:=(hS.ok j _ hj).2;simp only at ag;split at ag
 ·rfl
 ·rfl
 ·simp [fA]
 ·rename_i id ad ix off;obtain ⟨rfl,rfl,_⟩:=ag;exact absurd rfl (hp.ne id ad)
 ·exact ag.elim
theorem aC.take {α :Type} (hS:aC H L) (j:Nat) {v:AV} {es:List Sh} {l:List α} {c: α →AV} (hj:L[j]? =some ⟨v,es.length,l.map c⟩) (hp:bG v) (hc: ∀x H,a_ es (c x) H=some (c x,H)):
 ∃H',a_ [.sl es] v H=some (.own es.length (l.map c),H')∧aC H' (L.eraseIdx j):=by
 have ag:=hS.ok j _ hj;have hf:=hS.front j hj;obtain ⟨k0,ag⟩:=ag;have e1:a_ [.sl es] v H=aR (.sl es) v H:=by
  have qI: ∀cs,v≠ .agg cs:=by rintro cs rfl;exact ag
  cases v with
  |agg cs=>exact absurd rfl (qI cs)
  |_=>simp only [a_]
 rw [e1];simp only at ag;split at ag
 ·rename_i hv;exact ⟨H,by simp only [aR,ag],hf.tl⟩
 ·exact ⟨H,by simp only [aR,ag],hf.tl⟩
 ·rename_i id ad off len;obtain ⟨k1,b,hb,k2,k3,k4,k5⟩:=ag;have hm:dz (a_ es) (l.map c) (H.del id)=some (l.map c,H.del id):=vO _ _ (by
   intro x hx H;obtain ⟨y,_,rfl⟩:=List.mem_map.1 hx;exact hc y H)
  refine ⟨H.del id,?_,hf.tl.del fun i it hi e=> ?_⟩
  ·simp only [aR,hb];rw [if_pos ⟨k2,k4,.inl k3⟩,k5,hm]
  ·have:=hf.cg 0 (i+1) _ it id rfl (by simpa using hi) rfl e
   omega
 ·rename_i id ad ix off;obtain ⟨rfl,rfl,_⟩:=ag;exact absurd rfl (hp.ne id ad)
 ·exact ag.elim
theorem DV {α :Type} {t:Nat} {ts:List Nat} {es:List Sh} {l:List (List Nat×List Sh)} {P:ah→J→Prop} {v:AV} {m:List α} {c: α →AV} (j:Nat) (hS:aC H L) (hj:L[j]? =some ⟨v,es.length,m.map c⟩) (hp:bG v) (hv:s.getD t .undef=v) (hc: ∀x H,a_ es (c x) H=some (c x,H)) (hz: ∀x,bw (c x)=c x)
 (h: ∀H',fA v v=true→aC H' (L.eraseIdx j)→FZ l (gH v (.fz (m.map c)) ts (s.set t (.fz (m.map c)))) H' P):FZ ((t::ts,[.sl es])::l) s H P:=by
 obtain ⟨H',h1,h2⟩:=hS.take j hj hp hc;rw [←hv] at h1;refine vN h1 ?_;simp only [bw,vP hz,hv];exact h H' (BB hS hj hp) h2
def TC (es:List Sh) (cs:List AV) (H:J) (K:List AV→J→Prop):Prop:= ∃ys H',cu es cs H=some (ys,H')∧K ys H'
theorem DW {K:List AV→J→Prop} (h:K [] H):TC [] [] H K:=⟨[],H,by simp only [cu],h⟩
theorem vQ {e:Sh} {es:List Sh} {v y:AV} {cs:List AV} {H1:J} {K:List AV→J→Prop} (ht:aR e v H=some (y,H1)) (h:TC es cs H1 fun ys H' =>K (y::ys) H'):TC (e::es) (v::cs) H K:=by
 obtain ⟨ys,H',h1,h2⟩:=h;exact ⟨y::ys,H',by simp only [cu,ht,h1],h2⟩
theorem DX {es:List Sh} {v:AV} {cs:List AV} {K:List AV→J→Prop} (hp:dA v=true) (h:TC es cs H fun ys H' =>K (v::ys) H'):TC (.sc::es) (v::cs) H K:=
 vQ (by simp only [aR,hp,if_true]) h
theorem DY {α :Type} {es fs:List Sh} {v:AV} {cs:List AV} {K:List AV→J→Prop} {m:List α} {c: α →AV} (j:Nat) (hS:aC H L) (hj:L[j]? =some ⟨v,fs.length,m.map c⟩) (hp:bG v) (hc: ∀x H,a_ fs (c x) H=some (c x,H))
 (h: ∀H',aC H' (L.eraseIdx j)→TC es cs H' fun ys H' =>K (.own fs.length (m.map c)::ys) H'):TC (.sl fs::es) (v::cs) H K:=by
 obtain ⟨H',h1,h2⟩:=hS.take j hj hp hc;have h3:aR (.sl fs) v H=some (.own fs.length (m.map c),H'):=by
  have qI: ∀cs,v≠ .agg cs:=by rintro cs rfl;rcases hp.ok with h|h|⟨_,_,_,_,h⟩<;>simp at h
  cases v with
  |agg cs=>exact absurd rfl (qI cs)
  |_=>simpa only [a_] using h1
 exact vQ h3 (h H' h2)
theorem DZ {t:Nat} {e:Sh} {sh:List Sh} {l:List (List Nat×List Sh)} {P:ah→J→Prop} {cs:List AV} (hv:s.getD t .undef= .agg cs) (h:TC (e::sh) cs H fun ys H' =>FZ l (s.set t (bw (.agg ys))) H' P):FZ (([t],e::sh)::l) s H P:=by
 obtain ⟨ys,H',h1,h2⟩:=h;refine vN (y:= .agg ys) (H1:=H') (by rw [hv];simp only [a_,h1]) ?_
 exact h2
theorem vR (xs:List AV):bw (.agg xs)= .agg (bW xs):=rfl
theorem vS (x:AV) (xs:List AV):bW (x::xs)=bw x::bW xs:=rfl
theorem vT:bW []=[]:=rfl
theorem vU (k:IntKind) (n:Int):bw (.int k n)= .int k n:=rfl
theorem vV (b:Bool):bw (.bool b)= .bool b:=rfl
theorem vW (b:List UInt8):bw (.str b)= .str b:=rfl
theorem vX (b:List AV):bw (.fz b)= .fz b:=rfl
theorem vY (n:Nat) (b:List AV):bw (.own n b)= .fz (bW b):=rfl
theorem vZ (xs:List AV):bw (.aA xs)= .aA (bW xs):=rfl
theorem v7 (x:AV):cj [x]=x:=rfl
theorem v8 (x y:AV) (l:List AV):cj (x::y::l)= .aA (x::y::l):=rfl
theorem v_:cj []= .aA []:=rfl
theorem wa (x y:AV):gH x y [] s=s:=rfl
theorem wb (x y:AV) (t:Nat) (ts:List Nat):gH x y (t::ts) s=gH x y ts (if fA (s.getD t .undef) x then s.set t y else s):=rfl
theorem wc:fA .nil .nil=true:=rfl
theorem wg:fA .e0 .e0=true:=rfl
theorem wh (fz:List (Nat×List (List Nat×List Sh))) (K:ah→J→Prop) (i:Nat):gw C fz K [] i s H=K s H:=rfl
theorem aC.D0 (hS:aC H L) (n:Nat) (js:List Nat) (hj:(js.Nodup∧ ∀j∈js,j<n)):aC H (js.filterMap (L[·]?) ++ L.drop n):=by
 refine ⟨fun i it hi=> ?_,fun i j a b id hi wi ha hb=> ?_⟩
 ·rcases List.mem_append.1 (List.mem_of_getElem? hi) with h|h
  ·obtain ⟨k,_,hk⟩:=List.mem_filterMap.1 h;exact hS.ok k it hk
  ·obtain ⟨k,hk⟩:=List.mem_iff_getElem?.1 (List.mem_of_mem_drop h);exact hS.ok k it hk
 ·
  have key: ∀(js:List Nat),js.Nodup→(∀j∈js,j<n)→ ∀(i j:Nat) (a b:It),(js.filterMap (L[·]?) ++ L.drop n)[i]? =some a→(js.filterMap (L[·]?) ++ L.drop n)[j]? =some b→cb a.v=some id→cb b.v=some id→i=j:=by
   intro js;induction js with
   |nil=>
    intro _ _ i j a b hi hj ha hb;simp only [List.filterMap_nil,List.nil_append,List.getElem?_drop] at hi hj;have:=hS.cg _ _ a b id hi hj ha hb;omega
   |cons k ks ih=>
    intro rJ az i j a b hi hj ha hb;have wj:=(List.nodup_cons.1 rJ)
    have mq:=ih wj.2 (fun j h=>az j (by simp [h]))
    cases hk:L[k]? with
    |none=>
     simp only [List.filterMap_cons,hk] at hi hj;exact mq i j a b hi hj ha hb
    |some c=>
     simp only [List.filterMap_cons,hk,List.cons_append] at hi hj;have other: ∀(m:Nat) (d:It),(ks.filterMap (L[·]?) ++ L.drop n)[m]? =some d→cb c.v=some id→cb d.v≠some id:=by
      intro m d hm hc hd;rcases List.mem_append.1 (List.mem_of_getElem? hm) with h|h
      ·obtain ⟨k',BC,bK⟩:=List.mem_filterMap.1 h;have:=hS.cg k k' c d id hk bK hc hd
       subst this;exact wj.1 BC
      ·obtain ⟨k',bK⟩:=List.mem_iff_getElem?.1 h;rw [List.getElem?_drop] at bK;have:=hS.cg k _ c d id hk bK hc hd
       have:=az k (by simp)
       omega
     cases i with
     |zero=>
      simp at hi;subst hi;cases j with
      |zero=>rfl
      |succ j=>exact absurd hb (other j b (by simpa using hj) ha)
     |succ i=>
      cases j with
      |zero=>simp at hj;subst hj;exact absurd ha (other i a (by simpa using hi) hb)
      |succ j=>have:=mq i j a b (by simpa using hi) (by simpa using hj) ha hb;omega
  exact key js hj.1 hj.2 i j a b hi wi ha hb
end
theorem D1 {α :Type} {L F:List α} {n:Nat} {x: α} (hL:L.drop n=F) (h:x∈F):x∈L:=List.mem_of_mem_drop (hL.symm▸h)
abbrev u:=AV.undef
def BD {α :Type} (c: α →AV) (l:List α):AV:= .fz (l.map c)
theorem D2 {E:aM} {s:ah} {H:J} {a:Tmp} {t:TypeId} {rs:List ResultVar} {ti:TI} {id ad sz:Nat} {x y:AV} {ys:List AV} (ht:E t=some ti) (ha:s.getD a .undef= .ptr id ad 0 0) (hb:H.ap id ad=some ⟨ad,sz,false,[x]⟩) (hx:bR ti x 0=some y) (hr:dI E s H rs=some ys):dI E s H (.cell a t::rs)=some (y::ys):=by
 have:aO E (.load t (.tmp a)) s H=some (y,H):=by
  have e:ev s (.tmp a)= .ptr id ad 0 0:=ha;simp only [aO,ht,e,hb,List.getElem?_cons_zero,hx]
 simp only [dI,this,hr,Option.map_some]
theorem D3 {E:aM} {s:ah} {H:J} {a:Tmp} {rs:List ResultVar} {y:AV} {ys:List AV} (ha:s.getD a .undef=y) (hr:dI E s H rs=some ys):dI E s H (.tmp a::rs)=some (y::ys):=by
 simp only [dI,hr,Option.map_some,ha]
section
variable {C:aK} {s:ah} {H:J}
def fP (C:aK) (K:ah→J→Prop) (d:Option Tmp) (late:List (Op×Option Tmp)) (rest:List GO) (s:ah):AV→J→Prop:=fun v H=>eb C (bn s d v) H (ew C K rest (bn s d v) H) late
def iL (C:aK) (K:ah→J→Prop) (v:AV) (w:Bool) (d:Option Tmp) (op:Op) (late:List (Op×Option Tmp)) (th q:Bool) (rest:List GO) (s:ah) (H:J):Prop:=gX v w (bm (aq C) C q th op s H (fP C K d late rest s)) (fP C K d late rest s (.aA []) H)
theorem wk (K:ah→J→Prop) (d:Option Tmp) (rest:List GO) (v:AV):fP C K d [] rest s v H=ew C K rest (bn s d v) H:=rfl
theorem wl (K:ah→J→Prop) (d:Option Tmp) (l:Op×Option Tmp) (ls:List (Op×Option Tmp)) (rest:List GO) (v:AV):fP C K d (l::ls) rest s v H=eb C (bn s d v) H (ew C K rest (bn s d v) H) (l::ls):=rfl
theorem wm (K:ah→J→Prop) (d:Option Tmp) (op:Op) (late:List (Op×Option Tmp)) (q th:Bool) (rest:List GO):ew C K (⟨d,op,none,late,th,q⟩::rest) s H=bm (aq C) C q th op s H (fP C K d late rest s):=rfl
theorem wo (K:ah→J→Prop) (d:Option Tmp) (op:Op) (t:Tmp) (w:Bool) (late:List (Op×Option Tmp)) (q th:Bool) (rest:List GO):ew C K (⟨d,op,some (some t,w),late,th,q⟩::rest) s H=iL C K (s.getD t .undef) w d op late th q rest s H:=rfl
variable (K:ah→J→Prop) (d:Option Tmp) (op:Op) (late:List (Op×Option Tmp)) (th q:Bool) (rest:List GO)
theorem wq:iL C K (.bool true) true d op late th q rest s H=bm (aq C) C q th op s H (fP C K d late rest s):=tY _ _
theorem wu:iL C K (.bool false) false d op late th q rest s H=bm (aq C) C q th op s H (fP C K d late rest s):=tZ _ _
theorem wv:iL C K (.bool true) false d op late th q rest s H=fP C K d late rest s (.aA []) H:=t_ _ _
theorem ww:iL C K (.bool false) true d op late th q rest s H=fP C K d late rest s (.aA []) H:=ua _ _
theorem wx (l:List AV) (w:Bool):iL C K (.aA l) w d op late th q rest s H=fP C K d late rest s (.aA []) H:=rfl
theorem D4 {α :Type} {c w:Bool} {x y:Option α} {r: α} {K:ah→J→Prop} {d:Option Tmp} {op:Op} {late:List (Op×Option Tmp)} {th q:Bool} {rest:List GO} (h:(bif c then x else y)=some r) (ht:c=true→x=some r→iL C K (.bool true) w d op late th q rest s H) (hf:c=false→y=some r→iL C K (.bool false) w d op late th q rest s H):iL C K (.bool c) w d op late th q rest s H:=by
 cases c with
 |true=>exact ht rfl h
 |false=>exact hf rfl h
variable (fz:List (Nat×List (List Nat×List Sh))) (i:Nat)
def gx (C:aK) (fz:List (Nat×List (List Nat×List Sh))) (K:ah→J→Prop) (d:Option Tmp) (rest:List GO) (i:Nat) (s:ah):AV→J→Prop:=fun v H=>gw C fz K rest (i+1) (bn s d v) H
def kG (C:aK) (fz:List (Nat×List (List Nat×List Sh))) (K:ah→J→Prop) (v:AV) (w:Bool) (d:Option Tmp) (op:Op) (th q:Bool) (rest:List GO) (i:Nat) (s:ah) (H:J):Prop:=gX v w (bm (aq C) C q th op s H (gx C fz K d rest i s)) (gx C fz K d rest i s (.aA []) H)
def qJ (C:aK) (fz:List (Nat×List (List Nat×List Sh))) (K:ah→J→Prop) (o:GO) (rest:List GO) (i:Nat):ah→J→Prop:=fun s H=>iA o.g s (bm (aq C) C o.q o.th o.op s H (gx C fz K o.d rest i s)) (gx C fz K o.d rest i s (.aA []) H)
theorem wy (o:GO):gw C fz K (o::rest) i s H=FZ ((fz.lookup i).getD []) s H (qJ C fz K o rest i):=rfl
theorem wz:qJ C fz K ⟨d,op,none,late,th,q⟩ rest i s H=bm (aq C) C q th op s H (gx C fz K d rest i s):=rfl
theorem wA (t:Tmp) (w:Bool):qJ C fz K ⟨d,op,some (some t,w),late,th,q⟩ rest i s H=kG C fz K (s.getD t .undef) w d op th q rest i s H:=rfl
theorem wB (v:AV):gx C fz K d rest i s v H=gw C fz K rest (i+1) (bn s d v) H:=rfl
theorem wC:kG C fz K (.bool true) true d op th q rest i s H=bm (aq C) C q th op s H (gx C fz K d rest i s):=tY _ _
theorem wD:kG C fz K (.bool false) false d op th q rest i s H=bm (aq C) C q th op s H (gx C fz K d rest i s):=tZ _ _
theorem wE:kG C fz K (.bool true) false d op th q rest i s H=gx C fz K d rest i s (.aA []) H:=t_ _ _
theorem wF:kG C fz K (.bool false) true d op th q rest i s H=gx C fz K d rest i s (.aA []) H:=ua _ _
theorem wG (l:List AV) (w:Bool):kG C fz K (.aA l) w d op th q rest i s H=gx C fz K d rest i s (.aA []) H:=rfl
end
theorem wH {β :Type} (i:Nat) (l: β) (r:List (Nat× β)):((i,l)::r).lookup i=some l:=by simp [List.lookup]
theorem wI {β :Type} (i k:Nat) (l: β) (r:List (Nat× β)) (h:(i==k)=false):((k,l)::r).lookup i=r.lookup i:=by simp only [List.lookup,h]
theorem wJ {β :Type} (i:Nat):([]:List (Nat× β)).lookup i=none:=rfl
theorem wK (all:List Oper) (q:Nat→Bool) (late:Nat→List Nat) (th:List Nat) (i:Nat):ec all q late th [] i=[]:=rfl
theorem wL (all:List Oper) (q:Nat→Bool) (late:Nat→List Nat) (th:List Nat) (o:Oper) (rest:List Oper) (i:Nat):ec all q late th (o::rest) i=⟨o.dst,o.op,o.guard.map fun p=>(lk all p.1,p.2),(late i).map (kB all),th.contains i,q i⟩::ec all q late th rest (i+1):=rfl
theorem wM (o:Oper) (os:List Oper):lk (o::os) 0=o.dst:=rfl
theorem wN (o:Oper) (os:List Oper) (n:Nat):lk (o::os) (n+1)=lk os n:=rfl
theorem wO (K:Ex→ah→J→Prop) (s:ah) (H:J):ji K s H=K .normal s H:=rfl
theorem wP (E:aM) (t:TypeId) (f:Nat):lW E t f=match E t with
 |some ti=>match ti.au with
  | .st fs=>match fs[f]? with
   |some (o,ft)=>match E ft with
    |some tf=>some (o,tf)
    |none=>none
   |none=>none
  |_=>none
 |none=>none:=rfl
theorem wQ (ti:TI) (hu:jS ti.au=true) (xs:List AV) (n:Nat) {H:J} {K:AV→J→Prop}:ez (some ti) (.fz xs) (some n) H K=K (.int .i64 n) H:=by cases h:ti.au<;>rw [h] at hu<;>simp [jS] at hu;exact Bp ti h xs n
theorem wR (ti:TI) (hu:jS ti.au=true) (n:Nat) {H:J} {K:AV→J→Prop}:ez (some ti) .nil (some n) H K=K (.int .i64 n) H:=by cases h:ti.au<;>rw [h] at hu<;>simp [jS] at hu;exact Bq ti h n
theorem wS (ti:TI) (hu:jS ti.au=true) (n:Nat) {H:J} {K:AV→J→Prop}:ez (some ti) .e0 (some n) H K=K (.int .i64 n) H:=by cases h:ti.au<;>rw [h] at hu<;>simp [jS] at hu;exact Br ti h n
theorem wT (ti:TI) (hu:lZ ti.au=true) (l:List UInt8) (n:Nat) {H:J} {K:AV→J→Prop}:ez (some ti) (.str l) (some n) H K=K (.int .i64 n) H:=by cases h:ti.au<;>rw [h] at hu<;>simp [lZ] at hu;exact Bs ti h l n
theorem wU (ta tb:TI) (n:Int) (H:J) (K:AV→J→Prop):qE (some ta) (some tb) n H K=match tb.au with| .it k=>K (.int k (k.wrap n)) H|_=>False:=rfl
theorem wV (o:Nat) (tf:TI) (y:AV) (off:Nat) (h:(tf.sz==0)=false) {H:J} {K:AV→J→Prop}:jk (some (o,tf)) (.fe y off) H K=K (.fe y (off+o)) H:=Bk o tf h y off
def qK (b:Option bC) (k:Prop):Prop:=match b with|some _=>k|none=>False
theorem wW (o:Nat) (tf:TI) (id ad idx off:Nat) (h:(tf.sz==0)=false) {H:J} {K:AV→J→Prop}:jk (some (o,tf)) (.ptr id ad idx off) H K=qK (H.ap id ad) (K (.ptr id ad idx (off+o)) H):=by
 rw [Bl o tf h];rfl
theorem wX (b:bC) (k:Prop):qK (some b) k=k:=rfl
theorem wY {C:aK} {q th:Bool} {s:ah} {H:J} {K:AV→J→Prop} (x:Operand):bm (aq C) C q th (.nilCheck x) s H K=(match ev s x with| .ptr a b c d=>qK (H.ap a b) (K (.ptr a b c d) H)| .fe x o=>K (.fe x o) H|_=>False):=by
 rw [dc _ rfl];simp only [aO];generalize ev s x=r;cases r<;>try rfl
 rename_i a b c d;simp only;cases H.ap a b<;>rfl
theorem wZ (z:List AV) (b:Nat) (w:UD) (e:Bool) (cs:List AV) (off:Nat):bR ⟨1,false,z,b,w,e⟩ (.agg cs) off=cs[off]? :=by
 by_cases h:off<cs.length
 ·have e1:aG cs off 1=[cs[off]]:=by
   simp only [aG,List.drop_eq_getElem_cons h,List.take_succ_cons,List.take_zero]
  have e2:bR ⟨1,false,z,b,w,e⟩ (.agg cs) off=jW false (aG cs off 1):=if_pos (show off+1≤cs.length from h);rw [e2,e1,List.getElem?_eq_getElem h];rfl
 ·rw [List.getElem?_eq_none (by omega)]
  exact if_neg (show¬off+1≤cs.length from h)
theorem w7 (z:List AV) (b:Nat) (w:UD) (e:Bool) (k:IntKind) (n:Int):bR ⟨1,false,z,b,w,e⟩ (.int k n) 0=some (.int k n):=rfl
theorem w8 (z:List AV) (b:Nat) (w:UD) (e:Bool) (n:Bool):bR ⟨1,false,z,b,w,e⟩ (.bool n) 0=some (.bool n):=rfl
theorem w9 (z:List AV) (b:Nat) (w:UD) (e:Bool) (n:List UInt8):bR ⟨1,false,z,b,w,e⟩ (.str n) 0=some (.str n):=rfl
theorem w_ (z:List AV) (b:Nat) (w:UD) (e:Bool) (n:List AV):bR ⟨1,false,z,b,w,e⟩ (.fz n) 0=some (.fz n):=rfl
theorem xa (z:List AV) (b:Nat) (w:UD) (e:Bool):bR ⟨1,false,z,b,w,e⟩ .nil 0=some .nil:=rfl
theorem xb (z:List AV) (b:Nat) (w:UD) (e:Bool):bR ⟨1,false,z,b,w,e⟩ .e0 0=some .e0:=rfl
theorem xc (z:List AV) (b:Nat) (w:UD) (e:Bool) (a c d f:Nat):bR ⟨1,false,z,b,w,e⟩ (.ref a c d f) 0=some (.ref a c d f):=rfl
theorem xd (n:Nat) (z:List AV) (b:Nat) (w:UD) (e:Bool) (cs:List AV) (off:Nat):bR ⟨n,true,z,b,w,e⟩ (.agg cs) off=if off+n≤cs.length then some (.agg ((cs.drop off).take n)) else none:=rfl
theorem xe (ti:TI) (r:Bool) (neg:Bool):lV (some ti) (some r) neg=if ti.agg then some (.bool (if neg then !r else r)) else none:=rfl
theorem xf (ti:TI) (x y:AV) (neg:Bool):iI (some ti) x y neg=match isNil ti.au x y with|some b=>some (.bool (if neg then !b else b))|none=>none:=rfl
theorem xg (E:aM) (d:Nat) (t:TypeId) (xs ys:List AV):dQ E (d+1) t xs ys=match E t with
 |none=>none
 |some ti=>match ti.au with
  | .it _=>match xs,ys with
   |[.int k a],[.int j b]=>if k=j then some (a==b) else none
   |_,_=>none
  | .bl=>match xs,ys with
   |[.bool a],[.bool b]=>some (a==b)
   |_,_=>none
  | .str=>match xs,ys with
   |[.str a],[.str b]=>some (a==b)
   |_,_=>none
  | .st fs=>if ti.kN then hJ E (dQ E d) fs xs ys else none
  |_=>none:=rfl
theorem xh (E:aM) (f:TypeId→List AV→List AV→Option Bool) (xs ys:List AV):hJ E f [] xs ys=some true:=rfl
theorem xi (E:aM) (f:TypeId→List AV→List AV→Option Bool) (o:Nat) (ft:TypeId) (fs:List (Nat×TypeId)) (xs ys:List AV):hJ E f ((o,ft)::fs) xs ys=match E ft with
 |none=>none
 |some tf=>
  if o+tf.sz≤xs.length∧o+tf.sz≤ys.length then
   match f ft (aG xs o tf.sz) (aG ys o tf.sz) with
   |some b=>match hJ E f fs xs ys with
    |some r=>some (b&&r)
    |none=>none
   |none=>none
  else none:=rfl
theorem xj (cs:List AV) (off n:Nat):aG cs off n=(cs.drop off).take n:=rfl
def nY (E:aM) (t:TypeId) (ps:List (Nat×AV)) (H:J) (K:AV→J→Prop):Prop:=match E t with
 |some ti=>match ti.au with
  | .st fs=>if !(fs.all fun f=>(E f.2).isSome)|| !(ti.zero.all cU) then False else cr ((fQ (fun i=>match fs[i]? with|some (o,ft)=>(E ft).map fun tf=>(o,tf.sz)|none=>none) ti.zero ps).map .agg) H K
  | .ar n e=>match E e with
   |some te=>if !(ti.zero.all cU) then False else cr ((fQ (fun i=>if i<n then some (i*te.sz,te.sz) else none) ti.zero ps).map .agg) H K
   |none=>False
  |_=>False
 |none=>False
theorem xk {C:aK} {q th:Bool} {s:ah} {H:J} {K:AV→J→Prop} (t:TypeId) (ps:Array (Nat×Operand)):bm (aq C) C q th (.build t ps) s H K=nY C.E t (ps.toList.map fun p=>(p.1,ev s p.2)) H K:=by
 rw [dc _ rfl];simp only [aO,nY];cases C.E t with
 |none=>rfl
 |some ti=>
  simp only;cases ti.au<;>try rfl
  ·rename_i fs;simp only;split
   ·rfl
   ·generalize Option.map AV.agg _=r;cases r<;>rfl
  ·rename_i n e;simp only;cases C.E e with
   |none=>rfl
   |some te=>
    simp only;split
    ·rfl
    ·generalize Option.map AV.agg _=r;cases r<;>rfl
theorem D5 {E:aM} {t:TypeId} {ps:List (Nat×AV)} {H:J} {K:AV→J→Prop} {ti:TI} {fs:List (Nat×TypeId)} {cs:List AV} (ht:E t=some ti) (hu:ti.au= .st fs) (h1:(fs.all fun f=>(E f.2).isSome)=true) (h2:ti.zero.all cU=true)
 (hf:fQ (fun i=>match fs[i]? with|some (o,ft)=>(E ft).map fun tf=>(o,tf.sz)|none=>none) ti.zero ps=some cs) (h:K (.agg cs) H):nY E t ps H K:=by
 simp only [nY,ht,hu,h1,h2,Bool.not_true,Bool.or_self,Bool.false_eq_true,if_false,hf];exact h
theorem xl {C:aK} {q th:Bool} {s:ah} {H:J} {K:AV→J→Prop} (f:FuncId) (cap:Array Operand):bm (aq C) C q th (.makeFunc (.func f) #[] cap) s H K=K (.fn f (cap.toList.map (ev s))) H:=by
 rw [dc _ rfl];simp only [aO];rfl
theorem W:type_of% (And.intro @wH<|And.intro @vR<|And.intro @vS<|And.intro @vT<|And.intro @vU<|And.intro @vV<|And.intro @vW<|And.intro @vX<|And.intro @vY<|And.intro @vZ<|And.intro @v7<|And.intro @v8<|And.intro @v_<|And.intro @Bool.or_false<|And.intro @wI<|And.intro @wJ<|And.intro @tX<|And.intro @wm<|And.intro @wo<|And.intro @wk<|And.intro @wl<|And.intro @wq<|And.intro @wu<|And.intro @wv<|And.intro @ww<|And.intro @wx<|And.intro @wy<|And.intro @wz<|And.intro @wA<|And.intro @wB<|And.intro @wC<|And.intro @wD<|And.intro @wE<|And.intro @wF<|And.intro @wG<|
 And.intro @ub<|And.intro @uc<|And.intro @ud<|And.intro @uf<|And.intro @ug<|And.intro @uh<|And.intro @ui<|And.intro @uj<|And.intro @uk<|And.intro @ul<|And.intro @um<|And.intro @uo<|And.intro @uq<|
 And.intro @ur<|And.intro @uu<|And.intro @uw<|And.intro @ux<|And.intro @uy<|And.intro @uz<|And.intro @uA<|And.intro @uB<|And.intro @uC<|And.intro @uD<|And.intro @uE<|And.intro @uF<|
 And.intro @vE<|And.intro @vF<|And.intro @vG<|And.intro @uG<|And.intro @uH<|And.intro @uI<|And.intro @uJ<|And.intro @uK<|And.intro @uL<|And.intro @uM<|And.intro @uN<|And.intro @uO<|And.intro @uP<|
 And.intro @uQ<|And.intro @uR<|And.intro @uS<|And.intro @uT<|And.intro @uU<|And.intro @uV<|And.intro @uW<|And.intro @uX<|And.intro @uY<|And.intro @uZ<|And.intro @u2<|And.intro @u3<|And.intro @u4<|
 And.intro @u5<|And.intro @u6<|And.intro @u7<|And.intro @u9<|And.intro @u_<|And.intro @o_load<|And.intro @va<|And.intro @vb<|And.intro @vd<|And.intro @ve<|And.intro @vf<|And.intro @vg<|And.intro @vh<|
 And.intro @vi<|And.intro @vj<|And.intro @vk<|And.intro @vl<|And.intro @min2<|And.intro @max2<|And.intro @vo<|And.intro @vt<|And.intro @vv<|And.intro @vw<|And.intro @vx<|And.intro @vy<|
 And.intro @vA<|And.intro @vB<|And.intro @vC<|And.intro @vH<|And.intro @vI<|And.intro @vJ<|And.intro @vK<|And.intro @vL<|And.intro @vM<|And.intro @wa<|And.intro @wb<|And.intro @wc<|And.intro @wg<|
 And.intro @wh<|And.intro @wK<|And.intro @wL<|And.intro @wM<|And.intro @wN<|And.intro @wO<|And.intro @wP<|And.intro @wQ<|And.intro @wR<|And.intro @wS<|And.intro @wT<|And.intro @wU<|
 And.intro @wV<|And.intro @wW<|And.intro @wX<|And.intro @wY<|And.intro @wZ<|And.intro @w7<|And.intro @w8<|And.intro @w9<|And.intro @w_<|And.intro @xa<|And.intro @xb<|And.intro @xc<|And.intro @xd<|And.intro @xe<|And.intro @xf<|
 And.intro @xg<|And.intro @xh<|And.intro @xi<|And.intro @xj<|And.intro @xk<|And.intro @xl<|And.intro @vp<|And.intro @vq<|And.intro @vr<|
 And.intro @List.set_cons_succ.{0}<|And.intro @List.set_cons_zero.{0}<|And.intro @List.getD_cons_succ.{0}<|And.intro @List.getD_cons_zero.{0}<|And.intro @Option.map_some.{0,0}<|And.intro @Option.map_none.{0,0}<|And.intro @List.map_nil.{0,0}<|And.intro @List.map_cons.{0,0}<|And.intro @List.contains_nil.{0}<|
 And.intro @List.getElem?_cons_succ.{0}<|And.intro @List.getElem?_cons_zero.{0}<|And.intro @List.length_map.{0,0}<|And.intro @List.drop_succ_cons.{0}<|And.intro @List.drop_zero.{0}<|And.intro @List.take_succ_cons.{0}<|And.intro @List.take_zero.{0}<|And.intro @List.length_cons.{0}<|And.intro @List.length_nil.{0}<|
 And.intro @if_true.{0}<|And.intro @if_false.{0}<|And.intro @Bool.not_true<|And.intro @Bool.not_false<|And.intro @Option.getD_none.{0}<|And.intro @Option.getD_some.{0}<|And.intro @List.cons_append.{0}<|And.intro @List.nil_append.{0}<|And.intro @and_self<|And.intro @and_true @true_and):=
 And.intro @wH<|And.intro @vR<|And.intro @vS<|And.intro @vT<|And.intro @vU<|And.intro @vV<|And.intro @vW<|And.intro @vX<|And.intro @vY<|And.intro @vZ<|And.intro @v7<|And.intro @v8<|And.intro @v_<|And.intro @Bool.or_false<|And.intro @wI<|And.intro @wJ<|And.intro @tX<|And.intro @wm<|And.intro @wo<|And.intro @wk<|And.intro @wl<|And.intro @wq<|And.intro @wu<|And.intro @wv<|And.intro @ww<|And.intro @wx<|And.intro @wy<|And.intro @wz<|And.intro @wA<|And.intro @wB<|And.intro @wC<|And.intro @wD<|And.intro @wE<|And.intro @wF<|And.intro @wG<|
 And.intro @ub<|And.intro @uc<|And.intro @ud<|And.intro @uf<|And.intro @ug<|And.intro @uh<|And.intro @ui<|And.intro @uj<|And.intro @uk<|And.intro @ul<|And.intro @um<|And.intro @uo<|And.intro @uq<|
 And.intro @ur<|And.intro @uu<|And.intro @uw<|And.intro @ux<|And.intro @uy<|And.intro @uz<|And.intro @uA<|And.intro @uB<|And.intro @uC<|And.intro @uD<|And.intro @uE<|And.intro @uF<|
 And.intro @vE<|And.intro @vF<|And.intro @vG<|And.intro @uG<|And.intro @uH<|And.intro @uI<|And.intro @uJ<|And.intro @uK<|And.intro @uL<|And.intro @uM<|And.intro @uN<|And.intro @uO<|And.intro @uP<|
 And.intro @uQ<|And.intro @uR<|And.intro @uS<|And.intro @uT<|And.intro @uU<|And.intro @uV<|And.intro @uW<|And.intro @uX<|And.intro @uY<|And.intro @uZ<|And.intro @u2<|And.intro @u3<|And.intro @u4<|
 And.intro @u5<|And.intro @u6<|And.intro @u7<|And.intro @u9<|And.intro @u_<|And.intro @o_load<|And.intro @va<|And.intro @vb<|And.intro @vd<|And.intro @ve<|And.intro @vf<|And.intro @vg<|And.intro @vh<|
 And.intro @vi<|And.intro @vj<|And.intro @vk<|And.intro @vl<|And.intro @min2<|And.intro @max2<|And.intro @vo<|And.intro @vt<|And.intro @vv<|And.intro @vw<|And.intro @vx<|And.intro @vy<|
 And.intro @vA<|And.intro @vB<|And.intro @vC<|And.intro @vH<|And.intro @vI<|And.intro @vJ<|And.intro @vK<|And.intro @vL<|And.intro @vM<|And.intro @wa<|And.intro @wb<|And.intro @wc<|And.intro @wg<|
 And.intro @wh<|And.intro @wK<|And.intro @wL<|And.intro @wM<|And.intro @wN<|And.intro @wO<|And.intro @wP<|And.intro @wQ<|And.intro @wR<|And.intro @wS<|And.intro @wT<|And.intro @wU<|
 And.intro @wV<|And.intro @wW<|And.intro @wX<|And.intro @wY<|And.intro @wZ<|And.intro @w7<|And.intro @w8<|And.intro @w9<|And.intro @w_<|And.intro @xa<|And.intro @xb<|And.intro @xc<|And.intro @xd<|And.intro @xe<|And.intro @xf<|
 And.intro @xg<|And.intro @xh<|And.intro @xi<|And.intro @xj<|And.intro @xk<|And.intro @xl<|And.intro @vp<|And.intro @vq<|And.intro @vr<|
 And.intro @List.set_cons_succ.{0}<|And.intro @List.set_cons_zero.{0}<|And.intro @List.getD_cons_succ.{0}<|And.intro @List.getD_cons_zero.{0}<|And.intro @Option.map_some.{0,0}<|And.intro @Option.map_none.{0,0}<|And.intro @List.map_nil.{0,0}<|And.intro @List.map_cons.{0,0}<|And.intro @List.contains_nil.{0}<|
 And.intro @List.getElem?_cons_succ.{0}<|And.intro @List.getElem?_cons_zero.{0}<|And.intro @List.length_map.{0,0}<|And.intro @List.drop_succ_cons.{0}<|And.intro @List.drop_zero.{0}<|And.intro @List.take_succ_cons.{0}<|And.intro @List.take_zero.{0}<|And.intro @List.length_cons.{0}<|And.intro @List.length_nil.{0}<|
 And.intro @if_true.{0}<|And.intro @if_false.{0}<|And.intro @Bool.not_true<|And.intro @Bool.not_false<|And.intro @Option.getD_none.{0}<|And.intro @Option.getD_some.{0}<|And.intro @List.cons_append.{0}<|And.intro @List.nil_append.{0}<|And.intro @and_self<|And.intro @and_true @true_and
end Go.VS
namespace Go.VS
def jl:List (Nat×List Nat)→Nat→List Nat
 |[],_=>[]
 |(a,l)::t,i=>if i=a then l else jl t i
def l7:List Nat→Nat→Bool
 |[],_=>true
 |a::t,i=>if i=a then false else l7 t i
theorem xm: ∀(ls:List Nat) (i:Nat),(!ls.contains i)=l7 ls i
 |[],_=>rfl
 |a::t,i=>by
  have:=xm t i;unfold l7;by_cases h:i=a
  ·simp [h]
  ·rw [if_neg h,←this];simp [h]
theorem BE {f:Nat→List Nat}: ∀(iM:List (Nat×List Nat)) (_:iM.all (fun p=>f p.1==p.2)=true) (_: ∀i,i∉iM.map (·.1)→f i=[]) (i:Nat),f i=jl iM i
 |[],_,h,i=>h i (by simp)
 |(a,l)::t,h1,h2,i=>by
  simp only [List.all_cons,Bool.and_eq_true,beq_iff_eq] at h1;unfold jl;by_cases h:i=a
  ·rw [if_pos h,h];exact h1.1
  ·rw [if_neg h];by_cases hm:i∈t.map (·.1)
   ·clear h2;have go: ∀(t:List (Nat×List Nat)),t.all (fun p=>f p.1==p.2)=true→i∈t.map (·.1)→f i=jl t i:=by
     intro t;induction t with
     |nil=>intro _ hm;simp at hm
     |cons p t ih=>
      intro h1 hm;simp only [List.all_cons,Bool.and_eq_true,beq_iff_eq] at h1;obtain ⟨a,l⟩:=p;unfold jl;by_cases h:i=a
      ·rw [if_pos h,h];exact h1.1
      ·rw [if_neg h];exact ih h1.2 (by simpa [h] using hm)
    exact go t h1.2 hm
   ·have e:f i=[]:=h2 i (by simp only [List.map_cons,List.mem_cons,not_or];exact ⟨h,hm⟩)
    rw [e];clear h1 h2;induction t with
    |nil=>rfl
    |cons p t ih=>
     obtain ⟨b,m⟩:=p;simp only [List.map_cons,List.mem_cons,not_or] at hm;unfold jl;rw [if_neg hm.1];exact ih hm.2
section
variable {C:aK} {s:ah} {H:J} {K:Ex→ah→J→Prop}
theorem D6 (gC:Good C) {id:Nat} {ops:List Oper} {ls th:List Nat} {fz:List (Nat×List (List Nat×List Sh))} (iM:List (Nat×List Nat)) (hd:iR ops.toArray ls=true) (h1:iM.map (·.1)=ls) (h2:iM.all (fun p=>fV ops.toArray ls p.1==p.2)=true)
 (h:ew C (ji K) (ec ops (l7 ls) (jl iM) th ops 0) s H):aH (aq C) C (.region id ops.toArray true ls th fz) s H K:=by
 refine tV gC hd ?_;have e1:(fun i=> !ls.contains i)=l7 ls:=funext (xm ls);have e2:fV ops.toArray ls=jl iM:=funext (BE iM h2 (fun i hi=>by
  unfold fV;rw [h1] at hi;rw [if_neg (by simpa using hi)]))
 rw [e1,e2];exact h
end
theorem D7 {C:aK} {K:ah→J→Prop} {d:Option Tmp} {l:List (Op×Option Tmp)} {rest:List GO} {s:ah} {v:AV} {H:J} (h:eb C (bn s d v) H (fP C K d [] rest s v H) l):fP C K d l rest s v H:=h
theorem D8 {C:aK} {s:ah} {H:J} {P:Prop} {op:Op} {t:Tmp} {js:List (Op×Option Tmp)} (h1:h_ C.E op s H=some (s.getD t .undef,H)) (h:eb C s H P js):eb C s H P ((op,some t)::js):=⟨⟨t,rfl,h1⟩,h⟩
theorem D9 {C:aK} {s:ah} {H:J} {P:Prop} (h:P):eb C s H P []:=h
theorem BF {x:Int} (h: -9223372036854775808≤x∧x≤9223372036854775807):IntKind.i64.wrap x=x:=IntWalk.i64_in x (by omega)
end Go.VS
namespace Go.VS
section
variable {C:aK} {H:J} {L:List It}
theorem D_ (π :List Nat) (l:List Oper):mf π l= π.map (fun i=>fp π (l.getD i default)):=rfl
theorem Ea (π :List Nat) (o:Oper):(fp π o).dst=o.dst:=rfl
theorem Eb (π :List Nat) (o:Oper):(fp π o).op=o.op:=rfl
theorem Ec (π :List Nat) (o:Oper):(fp π o).guard=o.guard.map (fun p=>(df π p.1,p.2)):=rfl
theorem Ed (a:Nat) (l:List Nat) (i:Nat):df (a::l) i=if a=i then 0 else df l i+1:=by
 unfold df;rw [List.idxOf_cons];by_cases h:a=i
 ·simp [h]
 ·have:(a==i)=false:=by simpa using h
  simp [h,this]
theorem Ee (f:AV→Option AV):([]:List AV).mapM f=some []:=rfl
theorem BG {f:AV→Option AV} {c y:AV} {cs ys:List AV} (h1:f c=some y) (h2:cs.mapM f=some ys):(c::cs).mapM f=some (y::ys):=by
 simp [List.mapM_cons,h1,h2]
theorem xn {f:AV→Option AV}: ∀(cs:List AV),(∀c∈cs,f c=some c)→cs.mapM f=some cs
 |[],_=>rfl
 |c::cs,h=>BG (h c (by simp)) (xn cs fun d hd=>h d (by simp [hd]))
theorem Ef {n:Nat} {cs ys:List AV} (h:cs.mapM (aZ n H)=some ys):aZ (n+1) H (.agg cs)=some (.agg ys):=by
 simp only [aZ,h,Option.map_some]
theorem Eg {α :Type} {n:Nat} (hS:aC H L) (j:Nat) {v:AV} {sz:Nat} {l:List α} {c: α →AV} (hj:L[j]? =some ⟨v,sz,l.map c⟩) (hp:bG v) (hc: ∀x,aZ n H (c x)=some (c x)):aZ (n+1) H v=some (.fz (l.map c)):=by
 obtain ⟨k0,ag⟩:=hS.ok j _ hj;simp only at ag;rcases hp.ok with rfl|rfl|⟨id,ad,off,len,rfl⟩
 ·simp only at ag;simp only [aZ,ag]
 ·simp only at ag;simp only [aZ,ag]
 ·simp only at ag;obtain ⟨k1,b,hb,k2,k3,k4,k5⟩:=ag;simp only [aZ,hb];rw [if_pos k4,k5,xn (l.map c) (by
   intro d hd;obtain ⟨x,_,rfl⟩:=List.mem_map.1 hd;exact hc x),Option.map_some]
theorem Eh:cf [] [] H=some ([],false):=rfl
theorem Ei {v y:AV} {vs ys:List AV} {b:Bool} (h1:aZ 8 H v=some y) (h2:cf [] vs H=some (ys,b)):cf [] (v::vs) H=some (y::ys,e9 v||b):=by
 simp only [cf,h1,h2]
def TV (bT:List (List Sh)) (rs:List AV) (H:J) (K:List AV→Prop):Prop:= ∃zs H',dg bT rs H=some (zs,H')∧K zs
theorem Ej {bT:List (List Sh)} {K:List AV→Prop} (h:K []):TV bT [] H K:=⟨[],H,rfl,h⟩
theorem qL {e:List Sh} {bT:List (List Sh)} {v y:AV} {rs:List AV} {H1:J} {K:List AV→Prop} (ht:a_ e v H=some (y,H1)) (h:TV bT rs H1 fun zs=>K (y::zs)):TV (e::bT) (v::rs) H K:=by
 obtain ⟨zs,H',h1,h2⟩:=h;exact ⟨y::zs,H',by simp only [dg,List.headD_cons,List.tail_cons,ht,h1],h2⟩
theorem BH {v:AV} (hp:dA v=true) (H:J):a_ [.sc] v H=some (v,H):=by
 cases v<;>simp [dA] at hp<;>simp [a_,aR,dA]
theorem Ek {bT:List (List Sh)} {v:AV} {rs:List AV} {K:List AV→Prop} (hp:dA v=true) (h:TV bT rs H fun zs=>K (v::zs)):TV ([.sc]::bT) (v::rs) H K:=
 qL (BH hp H) h
theorem El {α :Type} {bT:List (List Sh)} {es:List Sh} {v:AV} {rs:List AV} {K:List AV→Prop} {m:List α} {c: α →AV} (j:Nat) (hS:aC H L) (hj:L[j]? =some ⟨v,es.length,m.map c⟩) (hp:bG v) (hc: ∀x H,a_ es (c x) H=some (c x,H))
 (h: ∀H',aC H' (L.eraseIdx j)→TV bT rs H' fun zs=>K (.own es.length (m.map c)::zs)):TV ([.sl es]::bT) (v::rs) H K:=by
 obtain ⟨H',h1,h2⟩:=hS.take j hj hp hc;exact qL h1 (h H' h2)
theorem Em {bT:List (List Sh)} {es:List Sh} {cs:List AV} {rs:List AV} {K:List AV→Prop} (h:TC es cs H fun ys H' =>TV bT rs H' fun zs=>K (.agg ys::zs)):TV (es::bT) (.agg cs::rs) H K:=by
 obtain ⟨ys,H',h1,h2⟩:=h;exact qL (by simp only [a_,h1]) h2
theorem En {bT:List (List Sh)} {rs:List AV} {y v:AV} (hv:v=cj rs) (h:TV bT rs H fun zs=>y=cj zs): ∃rs zs L2,v=cj rs∧dg bT rs H=some (zs,L2)∧y=cj zs:=by
 obtain ⟨zs,H',h1,h2⟩:=h;exact ⟨rs,zs,H',hv,h1,h2⟩
def TH (ys:List AV) (H:J) (K:List AV→J→Prop):Prop:=K (aJ ys H).1 (aJ ys H).2
theorem Eo {K:List AV→J→Prop} (h:K [] H):TH [] H K:=h
theorem Ep {y:AV} {ys:List AV} {K:List AV→J→Prop} (hp: ∀H,aI y H=(y,H)) (h:TH ys H fun zs H' =>K (y::zs) H'):TH (y::ys) H K:=by
 unfold TH at h⊢;simp only [aJ,hp H];exact h
theorem xo {α :Type} {c: α →AV} (hc: ∀x H,aI (c x) H=(c x,H)): ∀(l:List α) (H:J),aJ (l.map c) H=(l.map c,H)
 |[],_=>rfl
 |x::l,H=>by simp only [List.map_cons,aJ,hc x H,xo hc l H]
theorem Er {α :Type} {sz:Nat} {m:List α} {c: α →AV} {ys:List AV} {K:List AV→J→Prop} (hS:aC H L) (hc: ∀x H,aI (c x) H=(c x,H)) (hz: ∀x,(c x).cells.length=sz)
 (h: ∀v H',bG v→aC H' (⟨v,sz,m.map c⟩::L)→TH ys H' fun zs gP=>K (v::zs) gP):TH (.own sz (m.map c)::ys) H K:=by
 have hs:bS sz (m.map c)=true:=by simp [bS,hz]
 have:=h _ _ (iJ H.bs.length H.st 0 (m.map c).length) (hS.lX (all:=m.map c) (List.take_of_length_le (Nat.le_refl _)) rfl hs);unfold TH at this⊢;simp only [aJ,aI,xo hc m H];exact this
theorem Es {cs ys:List AV} {K:List AV→J→Prop} (h:TH cs H fun ds H' =>TH ys H' fun zs gP=>K (.agg ds::zs) gP):TH (.agg cs::ys) H K:=by
 unfold TH at h⊢;simp only [aJ,aI];exact h
theorem Et {y:AV} {K:AV→J→Prop} (h:TH [y] H fun zs H' =>K (zs.headD .undef) H'):K (aI y H).1 (aI y H).2:=by
 unfold TH at h;simp only [aJ] at h;exact h
theorem Eu {ys:List AV} {K:AV→J→Prop} (h:TH ys H fun zs H' =>K (.aA zs) H'):K (aI (.aA ys) H).1 (aI (.aA ys) H).2:=by
 unfold TH at h;simp only [aI];exact h
variable {q th:Bool} {K:AV→J→Prop}
theorem Ev {α β :Type} {g:FuncId} {bO args ys:List AV} {bX:Bool} {o:Option α} {f: α →Option β} {r: β} {bT:List (List Sh)} (h:o.bind f=some r) (hr:(C.fT g).bT=bT) (hp:cf [] (args ++ bO) H=some (ys,bX))
 (hk: ∀x,o=some x→f x=some r→ ∃y,aq C g ys ⟨0,[]⟩ (fun v L=> ∃rs zs L2,v=cj rs∧dg bT rs L=some (zs,L2)∧y=cj zs)∧(cm y=true∧bw y=y∧ ∀H,aI y H=(y,H))∧K y H):kE C q th (.fn g bO) args H K:=by
 refine qH h hr hp fun x hx hf=> ?_;obtain ⟨y,h1,⟨h2,h3,h4⟩,h5⟩:=hk x hx hf;refine ⟨y,h1,.inr h2,?_⟩;rw [h3,h4 H];split<;>exact h5
theorem Ew {α β :Type} {g:FuncId} {bO args ys:List AV} {bX:Bool} {o:Option α} {f: α →Option β} {r: β} {bT:List (List Sh)} (h:o.bind f=some r) (hr:(C.fT g).bT=bT) (hp:cf [] (args ++ bO) H=some (ys,bX))
 (hk: ∀x,o=some x→f x=some r→ ∃y,aq C g ys ⟨0,[]⟩ (fun v L=> ∃rs zs L2,v=cj rs∧dg bT rs L=some (zs,L2)∧y=cj zs)∧cm y=true∧K (aI y H).1 (aI y H).2):kE C q true (.fn g bO) args H K:=by
 refine qH h hr hp fun x hx hf=> ?_;obtain ⟨y,h1,h2,h5⟩:=hk x hx hf;refine ⟨y,h1,.inr h2,?_⟩;simpa using h5
theorem Ey {α β :Type} {g:FuncId} {bO args ys:List AV} {o:Option α} {f: α →Option β} {r: β} {bT:List (List Sh)} (h:o.bind f=some r) (hr:(C.fT g).bT=bT) (hp:cf [] (args ++ bO) H=some (ys,false))
 (hk: ∀x,o=some x→f x=some r→ ∃y,aq C g ys ⟨0,[]⟩ (fun v L=> ∃rs zs L2,v=cj rs∧dg bT rs L=some (zs,L2)∧y=cj zs)∧K (bw y) H):kE C q false (.fn g bO) args H K:=by
 refine qH h hr hp fun x hx hf=> ?_;obtain ⟨y,h1,h5⟩:=hk x hx hf;exact ⟨y,h1,.inl rfl,h5⟩
theorem xp {α :Type} {c: α →AV} (hc: ∀x,cm (c x)=true): ∀(l:List α),ei (l.map c)=true
 |[]=>rfl
 |x::l=>by simp only [List.map_cons,ei,hc x,xp hc l,Bool.and_self]
theorem Ez {α :Type} {c: α →AV} (sz:Nat) (hc: ∀x,cm (c x)=true) (l:List α):cm (.own sz (l.map c))=true:=by
 simp only [cm];exact xp hc l
theorem EA:ei []=true:=rfl
theorem EB {y:AV} {ys:List AV} (h1:cm y=true) (h2:ei ys=true):ei (y::ys)=true:=by simp only [ei,h1,h2,Bool.and_self]
theorem EC {ys:List AV} (h:ei ys=true):cm (.agg ys)=true:=by simp only [cm];exact h
theorem ED {ys:List AV} (h:ei ys=true):cm (.aA ys)=true:=by simp only [cm];exact h
end
end Go.VS
namespace Go.VS
def xq (t b:TypeId):Code:=
 (Go.Code.seq
  (Go.Code.region 0 #[{dst:=some 2,op:=Go.Op.assign (Go.Operand.const (Go.Value.slice none 0 0)),type:=t,pos:= "slices.go:355",after:= #[],guard:=none}] false)
  (Go.Code.seq
   (Go.Code.seq
    (Go.Code.region 1
     #[{dst:=some 3,op:=Go.Op.move (Go.Operand.tmp 0),type:=t,pos:= "slices.go:357",after:= #[],guard:=none},
      {dst:=some 4,op:=Go.Op.binOp Go.BinOp.eql t (Go.Operand.tmp 3) (Go.Operand.const (Go.Value.slice none 0 0)) t,type:=b,pos:= "slices.go:357",after:= #[{on:=0,ground:=Go.Ground.data}],guard:=none}]
     false)
    (Go.Code.cond (Go.Operand.tmp 4)
     (Go.Code.seq
      (Go.Code.region 2 #[{dst:=some 2,op:=Go.Op.assign (Go.Operand.const (Go.Value.slice none 0 0)),type:=t,pos:= "slices.go:358",after:= #[],guard:=none}] false)
      Go.Code.ret)
     Go.Code.skip))
   (Go.Code.seq
    (Go.Code.region 3
     #[{dst:=some 5,op:=Go.Op.buildSlice t 0 #[],type:=t,pos:= "slices.go:362",after:= #[],guard:=none},
      {dst:=some 6,op:=Go.Op.move (Go.Operand.tmp 0),type:=t,pos:= "slices.go:362",after:= #[],guard:=none},
      {dst:=some 7,op:=Go.Op.call {callee:=Go.Callee.builtin Go.Builtin.append,args:= #[Go.Operand.tmp 5,Go.Operand.tmp 6],argTypes:= #[t,t]},type:=t,pos:= "slices.go:362",after:= #[{on:=0,ground:=Go.Ground.data},{on:=1,ground:=Go.Ground.data}],guard:=none},
      {dst:=some 2,op:=Go.Op.assign (Go.Operand.tmp 7),type:=t,pos:= "slices.go:362",after:= #[{on:=2,ground:=Go.Ground.data},{on:=2,ground:=Go.Ground.chain},{on:=0,ground:=Go.Ground.phase},{on:=1,ground:=Go.Ground.phase},{on:=2,ground:=Go.Ground.phase}],guard:=none}]
     false)
    Go.Code.ret)))
def kH:bq:=fun _ _ _ _=>False
def g_ (E:aM):aK:=⟨E,fun _=>{},fun _=>none,kH⟩
theorem BI {w:World} {H:J} {φ :af} {A:aj} {xs:List AV} {v:Value} (h:R w H φ A (.fz xs) v): ∃a cap,v= .slice a xs.length cap:=by
 cases h.dK with
 |cQ a cap=>exact ⟨a,cap,rfl⟩
 |fz _ c off cap n arr T fr=>exact ⟨_,_,rfl⟩
theorem BJ {P:Program} {w:World} {t e:TypeId} {a:Option Addr} {n cap:Nat} (h:(underlying t).run P w= .ok (.slice e) w) (d:Nat): ∃b,(Op.equalIn (d+1) t (.slice a n cap) (.slice none 0 0)).run P w= .ok b w∧(b=true→a=none):=by
 cases a with
 |none=>exact ⟨true,by simp [Op.equalIn,h],fun _=>rfl⟩
 |some a=>exact ⟨false,rk h d,by simp⟩
theorem BK: ∀c:Code,cK {} c=true:=by
 intro c;induction c with
 |seq a b gu fl=>simp [cK,gu,fl]
 |cond c a b gu fl=>simp [cK,gu,fl]
 |block id a ih=>simp [cK,ih]
 |loop a ih=>simp [cK,ih]
 |region id ops draw=>simp [cK]
 |_=>simp [cK]
section
variable {P:Program} {E:aM}
theorem BL (hm:P.follows .mixedOrders=true) (hE: ∀t ti,E t=some ti→aS P t ti) {f:FuncId} {fn:Func} {t b e:TypeId} {ti te:TI} (hf:P.funcs[f]? =some fn) (qi:(fn.name== "runtime.NumGoroutine")=false)
 (hb:fn.body=some (xq t b)) (hr:fn.results= #[.tmp 2]) (hn:fn.ntmps=8) (ht:E t=some ti) (hu:ti.au= .sl e) (he:E e=some te) (xs:List AV) (H:J) (hz:bS te.sz xs=true) (h0:te.sz≠0) (ea:roomy xs.length te.bytes=true):
 b8 P f [.fz xs] H (fun v H' =>v=(if xs=[] then .e0 else .ref H.bs.length H.st 0 xs.length)∧H' =(if xs=[] then H else H.new te.sz false xs)):=by
 have du:Exact kH:=fun _ _ _ _ h=>h.elim;have hX: ∀f ys H K,kH f ys H K→b8 P f ys H K:=fun _ _ _ _ h=>h.elim;have hD:lH P (g_ E) kH:=tL (C:=g_ E) du hm hE hX;have l8:=fun (c:Code) s H K Q w φ A a h=>sZ (P:=P) (C:=g_ E) (X:=kH) hm hE hX hD {} c 0 s H K Q w φ A a (BK c) h;refine ⟨⟨fn,hf,qi,by simp [hb]⟩,fun w A φ us ae hl cC=> ?_⟩
 refine calls_of_wp hf hb ?_;rw [hn];obtain ⟨v,rfl⟩: ∃v,us= #[v]:=by
  match us,hl with
  |⟨[v]⟩,_=>exact ⟨v,rfl⟩
 have hv:R w H φ A (.fz xs) v:=cC 0 _ _ rfl rfl;have eC:SF w H φ A [.fz xs,.undef,.undef,.undef,.undef,.undef,.undef,.undef] {tmps:= #[v] ++ Array.replicate (8-1) undef,defers:=[]}:=by
  refine ⟨rfl,fun i x u hx hu=> ?_,rfl⟩
  match i with
  |0=>simp at hx hu;subst hx;subst hu;exact hv
  |i+1=>
   have:x= .undef:=by
    match i with
    |0|1|2|3|4|5|6=>simpa using hx.symm
    |i+7=>simp at hx
   subst this;exact .fr _ _ (.undef _)
 have fin: ∀(s' :ah) (H' :J) (ak:af) (A' :aj) (a' :Act) (w' :World) (x:AV),Out w H φ A w' H' ak A' →SF w' H' ak A' s' a' →s'.getD 2 .undef=x→(∀u,R w' H' ak A' x u→ ∃y,R w' H' ak A' y u∧(y=(if xs=[] then .e0 else .ref H.bs.length H.st 0 xs.length)∧H' =(if xs=[] then H else H.new te.sz false xs)))→
  a'.defers=[]∧ ∃v,(results fn a'.tmps).run P w' = .ok v w' ∧jc w H φ A (fun v H' =>v=(if xs=[] then .e0 else .ref H.bs.length H.st 0 xs.length)∧H' =(if xs=[] then H else H.new te.sz false xs)) (.returned v) w' :=by
  intro s' H' ak A' a' w' x h1 h2 hx hy
  refine ⟨h2.eW,?_⟩;obtain ⟨cI,k1,k2,k3⟩:=s7 (P:=P) (C:=g_ E) hE h1.st h2 (fn:=fn) (rs:=[x]) (by rw [hr];simp only [dI,hx,Option.map_some])
  obtain ⟨u,rfl⟩: ∃u,cI=[u]:=by
   match cI,k2 with
   |[u],_=>exact ⟨u,rfl⟩
  obtain ⟨y,BM,BN⟩:=hy u (k3 0 x u rfl rfl);exact ⟨_,k1,y,H',ak,A',h1,by simpa [iy] using BM,BN⟩
 refine wp_seq (l8 _ _ H (fun e s1 H1=>e= .normal∧s1=[.fz xs,.undef,.nil,.undef,.undef,.undef,.undef,.undef]∧H1=H) _ w φ A _ ?_ ae eC ?_)
 ·simp [cF,j0,iP,fS,aH,cP,dH,wpOp,dT,aO,ev,ofValue,bn,g_]
 rintro e1 s1 H1 φ1 A1 a1 w1 o1 cR ⟨rfl,rfl,rfl⟩;show (Code.seq _ _).wp P _ a1 w1;have jP:=o1.st;refine wp_seq (wp_seq (wp_region_list ?_));simp only [wpList];rw [if_pos (by simp [Region.wanted])]
 refine .inl (mZ (C:=g_ E) (X:=kH) hE hX jP (s:=[.fz xs,.undef,.nil,.undef,.undef,.undef,.undef,.undef]) (fun x _=>cR.ev x) (th:=false) (K:=fun x H' =>x= .fz xs∧H' =H1) (by simp [wpOp,dT,aO,ev]) ?_)
 rintro x3 v3 w3 H3 cN A3 o3 qM ⟨rfl,rfl⟩;have qd:=(cR.mono o3.bE).set (some 3) qM;have lR:=o3.st;rw [if_pos (by simp [Region.wanted])]
 have BO:(a1.put (some 3) v3).eval (.tmp 3)=v3:=by
  have:a1.tmps.size=8:=by have:=cR.len;simpa using this.symm
  simp [Act.eval,Act.put,this]
 obtain ⟨a0,cap,rfl⟩:=BI qM;obtain ⟨bb,xr,BP⟩:=BJ (a:=a0) (n:=xs.length) (cap:=cap) ((hE t ti ht).sl w3 hu) 9999;have BQ:cq w3 H3 cN A3 H3 ((execOp (a1.put (some 3) (.slice a0 xs.length cap)).eval {dst:=some 4,op:=Go.Op.binOp Go.BinOp.eql t (Go.Operand.tmp 3) (Go.Operand.const (Go.Value.slice none 0 0)) t,type:=b,pos:= "slices.go:357",after:= #[{on:=0,ground:=Go.Ground.data}],guard:=none}).run P w3) (.bool bb):=by
  have hg:=iU P w3 .eql t (.tmp 3) (.const (.slice none 0 0)) (.slice a0 xs.length cap) (.slice none 0 0) (by simp) rfl
  have BR:binOp .eql t (.slice a0 xs.length cap) (.slice none 0 0)=(do pure (.bool (←Op.equal t (.slice a0 xs.length cap) (.slice none 0 0)))):=rfl
  rw [←oG] at xr;refine cq.lu lR (.inl rfl) (bj.fJ lR ⟨.bool bb,?_,.fr _ _ (.bool _)⟩);rw [BO];show (do eqGuard .eql t (.tmp 3) (.const (.slice none 0 0)) (.slice a0 xs.length cap) (.slice none 0 0);binOp .eql t (.slice a0 xs.length cap) (.slice none 0 0):Sem Value).run P w3=_
  simp [hg,BR,xr]
 refine .inl (BQ.upon fun v4 w4 nl A4 o4 BS=> ?_);have xt:=(qd.mono o4.bE).set (some 4) BS;have qN:=o4.st;have xu:Out w H3 φ A w4 H3 nl A4:=o1.trans ae (o3.trans jP (o4.trans lR (.refl qN)));simp only [bn,List.set_cons_succ,List.set_cons_zero] at xt;simp only [Exit.then];refine l8 _ [.fz xs,.undef,.nil,.fz xs,.bool bb,.undef,.undef,.undef] H3 (fun e s' H' =>H' =H3∧if bb=true then e= .ret∧s' =[.fz xs,.undef,.nil,.fz xs,.bool bb,.undef,.undef,.undef] else e= .normal∧s' =[.fz xs,.undef,.nil,.fz xs,.bool bb,.undef,.undef,.undef]) _ w4 nl A4 _ ?_ qN xt ?_
 ·cases bb
  ·simp [cF,gF,me,aH,ev,g_]
  ·simp [cF,gF,me,j0,iP,fS,aH,cP,dH,wpOp,dT,aO,ev,ofValue,bn,g_];exact ⟨_,_,⟨rfl,rfl⟩,rfl,rfl⟩
 rintro e5 s5 H5 qe A5 a5 w5 o5 xv ⟨rfl,nZ⟩;cases bb with
 |true=>
  simp only [if_true] at nZ;obtain ⟨rfl,rfl⟩:=nZ;obtain rfl:=BP rfl;have dY:xs=[]:=by
   cases EE:qM.dK with
   |cQ=>rfl
  subst dY;show (bodyPost P fn _) .ret a5 w5;refine fin _ _ _ _ _ _ .nil (xu.trans ae o5) xv rfl fun u hu=>⟨.e0,?_,by simp⟩
  have:=hu.dh;subst this;exact .fr _ _ (.e0 none)
 |false=>
  simp only [Bool.false_eq_true,if_false] at nZ;obtain ⟨rfl,rfl⟩:=nZ;show (Code.seq _ _).wp P _ a5 w5;refine l8 _ [.fz xs,.undef,.nil,.fz xs,.bool false,.undef,.undef,.undef] H5 (fun e s' H' =>e= .ret∧s'.getD 2 .undef=(if xs=[] then .e0 else .ref H5.bs.length H5.st 0 xs.length)∧H' =(if xs=[] then H5 else H5.new te.sz false xs)) _ w5 qe A5 a5 ?_ o5.st xv ?_
  ·by_cases dY:xs=[]
   ·subst dY;simp [cF,gF,j0,iP,fS,aH,cP,dH,wpOp,dT,aO,ev,bn,g_,cO,ht,hu,he,dm,eB,cJ,bS,h0];refine ⟨_,_,⟨rfl,rfl⟩,_,_,⟨rfl,rfl⟩,_,_,⟨rfl,rfl⟩,?_⟩;simp
   ·have hlen: ¬xs.length=0:=by simpa using dY
    simp [cF,gF,j0,iP,fS,aH,cP,dH,wpOp,dT,aO,ev,bn,g_,cO,ht,hu,he,dm,eB,cJ,h0,dY];refine ⟨_,_,⟨rfl,rfl⟩,_,_,⟨rfl,rfl⟩,_,_,⟨rfl,rfl⟩,?_⟩;simp [hz,ea,dY]
  ·rintro e6 s6 H6 EF A6 a6 w6 o6 BT ⟨rfl,BU,rfl⟩;show (bodyPost P fn _) .ret a6 w6;exact fin _ _ _ _ _ _ _ (xu.trans ae (o5.trans qN o6)) BT BU fun u hu=>⟨_,hu,rfl,rfl⟩
def xw (ids:List (FuncId×Nat×Nat)):bq:=fun f ys H K=> ∃sz b xs,(f,sz,b)∈ids∧ys=[.fz xs]∧bS sz xs=true∧sz≠0∧roomy xs.length b=true∧K (if xs=[] then .e0 else .ref H.bs.length H.st 0 xs.length) (if xs=[] then H else H.new sz false xs)
structure xx (P:Program) (E:aM) (f:FuncId) (sz b:Nat):Prop where
 out: ∃fn t bt e ti te,P.funcs[f]? =some fn∧(fn.name== "runtime.NumGoroutine")=false∧fn.body=some (xq t bt)∧fn.results= #[.tmp 2]∧fn.ntmps=8∧E t=some ti∧ti.au= .sl e∧E e=some te∧te.sz=sz∧te.bytes=b
theorem BV (hm:P.follows .mixedOrders=true) (hE: ∀t ti,E t=some ti→aS P t ti) {ids:List (FuncId×Nat×Nat)} (qO: ∀x∈ids,xx P E x.1 x.2.1 x.2.2):
 ∀f ys H K,xw ids f ys H K→ ∃v H',b8 P f ys H (fun v1 H1=>v1=v∧H1=H')∧K v H' :=by
 rintro f ys H K ⟨sz,b,xs,h1,rfl,h2,h3,h4,h5⟩;obtain ⟨fn,t,bt,e,ti,te,k1,k2,k3,k4,k5,k6,k7,k8,rfl,rfl⟩:=(qO _ h1).out;exact ⟨_,_,BL hm hE k1 k2 k3 k4 k5 k6 k7 k8 xs H h2 h3 h4,h5⟩
end
theorem EG {E:aM} {s:ah} {H:J} {L:List It} {γ :Type} {l:List γ} {c: γ →AV} {t:TypeId} {x:Operand} {ti:TI} {e:TypeId} (j:Nat) (hS:aC H L) {v w:AV} {sz:Nat} (hj:L[j]? =some ⟨v,sz,l.map c⟩) (hp:bG v)
 (ht:E t=some ti) (hu:ti.au= .sl e) {op:Op} (bd:op= .call {callee:= .builtin .len,args:= #[x],argTypes:= #[t]}) (hx:ev s x=v) (hw:w= .int .i64 l.length):h_ E op s H=some (w,H):=by
 subst bd hx hw;have h1:(some t).bind E=some ti:=ht;have h2:=hS.len j hj hp;rw [List.length_map] at h2;simp only [h_,List.map_cons,List.map_nil,dm,List.getElem?_toArray,List.getElem?_cons_zero,h1,h2,hu];rcases hp.ok with h|h|⟨_,_,_,_,h⟩<;>rw [h]
theorem EH {E:aM} {s:ah} {H:J} {L:List It} {α β :Type} {t:TypeId} {x i:Operand} {ti te:TI} {e:TypeId} (j:Nat) (hS:aC H L) {v w:AV} {l:List α} {c: α →AV} {sz:Nat} (hj:L[j]? =some ⟨v,sz,l.map c⟩)
 (ht:E t=some ti) (hu:ti.au= .sl e) (he:E e=some te) (aB:sz=te.sz) {k:IntKind} {n:Int} {l0:List β} {y: β} {id ad off:Nat} (hv:v= .ref id ad off l0.length) (hb:idx l0 n=some y)
 (hx:ev s x=v) (hi:ev s i= .int k n) (hw:w= .ptr id ad (off+n.toNat) 0) {op:Op} (bd:op= .indexAddr t x i):aO E op s H=some (w,H):=by
 subst bd;obtain ⟨h0,h2,h1⟩:=kD hb;subst hv;obtain ⟨_,h3,b,hb,h4,_,h5,h6⟩:=hS.ok j _ hj;simp only at h3 h4 h5;simp only [aO,ht,hi,hu,he,hx,hb];rw [if_pos ⟨by rw [h4,aB],h0,h2,h5⟩,hw]
theorem EI {E:aM} {s:ah} {H:J} {L:List It} {α :Type} {t:TypeId} {x:Operand} {ti:TI} (j:Nat) (hS:aC H L) {v w:AV} {l:List α} {c: α →AV} {sz:Nat} (hj:L[j]? =some ⟨v,sz,l.map c⟩)
 (ht:E t=some ti) {n:Int} {y: α} {id ad off k o:Nat} (hv:v= .ref id ad off k) (hb:idx l n=some y)
 (hx:ev s x= .ptr id ad (off+n.toNat) o) (hw:bR ti (c y) o=some w) {op:Op} (bd:op= .load t x):aO E op s H=some (w,H):=by
 subst bd;obtain ⟨b,h1,h2⟩:=hS.elem j hj hv hb;simp only [aO,ht,hx,h1,h2,hw]
end Go.VS
namespace Go.VS
structure gy (w:List AV) (n:Nat):Prop where
 len:w.length=n
 sl: ∀a∈w,bG a
def BW {α β :Type} (p: α →List β) (c: β →AV) (z:Nat) (w:List AV) (l:List α):List It:=List.zipWith (fun a x=>⟨a,z,(p x).map c⟩) w l
def EJ {α :Type} (m:AV→ α →AV) (w:List AV) (l:List α):List AV:=List.zipWith m w l
def EK {α β :Type} (p: α →List β) (c: β →AV) (z:Nat) (w:List AV) (l:List α) (i:Nat):List It:=(BW p c z w l).eraseIdx i
theorem EL {α :Type} (c: α →AV) (l:List α):BD c l= .fz (l.map c):=rfl
def BX:List (List It)→List It→List It
 |[],F=>F
 |a::as,F=>a ++ BX as F
section
variable {H:J} {L F R:List It}
variable {α β :Type} {p: α →List β} {c: β →AV} {z:Nat} {w:List AV} {l:List α} {m:AV→ α →AV} {v:AV} {sz:Nat}
theorem gy.nil:gy [] 0:=⟨rfl,by simp⟩
theorem gy.get (h:gy w l.length) {i:Int} {b: α} (hi:idx l i=some b): ∃a,w[i.toNat]? =some a∧bG a:=by
 obtain ⟨_,_,h1⟩:=kD hi;have:=(List.getElem?_eq_some_iff.1 h1).1;have hw:i.toNat<w.length:=by rw [h.len];exact this
 exact ⟨_,List.getElem?_eq_getElem hw,h.sl _ (List.getElem_mem hw)⟩
theorem gy.set (h:gy w l.length) {a:AV} (ha:bG a) (i:Nat) (y: α):gy (w.set i a) (l.set i y).length:=by
 refine ⟨by simpa using h.len,fun x hx=> ?_⟩
 rcases List.mem_or_eq_of_mem_set hx with h1|rfl
 ·exact h.sl _ h1
 ·exact ha
theorem gy.app {w' :List AV} {l' :List α} (h:gy w l.length) (h' :gy w' l'.length):gy (w ++ w') (l ++ l').length:=by
 refine ⟨by simp [h.len,h'.len],fun x hx=> ?_⟩
 rcases List.mem_append.1 hx with h1|h1
 ·exact h.sl _ h1
 ·exact h'.sl _ h1
structure EM (v:AV) (lo n:Nat) (v' :AV):Prop where
 out:(v= .nil∧v' = .nil)∨(v= .e0∧v' = .e0)∨ ∃id ad off len,v= .ref id ad off len∧v' = .ref id ad (off+lo) n
structure EN (H:J) (v:AV) (n:Nat):Prop where
 out:((v= .nil∨v= .e0)∧n=0)∨ ∃id ad off len b,v= .ref id ad off len∧H.ap id ad=some b∧off+n≤b.el.length
structure EO (v:AV) (n k:Nat) (v' :AV):Prop where
 out:((v= .nil∨v= .e0)∧v' =v)∨ ∃id ad off len,v= .ref id ad off len∧v' = .ref id ad (off+n) k
def EP {γ :Type} (l:List γ) (lo:Int) (m:List γ) (d: γ):List γ :=l.take lo.toNat ++ List.replicate m.length d ++ l.drop (lo.toNat+m.length)
end
theorem EQ {C:aK} {kp:List Nat} {s s' :ah} {H:J} {K:Ex→ah→J→Prop} (hk:dU kp s=s') (h:K .normal s' H):aH (aq C) C (.hZ [] (some kp)) s H K:=by
 subst hk;exact h
theorem ER {l:List UInt8} {n:Nat} {H:J} {K:AV→J→Prop}:jj (ej l n) 0 H K=K (.bool (decide (n<l.length))) H:=by
 unfold ej;split
 ·rename_i h;simp [jj,cr,h]
 ·rename_i h;simp [jj,cr,h]
theorem ES {l:List UInt8} {n:Nat} (h:decide (n<l.length)=true) {H:J} {K:AV→J→Prop}:jj (ej l n) 1 H K=K (.int .i64 (n:Int)) H:=by
 simp only [decide_eq_true_eq] at h;simp [ej,h,jj,cr]
def qP {σ ρ :Type} (keep:List Nat) (Inv: σ →ah→J→Prop) (pos: σ →Nat) (n:Nat) (y:LR σ ρ) (K:Ex→ah→J→Prop):Ex→ah→J→Prop
 | .normal,s,H=> ∃x',y= .next x' ∧Inv x' (dU keep s) H∧pos x' =n
 | .exit i,s,H=>K (.exit i) s H
 | .ret,s,H=>K .ret s H
section
variable {C:aK} {K K1:Ex→ah→J→Prop} {s:ah} {H:J}
theorem ET {σ ρ :Type} (gC:Good C) {f: σ →Option (LR σ ρ)} {x: σ} {r: ρ} {keep:List Nat} {a:AC} {x0:Operand} {T:TypeId} {t u:Nat} {l:List UInt8} {ti:TI} (hT:C.E T=some ti) (hu:ti.au= .str) (he:ev s x0= .str l) (eG:t<s.length)
 (hw:eZ f x=some r) (Inv: σ →ah→J→Prop) (pos: σ →Nat) (hp:pos x=0) (h0:Inv x (dU keep (s.set t .undef)) H)
 (hb: ∀x y s H,f x=some y→(∀r',y= .done r' →r' =r)→Inv x s H→ ∀K1,K1=qP keep Inv pos (jr l (pos x)) y K→aH (aq C) C a (s.set u (ej l (pos x))) H K1):aH (aq C) C (.jZ x0 T t u ⟨keep,false⟩ a) s H K:=by
 obtain ⟨n,hn⟩:=l5.1 hw;have key: ∀(n:Nat) (x: σ) (s:ah) (H:J),iter f n x=some r→Inv x s H→ ∀m,jq (fun n s H K=>aH (aq C) C a (s.set u (ej l n)) H K) (jr l) (eR ⟨keep,false⟩ m) K (pos x) s H:=by
  intro n;induction n with
  |zero=>intro x s H h;simp [iter] at h
  |succ n ih=>
   intro x s H h hi m;simp only [iter] at h;cases hf:f x with
   |none=>rw [hf] at h;simp at h
   |some y=>
    rw [hf] at h;simp only [Option.bind_some] at h;refine jq.round (aq.up gC.up) (f:=fun n s=>s.set u (ej l n)) (dw (aq.up gC.up) _ _ _ _ _ (fun e s' H' he=> ?_) (hb x y s H hf (fun r' e=>by subst e;simpa using h) hi _ rfl))
    cases e with
    |normal=>
     obtain ⟨x',rfl,f_,BY⟩:=he;rw [←BY];exact ih x' _ _ h f_ m
    |exit i=>exact he
    |ret=>exact he
 have:=key n x _ H hn h0 H.bs.length;rw [hp] at this;simp only [aH,hT,he];exact ⟨hu,eG,this⟩
theorem EU {σ ρ :Type} {keep:List Nat} {Inv: σ →ah→J→Prop} {pos: σ →Nat} {n:Nat} {y:LR σ ρ} {x' : σ} (hK:K1=qP keep Inv pos n y K) (hy:some (LR.next x')=some y) (hi:Inv x' (dU keep s) H) (hp:pos x' =n):K1 .normal s H:=by
 rw [hK];exact ⟨x',(Option.some.inj hy).symm,hi,hp⟩
theorem EV {σ ρ :Type} {keep:List Nat} {Inv: σ →ah→J→Prop} {pos: σ →Nat} {n:Nat} {y:LR σ ρ} {i:Nat} (hK:K1=qP keep Inv pos n y K) (h:K (.exit i) s H):K1 (.exit i) s H:=by rw [hK];exact h
end
end Go.VS
