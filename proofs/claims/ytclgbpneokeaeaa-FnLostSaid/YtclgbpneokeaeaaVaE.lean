import Derived.Test.YtclgbpneokeaeaaVaD
namespace Go.VS
def FZ (l:List (List Nat×List Sh)) (s:aj) (H:J) (P:aj→J→Prop):Prop:= ∃s' H',dt l s H=some (s',H')∧P s' H'
section
variable {C:aH} {s:aj} {H:J} {L:List It}
theorem u3 (P:aj→J→Prop):FZ [] s H P=P s H:=by
 apply propext;constructor
 ·rintro ⟨s',H',h,hp⟩;simp only [dt,Option.some.injEq,Prod.mk.injEq] at h;obtain ⟨rfl,rfl⟩:=h;exact hp
 ·exact fun h=>⟨s,H,rfl,h⟩
theorem p7 {t:Nat} {ts:List Nat} {e:Sh} {sh:List Sh} {l:List (List Nat×List Sh)} {P:aj→J→Prop} {y:AV} {H1:J} (ht:aY (e::sh) (s.getD t .undef) H=some (y,H1)) (h:FZ l (fM (s.getD t .undef) (bB y) ts (s.set t (bB y))) H1 P):FZ ((t::ts,e::sh)::l) s H P:=by
 obtain ⟨s',H',h1,h2⟩:=h;exact ⟨s',H',by simp only [dt,ht];exact h1,h2⟩
theorem u4 {f:AV→J→Option (AV×J)}: ∀(xs:List AV) (H:J),(∀x∈xs,∀H,f x H=some (x,H))→dn f xs H=some (xs,H)
 |[],H,_=>rfl
 |x::xs,H,h=>by
  simp only [dn,h x (by simp) H,u4 xs H (fun y hy=>h y (by simp [hy]))]
theorem u5 {α :Type} {c: α →AV} (hz: ∀x,bB (c x)=c x): ∀(l:List α),bU (l.map c)=l.map c
 |[]=>rfl
 |x::l=>by simp only [List.map_cons,bU,hz x,u5 hz l]
theorem ay.del (hS:ay H L) {id:Nat} (h: ∀(i:Nat) (it:It),L[i]? =some it→bS it.v≠some id):ay (H.del id) L:=
 ⟨fun i it hi=>(hS.ok i it hi).frame fun k ad hk=>by
  have aK: ¬id=k:=fun e=>h i it hi (by rw [hk,e])
  simp only [J.ap,J.del,List.getElem?_set,if_neg aK],hS.b_⟩
theorem Aw (hS:ay H L) {j:Nat} {v:AV} {sz:Nat} {el:List AV} (hj:L[j]? =some ⟨v,sz,el⟩) (hp:bp v):fh v v=true:=by
 have af:=(hS.ok j _ hj).2;simp only at af;split at af
 ·rfl
 ·rfl
 ·simp [fh]
 ·rename_i id ad ix off;obtain ⟨rfl,rfl,_⟩:=af;exact absurd rfl (hp.ne id ad)
 ·exact af.elim
theorem ay.take {α :Type} (hS:ay H L) (j:Nat) {v:AV} {es:List Sh} {l:List α} {c: α →AV} (hj:L[j]? =some ⟨v,es.length,l.map c⟩) (hp:bp v) (hc: ∀x H,aY es (c x) H=some (c x,H)):
 ∃H',aY [.sl es] v H=some (.own es.length (l.map c),H')∧ay H' (L.eraseIdx j):=by
 have af:=hS.ok j _ hj;have hf:=hS.front j hj;obtain ⟨k0,af⟩:=af;have e1:aY [.sl es] v H=aO (.sl es) v H:=by
  have p8: ∀cs,v≠ .agg cs:=by rintro cs rfl;exact af
  cases v with
  |agg cs=>exact absurd rfl (p8 cs)
  |_=>simp only [aY]
 rw [e1];simp only at af;split at af
 ·rename_i hv;exact ⟨H,by simp only [aO,af],hf.tl⟩
 ·exact ⟨H,by simp only [aO,af],hf.tl⟩
 ·rename_i id ad off len;obtain ⟨k1,b,hb,k2,k3,k4,k5⟩:=af;have hm:dn (aY es) (l.map c) (H.del id)=some (l.map c,H.del id):=u4 _ _ (by
   intro x hx H;obtain ⟨y,_,rfl⟩:=List.mem_map.1 hx;exact hc y H)
  refine ⟨H.del id,?_,hf.tl.del fun i it hi e=> ?_⟩
  ·simp only [aO,hb];rw [if_pos ⟨k2,k4,.inl k3⟩,k5,hm]
  ·have:=hf.b_ 0 (i+1) _ it id rfl (by simpa using hi) rfl e
   omega
 ·rename_i id ad ix off;obtain ⟨rfl,rfl,_⟩:=af;exact absurd rfl (hp.ne id ad)
 ·exact af.elim
theorem CT {α :Type} {t:Nat} {ts:List Nat} {es:List Sh} {l:List (List Nat×List Sh)} {P:aj→J→Prop} {v:AV} {m:List α} {c: α →AV} (j:Nat) (hS:ay H L) (hj:L[j]? =some ⟨v,es.length,m.map c⟩) (hp:bp v) (hv:s.getD t .undef=v) (hc: ∀x H,aY es (c x) H=some (c x,H)) (hz: ∀x,bB (c x)=c x)
 (h: ∀H',fh v v=true→ay H' (L.eraseIdx j)→FZ l (fM v (.fz (m.map c)) ts (s.set t (.fz (m.map c)))) H' P):FZ ((t::ts,[.sl es])::l) s H P:=by
 obtain ⟨H',h1,h2⟩:=hS.take j hj hp hc;rw [←hv] at h1;refine p7 h1 ?_;simp only [bB,u5 hz,hv];exact h H' (Aw hS hj hp) h2
theorem CU {t:Nat} {ts:List Nat} {es:List Sh} {l:List (List Nat×List Sh)} {P:aj→J→Prop} (hv:s.getD t .undef= .nil) (h:FZ l (fM .nil (.fz []) ts (s.set t (.fz []))) H P):FZ ((t::ts,[.sl es])::l) s H P:=by
 refine p7 (y:= .own es.length []) (H1:=H) (by rw [hv];simp only [aY,aO]) ?_
 rw [hv];exact h
def TC (es:List Sh) (cs:List AV) (H:J) (K:List AV→J→Prop):Prop:= ∃ys H',cp es cs H=some (ys,H')∧K ys H'
theorem CV {K:List AV→J→Prop} (h:K [] H):TC [] [] H K:=⟨[],H,by simp only [cp],h⟩
theorem ny {e:Sh} {es:List Sh} {v y:AV} {cs:List AV} {H1:J} {K:List AV→J→Prop} (ht:aO e v H=some (y,H1)) (h:TC es cs H1 fun ys H' =>K (y::ys) H'):TC (e::es) (v::cs) H K:=by
 obtain ⟨ys,H',h1,h2⟩:=h;exact ⟨y::ys,H',by simp only [cp,ht,h1],h2⟩
theorem CW {es:List Sh} {v:AV} {cs:List AV} {K:List AV→J→Prop} (hp:dp v=true) (h:TC es cs H fun ys H' =>K (v::ys) H'):TC (.sc::es) (v::cs) H K:=
 ny (by simp only [aO,hp,if_true]) h
theorem CX {es fs:List Sh} {xs cs:List AV} {K:List AV→J→Prop} (h:TC es cs H fun ys H' =>K (.fz xs::ys) H'):TC (.sl fs::es) (.fz xs::cs) H K:=
 ny (by simp only [aO]) h
theorem CY {es fs:List Sh} {cs:List AV} {K:List AV→J→Prop} (h:TC es cs H fun ys H' =>K (.own fs.length []::ys) H'):TC (.sl fs::es) (.nil::cs) H K:=
 ny (by simp only [aO]) h
theorem CZ {α :Type} {es fs:List Sh} {v:AV} {cs:List AV} {K:List AV→J→Prop} {m:List α} {c: α →AV} (j:Nat) (hS:ay H L) (hj:L[j]? =some ⟨v,fs.length,m.map c⟩) (hp:bp v) (hc: ∀x H,aY fs (c x) H=some (c x,H))
 (h: ∀H',ay H' (L.eraseIdx j)→TC es cs H' fun ys H' =>K (.own fs.length (m.map c)::ys) H'):TC (.sl fs::es) (v::cs) H K:=by
 obtain ⟨H',h1,h2⟩:=hS.take j hj hp hc;have h3:aO (.sl fs) v H=some (.own fs.length (m.map c),H'):=by
  have p8: ∀cs,v≠ .agg cs:=by rintro cs rfl;rcases hp.ok with h|h|⟨_,_,_,_,h⟩<;>simp at h
  cases v with
  |agg cs=>exact absurd rfl (p8 cs)
  |_=>simpa only [aY] using h1
 exact ny h3 (h H' h2)
theorem C0 {t:Nat} {e:Sh} {sh:List Sh} {l:List (List Nat×List Sh)} {P:aj→J→Prop} {cs:List AV} (hv:s.getD t .undef= .agg cs) (h:TC (e::sh) cs H fun ys H' =>FZ l (s.set t (bB (.agg ys))) H' P):FZ (([t],e::sh)::l) s H P:=by
 obtain ⟨ys,H',h1,h2⟩:=h;refine p7 (y:= .agg ys) (H1:=H') (by rw [hv];simp only [aY,h1]) ?_
 exact h2
theorem u6 (xs:List AV):bB (.agg xs)= .agg (bU xs):=rfl
theorem u7 (x:AV) (xs:List AV):bU (x::xs)=bB x::bU xs:=rfl
theorem u9:bU []=[]:=rfl
theorem u_ (k:IntKind) (n:Int):bB (.int k n)= .int k n:=rfl
theorem va (b:Bool):bB (.bool b)= .bool b:=rfl
theorem vb (b:List UInt8):bB (.str b)= .str b:=rfl
theorem vd (b:List AV):bB (.fz b)= .fz b:=rfl
theorem ve (n:Nat) (b:List AV):bB (.own n b)= .fz (bU b):=rfl
theorem vf (xs:List AV):bB (.az xs)= .az (bU xs):=rfl
theorem vg (x:AV):cq [x]=x:=rfl
theorem vh (x y:AV) (l:List AV):cq (x::y::l)= .az (x::y::l):=rfl
theorem vi:cq []= .az []:=rfl
theorem vj (x y:AV):fM x y [] s=s:=rfl
theorem vk (x y:AV) (t:Nat) (ts:List Nat):fM x y (t::ts) s=fM x y ts (if fh (s.getD t .undef) x then s.set t y else s):=rfl
theorem vl:fh .nil .nil=true:=rfl
theorem vm:fh .e0 .e0=true:=rfl
theorem vn (fz:List (Nat×List (List Nat×List Sh))) (K:aj→J→Prop) (i:Nat):gf C fz K [] i s H=K s H:=rfl
theorem C1 {l:List (List Nat×List Sh)} {kp:Option (List Nat)} {K:Ex→aj→J→Prop} (h:FZ l s H fun s H=>K .normal (dZ kp s) H):aL (aq C) C (.fI l kp) s H K:=by
 obtain ⟨s',H',h1,h2⟩:=h;exact z7 h1 h2
theorem ay.C2 (hS:ay H L) (n:Nat) (js:List Nat) (hj:(js.Nodup∧ ∀j∈js,j<n)):ay H (js.filterMap (L[·]?) ++ L.drop n):=by
 refine ⟨fun i it hi=> ?_,fun i j a b id hi vo ha hb=> ?_⟩
 ·rcases List.mem_append.1 (List.mem_of_getElem? hi) with h|h
  ·obtain ⟨k,_,hk⟩:=List.mem_filterMap.1 h;exact hS.ok k it hk
  ·obtain ⟨k,hk⟩:=List.mem_iff_getElem?.1 (List.mem_of_mem_drop h);exact hS.ok k it hk
 ·
  have key: ∀(js:List Nat),js.Nodup→(∀j∈js,j<n)→ ∀(i j:Nat) (a b:It),(js.filterMap (L[·]?) ++ L.drop n)[i]? =some a→(js.filterMap (L[·]?) ++ L.drop n)[j]? =some b→bS a.v=some id→bS b.v=some id→i=j:=by
   intro js;induction js with
   |nil=>
    intro _ _ i j a b hi hj ha hb;simp only [List.filterMap_nil,List.nil_append,List.getElem?_drop] at hi hj;have:=hS.b_ _ _ a b id hi hj ha hb;omega
   |cons k ks ih=>
    intro qW ax i j a b hi hj ha hb;have vp:=(List.nodup_cons.1 qW)
    have lY:=ih vp.2 (fun j h=>ax j (by simp [h]))
    cases hk:L[k]? with
    |none=>
     simp only [List.filterMap_cons,hk] at hi hj;exact lY i j a b hi hj ha hb
    |some c=>
     simp only [List.filterMap_cons,hk,List.cons_append] at hi hj;have other: ∀(m:Nat) (d:It),(ks.filterMap (L[·]?) ++ L.drop n)[m]? =some d→bS c.v=some id→bS d.v≠some id:=by
      intro m d hm hc hd;rcases List.mem_append.1 (List.mem_of_getElem? hm) with h|h
      ·obtain ⟨k',Ax,bH⟩:=List.mem_filterMap.1 h;have:=hS.b_ k k' c d id hk bH hc hd
       subst this;exact vp.1 Ax
      ·obtain ⟨k',bH⟩:=List.mem_iff_getElem?.1 h;rw [List.getElem?_drop] at bH;have:=hS.b_ k _ c d id hk bH hc hd
       have:=ax k (by simp)
       omega
     cases i with
     |zero=>
      simp at hi;subst hi;cases j with
      |zero=>rfl
      |succ j=>exact absurd hb (other j b (by simpa using hj) ha)
     |succ i=>
      cases j with
      |zero=>simp at hj;subst hj;exact absurd ha (other i a (by simpa using hi) hb)
      |succ j=>have:=lY i j a b (by simpa using hi) (by simpa using hj) ha hb;omega
  exact key js hj.1 hj.2 i j a b hi vo ha hb
end
theorem C3 {α :Type} {L F:List α} {n:Nat} {x: α} (hL:L.drop n=F) (h:x∈F):x∈L:=List.mem_of_mem_drop (hL.symm▸h)
abbrev u:=AV.undef
def Ay {α :Type} (c: α →AV) (l:List α):AV:= .fz (l.map c)
theorem C4 {E:aI} {s:aj} {H:J} {a:Tmp} {t:TypeId} {rs:List ResultVar} {ti:TI} {id ad sz:Nat} {x y:AV} {ys:List AV} (ht:E t=some ti) (ha:s.getD a .undef= .ptr id ad 0 0) (hb:H.ap id ad=some ⟨ad,sz,false,[x]⟩) (hx:bP ti x 0=some y) (hr:dz E s H rs=some ys):dz E s H (.cell a t::rs)=some (y::ys):=by
 have:aM E (.load t (.tmp a)) s H=some (y,H):=by
  have e:ev s (.tmp a)= .ptr id ad 0 0:=ha;simp only [aM,ht,e,hb,List.getElem?_cons_zero,hx]
 simp only [dz,this,hr,Option.map_some]
theorem C5 {E:aI} {s:aj} {H:J} {a:Tmp} {rs:List ResultVar} {y:AV} {ys:List AV} (ha:s.getD a .undef=y) (hr:dz E s H rs=some ys):dz E s H (.tmp a::rs)=some (y::ys):=by
 simp only [dz,hr,Option.map_some,ha]
section
variable {C:aH} {s:aj} {H:J}
def fF (C:aH) (K:aj→J→Prop) (d:Option Tmp) (late:List (Op×Option Tmp)) (rest:List GO) (s:aj):AV→J→Prop:=fun v H=>dS C (bm s d v) H (eg C K rest (bm s d v) H) late
def iw (C:aH) (K:aj→J→Prop) (v:AV) (w:Bool) (d:Option Tmp) (op:Op) (late:List (Op×Option Tmp)) (th q:Bool) (rest:List GO) (s:aj) (H:J):Prop:=gM v w (a7 (aq C) C q th op s H (fF C K d late rest s)) (fF C K d late rest s (.az []) H)
theorem vq (K:aj→J→Prop) (d:Option Tmp) (rest:List GO) (v:AV):fF C K d [] rest s v H=eg C K rest (bm s d v) H:=rfl
theorem vr (K:aj→J→Prop) (d:Option Tmp) (l:Op×Option Tmp) (ls:List (Op×Option Tmp)) (rest:List GO) (v:AV):fF C K d (l::ls) rest s v H=dS C (bm s d v) H (eg C K rest (bm s d v) H) (l::ls):=rfl
theorem vt (K:aj→J→Prop) (d:Option Tmp) (op:Op) (late:List (Op×Option Tmp)) (q th:Bool) (rest:List GO):eg C K (⟨d,op,none,late,th,q⟩::rest) s H=a7 (aq C) C q th op s H (fF C K d late rest s):=rfl
theorem vu (K:aj→J→Prop) (d:Option Tmp) (op:Op) (t:Tmp) (w:Bool) (late:List (Op×Option Tmp)) (q th:Bool) (rest:List GO):eg C K (⟨d,op,some (some t,w),late,th,q⟩::rest) s H=iw C K (s.getD t .undef) w d op late th q rest s H:=rfl
variable (K:aj→J→Prop) (d:Option Tmp) (op:Op) (late:List (Op×Option Tmp)) (th q:Bool) (rest:List GO)
theorem vv:iw C K (.bool true) true d op late th q rest s H=a7 (aq C) C q th op s H (fF C K d late rest s):=sR _ _
theorem vw:iw C K (.bool false) false d op late th q rest s H=a7 (aq C) C q th op s H (fF C K d late rest s):=sT _ _
theorem vx:iw C K (.bool true) false d op late th q rest s H=fF C K d late rest s (.az []) H:=sU _ _
theorem vy:iw C K (.bool false) true d op late th q rest s H=fF C K d late rest s (.az []) H:=sV _ _
theorem vz (l:List AV) (w:Bool):iw C K (.az l) w d op late th q rest s H=fF C K d late rest s (.az []) H:=rfl
theorem C6 {α :Type} {c w:Bool} {x y:Option α} {r: α} {K:aj→J→Prop} {d:Option Tmp} {op:Op} {late:List (Op×Option Tmp)} {th q:Bool} {rest:List GO} (h:(bif c then x else y)=some r) (ht:c=true→x=some r→iw C K (.bool true) w d op late th q rest s H) (hf:c=false→y=some r→iw C K (.bool false) w d op late th q rest s H):iw C K (.bool c) w d op late th q rest s H:=by
 cases c with
 |true=>exact ht rfl h
 |false=>exact hf rfl h
variable (fz:List (Nat×List (List Nat×List Sh))) (i:Nat)
def gg (C:aH) (fz:List (Nat×List (List Nat×List Sh))) (K:aj→J→Prop) (d:Option Tmp) (rest:List GO) (i:Nat) (s:aj):AV→J→Prop:=fun v H=>gf C fz K rest (i+1) (bm s d v) H
def kq (C:aH) (fz:List (Nat×List (List Nat×List Sh))) (K:aj→J→Prop) (v:AV) (w:Bool) (d:Option Tmp) (op:Op) (th q:Bool) (rest:List GO) (i:Nat) (s:aj) (H:J):Prop:=gM v w (a7 (aq C) C q th op s H (gg C fz K d rest i s)) (gg C fz K d rest i s (.az []) H)
def p9 (C:aH) (fz:List (Nat×List (List Nat×List Sh))) (K:aj→J→Prop) (o:GO) (rest:List GO) (i:Nat):aj→J→Prop:=fun s H=>ic o.g s (a7 (aq C) C o.q o.th o.op s H (gg C fz K o.d rest i s)) (gg C fz K o.d rest i s (.az []) H)
theorem vA (o:GO):gf C fz K (o::rest) i s H=FZ ((fz.lookup i).getD []) s H (p9 C fz K o rest i):=rfl
theorem vB:p9 C fz K ⟨d,op,none,late,th,q⟩ rest i s H=a7 (aq C) C q th op s H (gg C fz K d rest i s):=rfl
theorem vC (t:Tmp) (w:Bool):p9 C fz K ⟨d,op,some (some t,w),late,th,q⟩ rest i s H=kq C fz K (s.getD t .undef) w d op th q rest i s H:=rfl
theorem vD (v:AV):gg C fz K d rest i s v H=gf C fz K rest (i+1) (bm s d v) H:=rfl
theorem vE:kq C fz K (.bool true) true d op th q rest i s H=a7 (aq C) C q th op s H (gg C fz K d rest i s):=sR _ _
theorem vF:kq C fz K (.bool false) false d op th q rest i s H=a7 (aq C) C q th op s H (gg C fz K d rest i s):=sT _ _
theorem vG:kq C fz K (.bool true) false d op th q rest i s H=gg C fz K d rest i s (.az []) H:=sU _ _
theorem vH:kq C fz K (.bool false) true d op th q rest i s H=gg C fz K d rest i s (.az []) H:=sV _ _
theorem vI (l:List AV) (w:Bool):kq C fz K (.az l) w d op th q rest i s H=gg C fz K d rest i s (.az []) H:=rfl
end
theorem vJ {β :Type} (i:Nat) (l: β) (r:List (Nat× β)):((i,l)::r).lookup i=some l:=by simp [List.lookup]
theorem vK {β :Type} (i k:Nat) (l: β) (r:List (Nat× β)) (h:(i==k)=false):((k,l)::r).lookup i=r.lookup i:=by simp only [List.lookup,h]
theorem vL {β :Type} (i:Nat):([]:List (Nat× β)).lookup i=none:=rfl
theorem vM (all:List Oper) (q:Nat→Bool) (late:Nat→List Nat) (th:List Nat) (i:Nat):dT all q late th [] i=[]:=rfl
theorem vN (all:List Oper) (q:Nat→Bool) (late:Nat→List Nat) (th:List Nat) (o:Oper) (rest:List Oper) (i:Nat):dT all q late th (o::rest) i=⟨o.dst,o.op,o.guard.map fun p=>(lk all p.1,p.2),(late i).map (kl all),th.contains i,q i⟩::dT all q late th rest (i+1):=rfl
theorem vO (o:Oper) (os:List Oper):lk (o::os) 0=o.dst:=rfl
theorem vP (o:Oper) (os:List Oper) (n:Nat):lk (o::os) (n+1)=lk os n:=rfl
theorem vQ (K:Ex→aj→J→Prop) (s:aj) (H:J):iV K s H=K .normal s H:=rfl
theorem vR (E:aI) (t:TypeId) (f:Nat):lD E t f=match E t with
 |some ti=>match ti.au with
  | .st fs=>match fs[f]? with
   |some (o,ft)=>match E ft with
    |some tf=>some (o,tf)
    |none=>none
   |none=>none
  |_=>none
 |none=>none:=rfl
theorem vS (ti:TI) (hu:jH ti.au=true) (xs:List AV) (n:Nat) {H:J} {K:AV→J→Prop}:ei (some ti) (.fz xs) (some n) H K=K (.int .i64 n) H:=by cases h:ti.au<;>rw [h] at hu<;>simp [jH] at hu;exact Ag ti h xs n
theorem vT (ti:TI) (hu:jH ti.au=true) (n:Nat) {H:J} {K:AV→J→Prop}:ei (some ti) .nil (some n) H K=K (.int .i64 n) H:=by cases h:ti.au<;>rw [h] at hu<;>simp [jH] at hu;exact Ah ti h n
theorem vU (ti:TI) (hu:jH ti.au=true) (n:Nat) {H:J} {K:AV→J→Prop}:ei (some ti) .e0 (some n) H K=K (.int .i64 n) H:=by cases h:ti.au<;>rw [h] at hu<;>simp [jH] at hu;exact Ai ti h n
theorem vV (ti:TI) (hu:lF ti.au=true) (l:List UInt8) (n:Nat) {H:J} {K:AV→J→Prop}:ei (some ti) (.str l) (some n) H K=K (.int .i64 n) H:=by cases h:ti.au<;>rw [h] at hu<;>simp [lF] at hu;exact Aj ti h l n
theorem vW (ta tb:TI) (n:Int) (H:J) (K:AV→J→Prop):p6 (some ta) (some tb) n H K=match tb.au with| .it k=>K (.int k (k.wrap n)) H|_=>False:=rfl
theorem vX (o:Nat) (tf:TI) (y:AV) (off:Nat) (h:(tf.sz==0)=false) {H:J} {K:AV→J→Prop}:iW (some (o,tf)) (.fe y off) H K=K (.fe y (off+o)) H:=Ad o tf h y off
def p_ (b:Option bA) (k:Prop):Prop:=match b with|some _=>k|none=>False
theorem vY (o:Nat) (tf:TI) (id ad idx off:Nat) (h:(tf.sz==0)=false) {H:J} {K:AV→J→Prop}:iW (some (o,tf)) (.ptr id ad idx off) H K=p_ (H.ap id ad) (K (.ptr id ad idx (off+o)) H):=by
 rw [Ae o tf h];rfl
theorem vZ (b:bA) (k:Prop):p_ (some b) k=k:=rfl
theorem v7 {C:aH} {q th:Bool} {s:aj} {H:J} {K:AV→J→Prop} (x:Operand):a7 (aq C) C q th (.nilCheck x) s H K=(match ev s x with| .ptr a b c d=>p_ (H.ap a b) (K (.ptr a b c d) H)| .fe x o=>K (.fe x o) H|_=>False):=by
 rw [c6 _ rfl];simp only [aM];generalize ev s x=r;cases r<;>try rfl
 rename_i a b c d;simp only;cases H.ap a b<;>rfl
theorem v8 (z:List AV) (b:Nat) (w:UD) (e:Bool) (cs:List AV) (off:Nat):bP ⟨1,false,z,b,w,e⟩ (.agg cs) off=cs[off]? :=by
 by_cases h:off<cs.length
 ·have e1:aB cs off 1=[cs[off]]:=by
   simp only [aB,List.drop_eq_getElem_cons h,List.take_succ_cons,List.take_zero]
  have e2:bP ⟨1,false,z,b,w,e⟩ (.agg cs) off=jL false (aB cs off 1):=if_pos (show off+1≤cs.length from h);rw [e2,e1,List.getElem?_eq_getElem h];rfl
 ·rw [List.getElem?_eq_none (by omega)]
  exact if_neg (show¬off+1≤cs.length from h)
theorem v_ (z:List AV) (b:Nat) (w:UD) (e:Bool) (k:IntKind) (n:Int):bP ⟨1,false,z,b,w,e⟩ (.int k n) 0=some (.int k n):=rfl
theorem wa (z:List AV) (b:Nat) (w:UD) (e:Bool) (n:Bool):bP ⟨1,false,z,b,w,e⟩ (.bool n) 0=some (.bool n):=rfl
theorem wb (z:List AV) (b:Nat) (w:UD) (e:Bool) (n:List UInt8):bP ⟨1,false,z,b,w,e⟩ (.str n) 0=some (.str n):=rfl
theorem wc (z:List AV) (b:Nat) (w:UD) (e:Bool) (n:List AV):bP ⟨1,false,z,b,w,e⟩ (.fz n) 0=some (.fz n):=rfl
theorem wg (z:List AV) (b:Nat) (w:UD) (e:Bool):bP ⟨1,false,z,b,w,e⟩ .nil 0=some .nil:=rfl
theorem wh (z:List AV) (b:Nat) (w:UD) (e:Bool):bP ⟨1,false,z,b,w,e⟩ .e0 0=some .e0:=rfl
theorem wi (z:List AV) (b:Nat) (w:UD) (e:Bool) (a c d f:Nat):bP ⟨1,false,z,b,w,e⟩ (.ref a c d f) 0=some (.ref a c d f):=rfl
theorem wj (n:Nat) (z:List AV) (b:Nat) (w:UD) (e:Bool) (cs:List AV) (off:Nat):bP ⟨n,true,z,b,w,e⟩ (.agg cs) off=if off+n≤cs.length then some (.agg ((cs.drop off).take n)) else none:=rfl
theorem wk (ti:TI) (r:Bool) (neg:Bool):lC (some ti) (some r) neg=if ti.agg then some (.bool (if neg then !r else r)) else none:=rfl
theorem wl (ti:TI) (x y:AV) (neg:Bool):iq (some ti) x y neg=match isNil ti.au x y with|some b=>some (.bool (if neg then !b else b))|none=>none:=rfl
theorem wm (E:aI) (d:Nat) (t:TypeId) (xs ys:List AV):dE E (d+1) t xs ys=match E t with
 |none=>none
 |some ti=>match ti.au with
  | .it _=>match xs,ys with
   |[.int k a],[.int j b]=>if k=j then some (a==b) else none
   |_,_=>none
  | .bl=>match xs,ys with
   |[.bool a],[.bool b]=>some (a==b)
   |_,_=>none
  | .str=>match xs,ys with
   |[.str a],[.str b]=>some (a==b)
   |_,_=>none
  | .st fs=>if ti.kA then gS E (dE E d) fs xs ys else none
  |_=>none:=rfl
theorem wo (E:aI) (f:TypeId→List AV→List AV→Option Bool) (xs ys:List AV):gS E f [] xs ys=some true:=rfl
theorem wq (E:aI) (f:TypeId→List AV→List AV→Option Bool) (o:Nat) (ft:TypeId) (fs:List (Nat×TypeId)) (xs ys:List AV):gS E f ((o,ft)::fs) xs ys=match E ft with
 |none=>none
 |some tf=>
  if o+tf.sz≤xs.length∧o+tf.sz≤ys.length then
   match f ft (aB xs o tf.sz) (aB ys o tf.sz) with
   |some b=>match gS E f fs xs ys with
    |some r=>some (b&&r)
    |none=>none
   |none=>none
  else none:=rfl
theorem wu (cs:List AV) (off n:Nat):aB cs off n=(cs.drop off).take n:=rfl
def nz (E:aI) (t:TypeId) (ps:List (Nat×AV)) (H:J) (K:AV→J→Prop):Prop:=match E t with
 |some ti=>match ti.au with
  | .st fs=>if !(fs.all fun f=>(E f.2).isSome)|| !(ti.zero.all cN) then False else cM ((fG (fun i=>match fs[i]? with|some (o,ft)=>(E ft).map fun tf=>(o,tf.sz)|none=>none) ti.zero ps).map .agg) H K
  | .ar n e=>match E e with
   |some te=>if !(ti.zero.all cN) then False else cM ((fG (fun i=>if i<n then some (i*te.sz,te.sz) else none) ti.zero ps).map .agg) H K
   |none=>False
  |_=>False
 |none=>False
theorem wv {C:aH} {q th:Bool} {s:aj} {H:J} {K:AV→J→Prop} (t:TypeId) (ps:Array (Nat×Operand)):a7 (aq C) C q th (.build t ps) s H K=nz C.E t (ps.toList.map fun p=>(p.1,ev s p.2)) H K:=by
 rw [c6 _ rfl];simp only [aM,nz];cases C.E t with
 |none=>rfl
 |some ti=>
  simp only;cases ti.au<;>try rfl
  ·rename_i fs;simp only;split
   ·rfl
   ·generalize Option.map AV.agg _=r;cases r<;>rfl
  ·rename_i n e;simp only;cases C.E e with
   |none=>rfl
   |some te=>
    simp only;split
    ·rfl
    ·generalize Option.map AV.agg _=r;cases r<;>rfl
theorem C7 {E:aI} {t:TypeId} {ps:List (Nat×AV)} {H:J} {K:AV→J→Prop} {ti:TI} {fs:List (Nat×TypeId)} {cs:List AV} (ht:E t=some ti) (hu:ti.au= .st fs) (h1:(fs.all fun f=>(E f.2).isSome)=true) (h2:ti.zero.all cN=true)
 (hf:fG (fun i=>match fs[i]? with|some (o,ft)=>(E ft).map fun tf=>(o,tf.sz)|none=>none) ti.zero ps=some cs) (h:K (.agg cs) H):nz E t ps H K:=by
 simp only [nz,ht,hu,h1,h2,Bool.not_true,Bool.or_self,Bool.false_eq_true,if_false,hf];exact h
theorem ww {C:aH} {q th:Bool} {s:aj} {H:J} {K:AV→J→Prop} (f:FuncId) (cap:Array Operand):a7 (aq C) C q th (.makeFunc (.func f) #[] cap) s H K=K (.fn f (cap.toList.map (ev s))) H:=by
 rw [c6 _ rfl];simp only [aM];rfl
theorem W:type_of% (And.intro @vJ<|And.intro @u6<|And.intro @u7<|And.intro @u9<|And.intro @u_<|And.intro @va<|And.intro @vb<|And.intro @vd<|And.intro @ve<|And.intro @vf<|And.intro @vg<|And.intro @vh<|And.intro @vi<|And.intro @Bool.or_false<|And.intro @vK<|And.intro @vL<|And.intro @sQ<|And.intro @vt<|And.intro @vu<|And.intro @vq<|And.intro @vr<|And.intro @vv<|And.intro @vw<|And.intro @vx<|And.intro @vy<|And.intro @vz<|And.intro @vA<|And.intro @vB<|And.intro @vC<|And.intro @vD<|And.intro @vE<|And.intro @vF<|And.intro @vG<|And.intro @vH<|And.intro @vI<|
 And.intro @sW<|And.intro @sY<|And.intro @sZ<|And.intro @s4<|And.intro @s7<|And.intro @s8<|And.intro @s9<|And.intro @tc<|And.intro @tg<|And.intro @tj<|And.intro @tn<|And.intro @tp<|And.intro @tq<|
 And.intro @tv<|And.intro @tw<|And.intro @tz<|And.intro @tA<|And.intro @tB<|And.intro @tC<|And.intro @tD<|And.intro @tE<|And.intro @tF<|And.intro @tG<|And.intro @tH<|And.intro @tI<|
 And.intro @uS<|And.intro @uT<|And.intro @uU<|And.intro @tJ<|And.intro @tK<|And.intro @tL<|And.intro @tM<|And.intro @tN<|And.intro @tO<|And.intro @tP<|And.intro @tQ<|And.intro @tR<|And.intro @tS<|
 And.intro @tT<|And.intro @tU<|And.intro @tV<|And.intro @tW<|And.intro @tX<|And.intro @tY<|And.intro @tZ<|And.intro @t_<|And.intro @ua<|And.intro @ub<|And.intro @uc<|And.intro @ud<|And.intro @uf<|
 And.intro @ug<|And.intro @uh<|And.intro @ui<|And.intro @uj<|And.intro @uk<|And.intro @o_load<|And.intro @ul<|And.intro @um<|And.intro @uo<|And.intro @uq<|And.intro @ur<|And.intro @uu<|And.intro @uw<|
 And.intro @ux<|And.intro @uy<|And.intro @uz<|And.intro @uA<|And.intro @min2<|And.intro @max2<|And.intro @uE<|And.intro @uI<|And.intro @uJ<|And.intro @uK<|And.intro @uL<|And.intro @uM<|
 And.intro @uO<|And.intro @uP<|And.intro @uQ<|And.intro @uV<|And.intro @uW<|And.intro @uX<|And.intro @uY<|And.intro @uZ<|And.intro @u3<|And.intro @vj<|And.intro @vk<|And.intro @vl<|And.intro @vm<|
 And.intro @vn<|And.intro @vM<|And.intro @vN<|And.intro @vO<|And.intro @vP<|And.intro @vQ<|And.intro @vR<|And.intro @vS<|And.intro @vT<|And.intro @vU<|And.intro @vV<|And.intro @vW<|
 And.intro @vX<|And.intro @vY<|And.intro @vZ<|And.intro @v7<|And.intro @v8<|And.intro @v_<|And.intro @wa<|And.intro @wb<|And.intro @wc<|And.intro @wg<|And.intro @wh<|And.intro @wi<|And.intro @wj<|And.intro @wk<|And.intro @wl<|
 And.intro @wm<|And.intro @wo<|And.intro @wq<|And.intro @wu<|And.intro @wv<|And.intro @ww<|And.intro @uF<|And.intro @uG<|And.intro @uH<|
 And.intro @List.set_cons_succ.{0}<|And.intro @List.set_cons_zero.{0}<|And.intro @List.getD_cons_succ.{0}<|And.intro @List.getD_cons_zero.{0}<|And.intro @Option.map_some.{0,0}<|And.intro @Option.map_none.{0,0}<|And.intro @List.map_nil.{0,0}<|And.intro @List.map_cons.{0,0}<|And.intro @List.contains_nil.{0}<|
 And.intro @List.getElem?_cons_succ.{0}<|And.intro @List.getElem?_cons_zero.{0}<|And.intro @List.length_map.{0,0}<|And.intro @List.drop_succ_cons.{0}<|And.intro @List.drop_zero.{0}<|And.intro @List.take_succ_cons.{0}<|And.intro @List.take_zero.{0}<|And.intro @List.length_cons.{0}<|And.intro @List.length_nil.{0}<|
 And.intro @if_true.{0}<|And.intro @if_false.{0}<|And.intro @Bool.not_true<|And.intro @Bool.not_false<|And.intro @Option.getD_none.{0}<|And.intro @Option.getD_some.{0}<|And.intro @List.cons_append.{0}<|And.intro @List.nil_append.{0}<|And.intro @and_self<|And.intro @and_true @true_and):=
 And.intro @vJ<|And.intro @u6<|And.intro @u7<|And.intro @u9<|And.intro @u_<|And.intro @va<|And.intro @vb<|And.intro @vd<|And.intro @ve<|And.intro @vf<|And.intro @vg<|And.intro @vh<|And.intro @vi<|And.intro @Bool.or_false<|And.intro @vK<|And.intro @vL<|And.intro @sQ<|And.intro @vt<|And.intro @vu<|And.intro @vq<|And.intro @vr<|And.intro @vv<|And.intro @vw<|And.intro @vx<|And.intro @vy<|And.intro @vz<|And.intro @vA<|And.intro @vB<|And.intro @vC<|And.intro @vD<|And.intro @vE<|And.intro @vF<|And.intro @vG<|And.intro @vH<|And.intro @vI<|
 And.intro @sW<|And.intro @sY<|And.intro @sZ<|And.intro @s4<|And.intro @s7<|And.intro @s8<|And.intro @s9<|And.intro @tc<|And.intro @tg<|And.intro @tj<|And.intro @tn<|And.intro @tp<|And.intro @tq<|
 And.intro @tv<|And.intro @tw<|And.intro @tz<|And.intro @tA<|And.intro @tB<|And.intro @tC<|And.intro @tD<|And.intro @tE<|And.intro @tF<|And.intro @tG<|And.intro @tH<|And.intro @tI<|
 And.intro @uS<|And.intro @uT<|And.intro @uU<|And.intro @tJ<|And.intro @tK<|And.intro @tL<|And.intro @tM<|And.intro @tN<|And.intro @tO<|And.intro @tP<|And.intro @tQ<|And.intro @tR<|And.intro @tS<|
 And.intro @tT<|And.intro @tU<|And.intro @tV<|And.intro @tW<|And.intro @tX<|And.intro @tY<|And.intro @tZ<|And.intro @t_<|And.intro @ua<|And.intro @ub<|And.intro @uc<|And.intro @ud<|And.intro @uf<|
 And.intro @ug<|And.intro @uh<|And.intro @ui<|And.intro @uj<|And.intro @uk<|And.intro @o_load<|And.intro @ul<|And.intro @um<|And.intro @uo<|And.intro @uq<|And.intro @ur<|And.intro @uu<|And.intro @uw<|
 And.intro @ux<|And.intro @uy<|And.intro @uz<|And.intro @uA<|And.intro @min2<|And.intro @max2<|And.intro @uE<|And.intro @uI<|And.intro @uJ<|And.intro @uK<|And.intro @uL<|And.intro @uM<|
 And.intro @uO<|And.intro @uP<|And.intro @uQ<|And.intro @uV<|And.intro @uW<|And.intro @uX<|And.intro @uY<|And.intro @uZ<|And.intro @u3<|And.intro @vj<|And.intro @vk<|And.intro @vl<|And.intro @vm<|
 And.intro @vn<|And.intro @vM<|And.intro @vN<|And.intro @vO<|And.intro @vP<|And.intro @vQ<|And.intro @vR<|And.intro @vS<|And.intro @vT<|And.intro @vU<|And.intro @vV<|And.intro @vW<|
 And.intro @vX<|And.intro @vY<|And.intro @vZ<|And.intro @v7<|And.intro @v8<|And.intro @v_<|And.intro @wa<|And.intro @wb<|And.intro @wc<|And.intro @wg<|And.intro @wh<|And.intro @wi<|And.intro @wj<|And.intro @wk<|And.intro @wl<|
 And.intro @wm<|And.intro @wo<|And.intro @wq<|And.intro @wu<|And.intro @wv<|And.intro @ww<|And.intro @uF<|And.intro @uG<|And.intro @uH<|
 And.intro @List.set_cons_succ.{0}<|And.intro @List.set_cons_zero.{0}<|And.intro @List.getD_cons_succ.{0}<|And.intro @List.getD_cons_zero.{0}<|And.intro @Option.map_some.{0,0}<|And.intro @Option.map_none.{0,0}<|And.intro @List.map_nil.{0,0}<|And.intro @List.map_cons.{0,0}<|And.intro @List.contains_nil.{0}<|
 And.intro @List.getElem?_cons_succ.{0}<|And.intro @List.getElem?_cons_zero.{0}<|And.intro @List.length_map.{0,0}<|And.intro @List.drop_succ_cons.{0}<|And.intro @List.drop_zero.{0}<|And.intro @List.take_succ_cons.{0}<|And.intro @List.take_zero.{0}<|And.intro @List.length_cons.{0}<|And.intro @List.length_nil.{0}<|
 And.intro @if_true.{0}<|And.intro @if_false.{0}<|And.intro @Bool.not_true<|And.intro @Bool.not_false<|And.intro @Option.getD_none.{0}<|And.intro @Option.getD_some.{0}<|And.intro @List.cons_append.{0}<|And.intro @List.nil_append.{0}<|And.intro @and_self<|And.intro @and_true @true_and
end Go.VS
namespace Go.VS
def iX:List (Nat×List Nat)→Nat→List Nat
 |[],_=>[]
 |(a,l)::t,i=>if i=a then l else iX t i
def lJ:List Nat→Nat→Bool
 |[],_=>true
 |a::t,i=>if i=a then false else lJ t i
theorem wx: ∀(ls:List Nat) (i:Nat),(!ls.contains i)=lJ ls i
 |[],_=>rfl
 |a::t,i=>by
  have:=wx t i;unfold lJ;by_cases h:i=a
  ·simp [h]
  ·rw [if_neg h,←this];simp [h]
theorem Az {f:Nat→List Nat}: ∀(iy:List (Nat×List Nat)) (_:iy.all (fun p=>f p.1==p.2)=true) (_: ∀i,i∉iy.map (·.1)→f i=[]) (i:Nat),f i=iX iy i
 |[],_,h,i=>h i (by simp)
 |(a,l)::t,h1,h2,i=>by
  simp only [List.all_cons,Bool.and_eq_true,beq_iff_eq] at h1;unfold iX;by_cases h:i=a
  ·rw [if_pos h,h];exact h1.1
  ·rw [if_neg h];by_cases hm:i∈t.map (·.1)
   ·clear h2;have go: ∀(t:List (Nat×List Nat)),t.all (fun p=>f p.1==p.2)=true→i∈t.map (·.1)→f i=iX t i:=by
     intro t;induction t with
     |nil=>intro _ hm;simp at hm
     |cons p t ih=>
      intro h1 hm;simp only [List.all_cons,Bool.and_eq_true,beq_iff_eq] at h1;obtain ⟨a,l⟩:=p;unfold iX;by_cases h:i=a
      ·rw [if_pos h,h];exact h1.1
      ·rw [if_neg h];exact ih h1.2 (by simpa [h] using hm)
    exact go t h1.2 hm
   ·have e:f i=[]:=h2 i (by simp only [List.map_cons,List.mem_cons,not_or];exact ⟨h,hm⟩)
    rw [e];clear h1 h2;induction t with
    |nil=>rfl
    |cons p t ih=>
     obtain ⟨b,m⟩:=p;simp only [List.map_cons,List.mem_cons,not_or] at hm;unfold iX;rw [if_neg hm.1];exact ih hm.2
section
variable {C:aH} {s:aj} {H:J} {K:Ex→aj→J→Prop}
theorem C8 (gC:Good C) {id:Nat} {ops:List Oper} {ls th:List Nat} {fz:List (Nat×List (List Nat×List Sh))} (iy:List (Nat×List Nat)) (hd:iE ops.toArray ls=true) (h1:iy.map (·.1)=ls) (h2:iy.all (fun p=>fL ops.toArray ls p.1==p.2)=true)
 (h:eg C (iV K) (dT ops (lJ ls) (iX iy) th ops 0) s H):aL (aq C) C (.region id ops.toArray true ls th fz) s H K:=by
 refine sO gC hd ?_;have e1:(fun i=> !ls.contains i)=lJ ls:=funext (wx ls);have e2:fL ops.toArray ls=iX iy:=funext (Az iy h2 (fun i hi=>by
  unfold fL;rw [h1] at hi;rw [if_neg (by simpa using hi)]))
 rw [e1,e2];exact h
end
theorem C9 {C:aH} {K:aj→J→Prop} {d:Option Tmp} {l:List (Op×Option Tmp)} {rest:List GO} {s:aj} {v:AV} {H:J} (h:dS C (bm s d v) H (fF C K d [] rest s v H) l):fF C K d l rest s v H:=h
theorem C_ {C:aH} {s:aj} {H:J} {P:Prop} {op:Op} {t:Tmp} {js:List (Op×Option Tmp)} (h1:gT C.E op s H=some (s.getD t .undef,H)) (h:dS C s H P js):dS C s H P ((op,some t)::js):=⟨⟨t,rfl,h1⟩,h⟩
theorem Da {C:aH} {s:aj} {H:J} {P:Prop} (h:P):dS C s H P []:=h
theorem AA {x:Int} (h: -9223372036854775808≤x∧x≤9223372036854775807):IntKind.i64.wrap x=x:=IntWalk.i64_in x (by omega)
end Go.VS
namespace Go.VS
section
variable {C:aH} {H:J} {L:List It}
theorem Db (f:AV→Option AV):([]:List AV).mapM f=some []:=rfl
theorem AB {f:AV→Option AV} {c y:AV} {cs ys:List AV} (h1:f c=some y) (h2:cs.mapM f=some ys):(c::cs).mapM f=some (y::ys):=by
 simp [List.mapM_cons,h1,h2]
theorem wy {f:AV→Option AV}: ∀(cs:List AV),(∀c∈cs,f c=some c)→cs.mapM f=some cs
 |[],_=>rfl
 |c::cs,h=>AB (h c (by simp)) (wy cs fun d hd=>h d (by simp [hd]))
theorem Dc {n:Nat} {cs ys:List AV} (h:cs.mapM (aP n H)=some ys):aP (n+1) H (.agg cs)=some (.agg ys):=by
 simp only [aP,h,Option.map_some]
theorem Dd {n:Nat} {f:FuncId} {cs ys:List AV} (h:cs.mapM (aP n H)=some ys):aP (n+1) H (.fn f cs)=some (.fn f ys):=by
 simp only [aP,h,Option.map_some]
theorem De {α :Type} {n:Nat} (hS:ay H L) (j:Nat) {v:AV} {sz:Nat} {l:List α} {c: α →AV} (hj:L[j]? =some ⟨v,sz,l.map c⟩) (hp:bp v) (hc: ∀x,aP n H (c x)=some (c x)):aP (n+1) H v=some (.fz (l.map c)):=by
 obtain ⟨k0,af⟩:=hS.ok j _ hj;simp only at af;rcases hp.ok with rfl|rfl|⟨id,ad,off,len,rfl⟩
 ·simp only at af;simp only [aP,af]
 ·simp only at af;simp only [aP,af]
 ·simp only at af;obtain ⟨k1,b,hb,k2,k3,k4,k5⟩:=af;simp only [aP,hb];rw [if_pos k4,k5,wy (l.map c) (by
   intro d hd;obtain ⟨x,_,rfl⟩:=List.mem_map.1 hd;exact hc x),Option.map_some]
theorem AD {n o:Nat} (hS:ay H L) (j:Nat) {id ad sz:Nat} {a y:AV} (hj:L[j]? =some ⟨.ptr id ad 0 0,sz,[a]⟩) (h:aP n H a=some y):aP (n+1) H (.ptr id ad 0 o)=some (.fe y o):=by
 simp only [aP,hS.var j hj,List.getElem?_cons_zero,h,Option.map_some]
theorem Df {n o:Nat} (hS:ay H L) {id ad sz:Nat} {a y:AV} (hm:⟨.ptr id ad 0 0,sz,[a]⟩∈L) (h:aP n H a=some y):aP (n+1) H (.ptr id ad 0 o)=some (.fe y o):=by
 obtain ⟨j,hj⟩:=List.mem_iff_getElem?.1 hm;exact AD hS j hj h
theorem Dg:cc [] [] H=some ([],false):=rfl
theorem Dh {v y:AV} {vs ys:List AV} {b:Bool} (h1:aP 8 H v=some y) (h2:cc [] vs H=some (ys,b)):cc [] (v::vs) H=some (y::ys,eQ v||b):=by
 simp only [cc,h1,h2]
def TV (b6:List (List Sh)) (rs:List AV) (H:J) (K:List AV→Prop):Prop:= ∃zs H',de b6 rs H=some (zs,H')∧K zs
theorem Di {b6:List (List Sh)} {K:List AV→Prop} (h:K []):TV b6 [] H K:=⟨[],H,rfl,h⟩
theorem qa {e:List Sh} {b6:List (List Sh)} {v y:AV} {rs:List AV} {H1:J} {K:List AV→Prop} (ht:aY e v H=some (y,H1)) (h:TV b6 rs H1 fun zs=>K (y::zs)):TV (e::b6) (v::rs) H K:=by
 obtain ⟨zs,H',h1,h2⟩:=h;exact ⟨y::zs,H',by simp only [de,List.headD_cons,List.tail_cons,ht,h1],h2⟩
theorem AE {v:AV} (hp:dp v=true) (H:J):aY [.sc] v H=some (v,H):=by
 cases v<;>simp [dp] at hp<;>simp [aY,aO,dp]
theorem Dj {b6:List (List Sh)} {v:AV} {rs:List AV} {K:List AV→Prop} (hp:dp v=true) (h:TV b6 rs H fun zs=>K (v::zs)):TV ([.sc]::b6) (v::rs) H K:=
 qa (AE hp H) h
theorem Dk {α :Type} {b6:List (List Sh)} {es:List Sh} {v:AV} {rs:List AV} {K:List AV→Prop} {m:List α} {c: α →AV} (j:Nat) (hS:ay H L) (hj:L[j]? =some ⟨v,es.length,m.map c⟩) (hp:bp v) (hc: ∀x H,aY es (c x) H=some (c x,H))
 (h: ∀H',ay H' (L.eraseIdx j)→TV b6 rs H' fun zs=>K (.own es.length (m.map c)::zs)):TV ([.sl es]::b6) (v::rs) H K:=by
 obtain ⟨H',h1,h2⟩:=hS.take j hj hp hc;exact qa h1 (h H' h2)
theorem Dl {b6:List (List Sh)} {es:List Sh} {cs:List AV} {rs:List AV} {K:List AV→Prop} (h:TC es cs H fun ys H' =>TV b6 rs H' fun zs=>K (.agg ys::zs)):TV (es::b6) (.agg cs::rs) H K:=by
 obtain ⟨ys,H',h1,h2⟩:=h;exact qa (by simp only [aY,h1]) h2
theorem Dm {b6:List (List Sh)} {rs:List AV} {y v:AV} (hv:v=cq rs) (h:TV b6 rs H fun zs=>y=cq zs): ∃rs zs L2,v=cq rs∧de b6 rs H=some (zs,L2)∧y=cq zs:=by
 obtain ⟨zs,H',h1,h2⟩:=h;exact ⟨rs,zs,H',hv,h1,h2⟩
def TH (ys:List AV) (H:J) (K:List AV→J→Prop):Prop:=K (aG ys H).1 (aG ys H).2
theorem Dn {K:List AV→J→Prop} (h:K [] H):TH [] H K:=h
theorem Dp {y:AV} {ys:List AV} {K:List AV→J→Prop} (hp: ∀H,aF y H=(y,H)) (h:TH ys H fun zs H' =>K (y::zs) H'):TH (y::ys) H K:=by
 unfold TH at h⊢;simp only [aG,hp H];exact h
theorem wz {α :Type} {c: α →AV} (hc: ∀x H,aF (c x) H=(c x,H)): ∀(l:List α) (H:J),aG (l.map c) H=(l.map c,H)
 |[],_=>rfl
 |x::l,H=>by simp only [List.map_cons,aG,hc x H,wz hc l H]
theorem Dq {α :Type} {sz:Nat} {m:List α} {c: α →AV} {ys:List AV} {K:List AV→J→Prop} (hS:ay H L) (hc: ∀x H,aF (c x) H=(c x,H)) (hz: ∀x,(c x).cells.length=sz)
 (h: ∀v H',bp v→ay H' (⟨v,sz,m.map c⟩::L)→TH ys H' fun zs gE=>K (v::zs) gE):TH (.own sz (m.map c)::ys) H K:=by
 have hs:bF sz (m.map c)=true:=by simp [bF,hz]
 have:=h _ _ (fD H.bs.length H.st 0 (m.map c).length) (hS.lE (all:=m.map c) (List.take_of_length_le (Nat.le_refl _)) rfl hs);unfold TH at this⊢;simp only [aG,aF,wz hc m H];exact this
theorem Dr {cs ys:List AV} {K:List AV→J→Prop} (h:TH cs H fun ds H' =>TH ys H' fun zs gE=>K (.agg ds::zs) gE):TH (.agg cs::ys) H K:=by
 unfold TH at h⊢;simp only [aG,aF];exact h
theorem Ds {y:AV} {K:AV→J→Prop} (h:TH [y] H fun zs H' =>K (zs.headD .undef) H'):K (aF y H).1 (aF y H).2:=by
 unfold TH at h;simp only [aG] at h;exact h
theorem Dt {ys:List AV} {K:AV→J→Prop} (h:TH ys H fun zs H' =>K (.az zs) H'):K (aF (.az ys) H).1 (aF (.az ys) H).2:=by
 unfold TH at h;simp only [aF];exact h
variable {q th:Bool} {K:AV→J→Prop}
theorem Du {α β :Type} {g:FuncId} {bT args ys:List AV} {bV:Bool} {o:Option α} {f: α →Option β} {r: β} {b6:List (List Sh)} (h:o.bind f=some r) (hr:(C.gq g).b6=b6) (hp:cc [] (args ++ bT) H=some (ys,bV))
 (hk: ∀x,o=some x→f x=some r→ ∃y,aq C g ys ⟨0,[]⟩ (fun v L=> ∃rs zs L2,v=cq rs∧de b6 rs L=some (zs,L2)∧y=cq zs)∧(cg y=true∧bB y=y∧ ∀H,aF y H=(y,H))∧K y H):lH C q th (.fn g bT) args H K:=by
 refine u2 h hr hp fun x hx hf=> ?_;obtain ⟨y,h1,⟨h2,h3,h4⟩,h5⟩:=hk x hx hf;refine ⟨y,h1,.inr h2,?_⟩;rw [h3,h4 H];split<;>exact h5
theorem Dv {α β :Type} {g:FuncId} {bT args ys:List AV} {bV:Bool} {o:Option α} {f: α →Option β} {r: β} {b6:List (List Sh)} (h:o.bind f=some r) (hr:(C.gq g).b6=b6) (hp:cc [] (args ++ bT) H=some (ys,bV))
 (hk: ∀x,o=some x→f x=some r→ ∃y,aq C g ys ⟨0,[]⟩ (fun v L=> ∃rs zs L2,v=cq rs∧de b6 rs L=some (zs,L2)∧y=cq zs)∧cg y=true∧K (aF y H).1 (aF y H).2):lH C q true (.fn g bT) args H K:=by
 refine u2 h hr hp fun x hx hf=> ?_;obtain ⟨y,h1,h2,h5⟩:=hk x hx hf;refine ⟨y,h1,.inr h2,?_⟩;simpa using h5
theorem wA {α :Type} {c: α →AV} (hc: ∀x,cg (c x)=true): ∀(l:List α),dY (l.map c)=true
 |[]=>rfl
 |x::l=>by simp only [List.map_cons,dY,hc x,wA hc l,Bool.and_self]
theorem Dw {α :Type} {c: α →AV} (sz:Nat) (hc: ∀x,cg (c x)=true) (l:List α):cg (.own sz (l.map c))=true:=by
 simp only [cg];exact wA hc l
theorem Dx:dY []=true:=rfl
theorem Dy {y:AV} {ys:List AV} (h1:cg y=true) (h2:dY ys=true):dY (y::ys)=true:=by simp only [dY,h1,h2,Bool.and_self]
theorem Dz {ys:List AV} (h:dY ys=true):cg (.agg ys)=true:=by simp only [cg];exact h
theorem DA {ys:List AV} (h:dY ys=true):cg (.az ys)=true:=by simp only [cg];exact h
end
end Go.VS
namespace Go.VS
def wB (t b:TypeId):Code:=
 (Go.Code.seq
  (Go.Code.region 0 #[{dst:=some 2,op:=Go.Op.assign (Go.Operand.const (Go.Value.slice none 0 0)),type:=t,pos:= "slices.go:355",after:= #[],guard:=none}] false)
  (Go.Code.seq
   (Go.Code.seq
    (Go.Code.region 1
     #[{dst:=some 3,op:=Go.Op.move (Go.Operand.tmp 0),type:=t,pos:= "slices.go:357",after:= #[],guard:=none},
      {dst:=some 4,op:=Go.Op.binOp Go.BinOp.eql t (Go.Operand.tmp 3) (Go.Operand.const (Go.Value.slice none 0 0)) t,type:=b,pos:= "slices.go:357",after:= #[{on:=0,ground:=Go.Ground.data}],guard:=none}]
     false)
    (Go.Code.cond (Go.Operand.tmp 4)
     (Go.Code.seq
      (Go.Code.region 2 #[{dst:=some 2,op:=Go.Op.assign (Go.Operand.const (Go.Value.slice none 0 0)),type:=t,pos:= "slices.go:358",after:= #[],guard:=none}] false)
      Go.Code.ret)
     Go.Code.skip))
   (Go.Code.seq
    (Go.Code.region 3
     #[{dst:=some 5,op:=Go.Op.buildSlice t 0 #[],type:=t,pos:= "slices.go:362",after:= #[],guard:=none},
      {dst:=some 6,op:=Go.Op.move (Go.Operand.tmp 0),type:=t,pos:= "slices.go:362",after:= #[],guard:=none},
      {dst:=some 7,op:=Go.Op.call {callee:=Go.Callee.builtin Go.Builtin.append,args:= #[Go.Operand.tmp 5,Go.Operand.tmp 6],argTypes:= #[t,t]},type:=t,pos:= "slices.go:362",after:= #[{on:=0,ground:=Go.Ground.data},{on:=1,ground:=Go.Ground.data}],guard:=none},
      {dst:=some 2,op:=Go.Op.assign (Go.Operand.tmp 7),type:=t,pos:= "slices.go:362",after:= #[{on:=2,ground:=Go.Ground.data},{on:=2,ground:=Go.Ground.chain},{on:=0,ground:=Go.Ground.phase},{on:=1,ground:=Go.Ground.phase},{on:=2,ground:=Go.Ground.phase}],guard:=none}]
     false)
    Go.Code.ret)))
def kr:br:=fun _ _ _ _=>False
def gO (E:aI):aH:=⟨E,fun _=>{},fun _=>none,kr⟩
theorem AF {w:World} {H:J} {φ :ag} {A:ah} {xs:List AV} {v:Value} (h:R w H φ A (.fz xs) v): ∃a cap,v= .slice a xs.length cap:=by
 cases h.dA with
 |cH a cap=>exact ⟨a,cap,rfl⟩
 |fz _ c off cap n arr T fr=>exact ⟨_,_,rfl⟩
theorem AG {P:Program} {w:World} {t e:TypeId} {a:Option Addr} {n cap:Nat} (h:(underlying t).run P w= .ok (.slice e) w) (d:Nat): ∃b,(Op.equalIn (d+1) t (.slice a n cap) (.slice none 0 0)).run P w= .ok b w∧(b=true→a=none):=by
 cases a with
 |none=>exact ⟨true,by simp [Op.equalIn,h],fun _=>rfl⟩
 |some a=>exact ⟨false,qD h d,by simp⟩
theorem AI: ∀c:Code,cW {} c=true:=by
 intro c;induction c with
 |seq a b gb gd=>simp [cW,gb,gd]
 |cond c a b gb gd=>simp [cW,gb,gd]
 |block id a ih=>simp [cW,ih]
 |loop a ih=>simp [cW,ih]
 |region id ops draw=>simp [cW]
 |_=>simp [cW]
section
variable {P:Program} {E:aI}
theorem AJ (hm:P.follows .mixedOrders=true) (hE: ∀t ti,E t=some ti→aS P t ti) {f:FuncId} {fn:Func} {t b e:TypeId} {ti te:TI} (hf:P.funcs[f]? =some fn) (pF:(fn.name== "runtime.NumGoroutine")=false)
 (hb:fn.body=some (wB t b)) (hr:fn.results= #[.tmp 2]) (hn:fn.ntmps=8) (ht:E t=some ti) (hu:ti.au= .sl e) (he:E e=some te) (xs:List AV) (H:J) (hz:bF te.sz xs=true) (h0:te.sz≠0) (dR:roomy xs.length te.bytes=true):
 cb P f [.fz xs] H (fun v H' =>v=(if xs=[] then .e0 else .ref H.bs.length H.st 0 xs.length)∧H' =(if xs=[] then H else H.new te.sz false xs)):=by
 have dj:Exact kr:=fun _ _ _ _ h=>h.elim;have hX: ∀f ys H K,kr f ys H K→cb P f ys H K:=fun _ _ _ _ h=>h.elim;have hD:mJ P (gO E) kr:=sE (C:=gO E) dj hm hE hX;have lK:=fun (c:Code) s H K Q w φ A a h=>r8 (P:=P) (C:=gO E) (X:=kr) hm hE hX hD {} c 0 s H K Q w φ A a (AI c) h;refine ⟨⟨fn,hf,pF,by simp [hb]⟩,fun w A φ us ae hl cy=> ?_⟩
 refine calls_of_wp hf hb ?_;rw [hn];obtain ⟨v,rfl⟩: ∃v,us= #[v]:=by
  match us,hl with
  |⟨[v]⟩,_=>exact ⟨v,rfl⟩
 have hv:R w H φ A (.fz xs) v:=cy 0 _ _ rfl rfl;have en:SF w H φ A [.fz xs,.undef,.undef,.undef,.undef,.undef,.undef,.undef] {tmps:= #[v] ++ Array.replicate (8-1) undef,defers:=[]}:=by
  refine ⟨rfl,fun i x u hx hu=> ?_,rfl⟩
  match i with
  |0=>simp at hx hu;subst hx;subst hu;exact hv
  |i+1=>
   have:x= .undef:=by
    match i with
    |0|1|2|3|4|5|6=>simpa using hx.symm
    |i+7=>simp at hx
   subst this;exact .fr _ _ (.undef _)
 have fin: ∀(s' :aj) (H' :J) (ak:ag) (A' :ah) (a' :Act) (w' :World) (x:AV),Out w H φ A w' H' ak A' →SF w' H' ak A' s' a' →s'.getD 2 .undef=x→(∀u,R w' H' ak A' x u→ ∃y,R w' H' ak A' y u∧(y=(if xs=[] then .e0 else .ref H.bs.length H.st 0 xs.length)∧H' =(if xs=[] then H else H.new te.sz false xs)))→
  a'.defers=[]∧ ∃v,(results fn a'.tmps).run P w' = .ok v w' ∧iO w H φ A (fun v H' =>v=(if xs=[] then .e0 else .ref H.bs.length H.st 0 xs.length)∧H' =(if xs=[] then H else H.new te.sz false xs)) (.returned v) w' :=by
  intro s' H' ak A' a' w' x h1 h2 hx hy
  refine ⟨h2.eI,?_⟩;obtain ⟨cF,k1,k2,k3⟩:=r_ (P:=P) (C:=gO E) hE h1.st h2 (fn:=fn) (rs:=[x]) (by rw [hr];simp only [dz,hx,Option.map_some])
  obtain ⟨u,rfl⟩: ∃u,cF=[u]:=by
   match cF,k2 with
   |[u],_=>exact ⟨u,rfl⟩
  obtain ⟨y,AK,AM⟩:=hy u (k3 0 x u rfl rfl);exact ⟨_,k1,y,H',ak,A',h1,by simpa [ib] using AK,AM⟩
 refine wp_seq (lK _ _ H (fun e s1 H1=>e= .normal∧s1=[.fz xs,.undef,.nil,.undef,.undef,.undef,.undef,.undef]∧H1=H) _ w φ A _ ?_ ae en ?_)
 ·simp [cX,jQ,iB,fJ,aL,cP,dt,wpOp,dI,aM,ev,ofValue,bm,gO]
 rintro e1 s1 H1 φ1 A1 a1 w1 o1 cI ⟨rfl,rfl,rfl⟩;show (Code.seq _ _).wp P _ a1 w1;have jC:=o1.st;refine wp_seq (wp_seq (wp_region_list ?_));simp only [wpList];rw [if_pos (by simp [Region.wanted])]
 refine .inl (mE (C:=gO E) (X:=kr) hE hX jC (s:=[.fz xs,.undef,.nil,.undef,.undef,.undef,.undef,.undef]) (fun x _=>cI.ev x) (th:=false) (K:=fun x H' =>x= .fz xs∧H' =H1) (by simp [wpOp,dI,aM,ev]) ?_)
 rintro x3 v3 w3 H3 cV A3 o3 qb ⟨rfl,rfl⟩;have AN:=(cI.mono o3.bQ).set (some 3) qb;have ly:=o3.st;rw [if_pos (by simp [Region.wanted])]
 have AO:(a1.put (some 3) v3).eval (.tmp 3)=v3:=by
  have:a1.tmps.size=8:=by have:=cI.len;simpa using this.symm
  simp [Act.eval,Act.put,this]
 obtain ⟨a0,cap,rfl⟩:=AF qb;obtain ⟨bb,wC,AP⟩:=AG (a:=a0) (n:=xs.length) (cap:=cap) ((hE t ti ht).sl w3 hu) 9999;have AQ:cj w3 H3 cV A3 H3 ((execOp (a1.put (some 3) (.slice a0 xs.length cap)).eval {dst:=some 4,op:=Go.Op.binOp Go.BinOp.eql t (Go.Operand.tmp 3) (Go.Operand.const (Go.Value.slice none 0 0)) t,type:=b,pos:= "slices.go:357",after:= #[{on:=0,ground:=Go.Ground.data}],guard:=none}).run P w3) (.bool bb):=by
  have hg:=iF P w3 .eql t (.tmp 3) (.const (.slice none 0 0)) (.slice a0 xs.length cap) (.slice none 0 0) (by simp) rfl
  have AR:binOp .eql t (.slice a0 xs.length cap) (.slice none 0 0)=(do pure (.bool (←Op.equal t (.slice a0 xs.length cap) (.slice none 0 0)))):=rfl
  rw [←n5] at wC;refine cj.kX ly (.inl rfl) (bh.fu ly ⟨.bool bb,?_,.fr _ _ (.bool _)⟩);rw [AO];show (do eqGuard .eql t (.tmp 3) (.const (.slice none 0 0)) (.slice a0 xs.length cap) (.slice none 0 0);binOp .eql t (.slice a0 xs.length cap) (.slice none 0 0):Sem Value).run P w3=_
  simp [hg,AR,wC]
 refine .inl (AQ.upon fun v4 w4 wD A4 o4 AS=> ?_);have wE:=(AN.mono o4.bQ).set (some 4) AS;have qc:=o4.st;have wF:Out w H3 φ A w4 H3 wD A4:=o1.trans ae (o3.trans jC (o4.trans ly (.refl qc)));simp only [bm,List.set_cons_succ,List.set_cons_zero] at wE;simp only [Exit.then];refine lK _ [.fz xs,.undef,.nil,.fz xs,.bool bb,.undef,.undef,.undef] H3 (fun e s' H' =>H' =H3∧if bb=true then e= .ret∧s' =[.fz xs,.undef,.nil,.fz xs,.bool bb,.undef,.undef,.undef] else e= .normal∧s' =[.fz xs,.undef,.nil,.fz xs,.bool bb,.undef,.undef,.undef]) _ w4 wD A4 _ ?_ qc wE ?_
 ·cases bb
  ·simp [cX,lR,aL,ev,gO]
  ·simp [cX,lR,jQ,iB,fJ,aL,cP,dt,wpOp,dI,aM,ev,ofValue,bm,gO];exact ⟨_,_,⟨rfl,rfl⟩,rfl,rfl⟩
 rintro e5 s5 H5 AT A5 a5 w5 o5 wG ⟨rfl,nA⟩;cases bb with
 |true=>
  simp only [if_true] at nA;obtain ⟨rfl,rfl⟩:=nA;obtain rfl:=AP rfl;have dN:xs=[]:=by
   cases DB:qb.dA with
   |cH=>rfl
  subst dN;show (bodyPost P fn _) .ret a5 w5;refine fin _ _ _ _ _ _ .nil (wF.trans ae o5) wG rfl fun u hu=>⟨.e0,?_,by simp⟩
  have:=hu.c8;subst this;exact .fr _ _ (.e0 none)
 |false=>
  simp only [Bool.false_eq_true,if_false] at nA;obtain ⟨rfl,rfl⟩:=nA;show (Code.seq _ _).wp P _ a5 w5;refine lK _ [.fz xs,.undef,.nil,.fz xs,.bool false,.undef,.undef,.undef] H5 (fun e s' H' =>e= .ret∧s'.getD 2 .undef=(if xs=[] then .e0 else .ref H5.bs.length H5.st 0 xs.length)∧H' =(if xs=[] then H5 else H5.new te.sz false xs)) _ w5 AT A5 a5 ?_ o5.st wG ?_
  ·by_cases dN:xs=[]
   ·subst dN;simp [cX,jQ,iB,fJ,aL,cP,dt,wpOp,dI,aM,ev,bm,gO,cm,ht,hu,he,cB,ek,cO,bF,h0];refine ⟨_,_,⟨rfl,rfl⟩,_,_,⟨rfl,rfl⟩,_,_,⟨rfl,rfl⟩,?_⟩;simp
   ·have hlen: ¬xs.length=0:=by simpa using dN
    simp [cX,jQ,iB,fJ,aL,cP,dt,wpOp,dI,aM,ev,bm,gO,cm,ht,hu,he,cB,ek,cO,h0,dN];refine ⟨_,_,⟨rfl,rfl⟩,_,_,⟨rfl,rfl⟩,_,_,⟨rfl,rfl⟩,?_⟩;simp [hz,dR,dN]
  ·rintro e6 s6 H6 DC A6 a6 w6 o6 AU ⟨rfl,AW,rfl⟩;show (bodyPost P fn _) .ret a6 w6;exact fin _ _ _ _ _ _ _ (wF.trans ae (o5.trans qc o6)) AU AW fun u hu=>⟨_,hu,rfl,rfl⟩
def wH (ids:List (FuncId×Nat×Nat)):br:=fun f ys H K=> ∃sz b xs,(f,sz,b)∈ids∧ys=[.fz xs]∧bF sz xs=true∧sz≠0∧roomy xs.length b=true∧K (if xs=[] then .e0 else .ref H.bs.length H.st 0 xs.length) (if xs=[] then H else H.new sz false xs)
structure wI (P:Program) (E:aI) (f:FuncId) (sz b:Nat):Prop where
 out: ∃fn t bt e ti te,P.funcs[f]? =some fn∧(fn.name== "runtime.NumGoroutine")=false∧fn.body=some (wB t bt)∧fn.results= #[.tmp 2]∧fn.ntmps=8∧E t=some ti∧ti.au= .sl e∧E e=some te∧te.sz=sz∧te.bytes=b
theorem AX (hm:P.follows .mixedOrders=true) (hE: ∀t ti,E t=some ti→aS P t ti) {ids:List (FuncId×Nat×Nat)} (qd: ∀x∈ids,wI P E x.1 x.2.1 x.2.2):
 ∀f ys H K,wH ids f ys H K→ ∃v H',cb P f ys H (fun v1 H1=>v1=v∧H1=H')∧K v H' :=by
 rintro f ys H K ⟨sz,b,xs,h1,rfl,h2,h3,h4,h5⟩;obtain ⟨fn,t,bt,e,ti,te,k1,k2,k3,k4,k5,k6,k7,k8,rfl,rfl⟩:=(qd _ h1).out;exact ⟨_,_,AJ hm hE k1 k2 k3 k4 k5 k6 k7 k8 xs H h2 h3 h4,h5⟩
end
theorem DE {E:aI} {s:aj} {H:J} {L:List It} {γ :Type} {l:List γ} {c: γ →AV} {t:TypeId} {x:Operand} {ti:TI} {e:TypeId} (j:Nat) (hS:ay H L) {v w:AV} {sz:Nat} (hj:L[j]? =some ⟨v,sz,l.map c⟩) (hp:bp v)
 (ht:E t=some ti) (hu:ti.au= .sl e) {op:Op} (a_:op= .call {callee:= .builtin .len,args:= #[x],argTypes:= #[t]}) (hx:ev s x=v) (hw:w= .int .i64 l.length):gT E op s H=some (w,H):=by
 subst a_ hx hw;have h1:(some t).bind E=some ti:=ht;have h2:=hS.len j hj hp;rw [List.length_map] at h2;simp only [gT,List.map_cons,List.map_nil,cB,List.getElem?_toArray,List.getElem?_cons_zero,h1,h2,hu];rcases hp.ok with h|h|⟨_,_,_,_,h⟩<;>rw [h]
theorem DF {E:aI} {s:aj} {H:J} {L:List It} {α β :Type} {t:TypeId} {x i:Operand} {ti te:TI} {e:TypeId} (j:Nat) (hS:ay H L) {v w:AV} {l:List α} {c: α →AV} {sz:Nat} (hj:L[j]? =some ⟨v,sz,l.map c⟩)
 (ht:E t=some ti) (hu:ti.au= .sl e) (he:E e=some te) (aA:sz=te.sz) {k:IntKind} {n:Int} {l0:List β} {y: β} {id ad off:Nat} (hv:v= .ref id ad off l0.length) (hb:idx l0 n=some y)
 (hx:ev s x=v) (hi:ev s i= .int k n) (hw:w= .ptr id ad (off+n.toNat) 0) {op:Op} (a_:op= .indexAddr t x i):aM E op s H=some (w,H):=by
 subst a_;obtain ⟨h0,h2,h1⟩:=ko hb;subst hv;obtain ⟨_,h3,b,hb,h4,_,h5,h6⟩:=hS.ok j _ hj;simp only at h3 h4 h5;simp only [aM,ht,hi,hu,he,hx,hb];rw [if_pos ⟨by rw [h4,aA],h0,h2,h5⟩,hw]
theorem DG {E:aI} {s:aj} {H:J} {L:List It} {α :Type} {t:TypeId} {x:Operand} {ti:TI} (j:Nat) (hS:ay H L) {v w:AV} {l:List α} {c: α →AV} {sz:Nat} (hj:L[j]? =some ⟨v,sz,l.map c⟩)
 (ht:E t=some ti) {n:Int} {y: α} {id ad off k o:Nat} (hv:v= .ref id ad off k) (hb:idx l n=some y)
 (hx:ev s x= .ptr id ad (off+n.toNat) o) (hw:bP ti (c y) o=some w) {op:Op} (a_:op= .load t x):aM E op s H=some (w,H):=by
 subst a_;obtain ⟨b,h1,h2⟩:=hS.elem j hj hv hb;simp only [aM,ht,hx,h1,h2,hw]
end Go.VS
namespace Go.VS
structure gh (w:List AV) (n:Nat):Prop where
 len:w.length=n
 sl: ∀a∈w,bp a
def AY {α β :Type} (p: α →List β) (c: β →AV) (z:Nat) (w:List AV) (l:List α):List It:=List.zipWith (fun a x=>⟨a,z,(p x).map c⟩) w l
def DH {α :Type} (m:AV→ α →AV) (w:List AV) (l:List α):List AV:=List.zipWith m w l
def DI {α β :Type} (p: α →List β) (c: β →AV) (z:Nat) (w:List AV) (l:List α) (i:Nat):List It:=(AY p c z w l).eraseIdx i
theorem DJ {α :Type} (c: α →AV) (l:List α):Ay c l= .fz (l.map c):=rfl
def AZ:List (List It)→List It→List It
 |[],F=>F
 |a::as,F=>a ++ AZ as F
section
variable {H:J} {L F R:List It}
variable {α β :Type} {p: α →List β} {c: β →AV} {z:Nat} {w:List AV} {l:List α} {m:AV→ α →AV} {v:AV} {sz:Nat}
theorem gh.nil:gh [] 0:=⟨rfl,by simp⟩
theorem gh.get (h:gh w l.length) {i:Int} {b: α} (hi:idx l i=some b): ∃a,w[i.toNat]? =some a∧bp a:=by
 obtain ⟨_,_,h1⟩:=ko hi;have:=(List.getElem?_eq_some_iff.1 h1).1;have hw:i.toNat<w.length:=by rw [h.len];exact this
 exact ⟨_,List.getElem?_eq_getElem hw,h.sl _ (List.getElem_mem hw)⟩
theorem gh.set (h:gh w l.length) {a:AV} (ha:bp a) (i:Nat) (y: α):gh (w.set i a) (l.set i y).length:=by
 refine ⟨by simpa using h.len,fun x hx=> ?_⟩
 rcases List.mem_or_eq_of_mem_set hx with h1|rfl
 ·exact h.sl _ h1
 ·exact ha
theorem gh.app {w' :List AV} {l' :List α} (h:gh w l.length) (h' :gh w' l'.length):gh (w ++ w') (l ++ l').length:=by
 refine ⟨by simp [h.len,h'.len],fun x hx=> ?_⟩
 rcases List.mem_append.1 hx with h1|h1
 ·exact h.sl _ h1
 ·exact h'.sl _ h1
theorem DK {C:aH} {q th:Bool} {s:aj} {K:AV→J→Prop} {t e:TypeId} {x:Operand} {ti:TI} (ht:C.E t=some ti) (hu:ti.au= .sl e) (hx:ev s x= .nil) (h:K (.int .i64 0) H):a7 (aq C) C q th (.call {callee:= .builtin .cap,args:= #[x],argTypes:= #[t]}) s H K:=by
 unfold a7 wpOp;have e1:((#[t]:Array TypeId)[0]?).bind C.E=C.E t:=rfl;simp only [eR,implies_true,true_and,List.map_cons,List.map_nil,hx,cB,e1,ht,hu];exact h
theorem DL {E:aI} {K:AV→J→Prop} {t e:TypeId} {ti te:TI} {lo hi:Option Int} (ht:E t=some ti) (hu:ti.au= .sl e) (he:E e=some te) (h1:lo.getD 0=0) (h2:hi.getD 0=0) (h:K .nil H):eN E t .nil (some lo) (some hi) (some none) H K:=by
 simp only [eN,eO,ht,hu,he];rw [if_pos ⟨h1,h2,rfl,by simp⟩]
 exact h
structure qe (v:AV) (lo n:Nat) (v' :AV):Prop where
 out:(v= .nil∧v' = .nil)∨(v= .e0∧v' = .e0)∨ ∃id ad off len,v= .ref id ad off len∧v' = .ref id ad (off+lo) n
theorem wJ {γ :Type} {l m:List γ} {lo hi:Int} (h:dU l lo hi=some m):0≤lo∧lo≤hi∧hi≤l.length∧m=(l.drop lo.toNat).take (hi.toNat-lo.toNat)∧m.length=hi.toNat-lo.toNat:=by
 unfold dU at h;split at h
 ·rename_i hc;simp only [Option.some.injEq] at h;refine ⟨hc.1,hc.2.1,hc.2.2,h.symm,?_⟩;rw [←h,List.length_take,List.length_drop];omega
 ·simp at h
theorem DM {γ δ :Type} {E:aI} {K:AV→J→Prop} {t e:TypeId} {ti te:TI} {l:List γ} {c: γ →AV} {lo hi:Option Int} {f:List γ →Option δ} {r: δ} (j:Nat) (hS:ay H L) (hj:L[j]? =some ⟨v,te.sz,l.map c⟩) (hp:bp v) (ht:E t=some ti) (hu:ti.au= .sl e) (he:E e=some te) (hh:(dU l (lo.getD 0) (hi.getD l.length)).bind f=some r)
 (h: ∀v' m,bp v' →qe v (lo.getD 0).toNat m.length v' →dU l (lo.getD 0) (hi.getD l.length)=some m→f m=some r→K v' H):eN E t v (some lo) (some hi) (some none) H K:=by
 cases hm:dU l (lo.getD 0) (hi.getD l.length) with
 |none=>rw [hm] at hh;simp at hh
 |some m=>
  rw [hm] at hh;have hk:=fun v' bu hw=>h v' m bu hw hm hh
  obtain ⟨di,dO,lI,_,fE⟩:=wJ hm;have af:=hS.ok j _ hj;obtain ⟨k0,af⟩:=af;simp only at af k0;have empty:l.map c=[]→lo.getD 0=0∧hi.getD 0=0:=by
   intro e;rw [List.map_eq_nil_iff] at e;subst e;have e0:(([]:List γ).length:Int)=0:=rfl;rw [e0] at lI dO;refine ⟨by omega,?_⟩
   cases hi with
   |none=>rfl
   |some x=>simp at dO lI⊢;omega
  split at af
  ·obtain ⟨e1,e2⟩:=empty af;simp only [eN,eO,ht,hu,he];rw [if_pos ⟨e1,e2,rfl,by simp⟩]
   exact hk .nil nt ⟨.inl ⟨rfl,rfl⟩⟩
  ·obtain ⟨e1,e2⟩:=empty af;simp only [eN,eO,ht,hu,he];rw [if_pos ⟨e1,e2,rfl,by simp⟩]
   exact hk .e0 nu ⟨.inr (.inl ⟨rfl,rfl⟩)⟩
  ·rename_i id ad off len;obtain ⟨k1,b,hb,k2,k3,k4,k5⟩:=af;simp only [List.length_map] at k1;subst k1;simp only [eN,eO,ht,hu,hb,he,k2,ne_eq,not_true_eq_false,if_false];rw [if_pos ⟨di,dO,by omega⟩]
   refine hk _ (fD ..) ⟨.inr (.inr ⟨id,ad,off,_,rfl,?_⟩)⟩;rw [fE]
  ·rename_i id ad ix off;obtain ⟨rfl,rfl,_⟩:=af;exact absurd rfl (hp.ne id ad)
  ·exact af.elim
structure DN (H:J) (v:AV) (n:Nat):Prop where
 out:((v= .nil∨v= .e0)∧n=0)∨ ∃id ad off len b,v= .ref id ad off len∧H.ap id ad=some b∧off+n≤b.el.length
structure DO (v:AV) (n k:Nat) (v' :AV):Prop where
 out:((v= .nil∨v= .e0)∧v' =v)∨ ∃id ad off len,v= .ref id ad off len∧v' = .ref id ad (off+n) k
theorem A7 {C:aH} {th:Bool} {s:aj} {K:AV→J→Prop} (x:Operand) (t:TypeId):a7 (aq C) C false th (.call {callee:= .builtin .clear,args:= #[x],argTypes:= #[t]}) s H K=da (cB C.E .clear #[t] [ev s x] H) K:=by
 unfold a7 wpOp;simp only [Bool.false_eq_true,false_implies,true_and];rfl
def iY {γ :Type} (l:List γ) (lo:Int) (m:List γ) (d: γ):List γ :=l.take lo.toNat ++ List.replicate m.length d ++ l.drop (lo.toNat+m.length)
theorem A8 {γ :Type} {E:aI} {K:AV→J→Prop} {t:TypeId} {te:TI} {l m:List γ} {c: γ →AV} {v' z:AV} {d: γ} {lo hi:Int} (j:Nat) (hS:ay H L) (hj:L[j]? =some ⟨v,te.sz,l.map c⟩) (ht:cm E t=some te) (h0:(te.sz==0)=false) (hz:dX te=some z) (hd:c d=z) (hv:qe v lo.toNat m.length v') (hm:dU l lo hi=some m)
 (h: ∀H',ay H' (L.set j ⟨v,te.sz,(iY l lo m d).map c⟩)→K (.az []) H'):da (cB E .clear #[t] [v'] H) K:=by
 have e1:((#[t]:Array TypeId)[0]?).bind (cm E)=some te:=ht;have aK:te.sz≠0:=by simpa using h0
 obtain ⟨di,dO,lI,A9,fE⟩:=wJ hm;have same:L.set j ⟨v,te.sz,l.map c⟩=L:=List.ext_getElem? fun k=>by
  rw [List.getElem?_set];split
  ·rename_i e;subst e;have:=(List.getElem?_eq_some_iff.1 hj).1;simp only [this,if_true];exact hj.symm
  ·rfl
 have af:=(hS.ok j _ hj).2;simp only at af;have empty:l.map c=[]→iY l lo m d=l:=fun e=>by
  rw [List.map_eq_nil_iff] at e;subst e;have:m=[]:=by rw [A9];simp
  subst this;simp [iY]
 simp only [cB,e1];rcases hv.out with ⟨rfl,rfl⟩|⟨rfl,rfl⟩|⟨id,ad,off,len,rfl,rfl⟩
 ·simp only at af;rw [empty af,same] at h;simp only [jN,da];exact h H hS
 ·simp only at af;rw [empty af,same] at h;simp only [jN,da];exact h H hS
 ·simp only at af;obtain ⟨k1,b,hb,k2,k3,k4,k5⟩:=af;simp only [List.length_map] at k1;subst k1;have bE:=(J.bj hb).2;simp only [jN,hb,hz];rw [if_pos ⟨k2,by omega,aK⟩]
  simp only [da];refine h _ ?_;have j9:(splice b.el (off+lo.toNat) (List.replicate m.length z)).length=b.el.length:=jW _ _ _ (by simp;omega)
  have jj:(iY l lo m d).length=l.length:=by simp only [iY,List.length_append,List.length_take,List.length_replicate,List.length_drop];omega
  have k0:=(hS.ok j _ hj).1;refine hS.aZ hj rfl (fun eT fB aK _=>jF aK) ⟨?_,by simp [jj],{b with el:=splice b.el (off+lo.toNat) (List.replicate m.length z)},?_,k2,k3,by simp only [j9];simpa [jj] using k4,?_⟩ (fun k hk=>by simpa [bS] using hk.symm)
  ·simp only [bF,List.all_eq_true] at k0⊢;intro x hx;simp only [iY,List.map_append,List.mem_append,List.map_take,List.map_drop,List.map_replicate,List.mem_replicate] at hx;rcases hx with (hx|⟨_,rfl⟩)|hx
   ·exact k0 x (List.mem_of_mem_take hx)
   ·rw [hd];simpa using nq hz
   ·exact k0 x (List.mem_of_mem_drop hx)
  ·have:=jG (H:=H) (b:={b with el:=splice b.el (off+lo.toNat) (List.replicate m.length z)}) ((hS.ok j _ hj).lt rfl);simpa only [bE] using this
  ·simp only [aB] at k5⊢;apply List.ext_getElem?;intro i;have ki:=congrArg (fun x=>x[i]?) k5;simp only [List.getElem?_take,List.getElem?_drop,List.getElem?_map] at ki⊢;by_cases hi:i<l.length
   ·simp only [if_pos hi] at ki⊢;unfold splice iY;simp only [List.length_replicate];by_cases h1:i<lo.toNat
    ·rw [List.getElem?_append_left (by simp;omega),List.getElem?_append_left (by simp;omega),List.getElem?_take_of_lt (by omega),List.getElem?_append_left (by simp;omega),List.getElem?_append_left (by simp;omega),List.getElem?_take_of_lt h1]
     exact ki
    ·by_cases h2:i<lo.toNat+m.length
     ·rw [List.getElem?_append_left (by simp;omega),List.getElem?_append_right (by simp;omega),List.getElem?_replicate,if_pos (by simp;omega),List.getElem?_append_left (by simp;omega),List.getElem?_append_right (by simp;omega),List.getElem?_replicate,if_pos (by simp;omega),←hd];rfl
     ·rw [List.getElem?_append_right (by simp;omega),List.getElem?_append_right (by simp;omega),List.getElem?_drop,List.getElem?_drop]
      simp only [List.length_append,List.length_take,List.length_replicate];rw [show off+lo.toNat+m.length+(off+i-(min (off+lo.toNat) b.el.length+m.length))=off+i by omega,show lo.toNat+m.length+(i-(min lo.toNat l.length+m.length))=i by omega]
      exact ki
   ·simp only [if_neg hi];rw [List.getElem?_eq_none (by rw [jj];omega)];rfl
theorem DP {γ :Type} {C:aH} {th:Bool} {s:aj} {K:AV→J→Prop} {xo:Operand} {t:TypeId} {te:TI} {l m:List γ} {c: γ →AV} {v' z:AV} {d: γ} {lo hi:Int} (j:Nat) (hS:ay H L) (hj:L[j]? =some ⟨v,te.sz,l.map c⟩) (hx:ev s xo=v') (ht:cm C.E t=some te) (h0:(te.sz==0)=false) (hz:dX te=some z) (hd:c d=z) (hv:qe v lo.toNat m.length v') (hm:dU l lo hi=some m)
 (h: ∀H',ay H' (L.set j ⟨v,te.sz,(iY l lo m d).map c⟩)→K (.az []) H'):a7 (aq C) C false th (.call {callee:= .builtin .clear,args:= #[xo],argTypes:= #[t]}) s H K:=by
 rw [A7,hx];exact A8 j hS hj ht h0 hz hd hv hm h
theorem DQ {γ δ :Type} {E:aI} {K:AV→J→Prop} {t u:TypeId} {te tu:TI} {k:IntKind} {n:Int} {z0:AV} {d: γ} {c: γ →AV} {f:List γ →Option δ} {r: δ} (hS:ay H L) (ht:cm E t=some te) (hu:E u=some tu) (hi:tu.au= .it k) (hz:gk te=some z0) (hd:c d=z0) (h0:(te.sz==0)=false) (hh:(iv te.bytes n d).bind f=some r)
 (h: ∀v H' l,bp v→iv te.bytes n d=some l→f l=some r→ay H' (⟨v,te.sz,l.map c⟩::L)→K v H'):da (cB E .append #[t,u] [.nil,.int .i64 n] H) K:=by
 cases hm:iv te.bytes n d with
 |none=>rw [hm] at hh;simp at hh
 |some l=>
  rw [hm] at hh;have lL:=hm
  unfold iv at lL;split at lL
  ·rename_i hc;simp only [Option.some.injEq] at lL;subst lL;have aK:te.sz≠0:=by simpa using h0
   have e1:(#[t,u]:Array TypeId)[0]? =some t:=rfl;have e2:((#[t,u]:Array TypeId)[1]?).bind E=E u:=rfl;simp only [cB,e1,e2,ht,hu,hi,jM,hz];rw [if_pos ⟨hc.1,hc.2,aK⟩];by_cases hn:n=0
   ·rw [if_pos hn];subst hn;exact h .nil H _ nt hm hh (hS.Au te.sz)
   ·rw [if_neg hn];refine h _ _ _ (fD ..) hm hh (hS.lE (by simp [hd]) (by simp) ?_)
    simp only [bF,List.map_replicate,List.all_replicate,hd,uD hz];simp
  ·simp at lL
end
theorem DR {C:aH} {kp:List Nat} {s s' :aj} {H:J} {K:Ex→aj→J→Prop} (hk:eD kp s=s') (h:K .normal s' H):aL (aq C) C (.fI [] (some kp)) s H K:=by
 subst hk;exact h
end Go.VS
