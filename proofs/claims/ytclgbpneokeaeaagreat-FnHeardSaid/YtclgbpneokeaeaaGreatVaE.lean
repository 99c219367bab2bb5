import Derived.Test.YtclgbpneokeaeaaGreatVaD
namespace Go.VS
def FZ (l:List (List Nat×List Sh)) (s:aj) (H:J) (P:aj→J→Prop):Prop:= ∃s' H',dt l s H=some (s',H')∧P s' H'
section
variable {C:aG} {s:aj} {H:J} {L:List It}
theorem uZ (P:aj→J→Prop):FZ [] s H P=P s H:=by
 apply propext;constructor
 ·rintro ⟨s',H',h,hp⟩;simp only [dt,Option.some.injEq,Prod.mk.injEq] at h;obtain ⟨rfl,rfl⟩:=h;exact hp
 ·exact fun h=>⟨s,H,rfl,h⟩
theorem p7 {t:Nat} {ts:List Nat} {e:Sh} {sh:List Sh} {l:List (List Nat×List Sh)} {P:aj→J→Prop} {y:AV} {H1:J} (ht:aY (e::sh) (s.getD t .undef) H=some (y,H1)) (h:FZ l (fK (s.getD t .undef) (br y) ts (s.set t (br y))) H1 P):FZ ((t::ts,e::sh)::l) s H P:=by
 obtain ⟨s',H',h1,h2⟩:=h;exact ⟨s',H',by simp only [dt,ht];exact h1,h2⟩
theorem u2 {f:AV→J→Option (AV×J)}: ∀(xs:List AV) (H:J),(∀x∈xs,∀H,f x H=some (x,H))→dn f xs H=some (xs,H)
 |[],H,_=>rfl
 |x::xs,H,h=>by
  simp only [dn,h x (by simp) H,u2 xs H (fun y hy=>h y (by simp [hy]))]
theorem u3 {α :Type} {c: α →AV} (hz: ∀x,br (c x)=c x): ∀(l:List α),bU (l.map c)=l.map c
 |[]=>rfl
 |x::l=>by simp only [List.map_cons,bU,hz x,u3 hz l]
theorem az.del (hS:az H L) {id:Nat} (h: ∀(i:Nat) (it:It),L[i]? =some it→bW it.v≠some id):az (H.del id) L:=
 ⟨fun i it hi=>(hS.ok i it hi).frame fun k ad hk=>by
  have aL: ¬id=k:=fun e=>h i it hi (by rw [hk,e])
  simp only [J.ap,J.del,List.getElem?_set,if_neg aL],hS.b_⟩
theorem Ar (hS:az H L) {j:Nat} {v:AV} {sz:Nat} {el:List AV} (hj:L[j]? =some ⟨v,sz,el⟩) (hp:bA v):ff v v=true:=by
 have af:=(hS.ok j _ hj).2;simp only at af;split at af
 ·rfl
 ·rfl
 ·simp [ff]
 ·rename_i id ad ix off;obtain ⟨rfl,rfl,_⟩:=af;exact absurd rfl (hp.ne id ad)
 ·exact af.elim
theorem az.take {α :Type} (hS:az H L) (j:Nat) {v:AV} {es:List Sh} {l:List α} {c: α →AV} (hj:L[j]? =some ⟨v,es.length,l.map c⟩) (hp:bA v) (hc: ∀x H,aY es (c x) H=some (c x,H)):
 ∃H',aY [.sl es] v H=some (.own es.length (l.map c),H')∧az H' (L.eraseIdx j):=by
 have af:=hS.ok j _ hj;have hf:=hS.front j hj;obtain ⟨k0,af⟩:=af;have e1:aY [.sl es] v H=aN (.sl es) v H:=by
  have p8: ∀cs,v≠ .agg cs:=by rintro cs rfl;exact af
  cases v with
  |agg cs=>exact absurd rfl (p8 cs)
  |_=>simp only [aY]
 rw [e1];simp only at af;split at af
 ·rename_i hv;exact ⟨H,by simp only [aN,af],hf.tl⟩
 ·exact ⟨H,by simp only [aN,af],hf.tl⟩
 ·rename_i id ad off len;obtain ⟨k1,b,hb,k2,k3,k4,k5⟩:=af;have hm:dn (aY es) (l.map c) (H.del id)=some (l.map c,H.del id):=u2 _ _ (by
   intro x hx H;obtain ⟨y,_,rfl⟩:=List.mem_map.1 hx;exact hc y H)
  refine ⟨H.del id,?_,hf.tl.del fun i it hi e=> ?_⟩
  ·simp only [aN,hb];rw [if_pos ⟨k2,k4,.inl k3⟩,k5,hm]
  ·have:=hf.b_ 0 (i+1) _ it id rfl (by simpa using hi) rfl e
   omega
 ·rename_i id ad ix off;obtain ⟨rfl,rfl,_⟩:=af;exact absurd rfl (hp.ne id ad)
 ·exact af.elim
theorem CR {α :Type} {t:Nat} {ts:List Nat} {es:List Sh} {l:List (List Nat×List Sh)} {P:aj→J→Prop} {v:AV} {m:List α} {c: α →AV} (j:Nat) (hS:az H L) (hj:L[j]? =some ⟨v,es.length,m.map c⟩) (hp:bA v) (hv:s.getD t .undef=v) (hc: ∀x H,aY es (c x) H=some (c x,H)) (hz: ∀x,br (c x)=c x)
 (h: ∀H',ff v v=true→az H' (L.eraseIdx j)→FZ l (fK v (.fz (m.map c)) ts (s.set t (.fz (m.map c)))) H' P):FZ ((t::ts,[.sl es])::l) s H P:=by
 obtain ⟨H',h1,h2⟩:=hS.take j hj hp hc;rw [←hv] at h1;refine p7 h1 ?_;simp only [br,u3 hz,hv];exact h H' (Ar hS hj hp) h2
theorem CS {t:Nat} {ts:List Nat} {es:List Sh} {l:List (List Nat×List Sh)} {P:aj→J→Prop} (hv:s.getD t .undef= .nil) (h:FZ l (fK .nil (.fz []) ts (s.set t (.fz []))) H P):FZ ((t::ts,[.sl es])::l) s H P:=by
 refine p7 (y:= .own es.length []) (H1:=H) (by rw [hv];simp only [aY,aN]) ?_
 rw [hv];exact h
def TC (es:List Sh) (cs:List AV) (H:J) (K:List AV→J→Prop):Prop:= ∃ys H',ck es cs H=some (ys,H')∧K ys H'
theorem CT {K:List AV→J→Prop} (h:K [] H):TC [] [] H K:=⟨[],H,by simp only [ck],h⟩
theorem nx {e:Sh} {es:List Sh} {v y:AV} {cs:List AV} {H1:J} {K:List AV→J→Prop} (ht:aN e v H=some (y,H1)) (h:TC es cs H1 fun ys H' =>K (y::ys) H'):TC (e::es) (v::cs) H K:=by
 obtain ⟨ys,H',h1,h2⟩:=h;exact ⟨y::ys,H',by simp only [ck,ht,h1],h2⟩
theorem CU {es:List Sh} {v:AV} {cs:List AV} {K:List AV→J→Prop} (hp:dp v=true) (h:TC es cs H fun ys H' =>K (v::ys) H'):TC (.sc::es) (v::cs) H K:=
 nx (by simp only [aN,hp,if_true]) h
theorem CV {es fs:List Sh} {xs cs:List AV} {K:List AV→J→Prop} (h:TC es cs H fun ys H' =>K (.fz xs::ys) H'):TC (.sl fs::es) (.fz xs::cs) H K:=
 nx (by simp only [aN]) h
theorem CW {es fs:List Sh} {cs:List AV} {K:List AV→J→Prop} (h:TC es cs H fun ys H' =>K (.own fs.length []::ys) H'):TC (.sl fs::es) (.nil::cs) H K:=
 nx (by simp only [aN]) h
theorem CX {α :Type} {es fs:List Sh} {v:AV} {cs:List AV} {K:List AV→J→Prop} {m:List α} {c: α →AV} (j:Nat) (hS:az H L) (hj:L[j]? =some ⟨v,fs.length,m.map c⟩) (hp:bA v) (hc: ∀x H,aY fs (c x) H=some (c x,H))
 (h: ∀H',az H' (L.eraseIdx j)→TC es cs H' fun ys H' =>K (.own fs.length (m.map c)::ys) H'):TC (.sl fs::es) (v::cs) H K:=by
 obtain ⟨H',h1,h2⟩:=hS.take j hj hp hc;have h3:aN (.sl fs) v H=some (.own fs.length (m.map c),H'):=by
  have p8: ∀cs,v≠ .agg cs:=by rintro cs rfl;rcases hp.ok with h|h|⟨_,_,_,_,h⟩<;>simp at h
  cases v with
  |agg cs=>exact absurd rfl (p8 cs)
  |_=>simpa only [aY] using h1
 exact nx h3 (h H' h2)
theorem CY {t:Nat} {e:Sh} {sh:List Sh} {l:List (List Nat×List Sh)} {P:aj→J→Prop} {cs:List AV} (hv:s.getD t .undef= .agg cs) (h:TC (e::sh) cs H fun ys H' =>FZ l (s.set t (br (.agg ys))) H' P):FZ (([t],e::sh)::l) s H P:=by
 obtain ⟨ys,H',h1,h2⟩:=h;refine p7 (y:= .agg ys) (H1:=H') (by rw [hv];simp only [aY,h1]) ?_
 exact h2
theorem u4 (xs:List AV):br (.agg xs)= .agg (bU xs):=rfl
theorem u5 (x:AV) (xs:List AV):bU (x::xs)=br x::bU xs:=rfl
theorem u6:bU []=[]:=rfl
theorem u7 (k:IntKind) (n:Int):br (.int k n)= .int k n:=rfl
theorem u9 (b:Bool):br (.bool b)= .bool b:=rfl
theorem u_ (b:List UInt8):br (.str b)= .str b:=rfl
theorem va (b:List AV):br (.fz b)= .fz b:=rfl
theorem vb (n:Nat) (b:List AV):br (.own n b)= .fz (bU b):=rfl
theorem vd (xs:List AV):br (.ay xs)= .ay (bU xs):=rfl
theorem ve (x:AV):cc [x]=x:=rfl
theorem vf (x y:AV) (l:List AV):cc (x::y::l)= .ay (x::y::l):=rfl
theorem vg:cc []= .ay []:=rfl
theorem vh (x y:AV):fK x y [] s=s:=rfl
theorem vi (x y:AV) (t:Nat) (ts:List Nat):fK x y (t::ts) s=fK x y ts (if ff (s.getD t .undef) x then s.set t y else s):=rfl
theorem vj:ff .nil .nil=true:=rfl
theorem vk:ff .e0 .e0=true:=rfl
theorem vl (fz:List (Nat×List (List Nat×List Sh))) (K:aj→J→Prop) (i:Nat):gb C fz K [] i s H=K s H:=rfl
theorem CZ {l:List (List Nat×List Sh)} {kp:Option (List Nat)} {K:Ex→aj→J→Prop} (h:FZ l s H fun s H=>K .normal (dZ kp s) H):aJ (aq C) C (.fF l kp) s H K:=by
 obtain ⟨s',H',h1,h2⟩:=h;exact zX h1 h2
theorem az.C0 (hS:az H L) (n:Nat) (js:List Nat) (hj:(js.Nodup∧ ∀j∈js,j<n)):az H (js.filterMap (L[·]?) ++ L.drop n):=by
 refine ⟨fun i it hi=> ?_,fun i j a b id hi vm ha hb=> ?_⟩
 ·rcases List.mem_append.1 (List.mem_of_getElem? hi) with h|h
  ·obtain ⟨k,_,hk⟩:=List.mem_filterMap.1 h;exact hS.ok k it hk
  ·obtain ⟨k,hk⟩:=List.mem_iff_getElem?.1 (List.mem_of_mem_drop h);exact hS.ok k it hk
 ·
  have key: ∀(js:List Nat),js.Nodup→(∀j∈js,j<n)→ ∀(i j:Nat) (a b:It),(js.filterMap (L[·]?) ++ L.drop n)[i]? =some a→(js.filterMap (L[·]?) ++ L.drop n)[j]? =some b→bW a.v=some id→bW b.v=some id→i=j:=by
   intro js;induction js with
   |nil=>
    intro _ _ i j a b hi hj ha hb;simp only [List.filterMap_nil,List.nil_append,List.getElem?_drop] at hi hj;have:=hS.b_ _ _ a b id hi hj ha hb;omega
   |cons k ks ih=>
    intro qW ax i j a b hi hj ha hb;have vn:=(List.nodup_cons.1 qW)
    have lW:=ih vn.2 (fun j h=>ax j (by simp [h]))
    cases hk:L[k]? with
    |none=>
     simp only [List.filterMap_cons,hk] at hi hj;exact lW i j a b hi hj ha hb
    |some c=>
     simp only [List.filterMap_cons,hk,List.cons_append] at hi hj;have other: ∀(m:Nat) (d:It),(ks.filterMap (L[·]?) ++ L.drop n)[m]? =some d→bW c.v=some id→bW d.v≠some id:=by
      intro m d hm hc hd;rcases List.mem_append.1 (List.mem_of_getElem? hm) with h|h
      ·obtain ⟨k',As,bG⟩:=List.mem_filterMap.1 h;have:=hS.b_ k k' c d id hk bG hc hd
       subst this;exact vn.1 As
      ·obtain ⟨k',bG⟩:=List.mem_iff_getElem?.1 h;rw [List.getElem?_drop] at bG;have:=hS.b_ k _ c d id hk bG hc hd
       have:=ax k (by simp)
       omega
     cases i with
     |zero=>
      simp at hi;subst hi;cases j with
      |zero=>rfl
      |succ j=>exact absurd hb (other j b (by simpa using hj) ha)
     |succ i=>
      cases j with
      |zero=>simp at hj;subst hj;exact absurd ha (other i a (by simpa using hi) hb)
      |succ j=>have:=lW i j a b (by simpa using hi) (by simpa using hj) ha hb;omega
  exact key js hj.1 hj.2 i j a b hi vm ha hb
end
theorem C1 {α :Type} {L F:List α} {n:Nat} {x: α} (hL:L.drop n=F) (h:x∈F):x∈L:=List.mem_of_mem_drop (hL.symm▸h)
abbrev u:=AV.undef
def Au {α :Type} (c: α →AV) (l:List α):AV:= .fz (l.map c)
theorem C2 {E:aK} {s:aj} {H:J} {a:Tmp} {t:TypeId} {rs:List ResultVar} {ti:TI} {id ad sz:Nat} {x y:AV} {ys:List AV} (ht:E t=some ti) (ha:s.getD a .undef= .ptr id ad 0 0) (hb:H.ap id ad=some ⟨ad,sz,false,[x]⟩) (hx:bT ti x 0=some y) (hr:dz E s H rs=some ys):dz E s H (.cell a t::rs)=some (y::ys):=by
 have:aP E (.load t (.tmp a)) s H=some (y,H):=by
  have e:ev s (.tmp a)= .ptr id ad 0 0:=ha;simp only [aP,ht,e,hb,List.getElem?_cons_zero,hx]
 simp only [dz,this,hr,Option.map_some]
theorem C3 {E:aK} {s:aj} {H:J} {a:Tmp} {rs:List ResultVar} {y:AV} {ys:List AV} (ha:s.getD a .undef=y) (hr:dz E s H rs=some ys):dz E s H (.tmp a::rs)=some (y::ys):=by
 simp only [dz,hr,Option.map_some,ha]
section
variable {C:aG} {s:aj} {H:J}
def fC (C:aG) (K:aj→J→Prop) (d:Option Tmp) (late:List (Op×Option Tmp)) (rest:List GO) (s:aj):AV→J→Prop:=fun v H=>dS C (bj s d v) H (eg C K rest (bj s d v) H) late
def iq (C:aG) (K:aj→J→Prop) (v:AV) (w:Bool) (d:Option Tmp) (op:Op) (late:List (Op×Option Tmp)) (th q:Bool) (rest:List GO) (s:aj) (H:J):Prop:=gJ v w (aZ (aq C) C q th op s H (fC C K d late rest s)) (fC C K d late rest s (.ay []) H)
theorem vo (K:aj→J→Prop) (d:Option Tmp) (rest:List GO) (v:AV):fC C K d [] rest s v H=eg C K rest (bj s d v) H:=rfl
theorem vp (K:aj→J→Prop) (d:Option Tmp) (l:Op×Option Tmp) (ls:List (Op×Option Tmp)) (rest:List GO) (v:AV):fC C K d (l::ls) rest s v H=dS C (bj s d v) H (eg C K rest (bj s d v) H) (l::ls):=rfl
theorem vq (K:aj→J→Prop) (d:Option Tmp) (op:Op) (late:List (Op×Option Tmp)) (q th:Bool) (rest:List GO):eg C K (⟨d,op,none,late,th,q⟩::rest) s H=aZ (aq C) C q th op s H (fC C K d late rest s):=rfl
theorem vr (K:aj→J→Prop) (d:Option Tmp) (op:Op) (t:Tmp) (w:Bool) (late:List (Op×Option Tmp)) (q th:Bool) (rest:List GO):eg C K (⟨d,op,some (some t,w),late,th,q⟩::rest) s H=iq C K (s.getD t .undef) w d op late th q rest s H:=rfl
variable (K:aj→J→Prop) (d:Option Tmp) (op:Op) (late:List (Op×Option Tmp)) (th q:Bool) (rest:List GO)
theorem vt:iq C K (.bool true) true d op late th q rest s H=aZ (aq C) C q th op s H (fC C K d late rest s):=sR _ _
theorem vu:iq C K (.bool false) false d op late th q rest s H=aZ (aq C) C q th op s H (fC C K d late rest s):=sT _ _
theorem vv:iq C K (.bool true) false d op late th q rest s H=fC C K d late rest s (.ay []) H:=sU _ _
theorem vw:iq C K (.bool false) true d op late th q rest s H=fC C K d late rest s (.ay []) H:=sV _ _
theorem vx (l:List AV) (w:Bool):iq C K (.ay l) w d op late th q rest s H=fC C K d late rest s (.ay []) H:=rfl
theorem C4 {α :Type} {c w:Bool} {x y:Option α} {r: α} {K:aj→J→Prop} {d:Option Tmp} {op:Op} {late:List (Op×Option Tmp)} {th q:Bool} {rest:List GO} (h:(bif c then x else y)=some r) (ht:c=true→x=some r→iq C K (.bool true) w d op late th q rest s H) (hf:c=false→y=some r→iq C K (.bool false) w d op late th q rest s H):iq C K (.bool c) w d op late th q rest s H:=by
 cases c with
 |true=>exact ht rfl h
 |false=>exact hf rfl h
variable (fz:List (Nat×List (List Nat×List Sh))) (i:Nat)
def gd (C:aG) (fz:List (Nat×List (List Nat×List Sh))) (K:aj→J→Prop) (d:Option Tmp) (rest:List GO) (i:Nat) (s:aj):AV→J→Prop:=fun v H=>gb C fz K rest (i+1) (bj s d v) H
def ko (C:aG) (fz:List (Nat×List (List Nat×List Sh))) (K:aj→J→Prop) (v:AV) (w:Bool) (d:Option Tmp) (op:Op) (th q:Bool) (rest:List GO) (i:Nat) (s:aj) (H:J):Prop:=gJ v w (aZ (aq C) C q th op s H (gd C fz K d rest i s)) (gd C fz K d rest i s (.ay []) H)
def p9 (C:aG) (fz:List (Nat×List (List Nat×List Sh))) (K:aj→J→Prop) (o:GO) (rest:List GO) (i:Nat):aj→J→Prop:=fun s H=>ia o.g s (aZ (aq C) C o.q o.th o.op s H (gd C fz K o.d rest i s)) (gd C fz K o.d rest i s (.ay []) H)
theorem vy (o:GO):gb C fz K (o::rest) i s H=FZ ((fz.lookup i).getD []) s H (p9 C fz K o rest i):=rfl
theorem vz:p9 C fz K ⟨d,op,none,late,th,q⟩ rest i s H=aZ (aq C) C q th op s H (gd C fz K d rest i s):=rfl
theorem vA (t:Tmp) (w:Bool):p9 C fz K ⟨d,op,some (some t,w),late,th,q⟩ rest i s H=ko C fz K (s.getD t .undef) w d op th q rest i s H:=rfl
theorem vB (v:AV):gd C fz K d rest i s v H=gb C fz K rest (i+1) (bj s d v) H:=rfl
theorem vC:ko C fz K (.bool true) true d op th q rest i s H=aZ (aq C) C q th op s H (gd C fz K d rest i s):=sR _ _
theorem vD:ko C fz K (.bool false) false d op th q rest i s H=aZ (aq C) C q th op s H (gd C fz K d rest i s):=sT _ _
theorem vE:ko C fz K (.bool true) false d op th q rest i s H=gd C fz K d rest i s (.ay []) H:=sU _ _
theorem vF:ko C fz K (.bool false) true d op th q rest i s H=gd C fz K d rest i s (.ay []) H:=sV _ _
theorem vG (l:List AV) (w:Bool):ko C fz K (.ay l) w d op th q rest i s H=gd C fz K d rest i s (.ay []) H:=rfl
end
theorem vH {β :Type} (i:Nat) (l: β) (r:List (Nat× β)):((i,l)::r).lookup i=some l:=by simp [List.lookup]
theorem vI {β :Type} (i k:Nat) (l: β) (r:List (Nat× β)) (h:(i==k)=false):((k,l)::r).lookup i=r.lookup i:=by simp only [List.lookup,h]
theorem vJ {β :Type} (i:Nat):([]:List (Nat× β)).lookup i=none:=rfl
theorem vK (all:List Oper) (q:Nat→Bool) (late:Nat→List Nat) (th:List Nat) (i:Nat):dT all q late th [] i=[]:=rfl
theorem vL (all:List Oper) (q:Nat→Bool) (late:Nat→List Nat) (th:List Nat) (o:Oper) (rest:List Oper) (i:Nat):dT all q late th (o::rest) i=⟨o.dst,o.op,o.guard.map fun p=>(lk all p.1,p.2),(late i).map (kf all),th.contains i,q i⟩::dT all q late th rest (i+1):=rfl
theorem vM (o:Oper) (os:List Oper):lk (o::os) 0=o.dst:=rfl
theorem vN (o:Oper) (os:List Oper) (n:Nat):lk (o::os) (n+1)=lk os n:=rfl
theorem vO (K:Ex→aj→J→Prop) (s:aj) (H:J):iT K s H=K .normal s H:=rfl
theorem vP (E:aK) (t:TypeId) (f:Nat):lB E t f=match E t with
 |some ti=>match ti.au with
  | .st fs=>match fs[f]? with
   |some (o,ft)=>match E ft with
    |some tf=>some (o,tf)
    |none=>none
   |none=>none
  |_=>none
 |none=>none:=rfl
theorem vQ (ti:TI) (hu:jC ti.au=true) (xs:List AV) (n:Nat) {H:J} {K:AV→J→Prop}:ei (some ti) (.fz xs) (some n) H K=K (.int .i64 n) H:=by cases h:ti.au<;>rw [h] at hu<;>simp [jC] at hu;exact Ad ti h xs n
theorem vR (ti:TI) (hu:jC ti.au=true) (n:Nat) {H:J} {K:AV→J→Prop}:ei (some ti) .nil (some n) H K=K (.int .i64 n) H:=by cases h:ti.au<;>rw [h] at hu<;>simp [jC] at hu;exact Ae ti h n
theorem vS (ti:TI) (hu:jC ti.au=true) (n:Nat) {H:J} {K:AV→J→Prop}:ei (some ti) .e0 (some n) H K=K (.int .i64 n) H:=by cases h:ti.au<;>rw [h] at hu<;>simp [jC] at hu;exact Af ti h n
theorem vT (ti:TI) (hu:lD ti.au=true) (l:List UInt8) (n:Nat) {H:J} {K:AV→J→Prop}:ei (some ti) (.str l) (some n) H K=K (.int .i64 n) H:=by cases h:ti.au<;>rw [h] at hu<;>simp [lD] at hu;exact Ag ti h l n
theorem vU (ta tb:TI) (n:Int) (H:J) (K:AV→J→Prop):p0 (some ta) (some tb) n H K=match tb.au with| .it k=>K (.int k (k.wrap n)) H|_=>False:=rfl
theorem vV (o:Nat) (tf:TI) (y:AV) (off:Nat) (h:(tf.sz==0)=false) {H:J} {K:AV→J→Prop}:iU (some (o,tf)) (.fe y off) H K=K (.fe y (off+o)) H:=z_ o tf h y off
def p_ (b:Option bB) (k:Prop):Prop:=match b with|some _=>k|none=>False
theorem vW (o:Nat) (tf:TI) (id ad idx off:Nat) (h:(tf.sz==0)=false) {H:J} {K:AV→J→Prop}:iU (some (o,tf)) (.ptr id ad idx off) H K=p_ (H.ap id ad) (K (.ptr id ad idx (off+o)) H):=by
 rw [Aa o tf h];rfl
theorem vX (b:bB) (k:Prop):p_ (some b) k=k:=rfl
theorem vY {C:aG} {q th:Bool} {s:aj} {H:J} {K:AV→J→Prop} (x:Operand):aZ (aq C) C q th (.nilCheck x) s H K=(match ev s x with| .ptr a b c d=>p_ (H.ap a b) (K (.ptr a b c d) H)| .fe x o=>K (.fe x o) H|_=>False):=by
 rw [db _ rfl];simp only [aP];generalize ev s x=r;cases r<;>try rfl
 rename_i a b c d;simp only;cases H.ap a b<;>rfl
theorem vZ (z:List AV) (b:Nat) (w:UD) (e:Bool) (cs:List AV) (off:Nat):bT ⟨1,false,z,b,w,e⟩ (.agg cs) off=cs[off]? :=by
 by_cases h:off<cs.length
 ·have e1:aD cs off 1=[cs[off]]:=by
   simp only [aD,List.drop_eq_getElem_cons h,List.take_succ_cons,List.take_zero]
  have e2:bT ⟨1,false,z,b,w,e⟩ (.agg cs) off=jG false (aD cs off 1):=if_pos (show off+1≤cs.length from h);rw [e2,e1,List.getElem?_eq_getElem h];rfl
 ·rw [List.getElem?_eq_none (by omega)]
  exact if_neg (show¬off+1≤cs.length from h)
theorem v7 (z:List AV) (b:Nat) (w:UD) (e:Bool) (k:IntKind) (n:Int):bT ⟨1,false,z,b,w,e⟩ (.int k n) 0=some (.int k n):=rfl
theorem v8 (z:List AV) (b:Nat) (w:UD) (e:Bool) (n:Bool):bT ⟨1,false,z,b,w,e⟩ (.bool n) 0=some (.bool n):=rfl
theorem v_ (z:List AV) (b:Nat) (w:UD) (e:Bool) (n:List UInt8):bT ⟨1,false,z,b,w,e⟩ (.str n) 0=some (.str n):=rfl
theorem wa (z:List AV) (b:Nat) (w:UD) (e:Bool) (n:List AV):bT ⟨1,false,z,b,w,e⟩ (.fz n) 0=some (.fz n):=rfl
theorem wb (z:List AV) (b:Nat) (w:UD) (e:Bool):bT ⟨1,false,z,b,w,e⟩ .nil 0=some .nil:=rfl
theorem wc (z:List AV) (b:Nat) (w:UD) (e:Bool):bT ⟨1,false,z,b,w,e⟩ .e0 0=some .e0:=rfl
theorem wg (z:List AV) (b:Nat) (w:UD) (e:Bool) (a c d f:Nat):bT ⟨1,false,z,b,w,e⟩ (.ref a c d f) 0=some (.ref a c d f):=rfl
theorem wh (n:Nat) (z:List AV) (b:Nat) (w:UD) (e:Bool) (cs:List AV) (off:Nat):bT ⟨n,true,z,b,w,e⟩ (.agg cs) off=if off+n≤cs.length then some (.agg ((cs.drop off).take n)) else none:=rfl
theorem wi (ti:TI) (r:Bool) (neg:Bool):lA (some ti) (some r) neg=if ti.agg then some (.bool (if neg then !r else r)) else none:=rfl
theorem wj (ti:TI) (x y:AV) (neg:Bool):ik (some ti) x y neg=match isNil ti.au x y with|some b=>some (.bool (if neg then !b else b))|none=>none:=rfl
theorem wk (E:aK) (d:Nat) (t:TypeId) (xs ys:List AV):dE E (d+1) t xs ys=match E t with
 |none=>none
 |some ti=>match ti.au with
  | .it _=>match xs,ys with
   |[.int k a],[.int j b]=>if k=j then some (a==b) else none
   |_,_=>none
  | .bl=>match xs,ys with
   |[.bool a],[.bool b]=>some (a==b)
   |_,_=>none
  | .str=>match xs,ys with
   |[.str a],[.str b]=>some (a==b)
   |_,_=>none
  | .st fs=>if ti.ky then gQ E (dE E d) fs xs ys else none
  |_=>none:=rfl
theorem wl (E:aK) (f:TypeId→List AV→List AV→Option Bool) (xs ys:List AV):gQ E f [] xs ys=some true:=rfl
theorem wm (E:aK) (f:TypeId→List AV→List AV→Option Bool) (o:Nat) (ft:TypeId) (fs:List (Nat×TypeId)) (xs ys:List AV):gQ E f ((o,ft)::fs) xs ys=match E ft with
 |none=>none
 |some tf=>
  if o+tf.sz≤xs.length∧o+tf.sz≤ys.length then
   match f ft (aD xs o tf.sz) (aD ys o tf.sz) with
   |some b=>match gQ E f fs xs ys with
    |some r=>some (b&&r)
    |none=>none
   |none=>none
  else none:=rfl
theorem wo (cs:List AV) (off n:Nat):aD cs off n=(cs.drop off).take n:=rfl
def ny (E:aK) (t:TypeId) (ps:List (Nat×AV)) (H:J) (K:AV→J→Prop):Prop:=match E t with
 |some ti=>match ti.au with
  | .st fs=>if !(fs.all fun f=>(E f.2).isSome)|| !(ti.zero.all cM) then False else cL ((fD (fun i=>match fs[i]? with|some (o,ft)=>(E ft).map fun tf=>(o,tf.sz)|none=>none) ti.zero ps).map .agg) H K
  | .ar n e=>match E e with
   |some te=>if !(ti.zero.all cM) then False else cL ((fD (fun i=>if i<n then some (i*te.sz,te.sz) else none) ti.zero ps).map .agg) H K
   |none=>False
  |_=>False
 |none=>False
theorem wq {C:aG} {q th:Bool} {s:aj} {H:J} {K:AV→J→Prop} (t:TypeId) (ps:Array (Nat×Operand)):aZ (aq C) C q th (.build t ps) s H K=ny C.E t (ps.toList.map fun p=>(p.1,ev s p.2)) H K:=by
 rw [db _ rfl];simp only [aP,ny];cases C.E t with
 |none=>rfl
 |some ti=>
  simp only;cases ti.au<;>try rfl
  ·rename_i fs;simp only;split
   ·rfl
   ·generalize Option.map AV.agg _=r;cases r<;>rfl
  ·rename_i n e;simp only;cases C.E e with
   |none=>rfl
   |some te=>
    simp only;split
    ·rfl
    ·generalize Option.map AV.agg _=r;cases r<;>rfl
theorem C5 {E:aK} {t:TypeId} {ps:List (Nat×AV)} {H:J} {K:AV→J→Prop} {ti:TI} {fs:List (Nat×TypeId)} {cs:List AV} (ht:E t=some ti) (hu:ti.au= .st fs) (h1:(fs.all fun f=>(E f.2).isSome)=true) (h2:ti.zero.all cM=true)
 (hf:fD (fun i=>match fs[i]? with|some (o,ft)=>(E ft).map fun tf=>(o,tf.sz)|none=>none) ti.zero ps=some cs) (h:K (.agg cs) H):ny E t ps H K:=by
 simp only [ny,ht,hu,h1,h2,Bool.not_true,Bool.or_self,Bool.false_eq_true,if_false,hf];exact h
theorem wu {C:aG} {q th:Bool} {s:aj} {H:J} {K:AV→J→Prop} (f:FuncId) (cap:Array Operand):aZ (aq C) C q th (.makeFunc (.func f) #[] cap) s H K=K (.fn f (cap.toList.map (ev s))) H:=by
 rw [db _ rfl];simp only [aP];rfl
theorem W:type_of% (And.intro @vH<|And.intro @u4<|And.intro @u5<|And.intro @u6<|And.intro @u7<|And.intro @u9<|And.intro @u_<|And.intro @va<|And.intro @vb<|And.intro @vd<|And.intro @ve<|And.intro @vf<|And.intro @vg<|And.intro @Bool.or_false<|And.intro @vI<|And.intro @vJ<|And.intro @sQ<|And.intro @vq<|And.intro @vr<|And.intro @vo<|And.intro @vp<|And.intro @vt<|And.intro @vu<|And.intro @vv<|And.intro @vw<|And.intro @vx<|And.intro @vy<|And.intro @vz<|And.intro @vA<|And.intro @vB<|And.intro @vC<|And.intro @vD<|And.intro @vE<|And.intro @vF<|And.intro @vG<|
 And.intro @sW<|And.intro @sY<|And.intro @sZ<|And.intro @s4<|And.intro @s7<|And.intro @s8<|And.intro @s9<|And.intro @tc<|And.intro @tg<|And.intro @tj<|And.intro @tn<|And.intro @tp<|And.intro @tq<|
 And.intro @tv<|And.intro @tw<|And.intro @tz<|And.intro @tA<|And.intro @tB<|And.intro @tC<|And.intro @tD<|And.intro @tE<|And.intro @tF<|And.intro @tG<|And.intro @tH<|And.intro @tI<|
 And.intro @uR<|And.intro @uS<|And.intro @uT<|And.intro @tJ<|And.intro @tK<|And.intro @tL<|And.intro @tM<|And.intro @tN<|And.intro @tO<|And.intro @tP<|And.intro @tQ<|And.intro @tR<|And.intro @tS<|
 And.intro @tT<|And.intro @tU<|And.intro @tV<|And.intro @tW<|And.intro @tX<|And.intro @tY<|And.intro @tZ<|And.intro @t_<|And.intro @ua<|And.intro @ub<|And.intro @uc<|And.intro @ud<|And.intro @uf<|
 And.intro @ug<|And.intro @uh<|And.intro @ui<|And.intro @uj<|And.intro @uk<|And.intro @o_load<|And.intro @ul<|And.intro @um<|And.intro @uo<|And.intro @uq<|And.intro @ur<|And.intro @uu<|And.intro @uw<|
 And.intro @ux<|And.intro @uy<|And.intro @uz<|And.intro @uA<|And.intro @min2<|And.intro @max2<|And.intro @uD<|And.intro @uH<|And.intro @uI<|And.intro @uJ<|And.intro @uK<|And.intro @uL<|
 And.intro @uN<|And.intro @uO<|And.intro @uP<|And.intro @uU<|And.intro @uV<|And.intro @uW<|And.intro @uX<|And.intro @uY<|And.intro @uZ<|And.intro @vh<|And.intro @vi<|And.intro @vj<|And.intro @vk<|
 And.intro @vl<|And.intro @vK<|And.intro @vL<|And.intro @vM<|And.intro @vN<|And.intro @vO<|And.intro @vP<|And.intro @vQ<|And.intro @vR<|And.intro @vS<|And.intro @vT<|And.intro @vU<|
 And.intro @vV<|And.intro @vW<|And.intro @vX<|And.intro @vY<|And.intro @vZ<|And.intro @v7<|And.intro @v8<|And.intro @v_<|And.intro @wa<|And.intro @wb<|And.intro @wc<|And.intro @wg<|And.intro @wh<|And.intro @wi<|And.intro @wj<|
 And.intro @wk<|And.intro @wl<|And.intro @wm<|And.intro @wo<|And.intro @wq<|And.intro @wu<|And.intro @uE<|And.intro @uF<|And.intro @uG<|
 And.intro @List.set_cons_succ.{0}<|And.intro @List.set_cons_zero.{0}<|And.intro @List.getD_cons_succ.{0}<|And.intro @List.getD_cons_zero.{0}<|And.intro @Option.map_some.{0,0}<|And.intro @Option.map_none.{0,0}<|And.intro @List.map_nil.{0,0}<|And.intro @List.map_cons.{0,0}<|And.intro @List.contains_nil.{0}<|
 And.intro @List.getElem?_cons_succ.{0}<|And.intro @List.getElem?_cons_zero.{0}<|And.intro @List.length_map.{0,0}<|And.intro @List.drop_succ_cons.{0}<|And.intro @List.drop_zero.{0}<|And.intro @List.take_succ_cons.{0}<|And.intro @List.take_zero.{0}<|And.intro @List.length_cons.{0}<|And.intro @List.length_nil.{0}<|
 And.intro @if_true.{0}<|And.intro @if_false.{0}<|And.intro @Bool.not_true<|And.intro @Bool.not_false<|And.intro @Option.getD_none.{0}<|And.intro @Option.getD_some.{0}<|And.intro @List.cons_append.{0}<|And.intro @List.nil_append.{0}<|And.intro @and_self<|And.intro @and_true @true_and):=
 And.intro @vH<|And.intro @u4<|And.intro @u5<|And.intro @u6<|And.intro @u7<|And.intro @u9<|And.intro @u_<|And.intro @va<|And.intro @vb<|And.intro @vd<|And.intro @ve<|And.intro @vf<|And.intro @vg<|And.intro @Bool.or_false<|And.intro @vI<|And.intro @vJ<|And.intro @sQ<|And.intro @vq<|And.intro @vr<|And.intro @vo<|And.intro @vp<|And.intro @vt<|And.intro @vu<|And.intro @vv<|And.intro @vw<|And.intro @vx<|And.intro @vy<|And.intro @vz<|And.intro @vA<|And.intro @vB<|And.intro @vC<|And.intro @vD<|And.intro @vE<|And.intro @vF<|And.intro @vG<|
 And.intro @sW<|And.intro @sY<|And.intro @sZ<|And.intro @s4<|And.intro @s7<|And.intro @s8<|And.intro @s9<|And.intro @tc<|And.intro @tg<|And.intro @tj<|And.intro @tn<|And.intro @tp<|And.intro @tq<|
 And.intro @tv<|And.intro @tw<|And.intro @tz<|And.intro @tA<|And.intro @tB<|And.intro @tC<|And.intro @tD<|And.intro @tE<|And.intro @tF<|And.intro @tG<|And.intro @tH<|And.intro @tI<|
 And.intro @uR<|And.intro @uS<|And.intro @uT<|And.intro @tJ<|And.intro @tK<|And.intro @tL<|And.intro @tM<|And.intro @tN<|And.intro @tO<|And.intro @tP<|And.intro @tQ<|And.intro @tR<|And.intro @tS<|
 And.intro @tT<|And.intro @tU<|And.intro @tV<|And.intro @tW<|And.intro @tX<|And.intro @tY<|And.intro @tZ<|And.intro @t_<|And.intro @ua<|And.intro @ub<|And.intro @uc<|And.intro @ud<|And.intro @uf<|
 And.intro @ug<|And.intro @uh<|And.intro @ui<|And.intro @uj<|And.intro @uk<|And.intro @o_load<|And.intro @ul<|And.intro @um<|And.intro @uo<|And.intro @uq<|And.intro @ur<|And.intro @uu<|And.intro @uw<|
 And.intro @ux<|And.intro @uy<|And.intro @uz<|And.intro @uA<|And.intro @min2<|And.intro @max2<|And.intro @uD<|And.intro @uH<|And.intro @uI<|And.intro @uJ<|And.intro @uK<|And.intro @uL<|
 And.intro @uN<|And.intro @uO<|And.intro @uP<|And.intro @uU<|And.intro @uV<|And.intro @uW<|And.intro @uX<|And.intro @uY<|And.intro @uZ<|And.intro @vh<|And.intro @vi<|And.intro @vj<|And.intro @vk<|
 And.intro @vl<|And.intro @vK<|And.intro @vL<|And.intro @vM<|And.intro @vN<|And.intro @vO<|And.intro @vP<|And.intro @vQ<|And.intro @vR<|And.intro @vS<|And.intro @vT<|And.intro @vU<|
 And.intro @vV<|And.intro @vW<|And.intro @vX<|And.intro @vY<|And.intro @vZ<|And.intro @v7<|And.intro @v8<|And.intro @v_<|And.intro @wa<|And.intro @wb<|And.intro @wc<|And.intro @wg<|And.intro @wh<|And.intro @wi<|And.intro @wj<|
 And.intro @wk<|And.intro @wl<|And.intro @wm<|And.intro @wo<|And.intro @wq<|And.intro @wu<|And.intro @uE<|And.intro @uF<|And.intro @uG<|
 And.intro @List.set_cons_succ.{0}<|And.intro @List.set_cons_zero.{0}<|And.intro @List.getD_cons_succ.{0}<|And.intro @List.getD_cons_zero.{0}<|And.intro @Option.map_some.{0,0}<|And.intro @Option.map_none.{0,0}<|And.intro @List.map_nil.{0,0}<|And.intro @List.map_cons.{0,0}<|And.intro @List.contains_nil.{0}<|
 And.intro @List.getElem?_cons_succ.{0}<|And.intro @List.getElem?_cons_zero.{0}<|And.intro @List.length_map.{0,0}<|And.intro @List.drop_succ_cons.{0}<|And.intro @List.drop_zero.{0}<|And.intro @List.take_succ_cons.{0}<|And.intro @List.take_zero.{0}<|And.intro @List.length_cons.{0}<|And.intro @List.length_nil.{0}<|
 And.intro @if_true.{0}<|And.intro @if_false.{0}<|And.intro @Bool.not_true<|And.intro @Bool.not_false<|And.intro @Option.getD_none.{0}<|And.intro @Option.getD_some.{0}<|And.intro @List.cons_append.{0}<|And.intro @List.nil_append.{0}<|And.intro @and_self<|And.intro @and_true @true_and
end Go.VS
namespace Go.VS
def iV:List (Nat×List Nat)→Nat→List Nat
 |[],_=>[]
 |(a,l)::t,i=>if i=a then l else iV t i
def lG:List Nat→Nat→Bool
 |[],_=>true
 |a::t,i=>if i=a then false else lG t i
theorem wv: ∀(ls:List Nat) (i:Nat),(!ls.contains i)=lG ls i
 |[],_=>rfl
 |a::t,i=>by
  have:=wv t i;unfold lG;by_cases h:i=a
  ·simp [h]
  ·rw [if_neg h,←this];simp [h]
theorem Av {f:Nat→List Nat}: ∀(iu:List (Nat×List Nat)) (_:iu.all (fun p=>f p.1==p.2)=true) (_: ∀i,i∉iu.map (·.1)→f i=[]) (i:Nat),f i=iV iu i
 |[],_,h,i=>h i (by simp)
 |(a,l)::t,h1,h2,i=>by
  simp only [List.all_cons,Bool.and_eq_true,beq_iff_eq] at h1;unfold iV;by_cases h:i=a
  ·rw [if_pos h,h];exact h1.1
  ·rw [if_neg h];by_cases hm:i∈t.map (·.1)
   ·clear h2;have go: ∀(t:List (Nat×List Nat)),t.all (fun p=>f p.1==p.2)=true→i∈t.map (·.1)→f i=iV t i:=by
     intro t;induction t with
     |nil=>intro _ hm;simp at hm
     |cons p t ih=>
      intro h1 hm;simp only [List.all_cons,Bool.and_eq_true,beq_iff_eq] at h1;obtain ⟨a,l⟩:=p;unfold iV;by_cases h:i=a
      ·rw [if_pos h,h];exact h1.1
      ·rw [if_neg h];exact ih h1.2 (by simpa [h] using hm)
    exact go t h1.2 hm
   ·have e:f i=[]:=h2 i (by simp only [List.map_cons,List.mem_cons,not_or];exact ⟨h,hm⟩)
    rw [e];clear h1 h2;induction t with
    |nil=>rfl
    |cons p t ih=>
     obtain ⟨b,m⟩:=p;simp only [List.map_cons,List.mem_cons,not_or] at hm;unfold iV;rw [if_neg hm.1];exact ih hm.2
section
variable {C:aG} {s:aj} {H:J} {K:Ex→aj→J→Prop}
theorem C6 (gC:Good C) {id:Nat} {ops:List Oper} {ls th:List Nat} {fz:List (Nat×List (List Nat×List Sh))} (iu:List (Nat×List Nat)) (hd:iC ops.toArray ls=true) (h1:iu.map (·.1)=ls) (h2:iu.all (fun p=>fJ ops.toArray ls p.1==p.2)=true)
 (h:eg C (iT K) (dT ops (lG ls) (iV iu) th ops 0) s H):aJ (aq C) C (.region id ops.toArray true ls th fz) s H K:=by
 refine sO gC hd ?_;have e1:(fun i=> !ls.contains i)=lG ls:=funext (wv ls);have e2:fJ ops.toArray ls=iV iu:=funext (Av iu h2 (fun i hi=>by
  unfold fJ;rw [h1] at hi;rw [if_neg (by simpa using hi)]))
 rw [e1,e2];exact h
end
theorem C7 {C:aG} {K:aj→J→Prop} {d:Option Tmp} {l:List (Op×Option Tmp)} {rest:List GO} {s:aj} {v:AV} {H:J} (h:dS C (bj s d v) H (fC C K d [] rest s v H) l):fC C K d l rest s v H:=h
theorem C8 {C:aG} {s:aj} {H:J} {P:Prop} {op:Op} {t:Tmp} {js:List (Op×Option Tmp)} (h1:gR C.E op s H=some (s.getD t .undef,H)) (h:dS C s H P js):dS C s H P ((op,some t)::js):=⟨⟨t,rfl,h1⟩,h⟩
theorem C9 {C:aG} {s:aj} {H:J} {P:Prop} (h:P):dS C s H P []:=h
theorem Aw {x:Int} (h: -9223372036854775808≤x∧x≤9223372036854775807):IntKind.i64.wrap x=x:=IntWalk.i64_in x (by omega)
end Go.VS
namespace Go.VS
section
variable {C:aG} {H:J} {L:List It}
theorem C_ {C:aG} {th:Bool} {s:aj} {H:J} {K:AV→J→Prop} {a b:Operand} {t u:TypeId} (h0:eD .append [ev s a,ev s b]=true) (h:cV (ct C.E .append #[t,u] [ev s a,ev s b] H) K):aZ (aq C) C true th (.call {callee:= .builtin .append,args:= #[a,b],argTypes:= #[t,u]}) s H K:=by
 unfold aZ wpOp;refine ⟨fun _=>h0,?_⟩;unfold cV at h;exact h
theorem Da (f:AV→Option AV):([]:List AV).mapM f=some []:=rfl
theorem Ax {f:AV→Option AV} {c y:AV} {cs ys:List AV} (h1:f c=some y) (h2:cs.mapM f=some ys):(c::cs).mapM f=some (y::ys):=by
 simp [List.mapM_cons,h1,h2]
theorem ww {f:AV→Option AV}: ∀(cs:List AV),(∀c∈cs,f c=some c)→cs.mapM f=some cs
 |[],_=>rfl
 |c::cs,h=>Ax (h c (by simp)) (ww cs fun d hd=>h d (by simp [hd]))
theorem Db {n:Nat} {cs ys:List AV} (h:cs.mapM (aO n H)=some ys):aO (n+1) H (.agg cs)=some (.agg ys):=by
 simp only [aO,h,Option.map_some]
theorem Dc {n:Nat} {f:FuncId} {cs ys:List AV} (h:cs.mapM (aO n H)=some ys):aO (n+1) H (.fn f cs)=some (.fn f ys):=by
 simp only [aO,h,Option.map_some]
theorem Dd {α :Type} {n:Nat} (hS:az H L) (j:Nat) {v:AV} {sz:Nat} {l:List α} {c: α →AV} (hj:L[j]? =some ⟨v,sz,l.map c⟩) (hp:bA v) (hc: ∀x,aO n H (c x)=some (c x)):aO (n+1) H v=some (.fz (l.map c)):=by
 obtain ⟨k0,af⟩:=hS.ok j _ hj;simp only at af;rcases hp.ok with rfl|rfl|⟨id,ad,off,len,rfl⟩
 ·simp only at af;simp only [aO,af]
 ·simp only at af;simp only [aO,af]
 ·simp only at af;obtain ⟨k1,b,hb,k2,k3,k4,k5⟩:=af;simp only [aO,hb];rw [if_pos k4,k5,ww (l.map c) (by
   intro d hd;obtain ⟨x,_,rfl⟩:=List.mem_map.1 hd;exact hc x),Option.map_some]
theorem Ay {n o:Nat} (hS:az H L) (j:Nat) {id ad sz:Nat} {a y:AV} (hj:L[j]? =some ⟨.ptr id ad 0 0,sz,[a]⟩) (h:aO n H a=some y):aO (n+1) H (.ptr id ad 0 o)=some (.fe y o):=by
 simp only [aO,hS.var j hj,List.getElem?_cons_zero,h,Option.map_some]
theorem De {n o:Nat} (hS:az H L) {id ad sz:Nat} {a y:AV} (hm:⟨.ptr id ad 0 0,sz,[a]⟩∈L) (h:aO n H a=some y):aO (n+1) H (.ptr id ad 0 o)=some (.fe y o):=by
 obtain ⟨j,hj⟩:=List.mem_iff_getElem?.1 hm;exact Ay hS j hj h
theorem Df:b9 [] [] H=some ([],false):=rfl
theorem Dg {v y:AV} {vs ys:List AV} {b:Bool} (h1:aO 8 H v=some y) (h2:b9 [] vs H=some (ys,b)):b9 [] (v::vs) H=some (y::ys,eQ v||b):=by
 simp only [b9,h1,h2]
def TV (bP:List (List Sh)) (rs:List AV) (H:J) (K:List AV→Prop):Prop:= ∃zs H',c7 bP rs H=some (zs,H')∧K zs
theorem Dh {bP:List (List Sh)} {K:List AV→Prop} (h:K []):TV bP [] H K:=⟨[],H,rfl,h⟩
theorem qa {e:List Sh} {bP:List (List Sh)} {v y:AV} {rs:List AV} {H1:J} {K:List AV→Prop} (ht:aY e v H=some (y,H1)) (h:TV bP rs H1 fun zs=>K (y::zs)):TV (e::bP) (v::rs) H K:=by
 obtain ⟨zs,H',h1,h2⟩:=h;exact ⟨y::zs,H',by simp only [c7,List.headD_cons,List.tail_cons,ht,h1],h2⟩
theorem Az {v:AV} (hp:dp v=true) (H:J):aY [.sc] v H=some (v,H):=by
 cases v<;>simp [dp] at hp<;>simp [aY,aN,dp]
theorem Di {bP:List (List Sh)} {v:AV} {rs:List AV} {K:List AV→Prop} (hp:dp v=true) (h:TV bP rs H fun zs=>K (v::zs)):TV ([.sc]::bP) (v::rs) H K:=
 qa (Az hp H) h
theorem Dj {α :Type} {bP:List (List Sh)} {es:List Sh} {v:AV} {rs:List AV} {K:List AV→Prop} {m:List α} {c: α →AV} (j:Nat) (hS:az H L) (hj:L[j]? =some ⟨v,es.length,m.map c⟩) (hp:bA v) (hc: ∀x H,aY es (c x) H=some (c x,H))
 (h: ∀H',az H' (L.eraseIdx j)→TV bP rs H' fun zs=>K (.own es.length (m.map c)::zs)):TV ([.sl es]::bP) (v::rs) H K:=by
 obtain ⟨H',h1,h2⟩:=hS.take j hj hp hc;exact qa h1 (h H' h2)
theorem Dk {bP:List (List Sh)} {es:List Sh} {cs:List AV} {rs:List AV} {K:List AV→Prop} (h:TC es cs H fun ys H' =>TV bP rs H' fun zs=>K (.agg ys::zs)):TV (es::bP) (.agg cs::rs) H K:=by
 obtain ⟨ys,H',h1,h2⟩:=h;exact qa (by simp only [aY,h1]) h2
theorem Dl {bP:List (List Sh)} {rs:List AV} {y v:AV} (hv:v=cc rs) (h:TV bP rs H fun zs=>y=cc zs): ∃rs zs L2,v=cc rs∧c7 bP rs H=some (zs,L2)∧y=cc zs:=by
 obtain ⟨zs,H',h1,h2⟩:=h;exact ⟨rs,zs,H',hv,h1,h2⟩
def TH (ys:List AV) (H:J) (K:List AV→J→Prop):Prop:=K (aH ys H).1 (aH ys H).2
theorem Dm {K:List AV→J→Prop} (h:K [] H):TH [] H K:=h
theorem Dn {y:AV} {ys:List AV} {K:List AV→J→Prop} (hp: ∀H,aF y H=(y,H)) (h:TH ys H fun zs H' =>K (y::zs) H'):TH (y::ys) H K:=by
 unfold TH at h⊢;simp only [aH,hp H];exact h
theorem wx {α :Type} {c: α →AV} (hc: ∀x H,aF (c x) H=(c x,H)): ∀(l:List α) (H:J),aH (l.map c) H=(l.map c,H)
 |[],_=>rfl
 |x::l,H=>by simp only [List.map_cons,aH,hc x H,wx hc l H]
theorem Dp {α :Type} {sz:Nat} {m:List α} {c: α →AV} {ys:List AV} {K:List AV→J→Prop} (hS:az H L) (hc: ∀x H,aF (c x) H=(c x,H)) (hz: ∀x,(c x).cells.length=sz)
 (h: ∀v H',bA v→az H' (⟨v,sz,m.map c⟩::L)→TH ys H' fun zs gA=>K (v::zs) gA):TH (.own sz (m.map c)::ys) H K:=by
 have hs:bK sz (m.map c)=true:=by simp [bK,hz]
 have:=h _ _ (gL H.bs.length H.st 0 (m.map c).length) (hS.nn (all:=m.map c) (List.take_of_length_le (Nat.le_refl _)) rfl hs);unfold TH at this⊢;simp only [aH,aF,wx hc m H];exact this
theorem Dq {cs ys:List AV} {K:List AV→J→Prop} (h:TH cs H fun ds H' =>TH ys H' fun zs gA=>K (.agg ds::zs) gA):TH (.agg cs::ys) H K:=by
 unfold TH at h⊢;simp only [aH,aF];exact h
theorem Dr {y:AV} {K:AV→J→Prop} (h:TH [y] H fun zs H' =>K (zs.headD .undef) H'):K (aF y H).1 (aF y H).2:=by
 unfold TH at h;simp only [aH] at h;exact h
theorem Ds {ys:List AV} {K:AV→J→Prop} (h:TH ys H fun zs H' =>K (.ay zs) H'):K (aF (.ay ys) H).1 (aF (.ay ys) H).2:=by
 unfold TH at h;simp only [aF];exact h
variable {q th:Bool} {K:AV→J→Prop}
theorem Dt {α β :Type} {g:FuncId} {bM args ys:List AV} {bV:Bool} {o:Option α} {f: α →Option β} {r: β} {bP:List (List Sh)} (h:o.bind f=some r) (hr:(C.fH g).bP=bP) (hp:b9 [] (args ++ bM) H=some (ys,bV))
 (hk: ∀x,o=some x→f x=some r→ ∃y,aq C g ys ⟨0,[]⟩ (fun v L=> ∃rs zs L2,v=cc rs∧c7 bP rs L=some (zs,L2)∧y=cc zs)∧(cf y=true∧br y=y∧ ∀H,aF y H=(y,H))∧K y H):kl C q th (.fn g bM) args H K:=by
 refine p6 h hr hp fun x hx hf=> ?_;obtain ⟨y,h1,⟨h2,h3,h4⟩,h5⟩:=hk x hx hf;refine ⟨y,h1,.inr h2,?_⟩;rw [h3,h4 H];split<;>exact h5
theorem Du {α β :Type} {g:FuncId} {bM args ys:List AV} {bV:Bool} {o:Option α} {f: α →Option β} {r: β} {bP:List (List Sh)} (h:o.bind f=some r) (hr:(C.fH g).bP=bP) (hp:b9 [] (args ++ bM) H=some (ys,bV))
 (hk: ∀x,o=some x→f x=some r→ ∃y,aq C g ys ⟨0,[]⟩ (fun v L=> ∃rs zs L2,v=cc rs∧c7 bP rs L=some (zs,L2)∧y=cc zs)∧cf y=true∧K (aF y H).1 (aF y H).2):kl C q true (.fn g bM) args H K:=by
 refine p6 h hr hp fun x hx hf=> ?_;obtain ⟨y,h1,h2,h5⟩:=hk x hx hf;refine ⟨y,h1,.inr h2,?_⟩;simpa using h5
theorem Dv {α β :Type} {g:FuncId} {bM args ys:List AV} {o:Option α} {f: α →Option β} {r: β} {bP:List (List Sh)} (h:o.bind f=some r) (hr:(C.fH g).bP=bP) (hp:b9 [] (args ++ bM) H=some (ys,false))
 (hk: ∀x,o=some x→f x=some r→ ∃y,aq C g ys ⟨0,[]⟩ (fun v L=> ∃rs zs L2,v=cc rs∧c7 bP rs L=some (zs,L2)∧y=cc zs)∧K (br y) H):kl C q false (.fn g bM) args H K:=by
 refine p6 h hr hp fun x hx hf=> ?_;obtain ⟨y,h1,h5⟩:=hk x hx hf;exact ⟨y,h1,.inl rfl,h5⟩
theorem wy {α :Type} {c: α →AV} (hc: ∀x,cf (c x)=true): ∀(l:List α),dY (l.map c)=true
 |[]=>rfl
 |x::l=>by simp only [List.map_cons,dY,hc x,wy hc l,Bool.and_self]
theorem Dw {α :Type} {c: α →AV} (sz:Nat) (hc: ∀x,cf (c x)=true) (l:List α):cf (.own sz (l.map c))=true:=by
 simp only [cf];exact wy hc l
theorem Dx:dY []=true:=rfl
theorem Dy {y:AV} {ys:List AV} (h1:cf y=true) (h2:dY ys=true):dY (y::ys)=true:=by simp only [dY,h1,h2,Bool.and_self]
theorem Dz {ys:List AV} (h:dY ys=true):cf (.agg ys)=true:=by simp only [cf];exact h
theorem DA {ys:List AV} (h:dY ys=true):cf (.ay ys)=true:=by simp only [cf];exact h
end
end Go.VS
namespace Go.VS
def wz (t b:TypeId):Code:=
 (Go.Code.seq
  (Go.Code.region 0 #[{dst:=some 2,op:=Go.Op.assign (Go.Operand.const (Go.Value.slice none 0 0)),type:=t,pos:= "slices.go:355",after:= #[],guard:=none}] false)
  (Go.Code.seq
   (Go.Code.seq
    (Go.Code.region 1
     #[{dst:=some 3,op:=Go.Op.move (Go.Operand.tmp 0),type:=t,pos:= "slices.go:357",after:= #[],guard:=none},
      {dst:=some 4,op:=Go.Op.binOp Go.BinOp.eql t (Go.Operand.tmp 3) (Go.Operand.const (Go.Value.slice none 0 0)) t,type:=b,pos:= "slices.go:357",after:= #[{on:=0,ground:=Go.Ground.data}],guard:=none}]
     false)
    (Go.Code.cond (Go.Operand.tmp 4)
     (Go.Code.seq
      (Go.Code.region 2 #[{dst:=some 2,op:=Go.Op.assign (Go.Operand.const (Go.Value.slice none 0 0)),type:=t,pos:= "slices.go:358",after:= #[],guard:=none}] false)
      Go.Code.ret)
     Go.Code.skip))
   (Go.Code.seq
    (Go.Code.region 3
     #[{dst:=some 5,op:=Go.Op.buildSlice t 0 #[],type:=t,pos:= "slices.go:362",after:= #[],guard:=none},
      {dst:=some 6,op:=Go.Op.move (Go.Operand.tmp 0),type:=t,pos:= "slices.go:362",after:= #[],guard:=none},
      {dst:=some 7,op:=Go.Op.call {callee:=Go.Callee.builtin Go.Builtin.append,args:= #[Go.Operand.tmp 5,Go.Operand.tmp 6],argTypes:= #[t,t]},type:=t,pos:= "slices.go:362",after:= #[{on:=0,ground:=Go.Ground.data},{on:=1,ground:=Go.Ground.data}],guard:=none},
      {dst:=some 2,op:=Go.Op.assign (Go.Operand.tmp 7),type:=t,pos:= "slices.go:362",after:= #[{on:=2,ground:=Go.Ground.data},{on:=2,ground:=Go.Ground.chain},{on:=0,ground:=Go.Ground.phase},{on:=1,ground:=Go.Ground.phase},{on:=2,ground:=Go.Ground.phase}],guard:=none}]
     false)
    Go.Code.ret)))
def kq:bq:=fun _ _ _ _=>False
def gN (E:aK):aG:=⟨E,fun _=>{},fun _=>none,kq⟩
theorem AA {w:World} {H:J} {φ :ag} {A:ah} {xs:List AV} {v:Value} (h:R w H φ A (.fz xs) v): ∃a cap,v= .slice a xs.length cap:=by
 cases h.dA with
 |cH a cap=>exact ⟨a,cap,rfl⟩
 |fz _ c off cap n arr T fr=>exact ⟨_,_,rfl⟩
theorem AB {P:Program} {w:World} {t e:TypeId} {a:Option Addr} {n cap:Nat} (h:(underlying t).run P w= .ok (.slice e) w) (d:Nat): ∃b,(Op.equalIn (d+1) t (.slice a n cap) (.slice none 0 0)).run P w= .ok b w∧(b=true→a=none):=by
 cases a with
 |none=>exact ⟨true,by simp [Op.equalIn,h],fun _=>rfl⟩
 |some a=>exact ⟨false,qD h d,by simp⟩
theorem AD: ∀c:Code,cW {} c=true:=by
 intro c;induction c with
 |seq a b f_ ga=>simp [cW,f_,ga]
 |cond c a b f_ ga=>simp [cW,f_,ga]
 |block id a ih=>simp [cW,ih]
 |loop a ih=>simp [cW,ih]
 |region id ops draw=>simp [cW]
 |_=>simp [cW]
section
variable {P:Program} {E:aK}
theorem AE (hm:P.follows .mixedOrders=true) (hE: ∀t ti,E t=some ti→aS P t ti) {f:FuncId} {fn:Func} {t b e:TypeId} {ti te:TI} (hf:P.funcs[f]? =some fn) (pE:(fn.name== "runtime.NumGoroutine")=false)
 (hb:fn.body=some (wz t b)) (hr:fn.results= #[.tmp 2]) (hn:fn.ntmps=8) (ht:E t=some ti) (hu:ti.au= .sl e) (he:E e=some te) (xs:List AV) (H:J) (hz:bK te.sz xs=true) (h0:te.sz≠0) (dR:roomy xs.length te.bytes=true):
 cb P f [.fz xs] H (fun v H' =>v=(if xs=[] then .e0 else .ref H.bs.length H.st 0 xs.length)∧H' =(if xs=[] then H else H.new te.sz false xs)):=by
 have dj:Exact kq:=fun _ _ _ _ h=>h.elim;have hX: ∀f ys H K,kq f ys H K→cb P f ys H K:=fun _ _ _ _ h=>h.elim;have hD:mH P (gN E) kq:=sE (C:=gN E) dj hm hE hX;have lH:=fun (c:Code) s H K Q w φ A a h=>r8 (P:=P) (C:=gN E) (X:=kq) hm hE hX hD {} c 0 s H K Q w φ A a (AD c) h;refine ⟨⟨fn,hf,pE,by simp [hb]⟩,fun w A φ us ae hl cy=> ?_⟩
 refine calls_of_wp hf hb ?_;rw [hn];obtain ⟨v,rfl⟩: ∃v,us= #[v]:=by
  match us,hl with
  |⟨[v]⟩,_=>exact ⟨v,rfl⟩
 have hv:R w H φ A (.fz xs) v:=cy 0 _ _ rfl rfl;have en:SF w H φ A [.fz xs,.undef,.undef,.undef,.undef,.undef,.undef,.undef] {tmps:= #[v] ++ Array.replicate (8-1) undef,defers:=[]}:=by
  refine ⟨rfl,fun i x u hx hu=> ?_,rfl⟩
  match i with
  |0=>simp at hx hu;subst hx;subst hu;exact hv
  |i+1=>
   have:x= .undef:=by
    match i with
    |0|1|2|3|4|5|6=>simpa using hx.symm
    |i+7=>simp at hx
   subst this;exact .fr _ _ (.undef _)
 have fin: ∀(s' :aj) (H' :J) (ak:ag) (A' :ah) (a' :Act) (w' :World) (x:AV),Out w H φ A w' H' ak A' →SF w' H' ak A' s' a' →s'.getD 2 .undef=x→(∀u,R w' H' ak A' x u→ ∃y,R w' H' ak A' y u∧(y=(if xs=[] then .e0 else .ref H.bs.length H.st 0 xs.length)∧H' =(if xs=[] then H else H.new te.sz false xs)))→
  a'.defers=[]∧ ∃v,(results fn a'.tmps).run P w' = .ok v w' ∧iM w H φ A (fun v H' =>v=(if xs=[] then .e0 else .ref H.bs.length H.st 0 xs.length)∧H' =(if xs=[] then H else H.new te.sz false xs)) (.returned v) w' :=by
  intro s' H' ak A' a' w' x h1 h2 hx hy
  refine ⟨h2.eJ,?_⟩;obtain ⟨cF,k1,k2,k3⟩:=r_ (P:=P) (C:=gN E) hE h1.st h2 (fn:=fn) (rs:=[x]) (by rw [hr];simp only [dz,hx,Option.map_some])
  obtain ⟨u,rfl⟩: ∃u,cF=[u]:=by
   match cF,k2 with
   |[u],_=>exact ⟨u,rfl⟩
  obtain ⟨y,AF,AG⟩:=hy u (k3 0 x u rfl rfl);exact ⟨_,k1,y,H',ak,A',h1,by simpa [h_] using AF,AG⟩
 refine wp_seq (lH _ _ H (fun e s1 H1=>e= .normal∧s1=[.fz xs,.undef,.nil,.undef,.undef,.undef,.undef,.undef]∧H1=H) _ w φ A _ ?_ ae en ?_)
 ·simp [cX,jL,iz,fG,aJ,cO,dt,wpOp,dI,aP,ev,ofValue,bj,gN]
 rintro e1 s1 H1 φ1 A1 a1 w1 o1 cI ⟨rfl,rfl,rfl⟩;show (Code.seq _ _).wp P _ a1 w1;have jz:=o1.st;refine wp_seq (wp_seq (wp_region_list ?_));simp only [wpList];rw [if_pos (by simp [Region.wanted])]
 refine .inl (mC (C:=gN E) (X:=kq) hE hX jz (s:=[.fz xs,.undef,.nil,.undef,.undef,.undef,.undef,.undef]) (fun x _=>cI.ev x) (th:=false) (K:=fun x H' =>x= .fz xs∧H' =H1) (by simp [wpOp,dI,aP,ev]) ?_)
 rintro x3 v3 w3 H3 cU A3 o3 qb ⟨rfl,rfl⟩;have AI:=(cI.mono o3.bQ).set (some 3) qb;have lv:=o3.st;rw [if_pos (by simp [Region.wanted])]
 have AJ:(a1.put (some 3) v3).eval (.tmp 3)=v3:=by
  have:a1.tmps.size=8:=by have:=cI.len;simpa using this.symm
  simp [Act.eval,Act.put,this]
 obtain ⟨a0,cap,rfl⟩:=AA qb;obtain ⟨bb,wA,AK⟩:=AB (a:=a0) (n:=xs.length) (cap:=cap) ((hE t ti ht).sl w3 hu) 9999;have AM:ci w3 H3 cU A3 H3 ((execOp (a1.put (some 3) (.slice a0 xs.length cap)).eval {dst:=some 4,op:=Go.Op.binOp Go.BinOp.eql t (Go.Operand.tmp 3) (Go.Operand.const (Go.Value.slice none 0 0)) t,type:=b,pos:= "slices.go:357",after:= #[{on:=0,ground:=Go.Ground.data}],guard:=none}).run P w3) (.bool bb):=by
  have hg:=iD P w3 .eql t (.tmp 3) (.const (.slice none 0 0)) (.slice a0 xs.length cap) (.slice none 0 0) (by simp) rfl
  have AN:binOp .eql t (.slice a0 xs.length cap) (.slice none 0 0)=(do pure (.bool (←Op.equal t (.slice a0 xs.length cap) (.slice none 0 0)))):=rfl
  rw [←n4] at wA;refine ci.kV lv (.inl rfl) (bg.fq lv ⟨.bool bb,?_,.fr _ _ (.bool _)⟩);rw [AJ];show (do eqGuard .eql t (.tmp 3) (.const (.slice none 0 0)) (.slice a0 xs.length cap) (.slice none 0 0);binOp .eql t (.slice a0 xs.length cap) (.slice none 0 0):Sem Value).run P w3=_
  simp [hg,AN,wA]
 refine .inl (AM.upon fun v4 w4 wB A4 o4 AO=> ?_);have wC:=(AI.mono o4.bQ).set (some 4) AO;have qc:=o4.st;have wD:Out w H3 φ A w4 H3 wB A4:=o1.trans ae (o3.trans jz (o4.trans lv (.refl qc)));simp only [bj,List.set_cons_succ,List.set_cons_zero] at wC;simp only [Exit.then];refine lH _ [.fz xs,.undef,.nil,.fz xs,.bool bb,.undef,.undef,.undef] H3 (fun e s' H' =>H' =H3∧if bb=true then e= .ret∧s' =[.fz xs,.undef,.nil,.fz xs,.bool bb,.undef,.undef,.undef] else e= .normal∧s' =[.fz xs,.undef,.nil,.fz xs,.bool bb,.undef,.undef,.undef]) _ w4 wB A4 _ ?_ qc wC ?_
 ·cases bb
  ·simp [cX,lP,aJ,ev,gN]
  ·simp [cX,lP,jL,iz,fG,aJ,cO,dt,wpOp,dI,aP,ev,ofValue,bj,gN];exact ⟨_,_,⟨rfl,rfl⟩,rfl,rfl⟩
 rintro e5 s5 H5 AP A5 a5 w5 o5 wE ⟨rfl,nz⟩;cases bb with
 |true=>
  simp only [if_true] at nz;obtain ⟨rfl,rfl⟩:=nz;obtain rfl:=AK rfl;have dN:xs=[]:=by
   cases DB:qb.dA with
   |cH=>rfl
  subst dN;show (bodyPost P fn _) .ret a5 w5;refine fin _ _ _ _ _ _ .nil (wD.trans ae o5) wE rfl fun u hu=>⟨.e0,?_,by simp⟩
  have:=hu.c8;subst this;exact .fr _ _ (.e0 none)
 |false=>
  simp only [Bool.false_eq_true,if_false] at nz;obtain ⟨rfl,rfl⟩:=nz;show (Code.seq _ _).wp P _ a5 w5;refine lH _ [.fz xs,.undef,.nil,.fz xs,.bool false,.undef,.undef,.undef] H5 (fun e s' H' =>e= .ret∧s'.getD 2 .undef=(if xs=[] then .e0 else .ref H5.bs.length H5.st 0 xs.length)∧H' =(if xs=[] then H5 else H5.new te.sz false xs)) _ w5 AP A5 a5 ?_ o5.st wE ?_
  ·by_cases dN:xs=[]
   ·subst dN;simp [cX,jL,iz,fG,aJ,cO,dt,wpOp,dI,aP,ev,bj,gN,cB,ht,hu,he,ct,ek,cN,bK,h0];refine ⟨_,_,⟨rfl,rfl⟩,_,_,⟨rfl,rfl⟩,_,_,⟨rfl,rfl⟩,?_⟩;simp
   ·have hlen: ¬xs.length=0:=by simpa using dN
    simp [cX,jL,iz,fG,aJ,cO,dt,wpOp,dI,aP,ev,bj,gN,cB,ht,hu,he,ct,ek,cN,h0,dN];refine ⟨_,_,⟨rfl,rfl⟩,_,_,⟨rfl,rfl⟩,_,_,⟨rfl,rfl⟩,?_⟩;simp [hz,dR,dN]
  ·rintro e6 s6 H6 DC A6 a6 w6 o6 AQ ⟨rfl,AR,rfl⟩;show (bodyPost P fn _) .ret a6 w6;exact fin _ _ _ _ _ _ _ (wD.trans ae (o5.trans qc o6)) AQ AR fun u hu=>⟨_,hu,rfl,rfl⟩
def wF (ids:List (FuncId×Nat×Nat)):bq:=fun f ys H K=> ∃sz b xs,(f,sz,b)∈ids∧ys=[.fz xs]∧bK sz xs=true∧sz≠0∧roomy xs.length b=true∧K (if xs=[] then .e0 else .ref H.bs.length H.st 0 xs.length) (if xs=[] then H else H.new sz false xs)
structure wG (P:Program) (E:aK) (f:FuncId) (sz b:Nat):Prop where
 out: ∃fn t bt e ti te,P.funcs[f]? =some fn∧(fn.name== "runtime.NumGoroutine")=false∧fn.body=some (wz t bt)∧fn.results= #[.tmp 2]∧fn.ntmps=8∧E t=some ti∧ti.au= .sl e∧E e=some te∧te.sz=sz∧te.bytes=b
theorem AS (hm:P.follows .mixedOrders=true) (hE: ∀t ti,E t=some ti→aS P t ti) {ids:List (FuncId×Nat×Nat)} (qd: ∀x∈ids,wG P E x.1 x.2.1 x.2.2):
 ∀f ys H K,wF ids f ys H K→ ∃v H',cb P f ys H (fun v1 H1=>v1=v∧H1=H')∧K v H' :=by
 rintro f ys H K ⟨sz,b,xs,h1,rfl,h2,h3,h4,h5⟩;obtain ⟨fn,t,bt,e,ti,te,k1,k2,k3,k4,k5,k6,k7,k8,rfl,rfl⟩:=(qd _ h1).out;exact ⟨_,_,AE hm hE k1 k2 k3 k4 k5 k6 k7 k8 xs H h2 h3 h4,h5⟩
end
theorem DE {E:aK} {s:aj} {H:J} {L:List It} {γ :Type} {l:List γ} {c: γ →AV} {t:TypeId} {x:Operand} {ti:TI} {e:TypeId} (j:Nat) (hS:az H L) {v w:AV} {sz:Nat} (hj:L[j]? =some ⟨v,sz,l.map c⟩) (hp:bA v)
 (ht:E t=some ti) (hu:ti.au= .sl e) {op:Op} (bh:op= .call {callee:= .builtin .len,args:= #[x],argTypes:= #[t]}) (hx:ev s x=v) (hw:w= .int .i64 l.length):gR E op s H=some (w,H):=by
 subst bh hx hw;have h1:(some t).bind E=some ti:=ht;have h2:=hS.len j hj hp;rw [List.length_map] at h2;simp only [gR,List.map_cons,List.map_nil,ct,List.getElem?_toArray,List.getElem?_cons_zero,h1,h2,hu];rcases hp.ok with h|h|⟨_,_,_,_,h⟩<;>rw [h]
end Go.VS
namespace Go.VS
structure gf (w:List AV) (n:Nat):Prop where
 len:w.length=n
 sl: ∀a∈w,bA a
def AT {α β :Type} (p: α →List β) (c: β →AV) (z:Nat) (w:List AV) (l:List α):List It:=List.zipWith (fun a x=>⟨a,z,(p x).map c⟩) w l
def DF {α :Type} (m:AV→ α →AV) (w:List AV) (l:List α):List AV:=List.zipWith m w l
def DG {α β :Type} (p: α →List β) (c: β →AV) (z:Nat) (w:List AV) (l:List α) (i:Nat):List It:=(AT p c z w l).eraseIdx i
theorem DH {α :Type} (c: α →AV) (l:List α):Au c l= .fz (l.map c):=rfl
def AU:List (List It)→List It→List It
 |[],F=>F
 |a::as,F=>a ++ AU as F
section
variable {H:J} {L F R:List It}
variable {α β :Type} {p: α →List β} {c: β →AV} {z:Nat} {w:List AV} {l:List α} {m:AV→ α →AV} {v:AV} {sz:Nat}
theorem gf.nil:gf [] 0:=⟨rfl,by simp⟩
theorem gf.get (h:gf w l.length) {i:Int} {b: α} (hi:idx l i=some b): ∃a,w[i.toNat]? =some a∧bA a:=by
 obtain ⟨_,_,h1⟩:=lC hi;have:=(List.getElem?_eq_some_iff.1 h1).1;have hw:i.toNat<w.length:=by rw [h.len];exact this
 exact ⟨_,List.getElem?_eq_getElem hw,h.sl _ (List.getElem_mem hw)⟩
theorem gf.set (h:gf w l.length) {a:AV} (ha:bA a) (i:Nat) (y: α):gf (w.set i a) (l.set i y).length:=by
 refine ⟨by simpa using h.len,fun x hx=> ?_⟩
 rcases List.mem_or_eq_of_mem_set hx with h1|rfl
 ·exact h.sl _ h1
 ·exact ha
theorem gf.app {w' :List AV} {l' :List α} (h:gf w l.length) (h' :gf w' l'.length):gf (w ++ w') (l ++ l').length:=by
 refine ⟨by simp [h.len,h'.len],fun x hx=> ?_⟩
 rcases List.mem_append.1 hx with h1|h1
 ·exact h.sl _ h1
 ·exact h'.sl _ h1
theorem DI {C:aG} {q th:Bool} {s:aj} {K:AV→J→Prop} {t e:TypeId} {x:Operand} {ti:TI} (ht:C.E t=some ti) (hu:ti.au= .sl e) (hx:ev s x= .nil) (h:K (.int .i64 0) H):aZ (aq C) C q th (.call {callee:= .builtin .cap,args:= #[x],argTypes:= #[t]}) s H K:=by
 unfold aZ wpOp;have e1:((#[t]:Array TypeId)[0]?).bind C.E=C.E t:=rfl;simp only [eD,implies_true,true_and,List.map_cons,List.map_nil,hx,ct,e1,ht,hu];exact h
theorem DJ {E:aK} {K:AV→J→Prop} {t e:TypeId} {ti te:TI} {lo hi:Option Int} (ht:E t=some ti) (hu:ti.au= .sl e) (he:E e=some te) (h1:lo.getD 0=0) (h2:hi.getD 0=0) (h:K .nil H):eN E t .nil (some lo) (some hi) (some none) H K:=by
 simp only [eN,eO,ht,hu,he];rw [if_pos ⟨h1,h2,rfl,by simp⟩]
 exact h
structure qe (v:AV) (lo n:Nat) (v' :AV):Prop where
 out:(v= .nil∧v' = .nil)∨(v= .e0∧v' = .e0)∨ ∃id ad off len,v= .ref id ad off len∧v' = .ref id ad (off+lo) n
theorem wH {γ :Type} {l m:List γ} {lo hi:Int} (h:dU l lo hi=some m):0≤lo∧lo≤hi∧hi≤l.length∧m=(l.drop lo.toNat).take (hi.toNat-lo.toNat)∧m.length=hi.toNat-lo.toNat:=by
 unfold dU at h;split at h
 ·rename_i hc;simp only [Option.some.injEq] at h;refine ⟨hc.1,hc.2.1,hc.2.2,h.symm,?_⟩;rw [←h,List.length_take,List.length_drop];omega
 ·simp at h
theorem DK {γ δ :Type} {E:aK} {K:AV→J→Prop} {t e:TypeId} {ti te:TI} {l:List γ} {c: γ →AV} {lo hi:Option Int} {f:List γ →Option δ} {r: δ} (j:Nat) (hS:az H L) (hj:L[j]? =some ⟨v,te.sz,l.map c⟩) (hp:bA v) (ht:E t=some ti) (hu:ti.au= .sl e) (he:E e=some te) (hh:(dU l (lo.getD 0) (hi.getD l.length)).bind f=some r)
 (h: ∀v' m,bA v' →qe v (lo.getD 0).toNat m.length v' →dU l (lo.getD 0) (hi.getD l.length)=some m→f m=some r→K v' H):eN E t v (some lo) (some hi) (some none) H K:=by
 cases hm:dU l (lo.getD 0) (hi.getD l.length) with
 |none=>rw [hm] at hh;simp at hh
 |some m=>
  rw [hm] at hh;have hk:=fun v' bu hw=>h v' m bu hw hm hh
  obtain ⟨di,dO,lF,_,gM⟩:=wH hm;have af:=hS.ok j _ hj;obtain ⟨k0,af⟩:=af;simp only at af k0;have empty:l.map c=[]→lo.getD 0=0∧hi.getD 0=0:=by
   intro e;rw [List.map_eq_nil_iff] at e;subst e;have e0:(([]:List γ).length:Int)=0:=rfl;rw [e0] at lF dO;refine ⟨by omega,?_⟩
   cases hi with
   |none=>rfl
   |some x=>simp at dO lF⊢;omega
  split at af
  ·obtain ⟨e1,e2⟩:=empty af;simp only [eN,eO,ht,hu,he];rw [if_pos ⟨e1,e2,rfl,by simp⟩]
   exact hk .nil nr ⟨.inl ⟨rfl,rfl⟩⟩
  ·obtain ⟨e1,e2⟩:=empty af;simp only [eN,eO,ht,hu,he];rw [if_pos ⟨e1,e2,rfl,by simp⟩]
   exact hk .e0 nt ⟨.inr (.inl ⟨rfl,rfl⟩)⟩
  ·rename_i id ad off len;obtain ⟨k1,b,hb,k2,k3,k4,k5⟩:=af;simp only [List.length_map] at k1;subst k1;simp only [eN,eO,ht,hu,hb,he,k2,ne_eq,not_true_eq_false,if_false];rw [if_pos ⟨di,dO,by omega⟩]
   refine hk _ (gL ..) ⟨.inr (.inr ⟨id,ad,off,_,rfl,?_⟩)⟩;rw [gM]
  ·rename_i id ad ix off;obtain ⟨rfl,rfl,_⟩:=af;exact absurd rfl (hp.ne id ad)
  ·exact af.elim
structure DL (H:J) (v:AV) (n:Nat):Prop where
 out:((v= .nil∨v= .e0)∧n=0)∨ ∃id ad off len b,v= .ref id ad off len∧H.ap id ad=some b∧off+n≤b.el.length
structure DM (v:AV) (n k:Nat) (v' :AV):Prop where
 out:((v= .nil∨v= .e0)∧v' =v)∨ ∃id ad off len,v= .ref id ad off len∧v' = .ref id ad (off+n) k
theorem AW {C:aG} {th:Bool} {s:aj} {K:AV→J→Prop} (x:Operand) (t:TypeId):aZ (aq C) C false th (.call {callee:= .builtin .clear,args:= #[x],argTypes:= #[t]}) s H K=cV (ct C.E .clear #[t] [ev s x] H) K:=by
 unfold aZ wpOp;simp only [Bool.false_eq_true,false_implies,true_and];rfl
def iW {γ :Type} (l:List γ) (lo:Int) (m:List γ) (d: γ):List γ :=l.take lo.toNat ++ List.replicate m.length d ++ l.drop (lo.toNat+m.length)
theorem AX {γ :Type} {E:aK} {K:AV→J→Prop} {t:TypeId} {te:TI} {l m:List γ} {c: γ →AV} {v' z:AV} {d: γ} {lo hi:Int} (j:Nat) (hS:az H L) (hj:L[j]? =some ⟨v,te.sz,l.map c⟩) (ht:cB E t=some te) (h0:(te.sz==0)=false) (hz:dX te=some z) (hd:c d=z) (hv:qe v lo.toNat m.length v') (hm:dU l lo hi=some m)
 (h: ∀H',az H' (L.set j ⟨v,te.sz,(iW l lo m d).map c⟩)→K (.ay []) H'):cV (ct E .clear #[t] [v'] H) K:=by
 have e1:((#[t]:Array TypeId)[0]?).bind (cB E)=some te:=ht;have aL:te.sz≠0:=by simpa using h0
 obtain ⟨di,dO,lF,AY,gM⟩:=wH hm;have same:L.set j ⟨v,te.sz,l.map c⟩=L:=List.ext_getElem? fun k=>by
  rw [List.getElem?_set];split
  ·rename_i e;subst e;have:=(List.getElem?_eq_some_iff.1 hj).1;simp only [this,if_true];exact hj.symm
  ·rfl
 have af:=(hS.ok j _ hj).2;simp only at af;have empty:l.map c=[]→iW l lo m d=l:=fun e=>by
  rw [List.map_eq_nil_iff] at e;subst e;have:m=[]:=by rw [AY];simp
  subst this;simp [iW]
 simp only [ct,e1];rcases hv.out with ⟨rfl,rfl⟩|⟨rfl,rfl⟩|⟨id,ad,off,len,rfl,rfl⟩
 ·simp only at af;rw [empty af,same] at h;simp only [jI,cV];exact h H hS
 ·simp only at af;rw [empty af,same] at h;simp only [jI,cV];exact h H hS
 ·simp only at af;obtain ⟨k1,b,hb,k2,k3,k4,k5⟩:=af;simp only [List.length_map] at k1;subst k1;have bE:=(J.bn hb).2;simp only [jI,hb,hz];rw [if_pos ⟨k2,by omega,aL⟩]
  simp only [cV];refine h _ ?_;have j0:(splice b.el (off+lo.toNat) (List.replicate m.length z)).length=b.el.length:=jR _ _ _ (by simp;omega)
  have jZ:(iW l lo m d).length=l.length:=by simp only [iW,List.length_append,List.length_take,List.length_replicate,List.length_drop];omega
  have k0:=(hS.ok j _ hj).1;refine hS.a7 hj rfl (fun fh fX aL _=>kh aL) ⟨?_,by simp [jZ],{b with el:=splice b.el (off+lo.toNat) (List.replicate m.length z)},?_,k2,k3,by simp only [j0];simpa [jZ] using k4,?_⟩ (fun k hk=>by simpa [bW] using hk.symm)
  ·simp only [bK,List.all_eq_true] at k0⊢;intro x hx;simp only [iW,List.map_append,List.mem_append,List.map_take,List.map_drop,List.map_replicate,List.mem_replicate] at hx;rcases hx with (hx|⟨_,rfl⟩)|hx
   ·exact k0 x (List.mem_of_mem_take hx)
   ·rw [hd];simpa using np hz
   ·exact k0 x (List.mem_of_mem_drop hx)
  ·have:=kj (H:=H) (b:={b with el:=splice b.el (off+lo.toNat) (List.replicate m.length z)}) ((hS.ok j _ hj).lt rfl);simpa only [bE] using this
  ·simp only [aD] at k5⊢;apply List.ext_getElem?;intro i;have ki:=congrArg (fun x=>x[i]?) k5;simp only [List.getElem?_take,List.getElem?_drop,List.getElem?_map] at ki⊢;by_cases hi:i<l.length
   ·simp only [if_pos hi] at ki⊢;unfold splice iW;simp only [List.length_replicate];by_cases h1:i<lo.toNat
    ·rw [List.getElem?_append_left (by simp;omega),List.getElem?_append_left (by simp;omega),List.getElem?_take_of_lt (by omega),List.getElem?_append_left (by simp;omega),List.getElem?_append_left (by simp;omega),List.getElem?_take_of_lt h1]
     exact ki
    ·by_cases h2:i<lo.toNat+m.length
     ·rw [List.getElem?_append_left (by simp;omega),List.getElem?_append_right (by simp;omega),List.getElem?_replicate,if_pos (by simp;omega),List.getElem?_append_left (by simp;omega),List.getElem?_append_right (by simp;omega),List.getElem?_replicate,if_pos (by simp;omega),←hd];rfl
     ·rw [List.getElem?_append_right (by simp;omega),List.getElem?_append_right (by simp;omega),List.getElem?_drop,List.getElem?_drop]
      simp only [List.length_append,List.length_take,List.length_replicate];rw [show off+lo.toNat+m.length+(off+i-(min (off+lo.toNat) b.el.length+m.length))=off+i by omega,show lo.toNat+m.length+(i-(min lo.toNat l.length+m.length))=i by omega]
      exact ki
   ·simp only [if_neg hi];rw [List.getElem?_eq_none (by rw [jZ];omega)];rfl
theorem DN {γ :Type} {C:aG} {th:Bool} {s:aj} {K:AV→J→Prop} {xo:Operand} {t:TypeId} {te:TI} {l m:List γ} {c: γ →AV} {v' z:AV} {d: γ} {lo hi:Int} (j:Nat) (hS:az H L) (hj:L[j]? =some ⟨v,te.sz,l.map c⟩) (hx:ev s xo=v') (ht:cB C.E t=some te) (h0:(te.sz==0)=false) (hz:dX te=some z) (hd:c d=z) (hv:qe v lo.toNat m.length v') (hm:dU l lo hi=some m)
 (h: ∀H',az H' (L.set j ⟨v,te.sz,(iW l lo m d).map c⟩)→K (.ay []) H'):aZ (aq C) C false th (.call {callee:= .builtin .clear,args:= #[xo],argTypes:= #[t]}) s H K:=by
 rw [AW,hx];exact AX j hS hj ht h0 hz hd hv hm h
theorem DO {γ δ :Type} {E:aK} {K:AV→J→Prop} {t u:TypeId} {te tu:TI} {k:IntKind} {n:Int} {z0:AV} {d: γ} {c: γ →AV} {f:List γ →Option δ} {r: δ} (hS:az H L) (ht:cB E t=some te) (hu:E u=some tu) (hi:tu.au= .it k) (hz:iy te=some z0) (hd:c d=z0) (h0:(te.sz==0)=false) (hh:(kn te.bytes n d).bind f=some r)
 (h: ∀v H' l,bA v→kn te.bytes n d=some l→f l=some r→az H' (⟨v,te.sz,l.map c⟩::L)→K v H'):cV (ct E .append #[t,u] [.nil,.int .i64 n] H) K:=by
 cases hm:kn te.bytes n d with
 |none=>rw [hm] at hh;simp at hh
 |some l=>
  rw [hm] at hh;have lI:=hm
  unfold kn at lI;split at lI
  ·rename_i hc;simp only [Option.some.injEq] at lI;subst lI;have aL:te.sz≠0:=by simpa using h0
   have e1:(#[t,u]:Array TypeId)[0]? =some t:=rfl;have e2:((#[t,u]:Array TypeId)[1]?).bind E=E u:=rfl;simp only [ct,e1,e2,ht,hu,hi,jH,hz];rw [if_pos ⟨hc.1,hc.2,aL⟩];by_cases hn:n=0
   ·rw [if_pos hn];subst hn;exact h .nil H _ nr hm hh (hS.Ap te.sz)
   ·rw [if_neg hn];refine h _ _ _ (gL ..) hm hh (hS.nn (by simp [hd]) (by simp) ?_)
    simp only [bK,List.map_replicate,List.all_replicate,hd,Ab hz];simp
  ·simp at lI
end
theorem DP {C:aG} {kp:List Nat} {s s' :aj} {H:J} {K:Ex→aj→J→Prop} (hk:eE kp s=s') (h:K .normal s' H):aJ (aq C) C (.fF [] (some kp)) s H K:=by
 subst hk;exact h
end Go.VS
