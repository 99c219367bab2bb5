import Derived.Test.YtmmomohapflagaaVaD
namespace Go.VS
def FZ (l:List (List Nat×List Sh)) (s:aj) (H:J) (P:aj→J→Prop):Prop:= ∃s' H',dt l s H=some (s',H')∧P s' H'
section
variable {C:aH} {s:aj} {H:J} {L:List It}
theorem ur (P:aj→J→Prop):FZ [] s H P=P s H:=by
 apply propext;constructor
 ·rintro ⟨s',H',h,hp⟩;simp only [dt,Option.some.injEq,Prod.mk.injEq] at h;obtain ⟨rfl,rfl⟩:=h;exact hp
 ·exact fun h=>⟨s,H,rfl,h⟩
theorem zy {t:Nat} {ts:List Nat} {e:Sh} {sh:List Sh} {l:List (List Nat×List Sh)} {P:aj→J→Prop} {y:AV} {H1:J} (ht:aR (e::sh) (s.getD t .undef) H=some (y,H1)) (h:FZ l (gk (s.getD t .undef) (bp y) ts (s.set t (bp y))) H1 P):FZ ((t::ts,e::sh)::l) s H P:=by
 obtain ⟨s',H',h1,h2⟩:=h;exact ⟨s',H',by simp only [dt,ht];exact h1,h2⟩
theorem uu {f:AV→J→Option (AV×J)}: ∀(xs:List AV) (H:J),(∀x∈xs,∀H,f x H=some (x,H))→cP f xs H=some (xs,H)
 |[],H,_=>rfl
 |x::xs,H,h=>by
  simp only [cP,h x (by simp) H,uu xs H (fun y hy=>h y (by simp [hy]))]
theorem uw {α :Type} {c: α →AV} (hz: ∀x,bp (c x)=c x): ∀(l:List α),bS (l.map c)=l.map c
 |[]=>rfl
 |x::l=>by simp only [List.map_cons,bS,hz x,uw hz l]
theorem aq.del (hS:aq H L) {id:Nat} (h: ∀(i:Nat) (it:It),L[i]? =some it→b4 it.v≠some id):aq (H.del id) L:=
 ⟨fun i it hi=>(hS.ok i it hi).frame fun k ad hk=>by
  have aO: ¬id=k:=fun e=>h i it hi (by rw [hk,e])
  simp only [J.ap,J.del,List.getElem?_set,if_neg aO],hS.b7⟩
theorem zB (hS:aq H L) {j:Nat} {v:AV} {sz:Nat} {el:List AV} (hj:L[j]? =some ⟨v,sz,el⟩) (hp:aJ v):fc v v=true:=by
 have af:=(hS.ok j _ hj).2;simp only at af;split at af
 ·rfl
 ·rfl
 ·simp [fc]
 ·rename_i id ad ix off;obtain ⟨rfl,rfl,_⟩:=af;exact absurd rfl (hp.ne id ad)
 ·exact af.elim
theorem aq.take {α :Type} (hS:aq H L) (j:Nat) {v:AV} {es:List Sh} {l:List α} {c: α →AV} (hj:L[j]? =some ⟨v,es.length,l.map c⟩) (hp:aJ v) (hc: ∀x H,aR es (c x) H=some (c x,H)):
 ∃H',aR [.sl es] v H=some (.own es.length (l.map c),H')∧aq H' (L.eraseIdx j):=by
 have af:=hS.ok j _ hj;have hf:=hS.front j hj;obtain ⟨k0,af⟩:=af;have e1:aR [.sl es] v H=aP (.sl es) v H:=by
  have jp: ∀cs,v≠ .agg cs:=by rintro cs rfl;exact af
  cases v with
  |agg cs=>exact absurd rfl (jp cs)
  |_=>simp only [aR]
 rw [e1];simp only at af;split at af
 ·rename_i hv;exact ⟨H,by simp only [aP,af],hf.tl⟩
 ·exact ⟨H,by simp only [aP,af],hf.tl⟩
 ·rename_i id ad off len;obtain ⟨k1,b,hb,k2,k3,k4,k5⟩:=af;have hm:cP (aR es) (l.map c) (H.del id)=some (l.map c,H.del id):=uu _ _ (by
   intro x hx H;obtain ⟨y,_,rfl⟩:=List.mem_map.1 hx;exact hc y H)
  refine ⟨H.del id,?_,hf.tl.del fun i it hi e=> ?_⟩
  ·simp only [aP,hb];rw [if_pos ⟨k2,k4,.inl k3⟩,k5,hm]
  ·have:=hf.b7 0 (i+1) _ it id rfl (by simpa using hi) rfl e
   omega
 ·rename_i id ad ix off;obtain ⟨rfl,rfl,_⟩:=af;exact absurd rfl (hp.ne id ad)
 ·exact af.elim
theorem BP {α :Type} {t:Nat} {ts:List Nat} {es:List Sh} {l:List (List Nat×List Sh)} {P:aj→J→Prop} {v:AV} {m:List α} {c: α →AV} (j:Nat) (hS:aq H L) (hj:L[j]? =some ⟨v,es.length,m.map c⟩) (hp:aJ v) (hv:s.getD t .undef=v) (hc: ∀x H,aR es (c x) H=some (c x,H)) (hz: ∀x,bp (c x)=c x)
 (h: ∀H',fc v v=true→aq H' (L.eraseIdx j)→FZ l (gk v (.fz (m.map c)) ts (s.set t (.fz (m.map c)))) H' P):FZ ((t::ts,[.sl es])::l) s H P:=by
 obtain ⟨H',h1,h2⟩:=hS.take j hj hp hc;rw [←hv] at h1;refine zy h1 ?_;simp only [bp,uw hz,hv];exact h H' (zB hS hj hp) h2
def TC (es:List Sh) (cs:List AV) (H:J) (K:List AV→J→Prop):Prop:= ∃ys H',ck es cs H=some (ys,H')∧K ys H'
theorem BQ {K:List AV→J→Prop} (h:K [] H):TC [] [] H K:=⟨[],H,by simp only [ck],h⟩
theorem pu {e:Sh} {es:List Sh} {v y:AV} {cs:List AV} {H1:J} {K:List AV→J→Prop} (ht:aP e v H=some (y,H1)) (h:TC es cs H1 fun ys H' =>K (y::ys) H'):TC (e::es) (v::cs) H K:=by
 obtain ⟨ys,H',h1,h2⟩:=h;exact ⟨y::ys,H',by simp only [ck,ht,h1],h2⟩
theorem BR {es:List Sh} {v:AV} {cs:List AV} {K:List AV→J→Prop} (hp:dj v=true) (h:TC es cs H fun ys H' =>K (v::ys) H'):TC (.sc::es) (v::cs) H K:=
 pu (by simp only [aP,hp,if_true]) h
theorem BS {α :Type} {es fs:List Sh} {v:AV} {cs:List AV} {K:List AV→J→Prop} {m:List α} {c: α →AV} (j:Nat) (hS:aq H L) (hj:L[j]? =some ⟨v,fs.length,m.map c⟩) (hp:aJ v) (hc: ∀x H,aR fs (c x) H=some (c x,H))
 (h: ∀H',aq H' (L.eraseIdx j)→TC es cs H' fun ys H' =>K (.own fs.length (m.map c)::ys) H'):TC (.sl fs::es) (v::cs) H K:=by
 obtain ⟨H',h1,h2⟩:=hS.take j hj hp hc;have h3:aP (.sl fs) v H=some (.own fs.length (m.map c),H'):=by
  have jp: ∀cs,v≠ .agg cs:=by rintro cs rfl;rcases hp.ok with h|h|⟨_,_,_,_,h⟩<;>simp at h
  cases v with
  |agg cs=>exact absurd rfl (jp cs)
  |_=>simpa only [aR] using h1
 exact pu h3 (h H' h2)
theorem ux (xs:List AV):bp (.agg xs)= .agg (bS xs):=rfl
theorem uy (x:AV) (xs:List AV):bS (x::xs)=bp x::bS xs:=rfl
theorem uz:bS []=[]:=rfl
theorem uA (k:IntKind) (n:Int):bp (.int k n)= .int k n:=rfl
theorem uB (b:Bool):bp (.bool b)= .bool b:=rfl
theorem uC (b:List UInt8):bp (.str b)= .str b:=rfl
theorem uD (b:List AV):bp (.fz b)= .fz b:=rfl
theorem uE (n:Nat) (b:List AV):bp (.own n b)= .fz (bS b):=rfl
theorem uF (xs:List AV):bp (.aE xs)= .aE (bS xs):=rfl
theorem uG (x:AV):cm [x]=x:=rfl
theorem uH (x y:AV) (l:List AV):cm (x::y::l)= .aE (x::y::l):=rfl
theorem uI:cm []= .aE []:=rfl
theorem uJ (x y:AV):gk x y [] s=s:=rfl
theorem uK (x y:AV) (t:Nat) (ts:List Nat):gk x y (t::ts) s=gk x y ts (if fc (s.getD t .undef) x then s.set t y else s):=rfl
theorem uL:fc .nil .nil=true:=rfl
theorem uM:fc .e0 .e0=true:=rfl
theorem uN (fz:List (Nat×List (List Nat×List Sh))) (K:aj→J→Prop) (i:Nat):fZ C fz K [] i s H=K s H:=rfl
theorem aq.BT (hS:aq H L) (n:Nat) (js:List Nat) (hj:(js.Nodup∧ ∀j∈js,j<n)):aq H (js.filterMap (L[·]?) ++ L.drop n):=by
 refine ⟨fun i it hi=> ?_,fun i j a b id hi zC ha hb=> ?_⟩
 ·rcases List.mem_append.1 (List.mem_of_getElem? hi) with h|h
  ·obtain ⟨k,_,hk⟩:=List.mem_filterMap.1 h;exact hS.ok k it hk
  ·obtain ⟨k,hk⟩:=List.mem_iff_getElem?.1 (List.mem_of_mem_drop h);exact hS.ok k it hk
 ·
  have key: ∀(js:List Nat),js.Nodup→(∀j∈js,j<n)→ ∀(i j:Nat) (a b:It),(js.filterMap (L[·]?) ++ L.drop n)[i]? =some a→(js.filterMap (L[·]?) ++ L.drop n)[j]? =some b→b4 a.v=some id→b4 b.v=some id→i=j:=by
   intro js;induction js with
   |nil=>
    intro _ _ i j a b hi hj ha hb;simp only [List.filterMap_nil,List.nil_append,List.getElem?_drop] at hi hj;have:=hS.b7 _ _ a b id hi hj ha hb;omega
   |cons k ks ih=>
    intro qk ax i j a b hi hj ha hb;have uO:=(List.nodup_cons.1 qk)
    have lC:=ih uO.2 (fun j h=>ax j (by simp [h]))
    cases hk:L[k]? with
    |none=>
     simp only [List.filterMap_cons,hk] at hi hj;exact lC i j a b hi hj ha hb
    |some c=>
     simp only [List.filterMap_cons,hk,List.cons_append] at hi hj;have other: ∀(m:Nat) (d:It),(ks.filterMap (L[·]?) ++ L.drop n)[m]? =some d→b4 c.v=some id→b4 d.v≠some id:=by
      intro m d hm hc hd;rcases List.mem_append.1 (List.mem_of_getElem? hm) with h|h
      ·obtain ⟨k',zD,bC⟩:=List.mem_filterMap.1 h;have:=hS.b7 k k' c d id hk bC hc hd
       subst this;exact uO.1 zD
      ·obtain ⟨k',bC⟩:=List.mem_iff_getElem?.1 h;rw [List.getElem?_drop] at bC;have:=hS.b7 k _ c d id hk bC hc hd
       have:=ax k (by simp)
       omega
     cases i with
     |zero=>
      simp at hi;subst hi;cases j with
      |zero=>rfl
      |succ j=>exact absurd hb (other j b (by simpa using hj) ha)
     |succ i=>
      cases j with
      |zero=>simp at hj;subst hj;exact absurd ha (other i a (by simpa using hi) hb)
      |succ j=>have:=lC i j a b (by simpa using hi) (by simpa using hj) ha hb;omega
  exact key js hj.1 hj.2 i j a b hi zC ha hb
end
abbrev u:=AV.undef
def zE {α :Type} (c: α →AV) (l:List α):AV:= .fz (l.map c)
theorem BU {E:aM} {s:aj} {H:J} {a:Tmp} {t:TypeId} {rs:List ResultVar} {ti:TI} {id ad sz:Nat} {x y:AV} {ys:List AV} (ht:E t=some ti) (ha:s.getD a .undef= .ptr id ad 0 0) (hb:H.ap id ad=some ⟨ad,sz,false,[x]⟩) (hx:bO ti x 0=some y) (hr:du E s H rs=some ys):du E s H (.cell a t::rs)=some (y::ys):=by
 have:aK E (.load t (.tmp a)) s H=some (y,H):=by
  have e:ev s (.tmp a)= .ptr id ad 0 0:=ha;simp only [aK,ht,e,hb,List.getElem?_cons_zero,hx]
 simp only [du,this,hr,Option.map_some]
theorem BV {E:aM} {s:aj} {H:J} {a:Tmp} {rs:List ResultVar} {y:AV} {ys:List AV} (ha:s.getD a .undef=y) (hr:du E s H rs=some ys):du E s H (.tmp a::rs)=some (y::ys):=by
 simp only [du,hr,Option.map_some,ha]
section
variable {C:aH} {s:aj} {H:J}
def fA (C:aH) (K:aj→J→Prop) (d:Option Tmp) (late:List (Op×Option Tmp)) (rest:List GO) (s:aj):AV→J→Prop:=fun v H=>dN C (bd s d v) H (dZ C K rest (bd s d v) H) late
def h_ (C:aH) (K:aj→J→Prop) (v:AV) (w:Bool) (d:Option Tmp) (op:Op) (late:List (Op×Option Tmp)) (th q:Bool) (rest:List GO) (s:aj) (H:J):Prop:=gH v w (aZ (aw C) C q th op s H (fA C K d late rest s)) (fA C K d late rest s (.aE []) H)
theorem uP (K:aj→J→Prop) (d:Option Tmp) (rest:List GO) (v:AV):fA C K d [] rest s v H=dZ C K rest (bd s d v) H:=rfl
theorem uQ (K:aj→J→Prop) (d:Option Tmp) (l:Op×Option Tmp) (ls:List (Op×Option Tmp)) (rest:List GO) (v:AV):fA C K d (l::ls) rest s v H=dN C (bd s d v) H (dZ C K rest (bd s d v) H) (l::ls):=rfl
theorem uR (K:aj→J→Prop) (d:Option Tmp) (op:Op) (late:List (Op×Option Tmp)) (q th:Bool) (rest:List GO):dZ C K (⟨d,op,none,late,th,q⟩::rest) s H=aZ (aw C) C q th op s H (fA C K d late rest s):=rfl
theorem uS (K:aj→J→Prop) (d:Option Tmp) (op:Op) (t:Tmp) (w:Bool) (late:List (Op×Option Tmp)) (q th:Bool) (rest:List GO):dZ C K (⟨d,op,some (some t,w),late,th,q⟩::rest) s H=h_ C K (s.getD t .undef) w d op late th q rest s H:=rfl
variable (K:aj→J→Prop) (d:Option Tmp) (op:Op) (late:List (Op×Option Tmp)) (th q:Bool) (rest:List GO)
theorem uT:h_ C K (.bool true) true d op late th q rest s H=aZ (aw C) C q th op s H (fA C K d late rest s):=r_ _ _
theorem uU:h_ C K (.bool false) false d op late th q rest s H=aZ (aw C) C q th op s H (fA C K d late rest s):=sa _ _
theorem uV:h_ C K (.bool true) false d op late th q rest s H=fA C K d late rest s (.aE []) H:=sb _ _
theorem uW:h_ C K (.bool false) true d op late th q rest s H=fA C K d late rest s (.aE []) H:=sd _ _
theorem uX (l:List AV) (w:Bool):h_ C K (.aE l) w d op late th q rest s H=fA C K d late rest s (.aE []) H:=rfl
theorem BW {α :Type} {c w:Bool} {x y:Option α} {r: α} {K:aj→J→Prop} {d:Option Tmp} {op:Op} {late:List (Op×Option Tmp)} {th q:Bool} {rest:List GO} (h:(bif c then x else y)=some r) (ht:c=true→x=some r→h_ C K (.bool true) w d op late th q rest s H) (hf:c=false→y=some r→h_ C K (.bool false) w d op late th q rest s H):h_ C K (.bool c) w d op late th q rest s H:=by
 cases c with
 |true=>exact ht rfl h
 |false=>exact hf rfl h
variable (fz:List (Nat×List (List Nat×List Sh))) (i:Nat)
def ga (C:aH) (fz:List (Nat×List (List Nat×List Sh))) (K:aj→J→Prop) (d:Option Tmp) (rest:List GO) (i:Nat) (s:aj):AV→J→Prop:=fun v H=>fZ C fz K rest (i+1) (bd s d v) H
def j0 (C:aH) (fz:List (Nat×List (List Nat×List Sh))) (K:aj→J→Prop) (v:AV) (w:Bool) (d:Option Tmp) (op:Op) (th q:Bool) (rest:List GO) (i:Nat) (s:aj) (H:J):Prop:=gH v w (aZ (aw C) C q th op s H (ga C fz K d rest i s)) (ga C fz K d rest i s (.aE []) H)
def pv (C:aH) (fz:List (Nat×List (List Nat×List Sh))) (K:aj→J→Prop) (o:GO) (rest:List GO) (i:Nat):aj→J→Prop:=fun s H=>hG o.g s (aZ (aw C) C o.q o.th o.op s H (ga C fz K o.d rest i s)) (ga C fz K o.d rest i s (.aE []) H)
theorem uY (o:GO):fZ C fz K (o::rest) i s H=FZ ((fz.lookup i).getD []) s H (pv C fz K o rest i):=rfl
theorem uZ:pv C fz K ⟨d,op,none,late,th,q⟩ rest i s H=aZ (aw C) C q th op s H (ga C fz K d rest i s):=rfl
theorem u0 (t:Tmp) (w:Bool):pv C fz K ⟨d,op,some (some t,w),late,th,q⟩ rest i s H=j0 C fz K (s.getD t .undef) w d op th q rest i s H:=rfl
theorem u1 (v:AV):ga C fz K d rest i s v H=fZ C fz K rest (i+1) (bd s d v) H:=rfl
theorem u2:j0 C fz K (.bool true) true d op th q rest i s H=aZ (aw C) C q th op s H (ga C fz K d rest i s):=r_ _ _
theorem u3:j0 C fz K (.bool false) false d op th q rest i s H=aZ (aw C) C q th op s H (ga C fz K d rest i s):=sa _ _
theorem u4:j0 C fz K (.bool true) false d op th q rest i s H=ga C fz K d rest i s (.aE []) H:=sb _ _
theorem u5:j0 C fz K (.bool false) true d op th q rest i s H=ga C fz K d rest i s (.aE []) H:=sd _ _
theorem u6 (l:List AV) (w:Bool):j0 C fz K (.aE l) w d op th q rest i s H=ga C fz K d rest i s (.aE []) H:=rfl
end
theorem u7 {β :Type} (i:Nat) (l: β) (r:List (Nat× β)):((i,l)::r).lookup i=some l:=by simp [List.lookup]
theorem u9 {β :Type} (i k:Nat) (l: β) (r:List (Nat× β)) (h:(i==k)=false):((k,l)::r).lookup i=r.lookup i:=by simp only [List.lookup,h]
theorem u_ {β :Type} (i:Nat):([]:List (Nat× β)).lookup i=none:=rfl
theorem va (all:List Oper) (q:Nat→Bool) (late:Nat→List Nat) (th:List Nat) (i:Nat):dO all q late th [] i=[]:=rfl
theorem vb (all:List Oper) (q:Nat→Bool) (late:Nat→List Nat) (th:List Nat) (o:Oper) (rest:List Oper) (i:Nat):dO all q late th (o::rest) i=⟨o.dst,o.op,o.guard.map fun p=>(lk all p.1,p.2),(late i).map (jY all),th.contains i,q i⟩::dO all q late th rest (i+1):=rfl
theorem vd (o:Oper) (os:List Oper):lk (o::os) 0=o.dst:=rfl
theorem ve (o:Oper) (os:List Oper) (n:Nat):lk (o::os) (n+1)=lk os n:=rfl
theorem vf (K:Ex→aj→J→Prop) (s:aj) (H:J):iE K s H=K .normal s H:=rfl
theorem vg (E:aM) (t:TypeId) (f:Nat):lf E t f=match E t with
 |some ti=>match ti.au with
  | .st fs=>match fs[f]? with
   |some (o,ft)=>match E ft with
    |some tf=>some (o,tf)
    |none=>none
   |none=>none
  |_=>none
 |none=>none:=rfl
theorem vh (ti:TI) (hu:jn ti.au=true) (xs:List AV) (n:Nat) {H:J} {K:AV→J→Prop}:dP (some ti) (.fz xs) (some n) H K=K (.int .i64 n) H:=by cases h:ti.au<;>rw [h] at hu<;>simp [jn] at hu;exact zj ti h xs n
theorem vi (ti:TI) (hu:jn ti.au=true) (n:Nat) {H:J} {K:AV→J→Prop}:dP (some ti) .nil (some n) H K=K (.int .i64 n) H:=by cases h:ti.au<;>rw [h] at hu<;>simp [jn] at hu;exact zk ti h n
theorem vj (ti:TI) (hu:jn ti.au=true) (n:Nat) {H:J} {K:AV→J→Prop}:dP (some ti) .e0 (some n) H K=K (.int .i64 n) H:=by cases h:ti.au<;>rw [h] at hu<;>simp [jn] at hu;exact zl ti h n
theorem vk (ti:TI) (hu:lg ti.au=true) (l:List UInt8) (n:Nat) {H:J} {K:AV→J→Prop}:dP (some ti) (.str l) (some n) H K=K (.int .i64 n) H:=by cases h:ti.au<;>rw [h] at hu<;>simp [lg] at hu;exact zm ti h l n
theorem vl (ta tb:TI) (n:Int) (H:J) (K:AV→J→Prop):pq (some ta) (some tb) n H K=match tb.au with| .it k=>K (.int k (k.wrap n)) H|_=>False:=rfl
theorem vm (o:Nat) (tf:TI) (y:AV) (off:Nat) (h:(tf.sz==0)=false) {H:J} {K:AV→J→Prop}:iF (some (o,tf)) (.fe y off) H K=K (.fe y (off+o)) H:=zf o tf h y off
def pw (b:Option bJ) (k:Prop):Prop:=match b with|some _=>k|none=>False
theorem vn (o:Nat) (tf:TI) (id ad idx off:Nat) (h:(tf.sz==0)=false) {H:J} {K:AV→J→Prop}:iF (some (o,tf)) (.ptr id ad idx off) H K=pw (H.ap id ad) (K (.ptr id ad idx (off+o)) H):=by
 rw [zg o tf h];rfl
theorem vo (b:bJ) (k:Prop):pw (some b) k=k:=rfl
theorem vp {C:aH} {q th:Bool} {s:aj} {H:J} {K:AV→J→Prop} (x:Operand):aZ (aw C) C q th (.nilCheck x) s H K=(match ev s x with| .ptr a b c d=>pw (H.ap a b) (K (.ptr a b c d) H)| .fe x o=>K (.fe x o) H|_=>False):=by
 rw [cX _ rfl];simp only [aK];generalize ev s x=r;cases r<;>try rfl
 rename_i a b c d;simp only;cases H.ap a b<;>rfl
theorem vq (z:List AV) (b:Nat) (w:UD) (e:Bool) (cs:List AV) (off:Nat):bO ⟨1,false,z,b,w,e⟩ (.agg cs) off=cs[off]? :=by
 by_cases h:off<cs.length
 ·have e1:aG cs off 1=[cs[off]]:=by
   simp only [aG,List.drop_eq_getElem_cons h,List.take_succ_cons,List.take_zero]
  have e2:bO ⟨1,false,z,b,w,e⟩ (.agg cs) off=ju false (aG cs off 1):=if_pos (show off+1≤cs.length from h);rw [e2,e1,List.getElem?_eq_getElem h];rfl
 ·rw [List.getElem?_eq_none (by omega)]
  exact if_neg (show¬off+1≤cs.length from h)
theorem vr (z:List AV) (b:Nat) (w:UD) (e:Bool) (k:IntKind) (n:Int):bO ⟨1,false,z,b,w,e⟩ (.int k n) 0=some (.int k n):=rfl
theorem vt (z:List AV) (b:Nat) (w:UD) (e:Bool) (n:Bool):bO ⟨1,false,z,b,w,e⟩ (.bool n) 0=some (.bool n):=rfl
theorem vu (z:List AV) (b:Nat) (w:UD) (e:Bool) (n:List UInt8):bO ⟨1,false,z,b,w,e⟩ (.str n) 0=some (.str n):=rfl
theorem vv (z:List AV) (b:Nat) (w:UD) (e:Bool) (n:List AV):bO ⟨1,false,z,b,w,e⟩ (.fz n) 0=some (.fz n):=rfl
theorem vw (z:List AV) (b:Nat) (w:UD) (e:Bool):bO ⟨1,false,z,b,w,e⟩ .nil 0=some .nil:=rfl
theorem vx (z:List AV) (b:Nat) (w:UD) (e:Bool):bO ⟨1,false,z,b,w,e⟩ .e0 0=some .e0:=rfl
theorem vy (z:List AV) (b:Nat) (w:UD) (e:Bool) (a c d f:Nat):bO ⟨1,false,z,b,w,e⟩ (.ref a c d f) 0=some (.ref a c d f):=rfl
theorem vz (n:Nat) (z:List AV) (b:Nat) (w:UD) (e:Bool) (cs:List AV) (off:Nat):bO ⟨n,true,z,b,w,e⟩ (.agg cs) off=if off+n≤cs.length then some (.agg ((cs.drop off).take n)) else none:=rfl
theorem vA (ti:TI) (r:Bool) (neg:Bool):ld (some ti) (some r) neg=if ti.agg then some (.bool (if neg then !r else r)) else none:=rfl
theorem vB (ti:TI) (x y:AV) (neg:Bool):hZ (some ti) x y neg=match isNil ti.au x y with|some b=>some (.bool (if neg then !b else b))|none=>none:=rfl
theorem vC (E:aM) (d:Nat) (t:TypeId) (xs ys:List AV):dz E (d+1) t xs ys=match E t with
 |none=>none
 |some ti=>match ti.au with
  | .it _=>match xs,ys with
   |[.int k a],[.int j b]=>if k=j then some (a==b) else none
   |_,_=>none
  | .bl=>match xs,ys with
   |[.bool a],[.bool b]=>some (a==b)
   |_,_=>none
  | .str=>match xs,ys with
   |[.str a],[.str b]=>some (a==b)
   |_,_=>none
  | .st fs=>if ti.j9 then gL E (dz E d) fs xs ys else none
  |_=>none:=rfl
theorem vD (E:aM) (f:TypeId→List AV→List AV→Option Bool) (xs ys:List AV):gL E f [] xs ys=some true:=rfl
theorem vE (E:aM) (f:TypeId→List AV→List AV→Option Bool) (o:Nat) (ft:TypeId) (fs:List (Nat×TypeId)) (xs ys:List AV):gL E f ((o,ft)::fs) xs ys=match E ft with
 |none=>none
 |some tf=>
  if o+tf.sz≤xs.length∧o+tf.sz≤ys.length then
   match f ft (aG xs o tf.sz) (aG ys o tf.sz) with
   |some b=>match gL E f fs xs ys with
    |some r=>some (b&&r)
    |none=>none
   |none=>none
  else none:=rfl
theorem vF (cs:List AV) (off n:Nat):aG cs off n=(cs.drop off).take n:=rfl
def mV (E:aM) (t:TypeId) (ps:List (Nat×AV)) (H:J) (K:AV→J→Prop):Prop:=match E t with
 |some ti=>match ti.au with
  | .st fs=>if !(fs.all fun f=>(E f.2).isSome)|| !(ti.zero.all cG) then False else cO ((fB (fun i=>match fs[i]? with|some (o,ft)=>(E ft).map fun tf=>(o,tf.sz)|none=>none) ti.zero ps).map .agg) H K
  | .ar n e=>match E e with
   |some te=>if !(ti.zero.all cG) then False else cO ((fB (fun i=>if i<n then some (i*te.sz,te.sz) else none) ti.zero ps).map .agg) H K
   |none=>False
  |_=>False
 |none=>False
theorem vG {C:aH} {q th:Bool} {s:aj} {H:J} {K:AV→J→Prop} (t:TypeId) (ps:Array (Nat×Operand)):aZ (aw C) C q th (.build t ps) s H K=mV C.E t (ps.toList.map fun p=>(p.1,ev s p.2)) H K:=by
 rw [cX _ rfl];simp only [aK,mV];cases C.E t with
 |none=>rfl
 |some ti=>
  simp only;cases ti.au<;>try rfl
  ·rename_i fs;simp only;split
   ·rfl
   ·generalize Option.map AV.agg _=r;cases r<;>rfl
  ·rename_i n e;simp only;cases C.E e with
   |none=>rfl
   |some te=>
    simp only;split
    ·rfl
    ·generalize Option.map AV.agg _=r;cases r<;>rfl
theorem BX {E:aM} {t:TypeId} {ps:List (Nat×AV)} {H:J} {K:AV→J→Prop} {ti:TI} {fs:List (Nat×TypeId)} {cs:List AV} (ht:E t=some ti) (hu:ti.au= .st fs) (h1:(fs.all fun f=>(E f.2).isSome)=true) (h2:ti.zero.all cG=true)
 (hf:fB (fun i=>match fs[i]? with|some (o,ft)=>(E ft).map fun tf=>(o,tf.sz)|none=>none) ti.zero ps=some cs) (h:K (.agg cs) H):mV E t ps H K:=by
 simp only [mV,ht,hu,h1,h2,Bool.not_true,Bool.or_self,Bool.false_eq_true,if_false,hf];exact h
theorem vH {C:aH} {q th:Bool} {s:aj} {H:J} {K:AV→J→Prop} (f:FuncId) (cap:Array Operand):aZ (aw C) C q th (.makeFunc (.func f) #[] cap) s H K=K (.fn f (cap.toList.map (ev s))) H:=by
 rw [cX _ rfl];simp only [aK];rfl
theorem W:type_of% (And.intro @u7<|And.intro @ux<|And.intro @uy<|And.intro @uz<|And.intro @uA<|And.intro @uB<|And.intro @uC<|And.intro @uD<|And.intro @uE<|And.intro @uF<|And.intro @uG<|And.intro @uH<|And.intro @uI<|And.intro @Bool.or_false<|And.intro @u9<|And.intro @u_<|And.intro @r9<|And.intro @uR<|And.intro @uS<|And.intro @uP<|And.intro @uQ<|And.intro @uT<|And.intro @uU<|And.intro @uV<|And.intro @uW<|And.intro @uX<|And.intro @uY<|And.intro @uZ<|And.intro @u0<|And.intro @u1<|And.intro @u2<|And.intro @u3<|And.intro @u4<|And.intro @u5<|And.intro @u6<|
 And.intro @se<|And.intro @sf<|And.intro @sg<|And.intro @si<|And.intro @sj<|And.intro @sk<|And.intro @sm<|And.intro @sn<|And.intro @so<|And.intro @sq<|And.intro @ss<|And.intro @su<|And.intro @sw<|
 And.intro @sx<|And.intro @sy<|And.intro @sA<|And.intro @sB<|And.intro @sC<|And.intro @sD<|And.intro @sE<|And.intro @sF<|And.intro @sG<|And.intro @sH<|And.intro @sI<|And.intro @sJ<|
 And.intro @uf<|And.intro @ug<|And.intro @uh<|And.intro @sK<|And.intro @sL<|And.intro @sM<|And.intro @sN<|And.intro @sO<|And.intro @sP<|And.intro @sQ<|And.intro @sR<|And.intro @sT<|And.intro @sU<|
 And.intro @sV<|And.intro @sW<|And.intro @sY<|And.intro @sZ<|And.intro @s4<|And.intro @s7<|And.intro @s8<|And.intro @s9<|And.intro @tc<|And.intro @tg<|And.intro @tj<|And.intro @tn<|And.intro @tp<|
 And.intro @tq<|And.intro @tv<|And.intro @tw<|And.intro @tz<|And.intro @tA<|And.intro @tB<|And.intro @tC<|And.intro @tD<|And.intro @tE<|And.intro @tF<|And.intro @tG<|And.intro @tH<|And.intro @tI<|
 And.intro @tJ<|And.intro @tK<|And.intro @tL<|And.intro @tM<|And.intro @min2<|And.intro @max2<|And.intro @tQ<|And.intro @tU<|And.intro @tV<|And.intro @tW<|And.intro @tX<|And.intro @tY<|
 And.intro @ua<|And.intro @ub<|And.intro @uc<|And.intro @ui<|And.intro @uj<|And.intro @uk<|And.intro @ul<|And.intro @um<|And.intro @ur<|And.intro @uJ<|And.intro @uK<|And.intro @uL<|And.intro @uM<|
 And.intro @uN<|And.intro @va<|And.intro @vb<|And.intro @vd<|And.intro @ve<|And.intro @vf<|And.intro @vg<|And.intro @vh<|And.intro @vi<|And.intro @vj<|And.intro @vk<|And.intro @vl<|
 And.intro @vm<|And.intro @vn<|And.intro @vo<|And.intro @vp<|And.intro @vq<|And.intro @vr<|And.intro @vt<|And.intro @vu<|And.intro @vv<|And.intro @vw<|And.intro @vx<|And.intro @vy<|And.intro @vz<|And.intro @vA<|And.intro @vB<|
 And.intro @vC<|And.intro @vD<|And.intro @vE<|And.intro @vF<|And.intro @vG<|And.intro @vH<|And.intro @tR<|And.intro @tS<|And.intro @tT<|
 And.intro @List.set_cons_succ.{0}<|And.intro @List.set_cons_zero.{0}<|And.intro @List.getD_cons_succ.{0}<|And.intro @List.getD_cons_zero.{0}<|And.intro @Option.map_some.{0,0}<|And.intro @Option.map_none.{0,0}<|And.intro @List.map_nil.{0,0}<|And.intro @List.map_cons.{0,0}<|And.intro @List.contains_nil.{0}<|
 And.intro @List.getElem?_cons_succ.{0}<|And.intro @List.getElem?_cons_zero.{0}<|And.intro @List.length_map.{0,0}<|And.intro @List.drop_succ_cons.{0}<|And.intro @List.drop_zero.{0}<|And.intro @List.take_succ_cons.{0}<|And.intro @List.take_zero.{0}<|And.intro @List.length_cons.{0}<|And.intro @List.length_nil.{0}<|
 And.intro @if_true.{0}<|And.intro @if_false.{0}<|And.intro @Bool.not_true<|And.intro @Bool.not_false<|And.intro @Option.getD_none.{0}<|And.intro @Option.getD_some.{0}<|And.intro @List.cons_append.{0}<|And.intro @List.nil_append.{0}<|And.intro @and_self<|And.intro @and_true @true_and):=
 And.intro @u7<|And.intro @ux<|And.intro @uy<|And.intro @uz<|And.intro @uA<|And.intro @uB<|And.intro @uC<|And.intro @uD<|And.intro @uE<|And.intro @uF<|And.intro @uG<|And.intro @uH<|And.intro @uI<|And.intro @Bool.or_false<|And.intro @u9<|And.intro @u_<|And.intro @r9<|And.intro @uR<|And.intro @uS<|And.intro @uP<|And.intro @uQ<|And.intro @uT<|And.intro @uU<|And.intro @uV<|And.intro @uW<|And.intro @uX<|And.intro @uY<|And.intro @uZ<|And.intro @u0<|And.intro @u1<|And.intro @u2<|And.intro @u3<|And.intro @u4<|And.intro @u5<|And.intro @u6<|
 And.intro @se<|And.intro @sf<|And.intro @sg<|And.intro @si<|And.intro @sj<|And.intro @sk<|And.intro @sm<|And.intro @sn<|And.intro @so<|And.intro @sq<|And.intro @ss<|And.intro @su<|And.intro @sw<|
 And.intro @sx<|And.intro @sy<|And.intro @sA<|And.intro @sB<|And.intro @sC<|And.intro @sD<|And.intro @sE<|And.intro @sF<|And.intro @sG<|And.intro @sH<|And.intro @sI<|And.intro @sJ<|
 And.intro @uf<|And.intro @ug<|And.intro @uh<|And.intro @sK<|And.intro @sL<|And.intro @sM<|And.intro @sN<|And.intro @sO<|And.intro @sP<|And.intro @sQ<|And.intro @sR<|And.intro @sT<|And.intro @sU<|
 And.intro @sV<|And.intro @sW<|And.intro @sY<|And.intro @sZ<|And.intro @s4<|And.intro @s7<|And.intro @s8<|And.intro @s9<|And.intro @tc<|And.intro @tg<|And.intro @tj<|And.intro @tn<|And.intro @tp<|
 And.intro @tq<|And.intro @tv<|And.intro @tw<|And.intro @tz<|And.intro @tA<|And.intro @tB<|And.intro @tC<|And.intro @tD<|And.intro @tE<|And.intro @tF<|And.intro @tG<|And.intro @tH<|And.intro @tI<|
 And.intro @tJ<|And.intro @tK<|And.intro @tL<|And.intro @tM<|And.intro @min2<|And.intro @max2<|And.intro @tQ<|And.intro @tU<|And.intro @tV<|And.intro @tW<|And.intro @tX<|And.intro @tY<|
 And.intro @ua<|And.intro @ub<|And.intro @uc<|And.intro @ui<|And.intro @uj<|And.intro @uk<|And.intro @ul<|And.intro @um<|And.intro @ur<|And.intro @uJ<|And.intro @uK<|And.intro @uL<|And.intro @uM<|
 And.intro @uN<|And.intro @va<|And.intro @vb<|And.intro @vd<|And.intro @ve<|And.intro @vf<|And.intro @vg<|And.intro @vh<|And.intro @vi<|And.intro @vj<|And.intro @vk<|And.intro @vl<|
 And.intro @vm<|And.intro @vn<|And.intro @vo<|And.intro @vp<|And.intro @vq<|And.intro @vr<|And.intro @vt<|And.intro @vu<|And.intro @vv<|And.intro @vw<|And.intro @vx<|And.intro @vy<|And.intro @vz<|And.intro @vA<|And.intro @vB<|
 And.intro @vC<|And.intro @vD<|And.intro @vE<|And.intro @vF<|And.intro @vG<|And.intro @vH<|And.intro @tR<|And.intro @tS<|And.intro @tT<|
 And.intro @List.set_cons_succ.{0}<|And.intro @List.set_cons_zero.{0}<|And.intro @List.getD_cons_succ.{0}<|And.intro @List.getD_cons_zero.{0}<|And.intro @Option.map_some.{0,0}<|And.intro @Option.map_none.{0,0}<|And.intro @List.map_nil.{0,0}<|And.intro @List.map_cons.{0,0}<|And.intro @List.contains_nil.{0}<|
 And.intro @List.getElem?_cons_succ.{0}<|And.intro @List.getElem?_cons_zero.{0}<|And.intro @List.length_map.{0,0}<|And.intro @List.drop_succ_cons.{0}<|And.intro @List.drop_zero.{0}<|And.intro @List.take_succ_cons.{0}<|And.intro @List.take_zero.{0}<|And.intro @List.length_cons.{0}<|And.intro @List.length_nil.{0}<|
 And.intro @if_true.{0}<|And.intro @if_false.{0}<|And.intro @Bool.not_true<|And.intro @Bool.not_false<|And.intro @Option.getD_none.{0}<|And.intro @Option.getD_some.{0}<|And.intro @List.cons_append.{0}<|And.intro @List.nil_append.{0}<|And.intro @and_self<|And.intro @and_true @true_and
end Go.VS
namespace Go.VS
def iG:List (Nat×List Nat)→Nat→List Nat
 |[],_=>[]
 |(a,l)::t,i=>if i=a then l else iG t i
def ln:List Nat→Nat→Bool
 |[],_=>true
 |a::t,i=>if i=a then false else ln t i
theorem vI: ∀(ls:List Nat) (i:Nat),(!ls.contains i)=ln ls i
 |[],_=>rfl
 |a::t,i=>by
  have:=vI t i;unfold ln;by_cases h:i=a
  ·simp [h]
  ·rw [if_neg h,←this];simp [h]
theorem zF {f:Nat→List Nat}: ∀(ia:List (Nat×List Nat)) (_:ia.all (fun p=>f p.1==p.2)=true) (_: ∀i,i∉ia.map (·.1)→f i=[]) (i:Nat),f i=iG ia i
 |[],_,h,i=>h i (by simp)
 |(a,l)::t,h1,h2,i=>by
  simp only [List.all_cons,Bool.and_eq_true,beq_iff_eq] at h1;unfold iG;by_cases h:i=a
  ·rw [if_pos h,h];exact h1.1
  ·rw [if_neg h];by_cases hm:i∈t.map (·.1)
   ·clear h2;have go: ∀(t:List (Nat×List Nat)),t.all (fun p=>f p.1==p.2)=true→i∈t.map (·.1)→f i=iG t i:=by
     intro t;induction t with
     |nil=>intro _ hm;simp at hm
     |cons p t ih=>
      intro h1 hm;simp only [List.all_cons,Bool.and_eq_true,beq_iff_eq] at h1;obtain ⟨a,l⟩:=p;unfold iG;by_cases h:i=a
      ·rw [if_pos h,h];exact h1.1
      ·rw [if_neg h];exact ih h1.2 (by simpa [h] using hm)
    exact go t h1.2 hm
   ·have e:f i=[]:=h2 i (by simp only [List.map_cons,List.mem_cons,not_or];exact ⟨h,hm⟩)
    rw [e];clear h1 h2;induction t with
    |nil=>rfl
    |cons p t ih=>
     obtain ⟨b,m⟩:=p;simp only [List.map_cons,List.mem_cons,not_or] at hm;unfold iG;rw [if_neg hm.1];exact ih hm.2
section
variable {C:aH} {s:aj} {H:J} {K:Ex→aj→J→Prop}
theorem BY (gC:Good C) {id:Nat} {ops:List Oper} {ls th:List Nat} {fz:List (Nat×List (List Nat×List Sh))} (ia:List (Nat×List Nat)) (hd:ie ops.toArray ls=true) (h1:ia.map (·.1)=ls) (h2:ia.all (fun p=>fG ops.toArray ls p.1==p.2)=true)
 (h:dZ C (iE K) (dO ops (ln ls) (iG ia) th ops 0) s H):aN (aw C) C (.region id ops.toArray true ls th fz) s H K:=by
 refine r8 gC hd ?_;have e1:(fun i=> !ls.contains i)=ln ls:=funext (vI ls);have e2:fG ops.toArray ls=iG ia:=funext (zF ia h2 (fun i hi=>by
  unfold fG;rw [h1] at hi;rw [if_neg (by simpa using hi)]))
 rw [e1,e2];exact h
end
theorem BZ {C:aH} {K:aj→J→Prop} {d:Option Tmp} {l:List (Op×Option Tmp)} {rest:List GO} {s:aj} {v:AV} {H:J} (h:dN C (bd s d v) H (fA C K d [] rest s v H) l):fA C K d l rest s v H:=h
theorem B0 {C:aH} {s:aj} {H:J} {P:Prop} {op:Op} {t:Tmp} {js:List (Op×Option Tmp)} (h1:aK C.E op s H=some (s.getD t .undef,H)) (h:dN C s H P js):dN C s H P ((op,some t)::js):=⟨⟨t,rfl,h1⟩,h⟩
theorem B1 {C:aH} {s:aj} {H:J} {P:Prop} (h:P):dN C s H P []:=h
theorem zG {x:Int} (h: -9223372036854775808≤x∧x≤9223372036854775807):IntKind.i64.wrap x=x:=IntWalk.i64_in x (by omega)
end Go.VS
namespace Go.VS
section
variable {C:aH} {H:J} {L:List It}
theorem B2 (π :List Nat) (l:List Oper):lu π l= π.map (fun i=>eZ π (l.getD i default)):=rfl
theorem B3 (π :List Nat) (o:Oper):(eZ π o).dst=o.dst:=rfl
theorem B4 (π :List Nat) (o:Oper):(eZ π o).op=o.op:=rfl
theorem B5 (π :List Nat) (o:Oper):(eZ π o).guard=o.guard.map (fun p=>(cY π p.1,p.2)):=rfl
theorem B6 (a:Nat) (l:List Nat) (i:Nat):cY (a::l) i=if a=i then 0 else cY l i+1:=by
 unfold cY;rw [List.idxOf_cons];by_cases h:a=i
 ·simp [h]
 ·have:(a==i)=false:=by simpa using h
  simp [h,this]
theorem B7 {C:aH} {th:Bool} {s:aj} {H:J} {K:AV→J→Prop} {a b:Operand} {t u:TypeId} (h0:ew .append [ev s a,ev s b]=true) (h:c7 (cA C.E .append #[t,u] [ev s a,ev s b] H) K):aZ (aw C) C true th (.call {callee:= .builtin .append,args:= #[a,b],argTypes:= #[t,u]}) s H K:=by
 unfold aZ wpOp;refine ⟨fun _=>h0,?_⟩;unfold c7 at h;exact h
theorem aJ.zH {v y:AV} (h:aJ v) (h1: ∀cs,y≠ .agg cs) (h2:y≠ .undef):eG y 0 v=some v:=by
 rcases h.ok with rfl|rfl|⟨_,_,_,_,rfl⟩<;>cases y<;>first|rfl|exact absurd rfl (h1 _)|exact absurd rfl h2
theorem aJ.B8 {v y:AV} (h:aJ v) (h1:aJ y):eG y 0 v=some v:=by
 rcases h1.ok with rfl|rfl|⟨_,_,_,_,rfl⟩<;>exact h.zH (by simp) (by simp)
theorem B9 (f:AV→Option AV):([]:List AV).mapM f=some []:=rfl
theorem vJ {f:AV→Option AV} {c y:AV} {cs ys:List AV} (h1:f c=some y) (h2:cs.mapM f=some ys):(c::cs).mapM f=some (y::ys):=by
 simp [List.mapM_cons,h1,h2]
theorem mW {f:AV→Option AV}: ∀(cs:List AV),(∀c∈cs,f c=some c)→cs.mapM f=some cs
 |[],_=>rfl
 |c::cs,h=>vJ (h c (by simp)) (mW cs fun d hd=>h d (by simp [hd]))
theorem B_ {n:Nat} {cs ys:List AV} (h:cs.mapM (aL n H)=some ys):aL (n+1) H (.agg cs)=some (.agg ys):=by
 simp only [aL,h,Option.map_some]
theorem Ca {α :Type} {n:Nat} (hS:aq H L) (j:Nat) {v:AV} {sz:Nat} {l:List α} {c: α →AV} (hj:L[j]? =some ⟨v,sz,l.map c⟩) (hp:aJ v) (hc: ∀x,aL n H (c x)=some (c x)):aL (n+1) H v=some (.fz (l.map c)):=by
 obtain ⟨k0,af⟩:=hS.ok j _ hj;simp only at af;rcases hp.ok with rfl|rfl|⟨id,ad,off,len,rfl⟩
 ·simp only at af;simp only [aL,af]
 ·simp only at af;simp only [aL,af]
 ·simp only at af;obtain ⟨k1,b,hb,k2,k3,k4,k5⟩:=af;simp only [aL,hb];rw [if_pos k4,k5,mW (l.map c) (by
   intro d hd;obtain ⟨x,_,rfl⟩:=List.mem_map.1 hd;exact hc x),Option.map_some]
theorem Cb:b_ [] [] H=some ([],false):=rfl
theorem Cc {v y:AV} {vs ys:List AV} {b:Bool} (h1:aL 8 H v=some y) (h2:b_ [] vs H=some (ys,b)):b_ [] (v::vs) H=some (y::ys,eI v||b):=by
 simp only [b_,h1,h2]
def TV (b5:List (List Sh)) (rs:List AV) (H:J) (K:List AV→Prop):Prop:= ∃zs H',c9 b5 rs H=some (zs,H')∧K zs
theorem Cd {b5:List (List Sh)} {K:List AV→Prop} (h:K []):TV b5 [] H K:=⟨[],H,rfl,h⟩
theorem px {e:List Sh} {b5:List (List Sh)} {v y:AV} {rs:List AV} {H1:J} {K:List AV→Prop} (ht:aR e v H=some (y,H1)) (h:TV b5 rs H1 fun zs=>K (y::zs)):TV (e::b5) (v::rs) H K:=by
 obtain ⟨zs,H',h1,h2⟩:=h;exact ⟨y::zs,H',by simp only [c9,List.headD_cons,List.tail_cons,ht,h1],h2⟩
theorem zI {v:AV} (hp:dj v=true) (H:J):aR [.sc] v H=some (v,H):=by
 cases v<;>simp [dj] at hp<;>simp [aR,aP,dj]
theorem Ce {b5:List (List Sh)} {v:AV} {rs:List AV} {K:List AV→Prop} (hp:dj v=true) (h:TV b5 rs H fun zs=>K (v::zs)):TV ([.sc]::b5) (v::rs) H K:=
 px (zI hp H) h
theorem Cf {α :Type} {b5:List (List Sh)} {es:List Sh} {v:AV} {rs:List AV} {K:List AV→Prop} {m:List α} {c: α →AV} (j:Nat) (hS:aq H L) (hj:L[j]? =some ⟨v,es.length,m.map c⟩) (hp:aJ v) (hc: ∀x H,aR es (c x) H=some (c x,H))
 (h: ∀H',aq H' (L.eraseIdx j)→TV b5 rs H' fun zs=>K (.own es.length (m.map c)::zs)):TV ([.sl es]::b5) (v::rs) H K:=by
 obtain ⟨H',h1,h2⟩:=hS.take j hj hp hc;exact px h1 (h H' h2)
theorem Cg {b5:List (List Sh)} {es:List Sh} {cs:List AV} {rs:List AV} {K:List AV→Prop} (h:TC es cs H fun ys H' =>TV b5 rs H' fun zs=>K (.agg ys::zs)):TV (es::b5) (.agg cs::rs) H K:=by
 obtain ⟨ys,H',h1,h2⟩:=h;exact px (by simp only [aR,h1]) h2
theorem Ch {b5:List (List Sh)} {rs:List AV} {y v:AV} (hv:v=cm rs) (h:TV b5 rs H fun zs=>y=cm zs): ∃rs zs L2,v=cm rs∧c9 b5 rs H=some (zs,L2)∧y=cm zs:=by
 obtain ⟨zs,H',h1,h2⟩:=h;exact ⟨rs,zs,H',hv,h1,h2⟩
def TH (ys:List AV) (H:J) (K:List AV→J→Prop):Prop:=K (aC ys H).1 (aC ys H).2
theorem Ci {K:List AV→J→Prop} (h:K [] H):TH [] H K:=h
theorem Cj {y:AV} {ys:List AV} {K:List AV→J→Prop} (hp: ∀H,az y H=(y,H)) (h:TH ys H fun zs H' =>K (y::zs) H'):TH (y::ys) H K:=by
 unfold TH at h⊢;simp only [aC,hp H];exact h
theorem py {α :Type} {c: α →AV} (hc: ∀x H,az (c x) H=(c x,H)): ∀(l:List α) (H:J),aC (l.map c) H=(l.map c,H)
 |[],_=>rfl
 |x::l,H=>by simp only [List.map_cons,aC,hc x H,py hc l H]
theorem Ck {α :Type} {sz:Nat} {m:List α} {c: α →AV} {ys:List AV} {K:List AV→J→Prop} (hS:aq H L) (hc: ∀x H,az (c x) H=(c x,H)) (hz: ∀x,(c x).cells.length=sz)
 (h: ∀v H',aJ v→aq H' (⟨v,sz,m.map c⟩::L)→TH ys H' fun zs fu=>K (v::zs) fu):TH (.own sz (m.map c)::ys) H K:=by
 have hs:bu sz (m.map c)=true:=by simp [bu,hz]
 have:=h _ _ (eW H.bs.length H.st 0 (m.map c).length) (hS.jm (all:=m.map c) (List.take_of_length_le (Nat.le_refl _)) rfl hs);unfold TH at this⊢;simp only [aC,az,py hc m H];exact this
theorem Cl {cs ys:List AV} {K:List AV→J→Prop} (h:TH cs H fun ds H' =>TH ys H' fun zs fu=>K (.agg ds::zs) fu):TH (.agg cs::ys) H K:=by
 unfold TH at h⊢;simp only [aC,az];exact h
theorem Cm {y:AV} {K:AV→J→Prop} (h:TH [y] H fun zs H' =>K (zs.headD .undef) H'):K (az y H).1 (az y H).2:=by
 unfold TH at h;simp only [aC] at h;exact h
theorem Cn {ys:List AV} {K:AV→J→Prop} (h:TH ys H fun zs H' =>K (.aE zs) H'):K (az (.aE ys) H).1 (az (.aE ys) H).2:=by
 unfold TH at h;simp only [az];exact h
variable {q th:Bool} {K:AV→J→Prop}
theorem Co {α β :Type} {g:FuncId} {bR args ys:List AV} {bT:Bool} {o:Option α} {f: α →Option β} {r: β} {b5:List (List Sh)} (h:o.bind f=some r) (hr:(C.gi g).b5=b5) (hp:b_ [] (args ++ bR) H=some (ys,bT))
 (hk: ∀x,o=some x→f x=some r→ ∃y,aw C g ys ⟨0,[]⟩ (fun v L=> ∃rs zs L2,v=cm rs∧c9 b5 rs L=some (zs,L2)∧y=cm zs)∧(cc y=true∧bp y=y∧ ∀H,az y H=(y,H))∧K y H):li C q th (.fn g bR) args H K:=by
 refine uq h hr hp fun x hx hf=> ?_;obtain ⟨y,h1,⟨h2,h3,h4⟩,h5⟩:=hk x hx hf;refine ⟨y,h1,.inr h2,?_⟩;rw [h3,h4 H];split<;>exact h5
theorem Cp {α β :Type} {g:FuncId} {bR args ys:List AV} {bT:Bool} {o:Option α} {f: α →Option β} {r: β} {b5:List (List Sh)} (h:o.bind f=some r) (hr:(C.gi g).b5=b5) (hp:b_ [] (args ++ bR) H=some (ys,bT))
 (hk: ∀x,o=some x→f x=some r→ ∃y,aw C g ys ⟨0,[]⟩ (fun v L=> ∃rs zs L2,v=cm rs∧c9 b5 rs L=some (zs,L2)∧y=cm zs)∧cc y=true∧K (az y H).1 (az y H).2):li C q true (.fn g bR) args H K:=by
 refine uq h hr hp fun x hx hf=> ?_;obtain ⟨y,h1,h2,h5⟩:=hk x hx hf;refine ⟨y,h1,.inr h2,?_⟩;simpa using h5
theorem vK {α :Type} {c: α →AV} (hc: ∀x,cc (c x)=true): ∀(l:List α),dT (l.map c)=true
 |[]=>rfl
 |x::l=>by simp only [List.map_cons,dT,hc x,vK hc l,Bool.and_self]
theorem Cq {α :Type} {c: α →AV} (sz:Nat) (hc: ∀x,cc (c x)=true) (l:List α):cc (.own sz (l.map c))=true:=by
 simp only [cc];exact vK hc l
theorem Cr:dT []=true:=rfl
theorem Cs {y:AV} {ys:List AV} (h1:cc y=true) (h2:dT ys=true):dT (y::ys)=true:=by simp only [dT,h1,h2,Bool.and_self]
theorem Ct {ys:List AV} (h:dT ys=true):cc (.agg ys)=true:=by simp only [cc];exact h
theorem Cu {ys:List AV} (h:dT ys=true):cc (.aE ys)=true:=by simp only [cc];exact h
end
end Go.VS
namespace Go.VS
def vL (t b:TypeId):Code:=
 (Go.Code.seq
  (Go.Code.region 0 #[{dst:=some 2,op:=Go.Op.assign (Go.Operand.const (Go.Value.slice none 0 0)),type:=t,pos:= "slices.go:355",after:= #[],guard:=none}] false)
  (Go.Code.seq
   (Go.Code.seq
    (Go.Code.region 1
     #[{dst:=some 3,op:=Go.Op.move (Go.Operand.tmp 0),type:=t,pos:= "slices.go:357",after:= #[],guard:=none},
      {dst:=some 4,op:=Go.Op.binOp Go.BinOp.eql t (Go.Operand.tmp 3) (Go.Operand.const (Go.Value.slice none 0 0)) t,type:=b,pos:= "slices.go:357",after:= #[{on:=0,ground:=Go.Ground.data}],guard:=none}]
     false)
    (Go.Code.cond (Go.Operand.tmp 4)
     (Go.Code.seq
      (Go.Code.region 2 #[{dst:=some 2,op:=Go.Op.assign (Go.Operand.const (Go.Value.slice none 0 0)),type:=t,pos:= "slices.go:358",after:= #[],guard:=none}] false)
      Go.Code.ret)
     Go.Code.skip))
   (Go.Code.seq
    (Go.Code.region 3
     #[{dst:=some 5,op:=Go.Op.buildSlice t 0 #[],type:=t,pos:= "slices.go:362",after:= #[],guard:=none},
      {dst:=some 6,op:=Go.Op.move (Go.Operand.tmp 0),type:=t,pos:= "slices.go:362",after:= #[],guard:=none},
      {dst:=some 7,op:=Go.Op.call {callee:=Go.Callee.builtin Go.Builtin.append,args:= #[Go.Operand.tmp 5,Go.Operand.tmp 6],argTypes:= #[t,t]},type:=t,pos:= "slices.go:362",after:= #[{on:=0,ground:=Go.Ground.data},{on:=1,ground:=Go.Ground.data}],guard:=none},
      {dst:=some 2,op:=Go.Op.assign (Go.Operand.tmp 7),type:=t,pos:= "slices.go:362",after:= #[{on:=2,ground:=Go.Ground.data},{on:=2,ground:=Go.Ground.chain},{on:=0,ground:=Go.Ground.phase},{on:=1,ground:=Go.Ground.phase},{on:=2,ground:=Go.Ground.phase}],guard:=none}]
     false)
    Go.Code.ret)))
def j6:bD:=fun _ _ _ _=>False
def gK (E:aM):aH:=⟨E,fun _=>{},fun _=>none,j6⟩
theorem zJ {w:World} {H:J} {φ :ag} {A:ah} {xs:List AV} {v:Value} (h:R w H φ A (.fz xs) v): ∃a cap,v= .slice a xs.length cap:=by
 cases h.dw with
 |cB a cap=>exact ⟨a,cap,rfl⟩
 |fz _ c off cap n arr T fr=>exact ⟨_,_,rfl⟩
theorem zK {P:Program} {w:World} {t e:TypeId} {a:Option Addr} {n cap:Nat} (h:(underlying t).run P w= .ok (.slice e) w) (d:Nat): ∃b,(Op.equalIn (d+1) t (.slice a n cap) (.slice none 0 0)).run P w= .ok b w∧(b=true→a=none):=by
 cases a with
 |none=>exact ⟨true,by simp [Op.equalIn,h],fun _=>rfl⟩
 |some a=>exact ⟨false,pV h d,by simp⟩
theorem zL: ∀c:Code,cQ {} c=true:=by
 intro c;induction c with
 |seq a b fX fY=>simp [cQ,fX,fY]
 |cond c a b fX fY=>simp [cQ,fX,fY]
 |block id a ih=>simp [cQ,ih]
 |loop a ih=>simp [cQ,ih]
 |region id ops draw=>simp [cQ]
 |_=>simp [cQ]
section
variable {P:Program} {E:aM}
theorem zM (hm:P.follows .mixedOrders=true) (hE: ∀t ti,E t=some ti→aV P t ti) {f:FuncId} {fn:Func} {t b e:TypeId} {ti te:TI} (hf:P.funcs[f]? =some fn) (oT:(fn.name== "runtime.NumGoroutine")=false)
 (hb:fn.body=some (vL t b)) (hr:fn.results= #[.tmp 2]) (hn:fn.ntmps=8) (ht:E t=some ti) (hu:ti.au= .sl e) (he:E e=some te) (xs:List AV) (H:J) (hz:bu te.sz xs=true) (h0:te.sz≠0) (dM:roomy xs.length te.bytes=true):
 cW P f [.fz xs] H (fun v H' =>v=(if xs=[] then .e0 else .ref H.bs.length H.st 0 xs.length)∧H' =(if xs=[] then H else H.new te.sz false xs)):=by
 have dg:Exact j6:=fun _ _ _ _ h=>h.elim;have hX: ∀f ys H K,j6 f ys H K→cW P f ys H K:=fun _ _ _ _ h=>h.elim;have hD:me P (gK E) j6:=rS (C:=gK E) dg hm hE hX;have pz:=fun (c:Code) s H K Q w φ A a h=>rn (P:=P) (C:=gK E) (X:=j6) hm hE hX hD {} c 0 s H K Q w φ A a (zL c) h;refine ⟨⟨fn,hf,oT,by simp [hb]⟩,fun w A φ us ae hl fO=> ?_⟩
 refine calls_of_wp hf hb ?_;rw [hn];obtain ⟨v,rfl⟩: ∃v,us= #[v]:=by
  match us,hl with
  |⟨[v]⟩,_=>exact ⟨v,rfl⟩
 have hv:R w H φ A (.fz xs) v:=fO 0 _ _ rfl rfl;have eb:SF w H φ A [.fz xs,.undef,.undef,.undef,.undef,.undef,.undef,.undef] {tmps:= #[v] ++ Array.replicate (8-1) undef,defers:=[]}:=by
  refine ⟨rfl,fun i x u hx hu=> ?_,rfl⟩
  match i with
  |0=>simp at hx hu;subst hx;subst hu;exact hv
  |i+1=>
   have:x= .undef:=by
    match i with
    |0|1|2|3|4|5|6=>simpa using hx.symm
    |i+7=>simp at hx
   subst this;exact .fr _ _ (.undef _)
 have fin: ∀(s' :aj) (H' :J) (ak:ag) (A' :ah) (a' :Act) (w' :World) (x:AV),Out w H φ A w' H' ak A' →SF w' H' ak A' s' a' →s'.getD 2 .undef=x→(∀u,R w' H' ak A' x u→ ∃y,R w' H' ak A' y u∧(y=(if xs=[] then .e0 else .ref H.bs.length H.st 0 xs.length)∧H' =(if xs=[] then H else H.new te.sz false xs)))→
  a'.defers=[]∧ ∃v,(results fn a'.tmps).run P w' = .ok v w' ∧iy w H φ A (fun v H' =>v=(if xs=[] then .e0 else .ref H.bs.length H.st 0 xs.length)∧H' =(if xs=[] then H else H.new te.sz false xs)) (.returned v) w' :=by
  intro s' H' ak A' a' w' x h1 h2 hx hy
  refine ⟨h2.eD,?_⟩;obtain ⟨cx,k1,k2,k3⟩:=rr (P:=P) (C:=gK E) hE h1.st h2 (fn:=fn) (rs:=[x]) (by rw [hr];simp only [du,hx,Option.map_some])
  obtain ⟨u,rfl⟩: ∃u,cx=[u]:=by
   match cx,k2 with
   |[u],_=>exact ⟨u,rfl⟩
  obtain ⟨y,zN,zO⟩:=hy u (k3 0 x u rfl rfl);exact ⟨_,k1,y,H',ak,A',h1,by simpa [g_] using zN,zO⟩
 refine wp_seq (pz _ _ H (fun e s1 H1=>e= .normal∧s1=[.fz xs,.undef,.nil,.undef,.undef,.undef,.undef,.undef]∧H1=H) _ w φ A _ ?_ ae eb ?_)
 ·simp [cR,jy,ib,fE,aN,cH,dt,wpOp,dC,aK,ev,ofValue,bd,gK]
 rintro e1 s1 H1 φ1 A1 a1 w1 o1 cC ⟨rfl,rfl,rfl⟩;show (Code.seq _ _).wp P _ a1 w1;have k9:=o1.st;refine wp_seq (wp_seq (wp_region_list ?_));simp only [wpList];rw [if_pos (by simp [Region.wanted])]
 refine .inl (l9 (C:=gK E) (X:=j6) hE hX k9 (s:=[.fz xs,.undef,.nil,.undef,.undef,.undef,.undef,.undef]) (fun x _=>cC.ev x) (th:=false) (K:=fun x H' =>x= .fz xs∧H' =H1) (by simp [wpOp,dC,aK,ev]) ?_)
 rintro x3 v3 w3 H3 cN A3 o3 pA ⟨rfl,rfl⟩;have zP:=(cC.mono o3.bW).set (some 3) pA;have kZ:=o3.st;rw [if_pos (by simp [Region.wanted])]
 have zQ:(a1.put (some 3) v3).eval (.tmp 3)=v3:=by
  have:a1.tmps.size=8:=by have:=cC.len;simpa using this.symm
  simp [Act.eval,Act.put,this]
 obtain ⟨a0,cap,rfl⟩:=zJ pA;obtain ⟨bb,vM,zR⟩:=zK (a:=a0) (n:=xs.length) (cap:=cap) ((hE t ti ht).sl w3 hu) 9999;have zS:cf w3 H3 cN A3 H3 ((execOp (a1.put (some 3) (.slice a0 xs.length cap)).eval {dst:=some 4,op:=Go.Op.binOp Go.BinOp.eql t (Go.Operand.tmp 3) (Go.Operand.const (Go.Value.slice none 0 0)) t,type:=b,pos:= "slices.go:357",after:= #[{on:=0,ground:=Go.Ground.data}],guard:=none}).run P w3) (.bool bb):=by
  have hg:=ii P w3 .eql t (.tmp 3) (.const (.slice none 0 0)) (.slice a0 xs.length cap) (.slice none 0 0) (by simp) rfl
  have zT:binOp .eql t (.slice a0 xs.length cap) (.slice none 0 0)=(do pure (.bool (←Op.equal t (.slice a0 xs.length cap) (.slice none 0 0)))):=rfl
  rw [←nv] at vM;refine cf.kE kZ (.inl rfl) (a9.fm kZ ⟨.bool bb,?_,.fr _ _ (.bool _)⟩);rw [zQ];show (do eqGuard .eql t (.tmp 3) (.const (.slice none 0 0)) (.slice a0 xs.length cap) (.slice none 0 0);binOp .eql t (.slice a0 xs.length cap) (.slice none 0 0):Sem Value).run P w3=_
  simp [hg,zT,vM]
 refine .inl (zS.upon fun v4 w4 vN A4 o4 zU=> ?_);have vO:=(zP.mono o4.bW).set (some 4) zU;have pB:=o4.st;have vP:Out w H3 φ A w4 H3 vN A4:=o1.trans ae (o3.trans k9 (o4.trans kZ (.refl pB)));simp only [bd,List.set_cons_succ,List.set_cons_zero] at vO;simp only [Exit.then];refine pz _ [.fz xs,.undef,.nil,.fz xs,.bool bb,.undef,.undef,.undef] H3 (fun e s' H' =>H' =H3∧if bb=true then e= .ret∧s' =[.fz xs,.undef,.nil,.fz xs,.bool bb,.undef,.undef,.undef] else e= .normal∧s' =[.fz xs,.undef,.nil,.fz xs,.bool bb,.undef,.undef,.undef]) _ w4 vN A4 _ ?_ pB vO ?_
 ·cases bb
  ·simp [cR,lr,aN,ev,gK]
  ·simp [cR,lr,jy,ib,fE,aN,cH,dt,wpOp,dC,aK,ev,ofValue,bd,gK];exact ⟨_,_,⟨rfl,rfl⟩,rfl,rfl⟩
 rintro e5 s5 H5 zV A5 a5 w5 o5 vQ ⟨rfl,mX⟩;cases bb with
 |true=>
  simp only [if_true] at mX;obtain ⟨rfl,rfl⟩:=mX;obtain rfl:=zR rfl;have dI:xs=[]:=by
   cases Cv:pA.dw with
   |cB=>rfl
  subst dI;show (bodyPost P fn _) .ret a5 w5;refine fin _ _ _ _ _ _ .nil (vP.trans ae o5) vQ rfl fun u hu=>⟨.e0,?_,by simp⟩
  have:=hu.cZ;subst this;exact .fr _ _ (.e0 none)
 |false=>
  simp only [Bool.false_eq_true,if_false] at mX;obtain ⟨rfl,rfl⟩:=mX;show (Code.seq _ _).wp P _ a5 w5;refine pz _ [.fz xs,.undef,.nil,.fz xs,.bool false,.undef,.undef,.undef] H5 (fun e s' H' =>e= .ret∧s'.getD 2 .undef=(if xs=[] then .e0 else .ref H5.bs.length H5.st 0 xs.length)∧H' =(if xs=[] then H5 else H5.new te.sz false xs)) _ w5 zV A5 a5 ?_ o5.st vQ ?_
  ·by_cases dI:xs=[]
   ·subst dI;simp [cR,jy,ib,fE,aN,cH,dt,wpOp,dC,aK,ev,bd,gK,ct,ht,hu,he,cA,d_,cj,bu,h0];refine ⟨_,_,⟨rfl,rfl⟩,_,_,⟨rfl,rfl⟩,_,_,⟨rfl,rfl⟩,?_⟩;simp
   ·have hlen: ¬xs.length=0:=by simpa using dI
    simp [cR,jy,ib,fE,aN,cH,dt,wpOp,dC,aK,ev,bd,gK,ct,ht,hu,he,cA,d_,cj,h0,dI];refine ⟨_,_,⟨rfl,rfl⟩,_,_,⟨rfl,rfl⟩,_,_,⟨rfl,rfl⟩,?_⟩;simp [hz,dM,dI]
  ·rintro e6 s6 H6 Cw A6 a6 w6 o6 zW ⟨rfl,zX,rfl⟩;show (bodyPost P fn _) .ret a6 w6;exact fin _ _ _ _ _ _ _ (vP.trans ae (o5.trans pB o6)) zW zX fun u hu=>⟨_,hu,rfl,rfl⟩
def pC (ids:List (FuncId×Nat×Nat)):bD:=fun f ys H K=> ∃sz b xs,(f,sz,b)∈ids∧ys=[.fz xs]∧bu sz xs=true∧sz≠0∧roomy xs.length b=true∧K (if xs=[] then .e0 else .ref H.bs.length H.st 0 xs.length) (if xs=[] then H else H.new sz false xs)
structure zY (P:Program) (E:aM) (f:FuncId) (sz b:Nat):Prop where
 out: ∃fn t bt e ti te,P.funcs[f]? =some fn∧(fn.name== "runtime.NumGoroutine")=false∧fn.body=some (vL t bt)∧fn.results= #[.tmp 2]∧fn.ntmps=8∧E t=some ti∧ti.au= .sl e∧E e=some te∧te.sz=sz∧te.bytes=b
theorem Cx (hm:P.follows .mixedOrders=true) (hE: ∀t ti,E t=some ti→aV P t ti) {ids:List (FuncId×Nat×Nat)} (zZ: ∀x∈ids,zY P E x.1 x.2.1 x.2.2):
 ∀f ys H K,pC ids f ys H K→ ∃v H',cW P f ys H (fun v1 H1=>v1=v∧H1=H')∧K v H' :=by
 rintro f ys H K ⟨sz,b,xs,h1,rfl,h2,h3,h4,h5⟩;obtain ⟨fn,t,bt,e,ti,te,k1,k2,k3,k4,k5,k6,k7,k8,rfl,rfl⟩:=(zZ _ h1).out;exact ⟨_,_,zM hm hE k1 k2 k3 k4 k5 k6 k7 k8 xs H h2 h3 h4,h5⟩
theorem Cy {C:aH} {ids:List (FuncId×Nat×Nat)} (h:C.ext=pC ids):Good C:=by
 constructor
 ·rintro f ys H K K' hK hx
  rw [h] at hx⊢;obtain ⟨sz,b,xs,h1,h2,h3,h4,h5,h6⟩:=hx;exact ⟨sz,b,xs,h1,h2,h3,h4,h5,hK _ _ h6⟩
 ·rintro f ys H K hx;rw [h] at hx⊢;obtain ⟨sz,b,xs,h1,h2,h3,h4,h5,h6⟩:=hx;exact ⟨_,_,⟨sz,b,xs,h1,h2,h3,h4,h5,rfl,rfl⟩,h6⟩
theorem Cz {C:aH} {ids:List (FuncId×Nat×Nat)} (hx:C.ext=pC ids) {α :Type} {f:FuncId} {sz b:Nat} (bV:(f,sz,b)∈ids) {c: α →AV} (hc: ∀x,(c x).cells.length=sz) (h0:sz≠0) {l r:List α} (h:app b [] l=some r) {F:List It} {H:J} (hS:aq H F)
 {P:AV→J→Prop} (hP: ∀v,aJ v→ ∀H',aq H' (⟨v,sz,r.map c⟩::F)→P v H'):aw C f [.fz (l.map c)] H P:=by
 unfold app at h;split at h
 ·rename_i hr;simp only [List.nil_append,Option.some.injEq] at h;subst h;simp only [List.length_nil,Nat.zero_add] at hr;refine aw.ext ?_;rw [hx];refine ⟨sz,b,l.map c,bV,rfl,pr hc l,h0,by simpa using hr,?_⟩
  cases l with
  |nil=>exact hP _ mS _ (by simpa using hS.zx sz)
  |cons x l=>
   rw [if_neg (by simp),if_neg (by simp)]
   exact hP _ (eW ..) _ (hS.jm (all:=(x::l).map c) (List.take_of_length_le (Nat.le_refl _)) rfl (pr hc _))
 ·simp at h
end
theorem CA {E:aM} {s:aj} {H:J} {L:List It} {α β :Type} {t:TypeId} {x i:Operand} {ti te:TI} {e:TypeId} (j:Nat) (hS:aq H L) {v w:AV} {l:List α} {c: α →AV} {sz:Nat} (hj:L[j]? =some ⟨v,sz,l.map c⟩)
 (ht:E t=some ti) (hu:ti.au= .sl e) (he:E e=some te) (aF:sz=te.sz) {k:IntKind} {n:Int} {l0:List β} {y: β} {id ad off:Nat} (hv:v= .ref id ad off l0.length) (hb:idx l0 n=some y)
 (hx:ev s x=v) (hi:ev s i= .int k n) (hw:w= .ptr id ad (off+n.toNat) 0) {op:Op} (bn:op= .indexAddr t x i):aK E op s H=some (w,H):=by
 subst bn;obtain ⟨h0,h2,h1⟩:=gI hb;subst hv;obtain ⟨_,h3,b,hb,h4,_,h5,h6⟩:=hS.ok j _ hj;simp only at h3 h4 h5;simp only [aK,ht,hi,hu,he,hx,hb];rw [if_pos ⟨by rw [h4,aF],h0,h2,h5⟩,hw]
theorem CB {E:aM} {s:aj} {H:J} {L:List It} {α :Type} {t:TypeId} {x:Operand} {ti:TI} (j:Nat) (hS:aq H L) {v w:AV} {l:List α} {c: α →AV} {sz:Nat} (hj:L[j]? =some ⟨v,sz,l.map c⟩)
 (ht:E t=some ti) {n:Int} {y: α} {id ad off k o:Nat} (hv:v= .ref id ad off k) (hb:idx l n=some y)
 (hx:ev s x= .ptr id ad (off+n.toNat) o) (hw:bO ti (c y) o=some w) {op:Op} (bn:op= .load t x):aK E op s H=some (w,H):=by
 subst bn;obtain ⟨b,h1,h2⟩:=hS.elem j hj hv hb;simp only [aK,ht,hx,h1,h2,hw]
end Go.VS
namespace Go.VS
structure bI (w:List AV) (n:Nat):Prop where
 len:w.length=n
 sl: ∀a∈w,aJ a
def bG {α β :Type} (p: α →List β) (c: β →AV) (z:Nat) (w:List AV) (l:List α):List It:=List.zipWith (fun a x=>⟨a,z,(p x).map c⟩) w l
def bg {α :Type} (m:AV→ α →AV) (w:List AV) (l:List α):List AV:=List.zipWith m w l
def mY {α β :Type} (p: α →List β) (c: β →AV) (z:Nat) (w:List AV) (l:List α) (i:Nat):List It:=(bG p c z w l).eraseIdx i
theorem CC {α :Type} (c: α →AV) (l:List α):zE c l= .fz (l.map c):=rfl
theorem CD {sz:Nat} {z x:AV} (h1:x.cells.length=sz) (h2:di x=true):gf sz (List.replicate 1 z) [(0,x)]=some [x]:=by
 simp [gf,h1,h2,List.replicate]
theorem CE {sz:Nat} {x:AV} (h1:x.cells.length=sz):bu sz [x]=true:=by simp [bu,h1]
theorem aJ.CF {v:AV} (h:aJ v):v.cells.length=1:=by rw [h.cells];rfl
def gb:List (List It)→List It→List It
 |[],F=>F
 |a::as,F=>a ++ gb as F
theorem vR {α :Type} (a b c:List α):(a ++ (b ++ c)).Perm (b ++ (a ++ c)):=by
 rw [←List.append_assoc,←List.append_assoc];exact List.Perm.append_right _ List.perm_append_comm
theorem z6 {as bs:List (List It)} (h:as.Perm bs) (F:List It):(gb as F).Perm (gb bs F):=by
 induction h with
 |nil=>exact .refl _
 |cons x _ ih=>exact List.Perm.append_left _ ih
 |swap x y l=>exact vR _ _ _
 |trans _ _ h1 h2=>exact h1.trans h2
theorem z7 (as bs:List (List It)) (F:List It):gb (as ++ bs) F=gb as (gb bs F):=by
 induction as with
 |nil=>rfl
 |cons a as ih=>simp only [List.cons_append,gb,ih]
theorem vS (as:List (List It)) (F:List It):gb as F=as.flatten ++ F:=by
 induction as with
 |nil=>rfl
 |cons a as ih=>simp only [gb,ih,List.flatten_cons,List.append_assoc]
theorem vT: ∀(js L:List Nat),js.Nodup→(∀j∈js,j∈L)→ ∃rest,L.Perm (js ++ rest)
 |[],L,_,_=>⟨L,.refl _⟩
 |j::js,L,hn,hm=>by
  have vU:=List.nodup_cons.1 hn
  obtain ⟨rest,hr⟩:=vT js (L.erase j) vU.2 (fun k hk=>(List.mem_erase_of_ne (fun (e:k=j)=>vU.1 (e▸hk))).2 (hm k (by simp [hk])))
  exact ⟨rest,(List.perm_cons_erase (hm j (by simp))).trans (hr.cons j)⟩
section
variable {H:J} {L F R:List It}
theorem aq.z8 {A B:List It} (h:aq H (A ++ (B ++ F))):aq H (A ++ F):=by
 have h1:aq H (B ++ (A ++ F)):=h.perm (vR _ _ _);clear h;induction B with
 |nil=>exact h1
 |cons b B ih=>exact ih h1.tl
theorem aq.CG {bl:List (List It)} (h:aq H (gb bl F)) (n:Nat) (hn:bl.length=n) (js:List Nat) (hj:js.Nodup∧ ∀j∈js,j<n):aq H (gb (js.filterMap (bl[·]?)) F):=by
 subst hn;obtain ⟨rest,hr⟩:=vT js (List.range bl.length) hj.1 (fun j hm=>List.mem_range.2 (hj.2 j hm));have e:(List.range bl.length).filterMap (bl[·]?)=bl:=by
  refine List.ext_getElem? fun k=> ?_;have:(List.range bl.length).filterMap (bl[·]?)=(List.range bl.length).map (fun k=>bl.getD k []):=by
   have: ∀(l:List Nat),(∀k∈l,k<bl.length)→l.filterMap (bl[·]?)=l.map (fun k=>bl.getD k []):=by
    intro l;induction l with
    |nil=>intro _;rfl
    |cons k l ih=>
     intro hl;have hk:=hl k (by simp)
     rw [List.filterMap_cons,List.getElem?_eq_getElem hk,List.map_cons,ih (fun k h=>hl k (by simp [h]))]
     simp [List.getD,List.getElem?_eq_getElem hk]
   exact this _ (fun k h=>List.mem_range.1 h)
  rw [this,List.getElem?_map];by_cases hk:k<bl.length
  ·rw [List.getElem?_eq_getElem (by simpa using hk),List.getElem?_eq_getElem hk]
   simp [List.getD,List.getElem?_eq_getElem hk]
  ·rw [List.getElem?_eq_none (by simpa using hk),List.getElem?_eq_none (by omega)];rfl
 have hp:=hr.filterMap (bl[·]?);rw [e,List.filterMap_append] at hp;have h2:=h.perm (z6 hp F);rw [z7] at h2;rw [vS] at h2⊢;rw [vS] at h2;exact h2.z8
variable {α β :Type} {p: α →List β} {c: β →AV} {z:Nat} {w:List AV} {l:List α} {m:AV→ α →AV} {v:AV} {sz:Nat}
theorem bI.nil:bI [] 0:=⟨rfl,by simp⟩
theorem bI.get (h:bI w l.length) {i:Int} {b: α} (hi:idx l i=some b): ∃a,w[i.toNat]? =some a∧aJ a:=by
 obtain ⟨_,_,h1⟩:=gI hi;have:=(List.getElem?_eq_some_iff.1 h1).1;have hw:i.toNat<w.length:=by rw [h.len];exact this
 exact ⟨_,List.getElem?_eq_getElem hw,h.sl _ (List.getElem_mem hw)⟩
theorem bI.set (h:bI w l.length) {a:AV} (ha:aJ a) (i:Nat) (y: α):bI (w.set i a) (l.set i y).length:=by
 refine ⟨by simpa using h.len,fun x hx=> ?_⟩
 rcases List.mem_or_eq_of_mem_set hx with h1|rfl
 ·exact h.sl _ h1
 ·exact ha
theorem bI.app {w' :List AV} {l' :List α} (h:bI w l.length) (h' :bI w' l'.length):bI (w ++ w') (l ++ l').length:=by
 refine ⟨by simp [h.len,h'.len],fun x hx=> ?_⟩
 rcases List.mem_append.1 hx with h1|h1
 ·exact h.sl _ h1
 ·exact h'.sl _ h1
theorem j7 (h:bI w l.length):(bg m w l).length=l.length:=by simp [bg,h.len]
theorem z9 {i:Nat} {a:AV} {b: α} (ha:w[i]? =some a) (hb:l[i]? =some b):(bg m w l)[i]? =some (m a b):=by
 simp [bg,List.getElem?_zipWith,ha,hb]
theorem vV {i:Nat} {a:AV} {b: α} (ha:w[i]? =some a) (hb:l[i]? =some b):(bG p c z w l)[i]? =some ⟨a,z,(p b).map c⟩:=by
 simp [bG,List.getElem?_zipWith,ha,hb]
theorem pD {γ δ ε :Type} (f: γ → δ → ε): ∀(a:List γ) (b:List δ) (i:Nat) (x: γ) (y: δ),List.zipWith f (a.set i x) (b.set i y)=(List.zipWith f a b).set i (f x y)
 |[],_,i,x,y=>by simp
 |a::as,[],i,x,y=>by cases i<;>simp
 |a::as,b::bs,0,x,y=>rfl
 |a::as,b::bs,i+1,x,y=>by simp [pD f as bs i x y]
theorem vW {γ δ ε :Type} (f: γ → δ → ε) {a a' :List γ} {b b' :List δ} (h:a.length=b.length):List.zipWith f (a ++ a') (b ++ b')=List.zipWith f a b ++ List.zipWith f a' b' :=List.zipWith_append h
theorem vX {γ :Type} {l:List γ} {i:Nat} {x: γ} (h:l[i]? =some x):l.set i x=l:=List.ext_getElem? fun k=>by
 rw [List.getElem?_set];split
 ·rename_i e;subst e;have:=(List.getElem?_eq_some_iff.1 h).1;simp only [this,if_true];exact h.symm
 ·rfl
theorem vY {γ :Type} {l:List γ} {i:Nat} {x: γ} (h:l[i]? =some x):l.Perm (x::l.eraseIdx i):=by
 have he:=(List.getElem?_eq_some_iff.1 h).2;have:l=l.take i ++ x::l.drop (i+1):=by rw [←he,List.getElem_cons_drop,List.take_append_drop]
 rw [List.eraseIdx_eq_take_drop_succ]
 conv=>lhs;rw [this]
 exact List.perm_middle
theorem z_ {γ :Type} (l:List γ) (i:Nat) (x: γ):(l.set i x).eraseIdx i=l.eraseIdx i:=by
 induction l generalizing i with
 |nil=>rfl
 |cons a l ih=>cases i with
  |zero=>rfl
  |succ i=>simp [ih]
theorem CH {i:Int} {b: α} (hS:aq H (⟨v,sz,bg m w l⟩::(bG p c z w l ++ R))) (hq:bI w l.length) (hi:idx l i=some b):
 ∃a,aJ a∧aq H (⟨a,z,(p b).map c⟩::⟨v,sz,(bg m w l).set i.toNat (m a b)⟩::(mY p c z w l i.toNat ++ R)):=by
 obtain ⟨a,ha,hs⟩:=hq.get hi;obtain ⟨_,_,hb⟩:=gI hi;refine ⟨a,hs,?_⟩;rw [vX (z9 ha hb)];have h1:=vY (vV (p:=p) (c:=c) (z:=z) ha hb);have h2:(⟨v,sz,bg m w l⟩::(bG p c z w l ++ R)).Perm (⟨a,z,(p b).map c⟩::⟨v,sz,bg m w l⟩::(mY p c z w l i.toNat ++ R)):=by
  refine List.Perm.trans ?_ (List.Perm.swap _ _ _);exact List.Perm.cons _ ((List.Perm.append_right R h1))
 exact hS.perm h2
theorem Aa {i:Int} {b y: α} {a:AV} (hS:aq H (⟨a,z,(p y).map c⟩::⟨v,sz,(bg m w l).set i.toNat (m a y)⟩::(mY p c z w l i.toNat ++ R))) (hq:bI w l.length) (ha:aJ a) (hi:idx l i=some b):
 ∃w',bI w' (l.set i.toNat y).length∧aq H (⟨v,sz,bg m w' (l.set i.toNat y)⟩::(bG p c z w' (l.set i.toNat y) ++ R)):=by
 obtain ⟨a0,iW,hs⟩:=hq.get hi;obtain ⟨_,_,hb⟩:=gI hi;refine ⟨w.set i.toNat a,hq.set ha _ _,?_⟩;have e1:bg m (w.set i.toNat a) (l.set i.toNat y)=(bg m w l).set i.toNat (m a y):=pD _ _ _ _ _ _;have e2:bG p c z (w.set i.toNat a) (l.set i.toNat y)=(bG p c z w l).set i.toNat ⟨a,z,(p y).map c⟩:=pD _ _ _ _ _ _;have ax:i.toNat<(bG p c z w l).length:=(List.getElem?_eq_some_iff.1 (vV (p:=p) (c:=c) (z:=z) iW hb)).1;have h1:=vY (l:=(bG p c z w l).set i.toNat ⟨a,z,(p y).map c⟩) (i:=i.toNat) (x:=⟨a,z,(p y).map c⟩) (by simp [ax])
 rw [z_] at h1;rw [e1,e2];refine hS.perm (List.Perm.trans (List.Perm.swap _ _ _) (List.Perm.cons _ ?_));exact (List.Perm.append_right R h1.symm)
theorem Ab {w' :List AV} {l' :List α} {v' :AV} (hS:aq H (⟨v',sz,bg m w l ++ bg m w' l'⟩::(bG p c z w l ++ (bG p c z w' l' ++ R)))) (hq:bI w l.length) (jd:bI w' l'.length):
 ∃w2,bI w2 (l ++ l').length∧aq H (⟨v',sz,bg m w2 (l ++ l')⟩::(bG p c z w2 (l ++ l') ++ R)):=by
 refine ⟨w ++ w',hq.app jd,?_⟩;have hl:=hq.len;have e1:bg m (w ++ w') (l ++ l')=bg m w l ++ bg m w' l' :=vW _ hl
 have e2:bG p c z (w ++ w') (l ++ l')=bG p c z w l ++ bG p c z w' l' :=vW _ hl
 rw [e1,e2,List.append_assoc];exact hS
theorem CI (hS:aq H (⟨v,sz,[]⟩::R)): ∃w,bI w ([]:List α).length∧aq H (⟨v,sz,bg m w ([]:List α)⟩::(bG p c z w ([]:List α) ++ R)):=⟨[],bI.nil,hS⟩
theorem CJ {a:AV} {b: α} (hS:aq H (⟨v,sz,[m a b]⟩::⟨a,z,(p b).map c⟩::R)) (ha:aJ a): ∃w,bI w [b].length∧aq H (⟨v,sz,bg m w [b]⟩::(bG p c z w [b] ++ R)):=
 ⟨[a],⟨rfl,by simpa using ha⟩,hS⟩
theorem Ac {n:Nat} {d: α} (hd:p d=[]) (hS:aq H (⟨v,sz,List.replicate n (m .nil d)⟩::R)): ∃w,bI w (List.replicate n d).length∧aq H (⟨v,sz,bg m w (List.replicate n d)⟩::(bG p c z w (List.replicate n d) ++ R)):=by
 refine ⟨List.replicate n .nil,⟨by simp,fun a h=>by rw [(List.mem_replicate.1 h).2];exact lh⟩,?_⟩
 have e1:bg m (List.replicate n AV.nil) (List.replicate n d)=List.replicate n (m .nil d):=by simp [bg]
 have e2:bG p c z (List.replicate n AV.nil) (List.replicate n d)=List.replicate n ⟨.nil,z,[]⟩:=by simp [bG,hd]
 rw [e1,e2];have: ∀n,aq H (List.replicate n ⟨.nil,z,[]⟩ ++ (⟨v,sz,List.replicate n.succ (m .nil d)⟩::R))→True:=fun _ _=>trivial;clear this e1 e2;have h1: ∀(k:Nat) (x:It),aq H (x::R)→aq H (x::(List.replicate k ⟨.nil,z,[]⟩ ++ R)):=by
  intro k x hx;induction k with
  |zero=>exact hx
  |succ k ih=>exact (ih.uo z).perm (List.Perm.swap _ _ _)
 exact h1 n _ hS
theorem CK {E:aM} {t:TypeId} {ti te:TI} {e:TypeId} {K:AV→J→Prop} (j:Nat) (hS:aq H L) {el:List AV} {x:AV} (hj:L[j]? =some ⟨v,sz,el⟩) (ht:E t=some ti) (hu:ti.au= .sl e) (he:E e=some te) (aF:sz=te.sz) {k:IntKind} {n:Int}
 (h0:0≤n) (hx:el[n.toNat]? =some x) (hp:aJ v) (hk: ∀id ad off,v= .ref id ad off el.length→(∃b,H.ap id ad=some b∧b.el[off+n.toNat]? =some x)→K (.ptr id ad (off+n.toNat) 0) H):jo E t v (.int k n) H K:=by
 have af:=(hS.ok j _ hj).2;have ax:=(List.getElem?_eq_some_iff.1 hx).1;simp only at af;have aO:el≠[]:=by intro e;subst e;simp at hx
 split at af
 ·exact absurd af aO
 ·exact absurd af aO
 ·rename_i id ad off len;obtain ⟨h3,b,hb,h4,_,h5,h6⟩:=af;subst h3;simp only [jo,ht,hu,he,hb];rw [if_pos ⟨by rw [h4,aF],h0,by omega,h5⟩]
  refine hk id ad off rfl ⟨b,hb,?_⟩;have:=congrArg (·[n.toNat]?) h6;simp only [hx,aG] at this;rw [←this,List.getElem?_take,List.getElem?_drop,if_pos (by omega)]
 ·rename_i id ad ix off;obtain ⟨rfl,rfl,_⟩:=af;exact absurd rfl (hp.ne id ad)
 ·exact af.elim
theorem CL {C:aH} {th:Bool} {s:aj} {K:AV→J→Prop} {t:TypeId} {x xw:Operand} {ti:TI} {id ad off n o:Nat} {a y y' :AV} {el eQ:List AV} {i:Nat} (j:Nat) (hS:aq H L) (hj:L[j]? =some ⟨v,sz,el⟩) (hv:v= .ref id ad off n) (hi:el[i]? =some y) (ht:C.E t=some ti) (hx:ev s x= .ptr id ad (off+i) o) (hw:ev s xw=a)
 (h1:a.cells.length=ti.sz) (h2:di a=true) (hr:eG y o a=some y') (h3:y'.cells.length=sz) (Ad:el.set i y' =eQ) (h: ∀H',aq H' (L.set j ⟨v,sz,eQ⟩)→K (.aE []) H'):aZ (aw C) C false th (.store t x xw) s H K:=by
 rw [pd _ (by simp)]
 subst hv;obtain ⟨k0,k1,b,hb,k2,k3,k4,k5⟩:=hS.ok j _ hj;simp only at k1 k5 k0;have ax:=(List.getElem?_eq_some_iff.1 hi).1;have he:b.el[off+i]? =some y:=by
  have:=congrArg (·[i]?) k5;simp only [hi,aG] at this;rw [←this,List.getElem?_take,List.getElem?_drop,if_pos (by omega)]
 simp only [aK,ht,hx,hw,hb,he,h1,h2,and_self,if_true,hr,c7];have bN:=(J.bw hb).2;subst Ad;refine h _ (hS.br hj rfl (fun gn g6 aO _=>mP aO) ⟨?_,by simpa using k1,{b with el:=b.el.set (off+i) y' },?_,k2,k3,by simpa using k4,?_⟩ (fun k hk=>by simpa [b4] using hk.symm))
 ·simp only [bu,List.all_eq_true] at k0⊢;intro q hq;rcases List.mem_or_eq_of_mem_set hq with h' |rfl
  ·exact k0 _ h'
  ·simpa using h3
 ·have:=mQ (b:={b with el:=b.el.set (off+i) y' }) ((hS.ok j _ hj).lt rfl)
  simpa only [bN] using this
 ·simp only [aG] at k5⊢;rw [←k5,List.drop_set,if_neg (by omega),List.take_set]
  congr 1;omega
theorem aq.takeN {es:List Sh} {d: α →AV} (hS:aq H (⟨v,es.length,bg m w l⟩::(bG p c z w l ++ R))) (hv:aJ v) (hq:bI w l.length)
 (hc: ∀(a:AV) (x: α) (H:J) (L:List It),aJ a→aq H (⟨a,z,(p x).map c⟩::L)→ ∃H',aR es (m a x) H=some (d x,H')∧aq H' L): ∃H',aR [.sl es] v H=some (.own es.length (l.map d),H')∧aq H' R:=by
 have key: ∀(l:List α) (w:List AV) (H:J),bI w l.length→aq H (bG p c z w l ++ R)→ ∃H',cP (aR es) (bg m w l) H=some (l.map d,H')∧aq H' R:=by
  intro l;induction l with
  |nil=>
   intro w H hq hS;have:w=[]:=List.eq_nil_of_length_eq_zero hq.len;subst this;exact ⟨H,rfl,hS⟩
  |cons x l ih=>
   intro w H hq hS;cases w with
   |nil=>have:=hq.len;simp at this
   |cons a w=>
    obtain ⟨H1,h1,h2⟩:=hc a x H (bG p c z w l ++ R) (hq.sl a (by simp)) hS
    obtain ⟨H2,h3,h4⟩:=ih w H1 ⟨by have:=hq.len;simpa using this,fun b hb=>hq.sl b (by simp [hb])⟩ h2
    refine ⟨H2,?_,h4⟩;show cP (aR es) (m a x::bg m w l) H=_;simp only [cP,h1,h3,List.map_cons]
 have af:=hS.ok 0 _ rfl;obtain ⟨k0,af⟩:=af;have e1:aR [.sl es] v H=aP (.sl es) v H:=by
  have jp: ∀cs,v≠ .agg cs:=by rintro cs rfl;exact af
  cases v with
  |agg cs=>exact absurd rfl (jp cs)
  |_=>simp only [aR]
 rw [e1];simp only at af;have fS:bg m w l=[]→l=[]∧w=[]:=by
  intro h;have h1:=j7 (m:=m) hq;rw [h] at h1;have hl:l=[]:=List.eq_nil_of_length_eq_zero h1.symm;refine ⟨hl,?_⟩;have:=hq.len;rw [hl] at this;exact List.eq_nil_of_length_eq_zero this
 split at af
 ·obtain ⟨rfl,rfl⟩:=fS af;exact ⟨H,by simp only [aP];rfl,hS.tl⟩
 ·obtain ⟨rfl,rfl⟩:=fS af;exact ⟨H,by simp only [aP];rfl,hS.tl⟩
 ·rename_i id ad off len;obtain ⟨k1,b,hb,k2,k3,k4,k5⟩:=af;have hd:aq (H.del id) (bG p c z w l ++ R):=hS.tl.del fun i it hi e=>by
   have:=hS.b7 0 (i+1) _ it id rfl (by simpa using hi) rfl e
   omega
  obtain ⟨H',h1,h2⟩:=key l w (H.del id) hq hd;refine ⟨H',?_,h2⟩;simp only [aP,hb];rw [if_pos ⟨k2,k4,.inl k3⟩,k5,h1]
 ·rename_i id ad ix off;obtain ⟨rfl,rfl,_⟩:=af;exact absurd rfl (hv.ne id ad)
 ·exact af.elim
theorem CM {fs:List Sh} {γ :Type} {c: γ →AV} {b:List γ} {a:AV} (hc: ∀x H,aR fs (c x) H=some (c x,H)) (ha:aJ a) (hS:aq H (⟨a,fs.length,b.map c⟩::L)): ∃H',aR [.sl fs] a H=some (.own fs.length (b.map c),H')∧aq H' L:=by
 obtain ⟨H',h1,h2⟩:=hS.take 0 rfl ha hc;exact ⟨H',h1,h2⟩
theorem CN {i:Int} {b: α} {a:AV} (hS:aq H (⟨a,z,(p b).map c⟩::⟨v,sz,(bg m w l).set i.toNat (m a b)⟩::(mY p c z w l i.toNat ++ R))) (hq:bI w l.length) (ha:aJ a) (hi:idx l i=some b):
 ∃w',bI w' l.length∧aq H (⟨v,sz,bg m w' l⟩::(bG p c z w' l ++ R)):=by
 obtain ⟨w',h1,h2⟩:=Aa hS hq ha hi;obtain ⟨_,_,hb⟩:=gI hi;rw [vX hb] at h1 h2;exact ⟨w',h1,h2⟩
theorem CO {i:Int} {b: α} {x:AV} (hq:bI w l.length) (hi:idx l i=some b):((bg m w l).set i.toNat x)[i.toNat]? =some x:=by
 obtain ⟨_,h1,_⟩:=gI hi;have:i.toNat<(bg m w l).length:=by rw [j7 hq];omega
 simp [this]
theorem CP {K:AV→J→Prop} (j:Nat) (hS:aq H L) (hj:L[j]? =some ⟨v,sz,bg m w l⟩) (hp:aJ v) (hq:bI w l.length) {ti:TI} {e:TypeId} (hu:ti.au= .sl e) (h:K (.int .i64 l.length) H):dP (some ti) v (lenOf H v) H K:=
 zi j hS hj hp hu (by rw [j7 hq];exact h)
theorem vZ {n:Nat} (hq:bI w l.length) (aF: ∀a x,aJ a→(m a x).cells.length=n):bu n (bg m w l)=true:=by
 simp only [bu,List.all_eq_true,bg];intro y hy;obtain ⟨k,hk⟩:=List.mem_iff_getElem?.1 hy;rw [List.getElem?_zipWith] at hk;split at hk
 ·rename_i a x ha _;simp only [Option.some.injEq] at hk;subst hk;simp [aF _ _ (hq.sl _ (List.mem_of_getElem? ha))]
 ·simp at hk
theorem CQ {γ :Type} {E:aM} {t u:TypeId} {te tu:TI} {e:TypeId} {x:AV} {w' :List AV} {l' :List α} {f:List α →Option γ} {r: γ} {K:AV→J→Prop} (hS:aq H (⟨v,te.sz,bg m w l⟩::⟨x,sz,bg m w' l'⟩::(bG p c z w l ++ (bG p c z w' l' ++ R)))) (hp:aJ v) (hx:aJ x) (hq:bI w l.length) (jd:bI w' l'.length)
 (ht:ct E t=some te) (hu:E u=some tu) (hi:tu.au= .sl e) (aF: ∀a y,aJ a→(m a y).cells.length=te.sz) (h0:(te.sz==0)=false) (hh:(app te.bytes l l').bind f=some r)
 (h: ∀v' H' lm w2,aJ v' →bI w2 lm.length→app te.bytes l l' =some lm→f lm=some r→aq H' (⟨v',te.sz,bg m w2 lm⟩::(bG p c z w2 lm ++ R))→K v' H'):c7 (cA E .append #[t,u] [v,x] H) K:=by
 cases hr:app te.bytes l l' with
 |none=>rw [hr] at hh;simp at hh
 |some lm=>
  have bQ:=hr
  unfold app at hr;split at hr
  ·rename_i jK;simp only [Option.some.injEq] at hr;subst hr;rw [bQ] at hh;obtain ⟨v',H',h1,h2,h3⟩:=t_ hS 0 rfl hp (hS.gJ 1 rfl hx) (vZ jd aF) (by simpa using h0) (by rw [j7 hq,j7 jd];exact jK)
   have e1:(#[t,u]:Array TypeId)[0]? =some t:=rfl;have e2:((#[t,u]:Array TypeId)[1]?).bind E=E u:=rfl;simp only [cA,e1,e2,ht,hu,hi,h1,c7];have h4:aq H' (⟨v',te.sz,bg m w l ++ bg m w' l'⟩::(bG p c z w l ++ (bG p c z w' l' ++ R))):=h3.drop 1
   obtain ⟨w2,k1,k2⟩:=Ab h4 hq jd;exact h v' H' _ w2 h2 k1 bQ hh k2
  ·simp at hr
theorem CR {γ :Type} {C:aH} {q th:Bool} {s:aj} {K:AV→J→Prop} {t:TypeId} {xo yo:Operand} {te:TI} {z0:AV} {n:Int} {d: α} {f:List α →Option γ} {r: γ} (hS:aq H L) (ht:ct C.E t=some te) (hx:ev s xo= .int .i64 n) (hy:ev s yo= .int .i64 n) (hz:fC te=some z0) (hd:m .nil d=z0) (Ae:p d=[]) (h0:(te.sz==0)=false)
 (hh:(fy te.bytes n d).bind f=some r) (h: ∀v H' l w,aJ v→bI w l.length→fy te.bytes n d=some l→f l=some r→aq H' (⟨v,te.sz,bg m w l⟩::(bG p c z w l ++ L))→K v H'):aZ (aw C) C q th (.makeSlice t xo yo) s H K:=by
 refine zw (c:=fun _: α =>z0) hS ht hx hy hz rfl h0 hh fun v H' l hv hm hf hS=> ?_
 have gd:=hm
 unfold fy at gd;split at gd
 ·simp only [Option.some.injEq] at gd;subst gd;rw [List.map_replicate,←hd] at hS;obtain ⟨w,k1,k2⟩:=Ac (p:=p) (c:=c) (z:=z) Ae hS;exact h v H' _ w hv k1 hm hf k2
 ·simp at gd
theorem CS {es fs:List Sh} {cs:List AV} {K:List AV→J→Prop} {d: α →AV} (hS:aq H (⟨v,fs.length,bg m w l⟩::(bG p c z w l ++ R))) (hv:aJ v) (hq:bI w l.length)
 (hc: ∀(a:AV) (x: α) (H:J) (L:List It),aJ a→aq H (⟨a,z,(p x).map c⟩::L)→ ∃H',aR fs (m a x) H=some (d x,H')∧aq H' L)
 (h: ∀H',aq H' R→TC es cs H' fun ys H' =>K (.own fs.length (l.map d)::ys) H'):TC (.sl fs::es) (v::cs) H K:=by
 obtain ⟨H',h1,h2⟩:=hS.takeN hv hq hc;have h3:aP (.sl fs) v H=some (.own fs.length (l.map d),H'):=by
  have jp: ∀cs,v≠ .agg cs:=by rintro cs rfl;rcases hv.ok with h|h|⟨_,_,_,_,h⟩<;>simp at h
  cases v with
  |agg cs=>exact absurd rfl (jp cs)
  |_=>simpa only [aR] using h1
 exact pu h3 (h H' h2)
theorem CT {n:Nat} {γ :Type} {g: γ →AV} {b:List γ} {a:AV} (hk:eV H ⟨a,z,b.map g⟩) (ha:aJ a) (hg: ∀x,aL n H (g x)=some (g x)):aL (n+1) H a=some (.fz (b.map g)):=by
 obtain ⟨k0,af⟩:=hk;simp only at af;rcases ha.ok with rfl|rfl|⟨id,ad,off,len,rfl⟩
 ·simp only at af;simp only [aL,af]
 ·simp only at af;simp only [aL,af]
 ·simp only at af;obtain ⟨k1,b',hb,k2,k3,k4,k5⟩:=af;simp only [aL,hb];rw [if_pos k4,k5,mW (b.map g) (by
   intro d hd;obtain ⟨x,_,rfl⟩:=List.mem_map.1 hd;exact hg x),Option.map_some]
theorem CU {n:Nat} {enc: α →AV} (hS:aq H L) (j:Nat) (hj:L[j]? =some ⟨v,sz,bg m w l⟩) (hp:aJ v) (hq:bI w l.length) (cg: ∀it∈bG p c z w l,it∈L) (hc: ∀a x,aJ a→eV H ⟨a,z,(p x).map c⟩→aL n H (m a x)=some (enc x)):aL (n+1) H v=some (.fz (l.map enc)):=by
 have key: ∀(l:List α) (w:List AV),bI w l.length→(∀it∈bG p c z w l,eV H it)→(bg m w l).mapM (aL n H)=some (l.map enc):=by
  intro l;induction l with
  |nil=>
   intro w hq _;have:w=[]:=List.eq_nil_of_length_eq_zero hq.len;subst this;rfl
  |cons x l ih=>
   intro w hq hk;cases w with
   |nil=>have:=hq.len;simp at this
   |cons a w=>
    show (m a x::bg m w l).mapM (aL n H)=_;exact vJ (hc a x (hq.sl a (by simp)) (hk _ (by simp [bG]))) (ih w ⟨by have:=hq.len;simpa using this,fun b hb=>hq.sl b (by simp [hb])⟩ fun it h=>hk it (by simp only [bG,List.zipWith_cons_cons,List.mem_cons];exact .inr h))
 have hk:=key l w hq fun it h=>by
  obtain ⟨k,hk⟩:=List.mem_iff_getElem?.1 (cg it h);exact hS.ok k it hk
 obtain ⟨k0,af⟩:=hS.ok j _ hj;simp only at af;have fS:bg m w l=[]→l=[]:=fun h=>by
  have h1:=j7 (m:=m) hq;rw [h] at h1;exact List.eq_nil_of_length_eq_zero h1.symm
 rcases hp.ok with rfl|rfl|⟨id,ad,off,len,rfl⟩
 ·simp only at af;rw [fS af];rfl
 ·simp only at af;rw [fS af];rfl
 ·simp only at af;obtain ⟨k1,b,hb,k2,k3,k4,k5⟩:=af;simp only [aL,hb];rw [if_pos k4,k5,hk,Option.map_some]
theorem v5 {d: α →AV} (hc: ∀(x: α) (H:J) (L:List It),aq H L→ ∃a,aJ a∧(az (d x) H).1=m a x∧aq (az (d x) H).2 (⟨a,z,(p x).map c⟩::L)):
 ∀(l:List α) (H:J) (L:List It),aq H L→ ∃w,bI w l.length∧(aC (l.map d) H).1=bg m w l∧aq (aC (l.map d) H).2 (bG p c z w l ++ L)
 |[],H,L,hS=>⟨[],bI.nil,rfl,hS⟩
 |x::l,H,L,hS=>by
  obtain ⟨a,h1,h2,h3⟩:=hc x H L hS;obtain ⟨w,k1,k2,k3⟩:=v5 hc l _ _ h3;refine ⟨a::w,⟨by simp [k1.len],fun b hb=> ?_⟩,?_,?_⟩
  ·rcases List.mem_cons.1 hb with rfl|h
   ·exact h1
   ·exact k1.sl b h
  ·simp only [List.map_cons,aC,bg,List.zipWith_cons_cons,h2];rw [k2];rfl
  ·simp only [List.map_cons,aC,bG,List.zipWith_cons_cons];exact k3.perm List.perm_middle
theorem CV {d: α →AV} {sz:Nat} {ys:List AV} {K:List AV→J→Prop} (hS:aq H L) (hz: ∀a x,aJ a→(m a x).cells.length=sz)
 (hc: ∀(x: α) (H:J) (L:List It),aq H L→ ∃a,aJ a∧(az (d x) H).1=m a x∧aq (az (d x) H).2 (⟨a,z,(p x).map c⟩::L))
 (h: ∀v w H',aJ v→bI w l.length→aq H' (⟨v,sz,bg m w l⟩::(bG p c z w l ++ L))→TH ys H' fun zs fu=>K (v::zs) fu):TH (.own sz (l.map d)::ys) H K:=by
 obtain ⟨w,k1,k2,k3⟩:=v5 hc l H L hS;have:=h _ w _ (eW (aC (l.map d) H).2.bs.length (aC (l.map d) H).2.st 0 (bg m w l).length) k1 (k3.jm (all:=bg m w l) (List.take_of_length_le (Nat.le_refl _)) rfl (vZ k1 hz));unfold TH at this⊢;simp only [aC,az,k2];exact this
theorem CW {γ :Type} {c: γ →AV} {n:Nat} (hc: ∀x H,az (c x) H=(c x,H)) (hz: ∀x,(c x).cells.length=n) (b:List γ) (H:J) (L:List It) (hS:aq H L):
 ∃a H',aJ a∧az (.own n (b.map c)) H=(a,H')∧aq H' (⟨a,n,b.map c⟩::L):=by
 refine ⟨_,_,eW H.bs.length H.st 0 (b.map c).length,?_,hS.jm (all:=b.map c) (List.take_of_length_le (Nat.le_refl _)) rfl (by simp [bu,hz])⟩
 simp only [az,py hc]
theorem CX {C:aH} {q th:Bool} {s:aj} {K:AV→J→Prop} {t e:TypeId} {x:Operand} {ti:TI} (ht:C.E t=some ti) (hu:ti.au= .sl e) (hx:ev s x= .nil) (h:K (.int .i64 0) H):aZ (aw C) C q th (.call {callee:= .builtin .cap,args:= #[x],argTypes:= #[t]}) s H K:=by
 unfold aZ wpOp;have e1:((#[t]:Array TypeId)[0]?).bind C.E=C.E t:=rfl;simp only [ew,implies_true,true_and,List.map_cons,List.map_nil,hx,cA,e1,ht,hu];exact h
theorem CY {E:aM} {K:AV→J→Prop} {t e:TypeId} {ti te:TI} {lo hi:Option Int} (ht:E t=some ti) (hu:ti.au= .sl e) (he:E e=some te) (h1:lo.getD 0=0) (h2:hi.getD 0=0) (h:K .nil H):fw E t .nil (some lo) (some hi) (some none) H K:=by
 simp only [fw,eX,ht,hu,he];rw [if_pos ⟨h1,h2,rfl,by simp⟩]
 exact h
structure pE (v:AV) (lo n:Nat) (v' :AV):Prop where
 out:(v= .nil∧v' = .nil)∨(v= .e0∧v' = .e0)∨ ∃id ad off len,v= .ref id ad off len∧v' = .ref id ad (off+lo) n
theorem v7 {γ :Type} {l m:List γ} {lo hi:Int} (h:f_ l lo hi=some m):0≤lo∧lo≤hi∧hi≤l.length∧m=(l.drop lo.toNat).take (hi.toNat-lo.toNat)∧m.length=hi.toNat-lo.toNat:=by
 unfold f_ at h;split at h
 ·rename_i hc;simp only [Option.some.injEq] at h;refine ⟨hc.1,hc.2.1,hc.2.2,h.symm,?_⟩;rw [←h,List.length_take,List.length_drop];omega
 ·simp at h
theorem CZ {γ δ :Type} {E:aM} {K:AV→J→Prop} {t e:TypeId} {ti te:TI} {l:List γ} {c: γ →AV} {lo hi:Option Int} {f:List γ →Option δ} {r: δ} (j:Nat) (hS:aq H L) (hj:L[j]? =some ⟨v,te.sz,l.map c⟩) (hp:aJ v) (ht:E t=some ti) (hu:ti.au= .sl e) (he:E e=some te) (hh:(f_ l (lo.getD 0) (hi.getD l.length)).bind f=some r)
 (h: ∀v' m,aJ v' →pE v (lo.getD 0).toNat m.length v' →f_ l (lo.getD 0) (hi.getD l.length)=some m→f m=some r→K v' H):fw E t v (some lo) (some hi) (some none) H K:=by
 cases hm:f_ l (lo.getD 0) (hi.getD l.length) with
 |none=>rw [hm] at hh;simp at hh
 |some m=>
  rw [hm] at hh;have hk:=fun v' bh hw=>h v' m bh hw hm hh
  obtain ⟨df,dJ,lj,_,ll⟩:=v7 hm;have af:=hS.ok j _ hj;obtain ⟨k0,af⟩:=af;simp only at af k0;have empty:l.map c=[]→lo.getD 0=0∧hi.getD 0=0:=by
   intro e;rw [List.map_eq_nil_iff] at e;subst e;have e0:(([]:List γ).length:Int)=0:=rfl;rw [e0] at lj dJ;refine ⟨by omega,?_⟩
   cases hi with
   |none=>rfl
   |some x=>simp at dJ lj⊢;omega
  split at af
  ·obtain ⟨e1,e2⟩:=empty af;simp only [fw,eX,ht,hu,he];rw [if_pos ⟨e1,e2,rfl,by simp⟩]
   exact hk .nil lh ⟨.inl ⟨rfl,rfl⟩⟩
  ·obtain ⟨e1,e2⟩:=empty af;simp only [fw,eX,ht,hu,he];rw [if_pos ⟨e1,e2,rfl,by simp⟩]
   exact hk .e0 mS ⟨.inr (.inl ⟨rfl,rfl⟩)⟩
  ·rename_i id ad off len;obtain ⟨k1,b,hb,k2,k3,k4,k5⟩:=af;simp only [List.length_map] at k1;subst k1;simp only [fw,eX,ht,hu,hb,he,k2,ne_eq,not_true_eq_false,if_false];rw [if_pos ⟨df,dJ,by omega⟩]
   refine hk _ (eW ..) ⟨.inr (.inr ⟨id,ad,off,_,rfl,?_⟩)⟩;rw [ll]
  ·rename_i id ad ix off;obtain ⟨rfl,rfl,_⟩:=af;exact absurd rfl (hp.ne id ad)
  ·exact af.elim
theorem aq.Af {γ :Type} (hS:aq H L) (j:Nat) {sz:Nat} {l m:List γ} {c: γ →AV} {v' :AV} {lo hi:Int} (hj:L[j]? =some ⟨v,sz,l.map c⟩) (hv:pE v lo.toNat m.length v') (hm:f_ l lo hi=some m):cj H v' =some (m.map c):=by
 obtain ⟨df,dJ,lj,v8,ll⟩:=v7 hm;have af:=(hS.ok j _ hj).2;simp only at af;have empty:l.map c=[]→m=[]:=fun e=>by
  rw [List.map_eq_nil_iff] at e;subst e;rw [v8];simp
 rcases hv.out with ⟨rfl,rfl⟩|⟨rfl,rfl⟩|⟨id,ad,off,len,rfl,rfl⟩
 ·simp only at af;rw [empty af];rfl
 ·simp only at af;rw [empty af];rfl
 ·simp only at af;obtain ⟨k1,b,hb,k2,k3,k4,k5⟩:=af;simp only [List.length_map] at k1;subst k1;simp only [cj,hb];rw [if_pos (by omega)]
  simp only [aG] at k5⊢;rw [ll,v8,List.map_take,List.map_drop,←k5,List.drop_take,List.drop_drop,List.take_take];congr 2;omega
theorem C0 {γ :Type} {n:Nat} (hS:aq H L) (j:Nat) {sz:Nat} {l m:List γ} {c: γ →AV} {v' :AV} {lo hi:Int} (hj:L[j]? =some ⟨v,sz,l.map c⟩) (hv:pE v lo.toNat m.length v') (hm:f_ l lo hi=some m) (hc: ∀x,aL n H (c x)=some (c x)):aL (n+1) H v' =some (.fz (m.map c)):=by
 have he:=hS.Af j hj hv hm;rcases hv.out with ⟨rfl,rfl⟩|⟨rfl,rfl⟩|⟨id,ad,off,len,rfl,rfl⟩
 ·simp only [cj,Option.some.injEq] at he;simp only [aL,←he]
 ·simp only [cj,Option.some.injEq] at he;simp only [aL,←he]
 ·simp only [cj] at he;cases hb:H.ap id ad with
  |none=>rw [hb] at he;simp at he
  |some b=>
   rw [hb] at he;simp only at he;split at he
   ·rename_i ax;simp only [Option.some.injEq] at he;simp only [aL,hb];rw [if_pos ax,he,mW (m.map c) (by
     intro d hd;obtain ⟨x,_,rfl⟩:=List.mem_map.1 hd;exact hc x),Option.map_some]
   ·simp at he
structure C1 (H:J) (v:AV) (n:Nat):Prop where
 out:((v= .nil∨v= .e0)∧n=0)∨ ∃id ad off len b,v= .ref id ad off len∧H.ap id ad=some b∧off+n≤b.el.length
structure C2 (v:AV) (n k:Nat) (v' :AV):Prop where
 out:((v= .nil∨v= .e0)∧v' =v)∨ ∃id ad off len,v= .ref id ad off len∧v' = .ref id ad (off+n) k
theorem C3 {γ δ :Type} {E:aM} {K:AV→J→Prop} {t u:TypeId} {te tu:TI} {k:IntKind} {n:Int} {z0:AV} {d: γ} {c: γ →AV} {f:List γ →Option δ} {r: δ} (hS:aq H L) (ht:ct E t=some te) (hu:E u=some tu) (hi:tu.au= .it k) (hz:fC te=some z0) (hd:c d=z0) (h0:(te.sz==0)=false) (hh:(fy te.bytes n d).bind f=some r)
 (h: ∀v H' l,aJ v→fy te.bytes n d=some l→f l=some r→aq H' (⟨v,te.sz,l.map c⟩::L)→K v H'):c7 (cA E .append #[t,u] [.nil,.int .i64 n] H) K:=by
 cases hm:fy te.bytes n d with
 |none=>rw [hm] at hh;simp at hh
 |some l=>
  rw [hm] at hh;have gd:=hm
  unfold fy at gd;split at gd
  ·rename_i hc;simp only [Option.some.injEq] at gd;subst gd;have aO:te.sz≠0:=by simpa using h0
   have e1:(#[t,u]:Array TypeId)[0]? =some t:=rfl;have e2:((#[t,u]:Array TypeId)[1]?).bind E=E u:=rfl;simp only [cA,e1,e2,ht,hu,hi,jv,hz];rw [if_pos ⟨hc.1,hc.2,aO⟩];by_cases hn:n=0
   ·rw [if_pos hn];subst hn;exact h .nil H _ lh hm hh (hS.uo te.sz)
   ·rw [if_neg hn];refine h _ _ _ (eW ..) hm hh (hS.jm (by simp [hd]) (by simp) ?_)
    simp only [bu,List.map_replicate,List.all_replicate,hd,tP hz];simp
  ·simp at gd
end
theorem C4 {C:aH} {kp:List Nat} {s s' :aj} {H:J} {K:Ex→aj→J→Prop} (hk:ey kp s=s') (h:K .normal s' H):aN (aw C) C (.gM [] (some kp)) s H K:=by
 subst hk;exact h
end Go.VS
