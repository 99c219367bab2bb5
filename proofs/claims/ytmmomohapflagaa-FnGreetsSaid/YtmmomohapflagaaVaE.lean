import Derived.Test.YtmmomohapflagaaVaD
namespace Go.VS
def FZ (l:List (List Nat×List Sh)) (s:aj) (H:J) (P:aj→J→Prop):Prop:= ∃s' H',dx l s H=some (s',H')∧P s' H'
section
variable {C:aF} {s:aj} {H:J} {L:List It}
theorem uh (P:aj→J→Prop):FZ [] s H P=P s H:=by
 apply propext;constructor
 ·rintro ⟨s',H',h,hp⟩;simp only [dx,Option.some.injEq,Prod.mk.injEq] at h;obtain ⟨rfl,rfl⟩:=h;exact hp
 ·exact fun h=>⟨s,H,rfl,h⟩
theorem zd {t:Nat} {ts:List Nat} {e:Sh} {sh:List Sh} {l:List (List Nat×List Sh)} {P:aj→J→Prop} {y:AV} {H1:J} (ht:aX (e::sh) (s.getD t .undef) H=some (y,H1)) (h:FZ l (gb (s.getD t .undef) (bn y) ts (s.set t (bn y))) H1 P):FZ ((t::ts,e::sh)::l) s H P:=by
 obtain ⟨s',H',h1,h2⟩:=h;exact ⟨s',H',by simp only [dx,ht];exact h1,h2⟩
theorem ui {f:AV→J→Option (AV×J)}: ∀(xs:List AV) (H:J),(∀x∈xs,∀H,f x H=some (x,H))→dj f xs H=some (xs,H)
 |[],H,_=>rfl
 |x::xs,H,h=>by
  simp only [dj,h x (by simp) H,ui xs H (fun y hy=>h y (by simp [hy]))]
theorem uj {α :Type} {c: α →AV} (hz: ∀x,bn (c x)=c x): ∀(l:List α),bR (l.map c)=l.map c
 |[]=>rfl
 |x::l=>by simp only [List.map_cons,bR,hz x,uj hz l]
theorem ay.del (hS:ay H L) {id:Nat} (h: ∀(i:Nat) (it:It),L[i]? =some it→bV it.v≠some id):ay (H.del id) L:=
 ⟨fun i it hi=>(hS.ok i it hi).frame fun k ad hk=>by
  have aK: ¬id=k:=fun e=>h i it hi (by rw [hk,e])
  simp only [J.ap,J.del,List.getElem?_set,if_neg aK],hS.b7⟩
theorem ze (hS:ay H L) {j:Nat} {v:AV} {sz:Nat} {el:List AV} (hj:L[j]? =some ⟨v,sz,el⟩) (hp:bm v):eZ v v=true:=by
 have af:=(hS.ok j _ hj).2;simp only at af;split at af
 ·rfl
 ·rfl
 ·simp [eZ]
 ·rename_i id ad ix off;obtain ⟨rfl,rfl,_⟩:=af;exact absurd rfl (hp.ne id ad)
 ·exact af.elim
theorem ay.take {α :Type} (hS:ay H L) (j:Nat) {v:AV} {es:List Sh} {l:List α} {c: α →AV} (hj:L[j]? =some ⟨v,es.length,l.map c⟩) (hp:bm v) (hc: ∀x H,aX es (c x) H=some (c x,H)):
 ∃H',aX [.sl es] v H=some (.own es.length (l.map c),H')∧ay H' (L.eraseIdx j):=by
 have af:=hS.ok j _ hj;have hf:=hS.front j hj;obtain ⟨k0,af⟩:=af;have e1:aX [.sl es] v H=aO (.sl es) v H:=by
  have pk: ∀cs,v≠ .agg cs:=by rintro cs rfl;exact af
  cases v with
  |agg cs=>exact absurd rfl (pk cs)
  |_=>simp only [aX]
 rw [e1];simp only at af;split at af
 ·rename_i hv;exact ⟨H,by simp only [aO,af],hf.tl⟩
 ·exact ⟨H,by simp only [aO,af],hf.tl⟩
 ·rename_i id ad off len;obtain ⟨k1,b,hb,k2,k3,k4,k5⟩:=af;have hm:dj (aX es) (l.map c) (H.del id)=some (l.map c,H.del id):=ui _ _ (by
   intro x hx H;obtain ⟨y,_,rfl⟩:=List.mem_map.1 hx;exact hc y H)
  refine ⟨H.del id,?_,hf.tl.del fun i it hi e=> ?_⟩
  ·simp only [aO,hb];rw [if_pos ⟨k2,k4,.inl k3⟩,k5,hm]
  ·have:=hf.b7 0 (i+1) _ it id rfl (by simpa using hi) rfl e
   omega
 ·rename_i id ad ix off;obtain ⟨rfl,rfl,_⟩:=af;exact absurd rfl (hp.ne id ad)
 ·exact af.elim
theorem Bw {α :Type} {t:Nat} {ts:List Nat} {es:List Sh} {l:List (List Nat×List Sh)} {P:aj→J→Prop} {v:AV} {m:List α} {c: α →AV} (j:Nat) (hS:ay H L) (hj:L[j]? =some ⟨v,es.length,m.map c⟩) (hp:bm v) (hv:s.getD t .undef=v) (hc: ∀x H,aX es (c x) H=some (c x,H)) (hz: ∀x,bn (c x)=c x)
 (h: ∀H',eZ v v=true→ay H' (L.eraseIdx j)→FZ l (gb v (.fz (m.map c)) ts (s.set t (.fz (m.map c)))) H' P):FZ ((t::ts,[.sl es])::l) s H P:=by
 obtain ⟨H',h1,h2⟩:=hS.take j hj hp hc;rw [←hv] at h1;refine zd h1 ?_;simp only [bn,uj hz,hv];exact h H' (ze hS hj hp) h2
def TC (es:List Sh) (cs:List AV) (H:J) (K:List AV→J→Prop):Prop:= ∃ys H',cg es cs H=some (ys,H')∧K ys H'
theorem Bx {K:List AV→J→Prop} (h:K [] H):TC [] [] H K:=⟨[],H,by simp only [cg],h⟩
theorem uk {e:Sh} {es:List Sh} {v y:AV} {cs:List AV} {H1:J} {K:List AV→J→Prop} (ht:aO e v H=some (y,H1)) (h:TC es cs H1 fun ys H' =>K (y::ys) H'):TC (e::es) (v::cs) H K:=by
 obtain ⟨ys,H',h1,h2⟩:=h;exact ⟨y::ys,H',by simp only [cg,ht,h1],h2⟩
theorem By {es:List Sh} {v:AV} {cs:List AV} {K:List AV→J→Prop} (hp:dl v=true) (h:TC es cs H fun ys H' =>K (v::ys) H'):TC (.sc::es) (v::cs) H K:=
 uk (by simp only [aO,hp,if_true]) h
theorem Bz {α :Type} {es fs:List Sh} {v:AV} {cs:List AV} {K:List AV→J→Prop} {m:List α} {c: α →AV} (j:Nat) (hS:ay H L) (hj:L[j]? =some ⟨v,fs.length,m.map c⟩) (hp:bm v) (hc: ∀x H,aX fs (c x) H=some (c x,H))
 (h: ∀H',ay H' (L.eraseIdx j)→TC es cs H' fun ys H' =>K (.own fs.length (m.map c)::ys) H'):TC (.sl fs::es) (v::cs) H K:=by
 obtain ⟨H',h1,h2⟩:=hS.take j hj hp hc;have h3:aO (.sl fs) v H=some (.own fs.length (m.map c),H'):=by
  have pk: ∀cs,v≠ .agg cs:=by rintro cs rfl;rcases hp.ok with h|h|⟨_,_,_,_,h⟩<;>simp at h
  cases v with
  |agg cs=>exact absurd rfl (pk cs)
  |_=>simpa only [aX] using h1
 exact uk h3 (h H' h2)
theorem ul (xs:List AV):bn (.agg xs)= .agg (bR xs):=rfl
theorem um (x:AV) (xs:List AV):bR (x::xs)=bn x::bR xs:=rfl
theorem uo:bR []=[]:=rfl
theorem uq (k:IntKind) (n:Int):bn (.int k n)= .int k n:=rfl
theorem ur (b:Bool):bn (.bool b)= .bool b:=rfl
theorem uu (b:List UInt8):bn (.str b)= .str b:=rfl
theorem uw (b:List AV):bn (.fz b)= .fz b:=rfl
theorem ux (n:Nat) (b:List AV):bn (.own n b)= .fz (bR b):=rfl
theorem uy (xs:List AV):bn (.aC xs)= .aC (bR xs):=rfl
theorem uz (x:AV):b9 [x]=x:=rfl
theorem uA (x y:AV) (l:List AV):b9 (x::y::l)= .aC (x::y::l):=rfl
theorem uB:b9 []= .aC []:=rfl
theorem uC (x y:AV):gb x y [] s=s:=rfl
theorem uD (x y:AV) (t:Nat) (ts:List Nat):gb x y (t::ts) s=gb x y ts (if eZ (s.getD t .undef) x then s.set t y else s):=rfl
theorem uE:eZ .nil .nil=true:=rfl
theorem uF:eZ .e0 .e0=true:=rfl
theorem uG (fz:List (Nat×List (List Nat×List Sh))) (K:aj→J→Prop) (i:Nat):fV C fz K [] i s H=K s H:=rfl
theorem ay.BA (hS:ay H L) (n:Nat) (js:List Nat) (hj:(js.Nodup∧ ∀j∈js,j<n)):ay H (js.filterMap (L[·]?) ++ L.drop n):=by
 refine ⟨fun i it hi=> ?_,fun i j a b id hi zf ha hb=> ?_⟩
 ·rcases List.mem_append.1 (List.mem_of_getElem? hi) with h|h
  ·obtain ⟨k,_,hk⟩:=List.mem_filterMap.1 h;exact hS.ok k it hk
  ·obtain ⟨k,hk⟩:=List.mem_iff_getElem?.1 (List.mem_of_mem_drop h);exact hS.ok k it hk
 ·
  have key: ∀(js:List Nat),js.Nodup→(∀j∈js,j<n)→ ∀(i j:Nat) (a b:It),(js.filterMap (L[·]?) ++ L.drop n)[i]? =some a→(js.filterMap (L[·]?) ++ L.drop n)[j]? =some b→bV a.v=some id→bV b.v=some id→i=j:=by
   intro js;induction js with
   |nil=>
    intro _ _ i j a b hi hj ha hb;simp only [List.filterMap_nil,List.nil_append,List.getElem?_drop] at hi hj;have:=hS.b7 _ _ a b id hi hj ha hb;omega
   |cons k ks ih=>
    intro qe aw i j a b hi hj ha hb;have uH:=(List.nodup_cons.1 qe)
    have lB:=ih uH.2 (fun j h=>aw j (by simp [h]))
    cases hk:L[k]? with
    |none=>
     simp only [List.filterMap_cons,hk] at hi hj;exact lB i j a b hi hj ha hb
    |some c=>
     simp only [List.filterMap_cons,hk,List.cons_append] at hi hj;have other: ∀(m:Nat) (d:It),(ks.filterMap (L[·]?) ++ L.drop n)[m]? =some d→bV c.v=some id→bV d.v≠some id:=by
      intro m d hm hc hd;rcases List.mem_append.1 (List.mem_of_getElem? hm) with h|h
      ·obtain ⟨k',zg,bB⟩:=List.mem_filterMap.1 h;have:=hS.b7 k k' c d id hk bB hc hd
       subst this;exact uH.1 zg
      ·obtain ⟨k',bB⟩:=List.mem_iff_getElem?.1 h;rw [List.getElem?_drop] at bB;have:=hS.b7 k _ c d id hk bB hc hd
       have:=aw k (by simp)
       omega
     cases i with
     |zero=>
      simp at hi;subst hi;cases j with
      |zero=>rfl
      |succ j=>exact absurd hb (other j b (by simpa using hj) ha)
     |succ i=>
      cases j with
      |zero=>simp at hj;subst hj;exact absurd ha (other i a (by simpa using hi) hb)
      |succ j=>have:=lB i j a b (by simpa using hi) (by simpa using hj) ha hb;omega
  exact key js hj.1 hj.2 i j a b hi zf ha hb
end
theorem BB {α :Type} {L F:List α} {n:Nat} {x: α} (hL:L.drop n=F) (h:x∈F):x∈L:=List.mem_of_mem_drop (hL.symm▸h)
abbrev u:=AV.undef
def zh {α :Type} (c: α →AV) (l:List α):AV:= .fz (l.map c)
theorem BC {E:aJ} {s:aj} {H:J} {a:Tmp} {t:TypeId} {rs:List ResultVar} {ti:TI} {id ad sz:Nat} {x y:AV} {ys:List AV} (ht:E t=some ti) (ha:s.getD a .undef= .ptr id ad 0 0) (hb:H.ap id ad=some ⟨ad,sz,false,[x]⟩) (hx:bN ti x 0=some y) (hr:dy E s H rs=some ys):dy E s H (.cell a t::rs)=some (y::ys):=by
 have:aL E (.load t (.tmp a)) s H=some (y,H):=by
  have e:ev s (.tmp a)= .ptr id ad 0 0:=ha;simp only [aL,ht,e,hb,List.getElem?_cons_zero,hx]
 simp only [dy,this,hr,Option.map_some]
theorem BD {E:aJ} {s:aj} {H:J} {a:Tmp} {rs:List ResultVar} {y:AV} {ys:List AV} (ha:s.getD a .undef=y) (hr:dy E s H rs=some ys):dy E s H (.tmp a::rs)=some (y::ys):=by
 simp only [dy,hr,Option.map_some,ha]
section
variable {C:aF} {s:aj} {H:J}
def fp (C:aF) (K:aj→J→Prop) (d:Option Tmp) (late:List (Op×Option Tmp)) (rest:List GO) (s:aj):AV→J→Prop:=fun v H=>dQ C (bd s d v) H (ea C K rest (bd s d v) H) late
def hM (C:aF) (K:aj→J→Prop) (v:AV) (w:Bool) (d:Option Tmp) (op:Op) (late:List (Op×Option Tmp)) (th q:Bool) (rest:List GO) (s:aj) (H:J):Prop:=gB v w (aZ (au C) C q th op s H (fp C K d late rest s)) (fp C K d late rest s (.aC []) H)
theorem uI (K:aj→J→Prop) (d:Option Tmp) (rest:List GO) (v:AV):fp C K d [] rest s v H=ea C K rest (bd s d v) H:=rfl
theorem uJ (K:aj→J→Prop) (d:Option Tmp) (l:Op×Option Tmp) (ls:List (Op×Option Tmp)) (rest:List GO) (v:AV):fp C K d (l::ls) rest s v H=dQ C (bd s d v) H (ea C K rest (bd s d v) H) (l::ls):=rfl
theorem uK (K:aj→J→Prop) (d:Option Tmp) (op:Op) (late:List (Op×Option Tmp)) (q th:Bool) (rest:List GO):ea C K (⟨d,op,none,late,th,q⟩::rest) s H=aZ (au C) C q th op s H (fp C K d late rest s):=rfl
theorem uL (K:aj→J→Prop) (d:Option Tmp) (op:Op) (t:Tmp) (w:Bool) (late:List (Op×Option Tmp)) (q th:Bool) (rest:List GO):ea C K (⟨d,op,some (some t,w),late,th,q⟩::rest) s H=hM C K (s.getD t .undef) w d op late th q rest s H:=rfl
variable (K:aj→J→Prop) (d:Option Tmp) (op:Op) (late:List (Op×Option Tmp)) (th q:Bool) (rest:List GO)
theorem uM:hM C K (.bool true) true d op late th q rest s H=aZ (au C) C q th op s H (fp C K d late rest s):=rZ _ _
theorem uN:hM C K (.bool false) false d op late th q rest s H=aZ (au C) C q th op s H (fp C K d late rest s):=r6 _ _
theorem uO:hM C K (.bool true) false d op late th q rest s H=fp C K d late rest s (.aC []) H:=r7 _ _
theorem uP:hM C K (.bool false) true d op late th q rest s H=fp C K d late rest s (.aC []) H:=r8 _ _
theorem uQ (l:List AV) (w:Bool):hM C K (.aC l) w d op late th q rest s H=fp C K d late rest s (.aC []) H:=rfl
theorem BE {α :Type} {c w:Bool} {x y:Option α} {r: α} {K:aj→J→Prop} {d:Option Tmp} {op:Op} {late:List (Op×Option Tmp)} {th q:Bool} {rest:List GO} (h:(bif c then x else y)=some r) (ht:c=true→x=some r→hM C K (.bool true) w d op late th q rest s H) (hf:c=false→y=some r→hM C K (.bool false) w d op late th q rest s H):hM C K (.bool c) w d op late th q rest s H:=by
 cases c with
 |true=>exact ht rfl h
 |false=>exact hf rfl h
variable (fz:List (Nat×List (List Nat×List Sh))) (i:Nat)
def fW (C:aF) (fz:List (Nat×List (List Nat×List Sh))) (K:aj→J→Prop) (d:Option Tmp) (rest:List GO) (i:Nat) (s:aj):AV→J→Prop:=fun v H=>fV C fz K rest (i+1) (bd s d v) H
def jX (C:aF) (fz:List (Nat×List (List Nat×List Sh))) (K:aj→J→Prop) (v:AV) (w:Bool) (d:Option Tmp) (op:Op) (th q:Bool) (rest:List GO) (i:Nat) (s:aj) (H:J):Prop:=gB v w (aZ (au C) C q th op s H (fW C fz K d rest i s)) (fW C fz K d rest i s (.aC []) H)
def po (C:aF) (fz:List (Nat×List (List Nat×List Sh))) (K:aj→J→Prop) (o:GO) (rest:List GO) (i:Nat):aj→J→Prop:=fun s H=>gW o.g s (aZ (au C) C o.q o.th o.op s H (fW C fz K o.d rest i s)) (fW C fz K o.d rest i s (.aC []) H)
theorem uR (o:GO):fV C fz K (o::rest) i s H=FZ ((fz.lookup i).getD []) s H (po C fz K o rest i):=rfl
theorem uS:po C fz K ⟨d,op,none,late,th,q⟩ rest i s H=aZ (au C) C q th op s H (fW C fz K d rest i s):=rfl
theorem uT (t:Tmp) (w:Bool):po C fz K ⟨d,op,some (some t,w),late,th,q⟩ rest i s H=jX C fz K (s.getD t .undef) w d op th q rest i s H:=rfl
theorem uU (v:AV):fW C fz K d rest i s v H=fV C fz K rest (i+1) (bd s d v) H:=rfl
theorem uV:jX C fz K (.bool true) true d op th q rest i s H=aZ (au C) C q th op s H (fW C fz K d rest i s):=rZ _ _
theorem uW:jX C fz K (.bool false) false d op th q rest i s H=aZ (au C) C q th op s H (fW C fz K d rest i s):=r6 _ _
theorem uX:jX C fz K (.bool true) false d op th q rest i s H=fW C fz K d rest i s (.aC []) H:=r7 _ _
theorem uY:jX C fz K (.bool false) true d op th q rest i s H=fW C fz K d rest i s (.aC []) H:=r8 _ _
theorem uZ (l:List AV) (w:Bool):jX C fz K (.aC l) w d op th q rest i s H=fW C fz K d rest i s (.aC []) H:=rfl
end
theorem u0 {β :Type} (i:Nat) (l: β) (r:List (Nat× β)):((i,l)::r).lookup i=some l:=by simp [List.lookup]
theorem u1 {β :Type} (i k:Nat) (l: β) (r:List (Nat× β)) (h:(i==k)=false):((k,l)::r).lookup i=r.lookup i:=by simp only [List.lookup,h]
theorem u2 {β :Type} (i:Nat):([]:List (Nat× β)).lookup i=none:=rfl
theorem u3 (all:List Oper) (q:Nat→Bool) (late:Nat→List Nat) (th:List Nat) (i:Nat):dR all q late th [] i=[]:=rfl
theorem u4 (all:List Oper) (q:Nat→Bool) (late:Nat→List Nat) (th:List Nat) (o:Oper) (rest:List Oper) (i:Nat):dR all q late th (o::rest) i=⟨o.dst,o.op,o.guard.map fun p=>(lk all p.1,p.2),(late i).map (jS all),th.contains i,q i⟩::dR all q late th rest (i+1):=rfl
theorem u5 (o:Oper) (os:List Oper):lk (o::os) 0=o.dst:=rfl
theorem u6 (o:Oper) (os:List Oper) (n:Nat):lk (o::os) (n+1)=lk os n:=rfl
theorem u7 (K:Ex→aj→J→Prop) (s:aj) (H:J):iz K s H=K .normal s H:=rfl
theorem u9 (E:aJ) (t:TypeId) (f:Nat):la E t f=match E t with
 |some ti=>match ti.aq with
  | .st fs=>match fs[f]? with
   |some (o,ft)=>match E ft with
    |some tf=>some (o,tf)
    |none=>none
   |none=>none
  |_=>none
 |none=>none:=rfl
theorem u_ (ti:TI) (hu:jh ti.aq=true) (xs:List AV) (n:Nat) {H:J} {K:AV→J→Prop}:eb (some ti) (.fz xs) (some n) H K=K (.int .i64 n) H:=by cases h:ti.aq<;>rw [h] at hu<;>simp [jh] at hu;exact y1 ti h xs n
theorem va (ti:TI) (hu:jh ti.aq=true) (n:Nat) {H:J} {K:AV→J→Prop}:eb (some ti) .nil (some n) H K=K (.int .i64 n) H:=by cases h:ti.aq<;>rw [h] at hu<;>simp [jh] at hu;exact y2 ti h n
theorem vb (ti:TI) (hu:jh ti.aq=true) (n:Nat) {H:J} {K:AV→J→Prop}:eb (some ti) .e0 (some n) H K=K (.int .i64 n) H:=by cases h:ti.aq<;>rw [h] at hu<;>simp [jh] at hu;exact y3 ti h n
theorem vd (ti:TI) (hu:ld ti.aq=true) (l:List UInt8) (n:Nat) {H:J} {K:AV→J→Prop}:eb (some ti) (.str l) (some n) H K=K (.int .i64 n) H:=by cases h:ti.aq<;>rw [h] at hu<;>simp [ld] at hu;exact y4 ti h l n
theorem ve (ta tb:TI) (n:Int) (H:J) (K:AV→J→Prop):pi (some ta) (some tb) n H K=match tb.aq with| .it k=>K (.int k (k.wrap n)) H|_=>False:=rfl
theorem vf (o:Nat) (tf:TI) (y:AV) (off:Nat) (h:(tf.sz==0)=false) {H:J} {K:AV→J→Prop}:iA (some (o,tf)) (.fe y off) H K=K (.fe y (off+o)) H:=yX o tf h y off
def pq (b:Option bI) (k:Prop):Prop:=match b with|some _=>k|none=>False
theorem vg (o:Nat) (tf:TI) (id ad idx off:Nat) (h:(tf.sz==0)=false) {H:J} {K:AV→J→Prop}:iA (some (o,tf)) (.ptr id ad idx off) H K=pq (H.ap id ad) (K (.ptr id ad idx (off+o)) H):=by
 rw [yY o tf h];rfl
theorem vh (b:bI) (k:Prop):pq (some b) k=k:=rfl
theorem vi {C:aF} {q th:Bool} {s:aj} {H:J} {K:AV→J→Prop} (x:Operand):aZ (au C) C q th (.nilCheck x) s H K=(match ev s x with| .ptr a b c d=>pq (H.ap a b) (K (.ptr a b c d) H)| .fe x o=>K (.fe x o) H|_=>False):=by
 rw [c6 _ rfl];simp only [aL];generalize ev s x=r;cases r<;>try rfl
 rename_i a b c d;simp only;cases H.ap a b<;>rfl
theorem vj (z:List AV) (b:Nat) (w:UD) (e:Bool) (cs:List AV) (off:Nat):bN ⟨1,false,z,b,w,e⟩ (.agg cs) off=cs[off]? :=by
 by_cases h:off<cs.length
 ·have e1:aG cs off 1=[cs[off]]:=by
   simp only [aG,List.drop_eq_getElem_cons h,List.take_succ_cons,List.take_zero]
  have e2:bN ⟨1,false,z,b,w,e⟩ (.agg cs) off=jl false (aG cs off 1):=if_pos (show off+1≤cs.length from h);rw [e2,e1,List.getElem?_eq_getElem h];rfl
 ·rw [List.getElem?_eq_none (by omega)]
  exact if_neg (show¬off+1≤cs.length from h)
theorem vk (z:List AV) (b:Nat) (w:UD) (e:Bool) (k:IntKind) (n:Int):bN ⟨1,false,z,b,w,e⟩ (.int k n) 0=some (.int k n):=rfl
theorem vl (z:List AV) (b:Nat) (w:UD) (e:Bool) (n:Bool):bN ⟨1,false,z,b,w,e⟩ (.bool n) 0=some (.bool n):=rfl
theorem vm (z:List AV) (b:Nat) (w:UD) (e:Bool) (n:List UInt8):bN ⟨1,false,z,b,w,e⟩ (.str n) 0=some (.str n):=rfl
theorem vn (z:List AV) (b:Nat) (w:UD) (e:Bool) (n:List AV):bN ⟨1,false,z,b,w,e⟩ (.fz n) 0=some (.fz n):=rfl
theorem vo (z:List AV) (b:Nat) (w:UD) (e:Bool):bN ⟨1,false,z,b,w,e⟩ .nil 0=some .nil:=rfl
theorem vp (z:List AV) (b:Nat) (w:UD) (e:Bool):bN ⟨1,false,z,b,w,e⟩ .e0 0=some .e0:=rfl
theorem vq (z:List AV) (b:Nat) (w:UD) (e:Bool) (a c d f:Nat):bN ⟨1,false,z,b,w,e⟩ (.ref a c d f) 0=some (.ref a c d f):=rfl
theorem vr (n:Nat) (z:List AV) (b:Nat) (w:UD) (e:Bool) (cs:List AV) (off:Nat):bN ⟨n,true,z,b,w,e⟩ (.agg cs) off=if off+n≤cs.length then some (.agg ((cs.drop off).take n)) else none:=rfl
theorem vt (ti:TI) (r:Bool) (neg:Bool):k_ (some ti) (some r) neg=if ti.agg then some (.bool (if neg then !r else r)) else none:=rfl
theorem vu (ti:TI) (x y:AV) (neg:Bool):hG (some ti) x y neg=match isNil ti.aq x y with|some b=>some (.bool (if neg then !b else b))|none=>none:=rfl
theorem vv (E:aJ) (d:Nat) (t:TypeId) (xs ys:List AV):dC E (d+1) t xs ys=match E t with
 |none=>none
 |some ti=>match ti.aq with
  | .it _=>match xs,ys with
   |[.int k a],[.int j b]=>if k=j then some (a==b) else none
   |_,_=>none
  | .bl=>match xs,ys with
   |[.bool a],[.bool b]=>some (a==b)
   |_,_=>none
  | .str=>match xs,ys with
   |[.str a],[.str b]=>some (a==b)
   |_,_=>none
  | .st fs=>if ti.j0 then gG E (dC E d) fs xs ys else none
  |_=>none:=rfl
theorem vw (E:aJ) (f:TypeId→List AV→List AV→Option Bool) (xs ys:List AV):gG E f [] xs ys=some true:=rfl
theorem vx (E:aJ) (f:TypeId→List AV→List AV→Option Bool) (o:Nat) (ft:TypeId) (fs:List (Nat×TypeId)) (xs ys:List AV):gG E f ((o,ft)::fs) xs ys=match E ft with
 |none=>none
 |some tf=>
  if o+tf.sz≤xs.length∧o+tf.sz≤ys.length then
   match f ft (aG xs o tf.sz) (aG ys o tf.sz) with
   |some b=>match gG E f fs xs ys with
    |some r=>some (b&&r)
    |none=>none
   |none=>none
  else none:=rfl
theorem vy (cs:List AV) (off n:Nat):aG cs off n=(cs.drop off).take n:=rfl
def mU (E:aJ) (t:TypeId) (ps:List (Nat×AV)) (H:J) (K:AV→J→Prop):Prop:=match E t with
 |some ti=>match ti.aq with
  | .st fs=>if !(fs.all fun f=>(E f.2).isSome)|| !(ti.zero.all cF) then False else cO ((fu (fun i=>match fs[i]? with|some (o,ft)=>(E ft).map fun tf=>(o,tf.sz)|none=>none) ti.zero ps).map .agg) H K
  | .ar n e=>match E e with
   |some te=>if !(ti.zero.all cF) then False else cO ((fu (fun i=>if i<n then some (i*te.sz,te.sz) else none) ti.zero ps).map .agg) H K
   |none=>False
  |_=>False
 |none=>False
theorem vz {C:aF} {q th:Bool} {s:aj} {H:J} {K:AV→J→Prop} (t:TypeId) (ps:Array (Nat×Operand)):aZ (au C) C q th (.build t ps) s H K=mU C.E t (ps.toList.map fun p=>(p.1,ev s p.2)) H K:=by
 rw [c6 _ rfl];simp only [aL,mU];cases C.E t with
 |none=>rfl
 |some ti=>
  simp only;cases ti.aq<;>try rfl
  ·rename_i fs;simp only;split
   ·rfl
   ·generalize Option.map AV.agg _=r;cases r<;>rfl
  ·rename_i n e;simp only;cases C.E e with
   |none=>rfl
   |some te=>
    simp only;split
    ·rfl
    ·generalize Option.map AV.agg _=r;cases r<;>rfl
theorem BF {E:aJ} {t:TypeId} {ps:List (Nat×AV)} {H:J} {K:AV→J→Prop} {ti:TI} {fs:List (Nat×TypeId)} {cs:List AV} (ht:E t=some ti) (hu:ti.aq= .st fs) (h1:(fs.all fun f=>(E f.2).isSome)=true) (h2:ti.zero.all cF=true)
 (hf:fu (fun i=>match fs[i]? with|some (o,ft)=>(E ft).map fun tf=>(o,tf.sz)|none=>none) ti.zero ps=some cs) (h:K (.agg cs) H):mU E t ps H K:=by
 simp only [mU,ht,hu,h1,h2,Bool.not_true,Bool.or_self,Bool.false_eq_true,if_false,hf];exact h
theorem vA {C:aF} {q th:Bool} {s:aj} {H:J} {K:AV→J→Prop} (f:FuncId) (cap:Array Operand):aZ (au C) C q th (.makeFunc (.func f) #[] cap) s H K=K (.fn f (cap.toList.map (ev s))) H:=by
 rw [c6 _ rfl];simp only [aL];rfl
theorem W:type_of% (And.intro @u0<|And.intro @ul<|And.intro @um<|And.intro @uo<|And.intro @uq<|And.intro @ur<|And.intro @uu<|And.intro @uw<|And.intro @ux<|And.intro @uy<|And.intro @uz<|And.intro @uA<|And.intro @uB<|And.intro @Bool.or_false<|And.intro @u1<|And.intro @u2<|And.intro @rY<|And.intro @uK<|And.intro @uL<|And.intro @uI<|And.intro @uJ<|And.intro @uM<|And.intro @uN<|And.intro @uO<|And.intro @uP<|And.intro @uQ<|And.intro @uR<|And.intro @uS<|And.intro @uT<|And.intro @uU<|And.intro @uV<|And.intro @uW<|And.intro @uX<|And.intro @uY<|And.intro @uZ<|
 And.intro @r9<|And.intro @r_<|And.intro @sa<|And.intro @sb<|And.intro @sd<|And.intro @se<|And.intro @sf<|And.intro @sg<|And.intro @si<|And.intro @sj<|And.intro @sk<|And.intro @sm<|And.intro @sn<|
 And.intro @so<|And.intro @sq<|And.intro @ss<|And.intro @su<|And.intro @sw<|And.intro @sx<|And.intro @sy<|And.intro @sA<|And.intro @sB<|And.intro @sC<|And.intro @sD<|And.intro @sE<|
 And.intro @tZ<|And.intro @t_<|And.intro @ua<|And.intro @sF<|And.intro @sG<|And.intro @sH<|And.intro @sI<|And.intro @sJ<|And.intro @sK<|And.intro @sL<|And.intro @sM<|And.intro @sN<|And.intro @sO<|
 And.intro @sP<|And.intro @sQ<|And.intro @sR<|And.intro @sT<|And.intro @sU<|And.intro @sV<|And.intro @sW<|And.intro @sY<|And.intro @sZ<|And.intro @s4<|And.intro @s7<|And.intro @s8<|And.intro @s9<|
 And.intro @tc<|And.intro @tg<|And.intro @tj<|And.intro @tn<|And.intro @tp<|And.intro @tq<|And.intro @tv<|And.intro @tw<|And.intro @tz<|And.intro @tA<|And.intro @tB<|And.intro @tC<|And.intro @tD<|
 And.intro @tE<|And.intro @tF<|And.intro @tG<|And.intro @tH<|And.intro @min2<|And.intro @max2<|And.intro @tK<|And.intro @tO<|And.intro @tP<|And.intro @tQ<|And.intro @tR<|And.intro @tS<|
 And.intro @tV<|And.intro @tW<|And.intro @tX<|And.intro @ub<|And.intro @uc<|And.intro @ud<|And.intro @uf<|And.intro @ug<|And.intro @uh<|And.intro @uC<|And.intro @uD<|And.intro @uE<|And.intro @uF<|
 And.intro @uG<|And.intro @u3<|And.intro @u4<|And.intro @u5<|And.intro @u6<|And.intro @u7<|And.intro @u9<|And.intro @u_<|And.intro @va<|And.intro @vb<|And.intro @vd<|And.intro @ve<|
 And.intro @vf<|And.intro @vg<|And.intro @vh<|And.intro @vi<|And.intro @vj<|And.intro @vk<|And.intro @vl<|And.intro @vm<|And.intro @vn<|And.intro @vo<|And.intro @vp<|And.intro @vq<|And.intro @vr<|And.intro @vt<|And.intro @vu<|
 And.intro @vv<|And.intro @vw<|And.intro @vx<|And.intro @vy<|And.intro @vz<|And.intro @vA<|And.intro @tL<|And.intro @tM<|And.intro @tN<|
 And.intro @List.set_cons_succ.{0}<|And.intro @List.set_cons_zero.{0}<|And.intro @List.getD_cons_succ.{0}<|And.intro @List.getD_cons_zero.{0}<|And.intro @Option.map_some.{0,0}<|And.intro @Option.map_none.{0,0}<|And.intro @List.map_nil.{0,0}<|And.intro @List.map_cons.{0,0}<|And.intro @List.contains_nil.{0}<|
 And.intro @List.getElem?_cons_succ.{0}<|And.intro @List.getElem?_cons_zero.{0}<|And.intro @List.length_map.{0,0}<|And.intro @List.drop_succ_cons.{0}<|And.intro @List.drop_zero.{0}<|And.intro @List.take_succ_cons.{0}<|And.intro @List.take_zero.{0}<|And.intro @List.length_cons.{0}<|And.intro @List.length_nil.{0}<|
 And.intro @if_true.{0}<|And.intro @if_false.{0}<|And.intro @Bool.not_true<|And.intro @Bool.not_false<|And.intro @Option.getD_none.{0}<|And.intro @Option.getD_some.{0}<|And.intro @List.cons_append.{0}<|And.intro @List.nil_append.{0}<|And.intro @and_self<|And.intro @and_true @true_and):=
 And.intro @u0<|And.intro @ul<|And.intro @um<|And.intro @uo<|And.intro @uq<|And.intro @ur<|And.intro @uu<|And.intro @uw<|And.intro @ux<|And.intro @uy<|And.intro @uz<|And.intro @uA<|And.intro @uB<|And.intro @Bool.or_false<|And.intro @u1<|And.intro @u2<|And.intro @rY<|And.intro @uK<|And.intro @uL<|And.intro @uI<|And.intro @uJ<|And.intro @uM<|And.intro @uN<|And.intro @uO<|And.intro @uP<|And.intro @uQ<|And.intro @uR<|And.intro @uS<|And.intro @uT<|And.intro @uU<|And.intro @uV<|And.intro @uW<|And.intro @uX<|And.intro @uY<|And.intro @uZ<|
 And.intro @r9<|And.intro @r_<|And.intro @sa<|And.intro @sb<|And.intro @sd<|And.intro @se<|And.intro @sf<|And.intro @sg<|And.intro @si<|And.intro @sj<|And.intro @sk<|And.intro @sm<|And.intro @sn<|
 And.intro @so<|And.intro @sq<|And.intro @ss<|And.intro @su<|And.intro @sw<|And.intro @sx<|And.intro @sy<|And.intro @sA<|And.intro @sB<|And.intro @sC<|And.intro @sD<|And.intro @sE<|
 And.intro @tZ<|And.intro @t_<|And.intro @ua<|And.intro @sF<|And.intro @sG<|And.intro @sH<|And.intro @sI<|And.intro @sJ<|And.intro @sK<|And.intro @sL<|And.intro @sM<|And.intro @sN<|And.intro @sO<|
 And.intro @sP<|And.intro @sQ<|And.intro @sR<|And.intro @sT<|And.intro @sU<|And.intro @sV<|And.intro @sW<|And.intro @sY<|And.intro @sZ<|And.intro @s4<|And.intro @s7<|And.intro @s8<|And.intro @s9<|
 And.intro @tc<|And.intro @tg<|And.intro @tj<|And.intro @tn<|And.intro @tp<|And.intro @tq<|And.intro @tv<|And.intro @tw<|And.intro @tz<|And.intro @tA<|And.intro @tB<|And.intro @tC<|And.intro @tD<|
 And.intro @tE<|And.intro @tF<|And.intro @tG<|And.intro @tH<|And.intro @min2<|And.intro @max2<|And.intro @tK<|And.intro @tO<|And.intro @tP<|And.intro @tQ<|And.intro @tR<|And.intro @tS<|
 And.intro @tV<|And.intro @tW<|And.intro @tX<|And.intro @ub<|And.intro @uc<|And.intro @ud<|And.intro @uf<|And.intro @ug<|And.intro @uh<|And.intro @uC<|And.intro @uD<|And.intro @uE<|And.intro @uF<|
 And.intro @uG<|And.intro @u3<|And.intro @u4<|And.intro @u5<|And.intro @u6<|And.intro @u7<|And.intro @u9<|And.intro @u_<|And.intro @va<|And.intro @vb<|And.intro @vd<|And.intro @ve<|
 And.intro @vf<|And.intro @vg<|And.intro @vh<|And.intro @vi<|And.intro @vj<|And.intro @vk<|And.intro @vl<|And.intro @vm<|And.intro @vn<|And.intro @vo<|And.intro @vp<|And.intro @vq<|And.intro @vr<|And.intro @vt<|And.intro @vu<|
 And.intro @vv<|And.intro @vw<|And.intro @vx<|And.intro @vy<|And.intro @vz<|And.intro @vA<|And.intro @tL<|And.intro @tM<|And.intro @tN<|
 And.intro @List.set_cons_succ.{0}<|And.intro @List.set_cons_zero.{0}<|And.intro @List.getD_cons_succ.{0}<|And.intro @List.getD_cons_zero.{0}<|And.intro @Option.map_some.{0,0}<|And.intro @Option.map_none.{0,0}<|And.intro @List.map_nil.{0,0}<|And.intro @List.map_cons.{0,0}<|And.intro @List.contains_nil.{0}<|
 And.intro @List.getElem?_cons_succ.{0}<|And.intro @List.getElem?_cons_zero.{0}<|And.intro @List.length_map.{0,0}<|And.intro @List.drop_succ_cons.{0}<|And.intro @List.drop_zero.{0}<|And.intro @List.take_succ_cons.{0}<|And.intro @List.take_zero.{0}<|And.intro @List.length_cons.{0}<|And.intro @List.length_nil.{0}<|
 And.intro @if_true.{0}<|And.intro @if_false.{0}<|And.intro @Bool.not_true<|And.intro @Bool.not_false<|And.intro @Option.getD_none.{0}<|And.intro @Option.getD_some.{0}<|And.intro @List.cons_append.{0}<|And.intro @List.nil_append.{0}<|And.intro @and_self<|And.intro @and_true @true_and
end Go.VS
namespace Go.VS
def iC:List (Nat×List Nat)→Nat→List Nat
 |[],_=>[]
 |(a,l)::t,i=>if i=a then l else iC t i
def lh:List Nat→Nat→Bool
 |[],_=>true
 |a::t,i=>if i=a then false else lh t i
theorem vB: ∀(ls:List Nat) (i:Nat),(!ls.contains i)=lh ls i
 |[],_=>rfl
 |a::t,i=>by
  have:=vB t i;unfold lh;by_cases h:i=a
  ·simp [h]
  ·rw [if_neg h,←this];simp [h]
theorem zi {f:Nat→List Nat}: ∀(hN:List (Nat×List Nat)) (_:hN.all (fun p=>f p.1==p.2)=true) (_: ∀i,i∉hN.map (·.1)→f i=[]) (i:Nat),f i=iC hN i
 |[],_,h,i=>h i (by simp)
 |(a,l)::t,h1,h2,i=>by
  simp only [List.all_cons,Bool.and_eq_true,beq_iff_eq] at h1;unfold iC;by_cases h:i=a
  ·rw [if_pos h,h];exact h1.1
  ·rw [if_neg h];by_cases hm:i∈t.map (·.1)
   ·clear h2;have go: ∀(t:List (Nat×List Nat)),t.all (fun p=>f p.1==p.2)=true→i∈t.map (·.1)→f i=iC t i:=by
     intro t;induction t with
     |nil=>intro _ hm;simp at hm
     |cons p t ih=>
      intro h1 hm;simp only [List.all_cons,Bool.and_eq_true,beq_iff_eq] at h1;obtain ⟨a,l⟩:=p;unfold iC;by_cases h:i=a
      ·rw [if_pos h,h];exact h1.1
      ·rw [if_neg h];exact ih h1.2 (by simpa [h] using hm)
    exact go t h1.2 hm
   ·have e:f i=[]:=h2 i (by simp only [List.map_cons,List.mem_cons,not_or];exact ⟨h,hm⟩)
    rw [e];clear h1 h2;induction t with
    |nil=>rfl
    |cons p t ih=>
     obtain ⟨b,m⟩:=p;simp only [List.map_cons,List.mem_cons,not_or] at hm;unfold iC;rw [if_neg hm.1];exact ih hm.2
section
variable {C:aF} {s:aj} {H:J} {K:Ex→aj→J→Prop}
theorem BG (gC:Good C) {id:Nat} {ops:List Oper} {ls th:List Nat} {fz:List (Nat×List (List Nat×List Sh))} (hN:List (Nat×List Nat)) (hd:ia ops.toArray ls=true) (h1:hN.map (·.1)=ls) (h2:hN.all (fun p=>fB ops.toArray ls p.1==p.2)=true)
 (h:ea C (iz K) (dR ops (lh ls) (iC hN) th ops 0) s H):aM (au C) C (.region id ops.toArray true ls th fz) s H K:=by
 refine rW gC hd ?_;have e1:(fun i=> !ls.contains i)=lh ls:=funext (vB ls);have e2:fB ops.toArray ls=iC hN:=funext (zi hN h2 (fun i hi=>by
  unfold fB;rw [h1] at hi;rw [if_neg (by simpa using hi)]))
 rw [e1,e2];exact h
end
theorem BH {C:aF} {K:aj→J→Prop} {d:Option Tmp} {l:List (Op×Option Tmp)} {rest:List GO} {s:aj} {v:AV} {H:J} (h:dQ C (bd s d v) H (fp C K d [] rest s v H) l):fp C K d l rest s v H:=h
theorem BI {C:aF} {s:aj} {H:J} {P:Prop} {op:Op} {t:Tmp} {js:List (Op×Option Tmp)} (h1:aL C.E op s H=some (s.getD t .undef,H)) (h:dQ C s H P js):dQ C s H P ((op,some t)::js):=⟨⟨t,rfl,h1⟩,h⟩
theorem BJ {C:aF} {s:aj} {H:J} {P:Prop} (h:P):dQ C s H P []:=h
theorem zj {x:Int} (h: -9223372036854775808≤x∧x≤9223372036854775807):IntKind.i64.wrap x=x:=IntWalk.i64_in x (by omega)
end Go.VS
namespace Go.VS
section
variable {C:aF} {H:J} {L:List It}
theorem BK (π :List Nat) (l:List Oper):lr π l= π.map (fun i=>eV π (l.getD i default)):=rfl
theorem BL (π :List Nat) (o:Oper):(eV π o).dst=o.dst:=rfl
theorem BM (π :List Nat) (o:Oper):(eV π o).op=o.op:=rfl
theorem BN (π :List Nat) (o:Oper):(eV π o).guard=o.guard.map (fun p=>(cW π p.1,p.2)):=rfl
theorem BO (a:Nat) (l:List Nat) (i:Nat):cW (a::l) i=if a=i then 0 else cW l i+1:=by
 unfold cW;rw [List.idxOf_cons];by_cases h:a=i
 ·simp [h]
 ·have:(a==i)=false:=by simpa using h
  simp [h,this]
theorem BP {C:aF} {th:Bool} {s:aj} {H:J} {K:AV→J→Prop} {a b:Operand} {t u:TypeId} (h0:ey .append [ev s a,ev s b]=true) (h:cz (cp C.E .append #[t,u] [ev s a,ev s b] H) K):aZ (au C) C true th (.call {callee:= .builtin .append,args:= #[a,b],argTypes:= #[t,u]}) s H K:=by
 unfold aZ wpOp;refine ⟨fun _=>h0,?_⟩;unfold cz at h;exact h
theorem BQ (f:AV→Option AV):([]:List AV).mapM f=some []:=rfl
theorem zk {f:AV→Option AV} {c y:AV} {cs ys:List AV} (h1:f c=some y) (h2:cs.mapM f=some ys):(c::cs).mapM f=some (y::ys):=by
 simp [List.mapM_cons,h1,h2]
theorem vC {f:AV→Option AV}: ∀(cs:List AV),(∀c∈cs,f c=some c)→cs.mapM f=some cs
 |[],_=>rfl
 |c::cs,h=>zk (h c (by simp)) (vC cs fun d hd=>h d (by simp [hd]))
theorem BR {n:Nat} {cs ys:List AV} (h:cs.mapM (aP n H)=some ys):aP (n+1) H (.agg cs)=some (.agg ys):=by
 simp only [aP,h,Option.map_some]
theorem BS {n:Nat} {f:FuncId} {cs ys:List AV} (h:cs.mapM (aP n H)=some ys):aP (n+1) H (.fn f cs)=some (.fn f ys):=by
 simp only [aP,h,Option.map_some]
theorem BT {α :Type} {n:Nat} (hS:ay H L) (j:Nat) {v:AV} {sz:Nat} {l:List α} {c: α →AV} (hj:L[j]? =some ⟨v,sz,l.map c⟩) (hp:bm v) (hc: ∀x,aP n H (c x)=some (c x)):aP (n+1) H v=some (.fz (l.map c)):=by
 obtain ⟨k0,af⟩:=hS.ok j _ hj;simp only at af;rcases hp.ok with rfl|rfl|⟨id,ad,off,len,rfl⟩
 ·simp only at af;simp only [aP,af]
 ·simp only at af;simp only [aP,af]
 ·simp only at af;obtain ⟨k1,b,hb,k2,k3,k4,k5⟩:=af;simp only [aP,hb];rw [if_pos k4,k5,vC (l.map c) (by
   intro d hd;obtain ⟨x,_,rfl⟩:=List.mem_map.1 hd;exact hc x),Option.map_some]
theorem BU {n o:Nat} (hS:ay H L) (j:Nat) {id ad sz:Nat} {a y:AV} (hj:L[j]? =some ⟨.ptr id ad 0 0,sz,[a]⟩) (h:aP n H a=some y):aP (n+1) H (.ptr id ad 0 o)=some (.fe y o):=by
 simp only [aP,hS.var j hj,List.getElem?_cons_zero,h,Option.map_some]
theorem BV:b6 [] [] H=some ([],false):=rfl
theorem BW {v y:AV} {vs ys:List AV} {b:Bool} (h1:aP 8 H v=some y) (h2:b6 [] vs H=some (ys,b)):b6 [] (v::vs) H=some (y::ys,eI v||b):=by
 simp only [b6,h1,h2]
def TV (bO:List (List Sh)) (rs:List AV) (H:J) (K:List AV→Prop):Prop:= ∃zs H',cX bO rs H=some (zs,H')∧K zs
theorem BX {bO:List (List Sh)} {K:List AV→Prop} (h:K []):TV bO [] H K:=⟨[],H,rfl,h⟩
theorem pr {e:List Sh} {bO:List (List Sh)} {v y:AV} {rs:List AV} {H1:J} {K:List AV→Prop} (ht:aX e v H=some (y,H1)) (h:TV bO rs H1 fun zs=>K (y::zs)):TV (e::bO) (v::rs) H K:=by
 obtain ⟨zs,H',h1,h2⟩:=h;exact ⟨y::zs,H',by simp only [cX,List.headD_cons,List.tail_cons,ht,h1],h2⟩
theorem zl {v:AV} (hp:dl v=true) (H:J):aX [.sc] v H=some (v,H):=by
 cases v<;>simp [dl] at hp<;>simp [aX,aO,dl]
theorem BY {bO:List (List Sh)} {v:AV} {rs:List AV} {K:List AV→Prop} (hp:dl v=true) (h:TV bO rs H fun zs=>K (v::zs)):TV ([.sc]::bO) (v::rs) H K:=
 pr (zl hp H) h
theorem BZ {α :Type} {bO:List (List Sh)} {es:List Sh} {v:AV} {rs:List AV} {K:List AV→Prop} {m:List α} {c: α →AV} (j:Nat) (hS:ay H L) (hj:L[j]? =some ⟨v,es.length,m.map c⟩) (hp:bm v) (hc: ∀x H,aX es (c x) H=some (c x,H))
 (h: ∀H',ay H' (L.eraseIdx j)→TV bO rs H' fun zs=>K (.own es.length (m.map c)::zs)):TV ([.sl es]::bO) (v::rs) H K:=by
 obtain ⟨H',h1,h2⟩:=hS.take j hj hp hc;exact pr h1 (h H' h2)
theorem B0 {bO:List (List Sh)} {es:List Sh} {cs:List AV} {rs:List AV} {K:List AV→Prop} (h:TC es cs H fun ys H' =>TV bO rs H' fun zs=>K (.agg ys::zs)):TV (es::bO) (.agg cs::rs) H K:=by
 obtain ⟨ys,H',h1,h2⟩:=h;exact pr (by simp only [aX,h1]) h2
theorem B1 {bO:List (List Sh)} {rs:List AV} {y v:AV} (hv:v=b9 rs) (h:TV bO rs H fun zs=>y=b9 zs): ∃rs zs L2,v=b9 rs∧cX bO rs H=some (zs,L2)∧y=b9 zs:=by
 obtain ⟨zs,H',h1,h2⟩:=h;exact ⟨rs,zs,H',hv,h1,h2⟩
def TH (ys:List AV) (H:J) (K:List AV→J→Prop):Prop:=K (aE ys H).1 (aE ys H).2
theorem B2 {K:List AV→J→Prop} (h:K [] H):TH [] H K:=h
theorem B3 {y:AV} {ys:List AV} {K:List AV→J→Prop} (hp: ∀H,aD y H=(y,H)) (h:TH ys H fun zs H' =>K (y::zs) H'):TH (y::ys) H K:=by
 unfold TH at h⊢;simp only [aE,hp H];exact h
theorem vD {α :Type} {c: α →AV} (hc: ∀x H,aD (c x) H=(c x,H)): ∀(l:List α) (H:J),aE (l.map c) H=(l.map c,H)
 |[],_=>rfl
 |x::l,H=>by simp only [List.map_cons,aE,hc x H,vD hc l H]
theorem B4 {α :Type} {sz:Nat} {m:List α} {c: α →AV} {ys:List AV} {K:List AV→J→Prop} (hS:ay H L) (hc: ∀x H,aD (c x) H=(c x,H)) (hz: ∀x,(c x).cells.length=sz)
 (h: ∀v H',bm v→ay H' (⟨v,sz,m.map c⟩::L)→TH ys H' fun zs gq=>K (v::zs) gq):TH (.own sz (m.map c)::ys) H K:=by
 have hs:bC sz (m.map c)=true:=by simp [bC,hz]
 have:=h _ _ (gE H.bs.length H.st 0 (m.map c).length) (hS.mO (all:=m.map c) (List.take_of_length_le (Nat.le_refl _)) rfl hs);unfold TH at this⊢;simp only [aE,aD,vD hc m H];exact this
theorem B5 {cs ys:List AV} {K:List AV→J→Prop} (h:TH cs H fun ds H' =>TH ys H' fun zs gq=>K (.agg ds::zs) gq):TH (.agg cs::ys) H K:=by
 unfold TH at h⊢;simp only [aE,aD];exact h
theorem B6 {y:AV} {K:AV→J→Prop} (h:TH [y] H fun zs H' =>K (zs.headD .undef) H'):K (aD y H).1 (aD y H).2:=by
 unfold TH at h;simp only [aE] at h;exact h
theorem B7 {ys:List AV} {K:AV→J→Prop} (h:TH ys H fun zs H' =>K (.aC zs) H'):K (aD (.aC ys) H).1 (aD (.aC ys) H).2:=by
 unfold TH at h;simp only [aD];exact h
variable {q th:Bool} {K:AV→J→Prop}
theorem B8 {α β :Type} {g:FuncId} {bJ args ys:List AV} {bS:Bool} {o:Option α} {f: α →Option β} {r: β} {bO:List (List Sh)} (h:o.bind f=some r) (hr:(C.fy g).bO=bO) (hp:b6 [] (args ++ bJ) H=some (ys,bS))
 (hk: ∀x,o=some x→f x=some r→ ∃y,au C g ys ⟨0,[]⟩ (fun v L=> ∃rs zs L2,v=b9 rs∧cX bO rs L=some (zs,L2)∧y=b9 zs)∧(cb y=true∧bn y=y∧ ∀H,aD y H=(y,H))∧K y H):jV C q th (.fn g bJ) args H K:=by
 refine pj h hr hp fun x hx hf=> ?_;obtain ⟨y,h1,⟨h2,h3,h4⟩,h5⟩:=hk x hx hf;refine ⟨y,h1,.inr h2,?_⟩;rw [h3,h4 H];split<;>exact h5
theorem B9 {α β :Type} {g:FuncId} {bJ args ys:List AV} {bS:Bool} {o:Option α} {f: α →Option β} {r: β} {bO:List (List Sh)} (h:o.bind f=some r) (hr:(C.fy g).bO=bO) (hp:b6 [] (args ++ bJ) H=some (ys,bS))
 (hk: ∀x,o=some x→f x=some r→ ∃y,au C g ys ⟨0,[]⟩ (fun v L=> ∃rs zs L2,v=b9 rs∧cX bO rs L=some (zs,L2)∧y=b9 zs)∧cb y=true∧K (aD y H).1 (aD y H).2):jV C q true (.fn g bJ) args H K:=by
 refine pj h hr hp fun x hx hf=> ?_;obtain ⟨y,h1,h2,h5⟩:=hk x hx hf;refine ⟨y,h1,.inr h2,?_⟩;simpa using h5
theorem B_ {α β :Type} {g:FuncId} {bJ args ys:List AV} {o:Option α} {f: α →Option β} {r: β} {bO:List (List Sh)} (h:o.bind f=some r) (hr:(C.fy g).bO=bO) (hp:b6 [] (args ++ bJ) H=some (ys,false))
 (hk: ∀x,o=some x→f x=some r→ ∃y,au C g ys ⟨0,[]⟩ (fun v L=> ∃rs zs L2,v=b9 rs∧cX bO rs L=some (zs,L2)∧y=b9 zs)∧K (bn y) H):jV C q false (.fn g bJ) args H K:=by
 refine pj h hr hp fun x hx hf=> ?_;obtain ⟨y,h1,h5⟩:=hk x hx hf;exact ⟨y,h1,.inl rfl,h5⟩
theorem vE {α :Type} {c: α →AV} (hc: ∀x,cb (c x)=true): ∀(l:List α),dV (l.map c)=true
 |[]=>rfl
 |x::l=>by simp only [List.map_cons,dV,hc x,vE hc l,Bool.and_self]
theorem Ca {α :Type} {c: α →AV} (sz:Nat) (hc: ∀x,cb (c x)=true) (l:List α):cb (.own sz (l.map c))=true:=by
 simp only [cb];exact vE hc l
theorem Cb:dV []=true:=rfl
theorem Cc {y:AV} {ys:List AV} (h1:cb y=true) (h2:dV ys=true):dV (y::ys)=true:=by simp only [dV,h1,h2,Bool.and_self]
theorem Cd {ys:List AV} (h:dV ys=true):cb (.agg ys)=true:=by simp only [cb];exact h
theorem Ce {ys:List AV} (h:dV ys=true):cb (.aC ys)=true:=by simp only [cb];exact h
end
end Go.VS
namespace Go.VS
def vF (t b:TypeId):Code:=
 (Go.Code.seq
  (Go.Code.region 0 #[{dst:=some 2,op:=Go.Op.assign (Go.Operand.const (Go.Value.slice none 0 0)),type:=t,pos:= "slices.go:355",after:= #[],guard:=none}] false)
  (Go.Code.seq
   (Go.Code.seq
    (Go.Code.region 1
     #[{dst:=some 3,op:=Go.Op.move (Go.Operand.tmp 0),type:=t,pos:= "slices.go:357",after:= #[],guard:=none},
      {dst:=some 4,op:=Go.Op.binOp Go.BinOp.eql t (Go.Operand.tmp 3) (Go.Operand.const (Go.Value.slice none 0 0)) t,type:=b,pos:= "slices.go:357",after:= #[{on:=0,ground:=Go.Ground.data}],guard:=none}]
     false)
    (Go.Code.cond (Go.Operand.tmp 4)
     (Go.Code.seq
      (Go.Code.region 2 #[{dst:=some 2,op:=Go.Op.assign (Go.Operand.const (Go.Value.slice none 0 0)),type:=t,pos:= "slices.go:358",after:= #[],guard:=none}] false)
      Go.Code.ret)
     Go.Code.skip))
   (Go.Code.seq
    (Go.Code.region 3
     #[{dst:=some 5,op:=Go.Op.buildSlice t 0 #[],type:=t,pos:= "slices.go:362",after:= #[],guard:=none},
      {dst:=some 6,op:=Go.Op.move (Go.Operand.tmp 0),type:=t,pos:= "slices.go:362",after:= #[],guard:=none},
      {dst:=some 7,op:=Go.Op.call {callee:=Go.Callee.builtin Go.Builtin.append,args:= #[Go.Operand.tmp 5,Go.Operand.tmp 6],argTypes:= #[t,t]},type:=t,pos:= "slices.go:362",after:= #[{on:=0,ground:=Go.Ground.data},{on:=1,ground:=Go.Ground.data}],guard:=none},
      {dst:=some 2,op:=Go.Op.assign (Go.Operand.tmp 7),type:=t,pos:= "slices.go:362",after:= #[{on:=2,ground:=Go.Ground.data},{on:=2,ground:=Go.Ground.chain},{on:=0,ground:=Go.Ground.phase},{on:=1,ground:=Go.Ground.phase},{on:=2,ground:=Go.Ground.phase}],guard:=none}]
     false)
    Go.Code.ret)))
def jY:bD:=fun _ _ _ _=>False
def gF (E:aJ):aF:=⟨E,fun _=>{},fun _=>none,jY⟩
theorem zm {w:World} {H:J} {φ :ag} {A:ah} {xs:List AV} {v:Value} (h:R w H φ A (.fz xs) v): ∃a cap,v= .slice a xs.length cap:=by
 cases h.dz with
 |cA a cap=>exact ⟨a,cap,rfl⟩
 |fz _ c off cap n arr T fr=>exact ⟨_,_,rfl⟩
theorem zn {P:Program} {w:World} {t e:TypeId} {a:Option Addr} {n cap:Nat} (h:(underlying t).run P w= .ok (.slice e) w) (d:Nat): ∃b,(Op.equalIn (d+1) t (.slice a n cap) (.slice none 0 0)).run P w= .ok b w∧(b=true→a=none):=by
 cases a with
 |none=>exact ⟨true,by simp [Op.equalIn,h],fun _=>rfl⟩
 |some a=>exact ⟨false,pP h d,by simp⟩
theorem zo: ∀c:Code,cP {} c=true:=by
 intro c;induction c with
 |seq a b fT fU=>simp [cP,fT,fU]
 |cond c a b fT fU=>simp [cP,fT,fU]
 |block id a ih=>simp [cP,ih]
 |loop a ih=>simp [cP,ih]
 |region id ops draw=>simp [cP]
 |_=>simp [cP]
section
variable {P:Program} {E:aJ}
theorem zp (hm:P.follows .mixedOrders=true) (hE: ∀t ti,E t=some ti→aT P t ti) {f:FuncId} {fn:Func} {t b e:TypeId} {ti te:TI} (hf:P.funcs[f]? =some fn) (oQ:(fn.name== "runtime.NumGoroutine")=false)
 (hb:fn.body=some (vF t b)) (hr:fn.results= #[.tmp 2]) (hn:fn.ntmps=8) (ht:E t=some ti) (hu:ti.aq= .sl e) (he:E e=some te) (xs:List AV) (H:J) (hz:bC te.sz xs=true) (h0:te.sz≠0) (dP:roomy xs.length te.bytes=true):
 cV P f [.fz xs] H (fun v H' =>v=(if xs=[] then .e0 else .ref H.bs.length H.st 0 xs.length)∧H' =(if xs=[] then H else H.new te.sz false xs)):=by
 have dg:Exact jY:=fun _ _ _ _ h=>h.elim;have hX: ∀f ys H K,jY f ys H K→cV P f ys H K:=fun _ _ _ _ h=>h.elim;have hD:mb P (gF E) jY:=rM (C:=gF E) dg hm hE hX;have pu:=fun (c:Code) s H K Q w φ A a h=>rh (P:=P) (C:=gF E) (X:=jY) hm hE hX hD {} c 0 s H K Q w φ A a (zo c) h;refine ⟨⟨fn,hf,oQ,by simp [hb]⟩,fun w A φ us ae hl fL=> ?_⟩
 refine calls_of_wp hf hb ?_;rw [hn];obtain ⟨v,rfl⟩: ∃v,us= #[v]:=by
  match us,hl with
  |⟨[v]⟩,_=>exact ⟨v,rfl⟩
 have hv:R w H φ A (.fz xs) v:=fL 0 _ _ rfl rfl;have ef:SF w H φ A [.fz xs,.undef,.undef,.undef,.undef,.undef,.undef,.undef] {tmps:= #[v] ++ Array.replicate (8-1) undef,defers:=[]}:=by
  refine ⟨rfl,fun i x u hx hu=> ?_,rfl⟩
  match i with
  |0=>simp at hx hu;subst hx;subst hu;exact hv
  |i+1=>
   have:x= .undef:=by
    match i with
    |0|1|2|3|4|5|6=>simpa using hx.symm
    |i+7=>simp at hx
   subst this;exact .fr _ _ (.undef _)
 have fin: ∀(s' :aj) (H' :J) (ak:ag) (A' :ah) (a' :Act) (w' :World) (x:AV),Out w H φ A w' H' ak A' →SF w' H' ak A' s' a' →s'.getD 2 .undef=x→(∀u,R w' H' ak A' x u→ ∃y,R w' H' ak A' y u∧(y=(if xs=[] then .e0 else .ref H.bs.length H.st 0 xs.length)∧H' =(if xs=[] then H else H.new te.sz false xs)))→
  a'.defers=[]∧ ∃v,(results fn a'.tmps).run P w' = .ok v w' ∧il w H φ A (fun v H' =>v=(if xs=[] then .e0 else .ref H.bs.length H.st 0 xs.length)∧H' =(if xs=[] then H else H.new te.sz false xs)) (.returned v) w' :=by
  intro s' H' ak A' a' w' x h1 h2 hx hy
  refine ⟨h2.eF,?_⟩;obtain ⟨cw,k1,k2,k3⟩:=rj (P:=P) (C:=gF E) hE h1.st h2 (fn:=fn) (rs:=[x]) (by rw [hr];simp only [dy,hx,Option.map_some])
  obtain ⟨u,rfl⟩: ∃u,cw=[u]:=by
   match cw,k2 with
   |[u],_=>exact ⟨u,rfl⟩
  obtain ⟨y,zq,zr⟩:=hy u (k3 0 x u rfl rfl);exact ⟨_,k1,y,H',ak,A',h1,by simpa [gV] using zq,zr⟩
 refine wp_seq (pu _ _ H (fun e s1 H1=>e= .normal∧s1=[.fz xs,.undef,.nil,.undef,.undef,.undef,.undef,.undef]∧H1=H) _ w φ A _ ?_ ae ef ?_)
 ·simp [cQ,jq,hZ,fw,aM,cG,dx,wpOp,dF,aL,ev,ofValue,bd,gF]
 rintro e1 s1 H1 φ1 A1 a1 w1 o1 cB ⟨rfl,rfl,rfl⟩;show (Code.seq _ _).wp P _ a1 w1;have kX:=o1.st;refine wp_seq (wp_seq (wp_region_list ?_));simp only [wpList];rw [if_pos (by simp [Region.wanted])]
 refine .inl (l7 (C:=gF E) (X:=jY) hE hX kX (s:=[.fz xs,.undef,.nil,.undef,.undef,.undef,.undef,.undef]) (fun x _=>cB.ev x) (th:=false) (K:=fun x H' =>x= .fz xs∧H' =H1) (by simp [wpOp,dF,aL,ev]) ?_)
 rintro x3 v3 w3 H3 cN A3 o3 pv ⟨rfl,rfl⟩;have zt:=(cB.mono o3.bW).set (some 3) pv;have kW:=o3.st;rw [if_pos (by simp [Region.wanted])]
 have zu:(a1.put (some 3) v3).eval (.tmp 3)=v3:=by
  have:a1.tmps.size=8:=by have:=cB.len;simpa using this.symm
  simp [Act.eval,Act.put,this]
 obtain ⟨a0,cap,rfl⟩:=zm pv;obtain ⟨bb,vG,zw⟩:=zn (a:=a0) (n:=xs.length) (cap:=cap) ((hE t ti ht).sl w3 hu) 9999;have zx:cd w3 H3 cN A3 H3 ((execOp (a1.put (some 3) (.slice a0 xs.length cap)).eval {dst:=some 4,op:=Go.Op.binOp Go.BinOp.eql t (Go.Operand.tmp 3) (Go.Operand.const (Go.Value.slice none 0 0)) t,type:=b,pos:= "slices.go:357",after:= #[{on:=0,ground:=Go.Ground.data}],guard:=none}).run P w3) (.bool bb):=by
  have hg:=ic P w3 .eql t (.tmp 3) (.const (.slice none 0 0)) (.slice a0 xs.length cap) (.slice none 0 0) (by simp) rfl
  have zy:binOp .eql t (.slice a0 xs.length cap) (.slice none 0 0)=(do pure (.bool (←Op.equal t (.slice a0 xs.length cap) (.slice none 0 0)))):=rfl
  rw [←nr] at vG;refine cd.kz kW (.inl rfl) (a9.fj kW ⟨.bool bb,?_,.fr _ _ (.bool _)⟩);rw [zu];show (do eqGuard .eql t (.tmp 3) (.const (.slice none 0 0)) (.slice a0 xs.length cap) (.slice none 0 0);binOp .eql t (.slice a0 xs.length cap) (.slice none 0 0):Sem Value).run P w3=_
  simp [hg,zy,vG]
 refine .inl (zx.upon fun v4 w4 vH A4 o4 zB=> ?_);have vI:=(zt.mono o4.bW).set (some 4) zB;have pw:=o4.st;have vJ:Out w H3 φ A w4 H3 vH A4:=o1.trans ae (o3.trans kX (o4.trans kW (.refl pw)));simp only [bd,List.set_cons_succ,List.set_cons_zero] at vI;simp only [Exit.then];refine pu _ [.fz xs,.undef,.nil,.fz xs,.bool bb,.undef,.undef,.undef] H3 (fun e s' H' =>H' =H3∧if bb=true then e= .ret∧s' =[.fz xs,.undef,.nil,.fz xs,.bool bb,.undef,.undef,.undef] else e= .normal∧s' =[.fz xs,.undef,.nil,.fz xs,.bool bb,.undef,.undef,.undef]) _ w4 vH A4 _ ?_ pw vI ?_
 ·cases bb
  ·simp [cQ,lq,aM,ev,gF]
  ·simp [cQ,lq,jq,hZ,fw,aM,cG,dx,wpOp,dF,aL,ev,ofValue,bd,gF];exact ⟨_,_,⟨rfl,rfl⟩,rfl,rfl⟩
 rintro e5 s5 H5 zC A5 a5 w5 o5 vK ⟨rfl,mV⟩;cases bb with
 |true=>
  simp only [if_true] at mV;obtain ⟨rfl,rfl⟩:=mV;obtain rfl:=zw rfl;have dM:xs=[]:=by
   cases Cf:pv.dz with
   |cA=>rfl
  subst dM;show (bodyPost P fn _) .ret a5 w5;refine fin _ _ _ _ _ _ .nil (vJ.trans ae o5) vK rfl fun u hu=>⟨.e0,?_,by simp⟩
  have:=hu.cY;subst this;exact .fr _ _ (.e0 none)
 |false=>
  simp only [Bool.false_eq_true,if_false] at mV;obtain ⟨rfl,rfl⟩:=mV;show (Code.seq _ _).wp P _ a5 w5;refine pu _ [.fz xs,.undef,.nil,.fz xs,.bool false,.undef,.undef,.undef] H5 (fun e s' H' =>e= .ret∧s'.getD 2 .undef=(if xs=[] then .e0 else .ref H5.bs.length H5.st 0 xs.length)∧H' =(if xs=[] then H5 else H5.new te.sz false xs)) _ w5 zC A5 a5 ?_ o5.st vK ?_
  ·by_cases dM:xs=[]
   ·subst dM;simp [cQ,jq,hZ,fw,aM,cG,dx,wpOp,dF,aL,ev,bd,gF,cm,ht,hu,he,cp,dw,ct,bC,h0];refine ⟨_,_,⟨rfl,rfl⟩,_,_,⟨rfl,rfl⟩,_,_,⟨rfl,rfl⟩,?_⟩;simp
   ·have hlen: ¬xs.length=0:=by simpa using dM
    simp [cQ,jq,hZ,fw,aM,cG,dx,wpOp,dF,aL,ev,bd,gF,cm,ht,hu,he,cp,dw,ct,h0,dM];refine ⟨_,_,⟨rfl,rfl⟩,_,_,⟨rfl,rfl⟩,_,_,⟨rfl,rfl⟩,?_⟩;simp [hz,dP,dM]
  ·rintro e6 s6 H6 Cg A6 a6 w6 o6 zD ⟨rfl,zE,rfl⟩;show (bodyPost P fn _) .ret a6 w6;exact fin _ _ _ _ _ _ _ (vJ.trans ae (o5.trans pw o6)) zD zE fun u hu=>⟨_,hu,rfl,rfl⟩
def px (ids:List (FuncId×Nat×Nat)):bD:=fun f ys H K=> ∃sz b xs,(f,sz,b)∈ids∧ys=[.fz xs]∧bC sz xs=true∧sz≠0∧roomy xs.length b=true∧K (if xs=[] then .e0 else .ref H.bs.length H.st 0 xs.length) (if xs=[] then H else H.new sz false xs)
structure zF (P:Program) (E:aJ) (f:FuncId) (sz b:Nat):Prop where
 out: ∃fn t bt e ti te,P.funcs[f]? =some fn∧(fn.name== "runtime.NumGoroutine")=false∧fn.body=some (vF t bt)∧fn.results= #[.tmp 2]∧fn.ntmps=8∧E t=some ti∧ti.aq= .sl e∧E e=some te∧te.sz=sz∧te.bytes=b
theorem Ch (hm:P.follows .mixedOrders=true) (hE: ∀t ti,E t=some ti→aT P t ti) {ids:List (FuncId×Nat×Nat)} (zG: ∀x∈ids,zF P E x.1 x.2.1 x.2.2):
 ∀f ys H K,px ids f ys H K→ ∃v H',cV P f ys H (fun v1 H1=>v1=v∧H1=H')∧K v H' :=by
 rintro f ys H K ⟨sz,b,xs,h1,rfl,h2,h3,h4,h5⟩;obtain ⟨fn,t,bt,e,ti,te,k1,k2,k3,k4,k5,k6,k7,k8,rfl,rfl⟩:=(zG _ h1).out;exact ⟨_,_,zp hm hE k1 k2 k3 k4 k5 k6 k7 k8 xs H h2 h3 h4,h5⟩
theorem Ci {C:aF} {ids:List (FuncId×Nat×Nat)} (h:C.ext=px ids):Good C:=by
 constructor
 ·rintro f ys H K K' hK hx
  rw [h] at hx⊢;obtain ⟨sz,b,xs,h1,h2,h3,h4,h5,h6⟩:=hx;exact ⟨sz,b,xs,h1,h2,h3,h4,h5,hK _ _ h6⟩
 ·rintro f ys H K hx;rw [h] at hx⊢;obtain ⟨sz,b,xs,h1,h2,h3,h4,h5,h6⟩:=hx;exact ⟨_,_,⟨sz,b,xs,h1,h2,h3,h4,h5,rfl,rfl⟩,h6⟩
theorem Cj {C:aF} {ids:List (FuncId×Nat×Nat)} (hx:C.ext=px ids) {α :Type} {f:FuncId} {sz b:Nat} (bU:(f,sz,b)∈ids) {c: α →AV} (hc: ∀x,(c x).cells.length=sz) (h0:sz≠0) {l r:List α} (h:app b [] l=some r) {F:List It} {H:J} (hS:ay H F)
 {P:AV→J→Prop} (hP: ∀v,bm v→ ∀H',ay H' (⟨v,sz,r.map c⟩::F)→P v H'):au C f [.fz (l.map c)] H P:=by
 unfold app at h;split at h
 ·rename_i hr;simp only [List.nil_append,Option.some.injEq] at h;subst h;simp only [List.length_nil,Nat.zero_add] at hr;refine au.ext ?_;rw [hx];refine ⟨sz,b,l.map c,bU,rfl,lg hc l,h0,by simpa using hr,?_⟩
  cases l with
  |nil=>exact hP _ mR _ (by simpa using hS.zb sz)
  |cons x l=>
   rw [if_neg (by simp),if_neg (by simp)]
   exact hP _ (gE ..) _ (hS.mO (all:=(x::l).map c) (List.take_of_length_le (Nat.le_refl _)) rfl (lg hc _))
 ·simp at h
end
theorem Ck {E:aJ} {s:aj} {H:J} {L:List It} {α β :Type} {t:TypeId} {x i:Operand} {ti te:TI} {e:TypeId} (j:Nat) (hS:ay H L) {v w:AV} {l:List α} {c: α →AV} {sz:Nat} (hj:L[j]? =some ⟨v,sz,l.map c⟩)
 (ht:E t=some ti) (hu:ti.aq= .sl e) (he:E e=some te) (aH:sz=te.sz) {k:IntKind} {n:Int} {l0:List β} {y: β} {id ad off:Nat} (hv:v= .ref id ad off l0.length) (hb:idx l0 n=some y)
 (hx:ev s x=v) (hi:ev s i= .int k n) (hw:w= .ptr id ad (off+n.toNat) 0) {op:Op} (bp:op= .indexAddr t x i):aL E op s H=some (w,H):=by
 subst bp;obtain ⟨h0,h2,h1⟩:=jU hb;subst hv;obtain ⟨_,h3,b,hb,h4,_,h5,h6⟩:=hS.ok j _ hj;simp only at h3 h4 h5;simp only [aL,ht,hi,hu,he,hx,hb];rw [if_pos ⟨by rw [h4,aH],h0,h2,h5⟩,hw]
theorem Cl {E:aJ} {s:aj} {H:J} {L:List It} {α :Type} {t:TypeId} {x:Operand} {ti:TI} (j:Nat) (hS:ay H L) {v w:AV} {l:List α} {c: α →AV} {sz:Nat} (hj:L[j]? =some ⟨v,sz,l.map c⟩)
 (ht:E t=some ti) {n:Int} {y: α} {id ad off k o:Nat} (hv:v= .ref id ad off k) (hb:idx l n=some y)
 (hx:ev s x= .ptr id ad (off+n.toNat) o) (hw:bN ti (c y) o=some w) {op:Op} (bp:op= .load t x):aL E op s H=some (w,H):=by
 subst bp;obtain ⟨b,h1,h2⟩:=hS.elem j hj hv hb;simp only [aL,ht,hx,h1,h2,hw]
end Go.VS
namespace Go.VS
structure fX (w:List AV) (n:Nat):Prop where
 len:w.length=n
 sl: ∀a∈w,bm a
def zH {α β :Type} (p: α →List β) (c: β →AV) (z:Nat) (w:List AV) (l:List α):List It:=List.zipWith (fun a x=>⟨a,z,(p x).map c⟩) w l
def Cm {α :Type} (m:AV→ α →AV) (w:List AV) (l:List α):List AV:=List.zipWith m w l
def Cn {α β :Type} (p: α →List β) (c: β →AV) (z:Nat) (w:List AV) (l:List α) (i:Nat):List It:=(zH p c z w l).eraseIdx i
theorem Co {α :Type} (c: α →AV) (l:List α):zh c l= .fz (l.map c):=rfl
def zI:List (List It)→List It→List It
 |[],F=>F
 |a::as,F=>a ++ zI as F
section
variable {H:J} {L F R:List It}
variable {α β :Type} {p: α →List β} {c: β →AV} {z:Nat} {w:List AV} {l:List α} {m:AV→ α →AV} {v:AV} {sz:Nat}
theorem fX.nil:fX [] 0:=⟨rfl,by simp⟩
theorem fX.get (h:fX w l.length) {i:Int} {b: α} (hi:idx l i=some b): ∃a,w[i.toNat]? =some a∧bm a:=by
 obtain ⟨_,_,h1⟩:=jU hi;have:=(List.getElem?_eq_some_iff.1 h1).1;have hw:i.toNat<w.length:=by rw [h.len];exact this
 exact ⟨_,List.getElem?_eq_getElem hw,h.sl _ (List.getElem_mem hw)⟩
theorem fX.set (h:fX w l.length) {a:AV} (ha:bm a) (i:Nat) (y: α):fX (w.set i a) (l.set i y).length:=by
 refine ⟨by simpa using h.len,fun x hx=> ?_⟩
 rcases List.mem_or_eq_of_mem_set hx with h1|rfl
 ·exact h.sl _ h1
 ·exact ha
theorem fX.app {w' :List AV} {l' :List α} (h:fX w l.length) (h' :fX w' l'.length):fX (w ++ w') (l ++ l').length:=by
 refine ⟨by simp [h.len,h'.len],fun x hx=> ?_⟩
 rcases List.mem_append.1 hx with h1|h1
 ·exact h.sl _ h1
 ·exact h'.sl _ h1
theorem Cp {C:aF} {q th:Bool} {s:aj} {K:AV→J→Prop} {t e:TypeId} {x:Operand} {ti:TI} (ht:C.E t=some ti) (hu:ti.aq= .sl e) (hx:ev s x= .nil) (h:K (.int .i64 0) H):aZ (au C) C q th (.call {callee:= .builtin .cap,args:= #[x],argTypes:= #[t]}) s H K:=by
 unfold aZ wpOp;have e1:((#[t]:Array TypeId)[0]?).bind C.E=C.E t:=rfl;simp only [ey,implies_true,true_and,List.map_cons,List.map_nil,hx,cp,e1,ht,hu];exact h
theorem Cq {E:aJ} {K:AV→J→Prop} {t e:TypeId} {ti te:TI} {lo hi:Option Int} (ht:E t=some ti) (hu:ti.aq= .sl e) (he:E e=some te) (h1:lo.getD 0=0) (h2:hi.getD 0=0) (h:K .nil H):dh E t .nil (some lo) (some hi) (some none) H K:=by
 simp only [dh,du,ht,hu,he];rw [if_pos ⟨h1,h2,rfl,by simp⟩]
 exact h
structure py (v:AV) (lo n:Nat) (v' :AV):Prop where
 out:(v= .nil∧v' = .nil)∨(v= .e0∧v' = .e0)∨ ∃id ad off len,v= .ref id ad off len∧v' = .ref id ad (off+lo) n
theorem li {γ :Type} {l m:List γ} {lo hi:Int} (h:eu l lo hi=some m):0≤lo∧lo≤hi∧hi≤l.length∧m=(l.drop lo.toNat).take (hi.toNat-lo.toNat)∧m.length=hi.toNat-lo.toNat:=by
 unfold eu at h;split at h
 ·rename_i hc;simp only [Option.some.injEq] at h;refine ⟨hc.1,hc.2.1,hc.2.2,h.symm,?_⟩;rw [←h,List.length_take,List.length_drop];omega
 ·simp at h
theorem Cr {γ δ :Type} {E:aJ} {K:AV→J→Prop} {t e:TypeId} {ti te:TI} {l:List γ} {c: γ →AV} {lo hi:Option Int} {f:List γ →Option δ} {r: δ} (j:Nat) (hS:ay H L) (hj:L[j]? =some ⟨v,te.sz,l.map c⟩) (hp:bm v) (ht:E t=some ti) (hu:ti.aq= .sl e) (he:E e=some te) (hh:(eu l (lo.getD 0) (hi.getD l.length)).bind f=some r)
 (h: ∀v' m,bm v' →py v (lo.getD 0).toNat m.length v' →eu l (lo.getD 0) (hi.getD l.length)=some m→f m=some r→K v' H):dh E t v (some lo) (some hi) (some none) H K:=by
 cases hm:eu l (lo.getD 0) (hi.getD l.length) with
 |none=>rw [hm] at hh;simp at hh
 |some m=>
  rw [hm] at hh;have hk:=fun v' bg hw=>h v' m bg hw hm hh
  obtain ⟨cK,de,hJ,_,iB⟩:=li hm;have af:=hS.ok j _ hj;obtain ⟨k0,af⟩:=af;simp only at af k0;have empty:l.map c=[]→lo.getD 0=0∧hi.getD 0=0:=by
   intro e;rw [List.map_eq_nil_iff] at e;subst e;have e0:(([]:List γ).length:Int)=0:=rfl;rw [e0] at hJ de;refine ⟨by omega,?_⟩
   cases hi with
   |none=>rfl
   |some x=>simp at de hJ⊢;omega
  split at af
  ·obtain ⟨e1,e2⟩:=empty af;simp only [dh,du,ht,hu,he];rw [if_pos ⟨e1,e2,rfl,by simp⟩]
   exact hk .nil mQ ⟨.inl ⟨rfl,rfl⟩⟩
  ·obtain ⟨e1,e2⟩:=empty af;simp only [dh,du,ht,hu,he];rw [if_pos ⟨e1,e2,rfl,by simp⟩]
   exact hk .e0 mR ⟨.inr (.inl ⟨rfl,rfl⟩)⟩
  ·rename_i id ad off len;obtain ⟨k1,b,hb,k2,k3,k4,k5⟩:=af;simp only [List.length_map] at k1;subst k1;simp only [dh,du,ht,hu,hb,he,k2,ne_eq,not_true_eq_false,if_false];rw [if_pos ⟨cK,de,by omega⟩]
   refine hk _ (gE ..) ⟨.inr (.inr ⟨id,ad,off,_,rfl,?_⟩)⟩;rw [iB]
  ·rename_i id ad ix off;obtain ⟨rfl,rfl,_⟩:=af;exact absurd rfl (hp.ne id ad)
  ·exact af.elim
theorem ay.Cs {γ :Type} (hS:ay H L) (j:Nat) {sz:Nat} {l m:List γ} {c: γ →AV} {v' :AV} {lo hi:Int} (hj:L[j]? =some ⟨v,sz,l.map c⟩) (hv:py v lo.toNat m.length v') (hm:eu l lo hi=some m):ct H v' =some (m.map c):=by
 obtain ⟨cK,de,hJ,lj,iB⟩:=li hm;have af:=(hS.ok j _ hj).2;simp only at af;have empty:l.map c=[]→m=[]:=fun e=>by
  rw [List.map_eq_nil_iff] at e;subst e;rw [lj];simp
 rcases hv.out with ⟨rfl,rfl⟩|⟨rfl,rfl⟩|⟨id,ad,off,len,rfl,rfl⟩
 ·simp only at af;rw [empty af];rfl
 ·simp only at af;rw [empty af];rfl
 ·simp only at af;obtain ⟨k1,b,hb,k2,k3,k4,k5⟩:=af;simp only [List.length_map] at k1;subst k1;simp only [ct,hb];rw [if_pos (by omega)]
  simp only [aG] at k5⊢;rw [iB,lj,List.map_take,List.map_drop,←k5,List.drop_take,List.drop_drop,List.take_take];congr 2;omega
theorem Ct {γ δ :Type} {E:aJ} {K:AV→J→Prop} {t e:TypeId} {ti te:TI} {l:List γ} {c: γ →AV} {lo hi mx:Int} {f:List γ →Option δ} {r: δ} (j:Nat) (hS:ay H L) (hj:L[j]? =some ⟨v,te.sz,l.map c⟩) (hp:bm v) (ht:E t=some ti) (hu:ti.aq= .sl e) (he:E e=some te) (eg:mx=l.length) (hh:(eu l lo hi).bind f=some r)
 (h: ∀x m,eu l lo hi=some m→f m=some r→K x H):dh E t v (some (some lo)) (some (some hi)) (some (some mx)) H K:=by
 cases hm:eu l lo hi with
 |none=>rw [hm] at hh;simp at hh
 |some m=>
  rw [hm] at hh;have hk:=fun x=>h x m hm hh;obtain ⟨cK,de,hJ,_,iB⟩:=li hm;have af:=hS.ok j _ hj;obtain ⟨k0,af⟩:=af;simp only at af k0;subst eg;have empty:l.map c=[]→lo=0∧hi=0∧(l.length:Int)=0:=by
   intro e;rw [List.map_eq_nil_iff] at e;subst e;have e0:(([]:List γ).length:Int)=0:=rfl;rw [e0] at hJ;exact ⟨by omega,by omega,rfl⟩
  split at af
  ·obtain ⟨e1,e2,e3⟩:=empty af;simp only [dh,du,ht,hu,he];rw [if_pos ⟨e1,e2,e3,by simp⟩]
   exact hk _
  ·obtain ⟨e1,e2,e3⟩:=empty af;simp only [dh,du,ht,hu,he];rw [if_pos ⟨e1,e2,e3,by simp⟩]
   exact hk _
  ·rename_i id ad off len;obtain ⟨k1,b,hb,k2,k3,k4,k5⟩:=af;simp only [List.length_map] at k1;subst k1;simp only [dh,du,ht,hu,hb,he,k2,ne_eq,not_true_eq_false,if_false];by_cases hq:(some hi).isSome=true∧0≤(some lo).getD 0∧(some lo).getD 0=(some hi).getD ↑l.length∧(some hi).getD ↑l.length= ↑l.length∧off+((some hi).getD ↑l.length).toNat≤b.el.length
   ·rw [if_pos hq];exact hk _
   ·rw [if_neg hq,if_pos ⟨rfl,cK,de,hJ,by simpa using k4⟩];exact hk _
  ·rename_i id ad ix off;obtain ⟨rfl,rfl,_⟩:=af;exact absurd rfl (hp.ne id ad)
  ·exact af.elim
structure mW (H:J) (v:AV) (n:Nat):Prop where
 out:((v= .nil∨v= .e0)∧n=0)∨ ∃id ad off len b,v= .ref id ad off len∧H.ap id ad=some b∧off+n≤b.el.length
theorem Cu {γ δ :Type} {E:aJ} {K:AV→J→Prop} {t u:TypeId} {te tu:TI} {e:TypeId} {v1 x:AV} {l m1 m:List γ} {c: γ →AV} {lo hi:Int} {f:List γ →Option δ} {r: δ} (j:Nat) (hS:ay H L) (hj:L[j]? =some ⟨v,te.sz,l.map c⟩) (zJ:bm v1) (hw:py v lo.toNat m1.length v1) (zK:eu l lo hi=some m1)
 (ht:cm E t=some te) (hu:E u=some tu) (fG:tu.aq= .sl e) (hx:ct H x=some (m.map c)) (aH: ∀x,(c x).cells.length=te.sz) (h0:(te.sz==0)=false) (hh:(app te.bytes m1 m).bind f=some r)
 (h: ∀v' H' lm,bm v' →app te.bytes m1 m=some lm→f lm=some r→ay H' (L.set j ⟨v',te.sz,lm.map c⟩)→(lo=0→m1.length+m.length≤l.length→mW H' v' l.length)→K v' H'):
 cz (cp E .append #[t,u] [v1,x] H) K:=by
 obtain ⟨cK,de,hJ,lj,iB⟩:=li zK;have aw:=(List.getElem?_eq_some_iff.1 hj).1;have af:=hS.ok j _ hj;obtain ⟨k0,af⟩:=af;simp only at af k0;have eP: ∀it:It,L[j]? =some it→L.set j it=L:=fun it h=>List.ext_getElem? fun k=>by
  rw [List.getElem?_set];split
  ·rename_i e;subst e;have:=(List.getElem?_eq_some_iff.1 h).1;first|exact h.symm|(simp only [this,if_true];exact h.symm)
  ·rfl
 have vL:l.map c=[]→m1=[]:=fun e=>by
  rw [List.map_eq_nil_iff] at e;subst e;rw [lj];simp
 have zL:ay H (L.set j ⟨v1,te.sz,m1.map c⟩):=by
  rcases hw.out with ⟨rfl,rfl⟩|⟨rfl,rfl⟩|⟨id,ad,off,len,rfl,rfl⟩
  ·try simp only at af
   rw [vL af,List.map_nil,←af,eP _ hj];exact hS
  ·try simp only at af
   rw [vL af,List.map_nil,←af,eP _ hj];exact hS
  ·try simp only at af
   obtain ⟨k1,b,hb,k2,k3,k4,k5⟩:=af;simp only [List.length_map] at k1;subst k1;refine hS.bq hj rfl (fun _ _ _ _=>rfl) ⟨?_,by simp,b,hb,k2,k3,by first|omega|(simp only;omega),?_⟩ (fun k hk=>by simpa [bV] using hk.symm)
   ·simp only [bC,List.all_eq_true,List.mem_map];rintro z ⟨y,_,rfl⟩;simpa using aH y
   ·simp only [aG] at k5⊢;rw [iB,lj,List.map_take,List.map_drop,←k5,List.drop_take,List.drop_drop,List.take_take];congr 1;omega
 cases hr:app te.bytes m1 m with
 |none=>rw [hr] at hh;simp at hh
 |some lm=>
  have bQ:=hr
  unfold app at hr;split at hr
  ·rename_i jD;simp only [Option.some.injEq] at hr;subst hr;rw [bQ] at hh;have aK:te.sz≠0:=by simpa using h0
   obtain ⟨v',H',a1,a2,a3⟩:=tU zL j (show (L.set j ⟨v1,te.sz,m1.map c⟩)[j]? =some ⟨v1,te.sz,m1.map c⟩ by simp [aw]) zJ hx (lg aH m) aK (by simpa using jD)
   have e1:(#[t,u]:Array TypeId)[0]? =some t:=rfl;have e2:((#[t,u]:Array TypeId)[1]?).bind E=E u:=rfl;simp only [cp,e1,e2,ht,hu,fG,a1,cz];refine h v' H' _ a2 bQ hh (by rw [List.set_set] at a3;rw [List.map_append];exact a3) fun da hle=> ?_
   rcases hw.out with ⟨rfl,rfl⟩|⟨rfl,rfl⟩|⟨id,ad,off,len,rfl,rfl⟩
   ·try simp only at af
    have hl:l=[]:=List.map_eq_nil_iff.1 af;subst hl;simp at hle;have hm:m=[]:=by simpa using hle.2
    subst hm;simp only [List.map_nil] at hx;simp only [dw,hx,bC,List.all_nil,Bool.not_true,Bool.false_eq_true,if_false,if_neg aK,List.length_nil,if_true,Option.some.injEq,Prod.mk.injEq] at a1;exact ⟨.inl ⟨.inl a1.1.symm,rfl⟩⟩
   ·try simp only at af
    have hl:l=[]:=List.map_eq_nil_iff.1 af;subst hl;simp at hle;have hm:m=[]:=by simpa using hle.2
    subst hm;simp only [List.map_nil] at hx;simp only [dw,hx,bC,List.all_nil,Bool.not_true,Bool.false_eq_true,if_false,if_neg aK,List.length_nil,if_true,Option.some.injEq,Prod.mk.injEq] at a1;exact ⟨.inl ⟨.inr a1.1.symm,rfl⟩⟩
   ·try simp only at af
    obtain ⟨k1,b,hb,k2,k3,k4,k5⟩:=af;simp only [List.length_map] at k1;subst k1;subst da;have bG:=(J.br hb).2;have hs:bC te.sz (m.map c)=true:=lg aH m;simp only [dw,hx,hs,Bool.not_true,Bool.false_eq_true,if_false,if_neg aK,hb,k2,ne_eq,not_true_eq_false] at a1;rw [if_pos (by simp;omega)] at a1
    simp only [Option.some.injEq,Prod.mk.injEq] at a1;obtain ⟨rfl,rfl⟩:=a1;refine ⟨.inr ⟨id,ad,_,_,{ad:=b.ad,sz:=te.sz,fix:=b.fix,el:=splice b.el (off+(0:Int).toNat+m1.length) (m.map c)},rfl,?_,?_⟩⟩
    ·have:=lb (H:=H) (b:={ad:=b.ad,sz:=te.sz,fix:=b.fix,el:=splice b.el (off+(0:Int).toNat+m1.length) (m.map c)}) ((hS.ok j _ hj).lt rfl);simpa only [bG] using this
    ·simp only;rw [iJ _ _ _ (by simp;omega)]
     simpa using k4
  ·simp at hr
structure pz (v:AV) (n k:Nat) (v' :AV):Prop where
 out:((v= .nil∨v= .e0)∧v' =v)∨ ∃id ad off len,v= .ref id ad off len∧v' = .ref id ad (off+n) k
theorem Cv {γ :Type} {E:aJ} {K:AV→J→Prop} {t e:TypeId} {ti te:TI} {l:List γ} {c: γ →AV} {hi:Int} (j:Nat) (hS:ay H L) (hj:L[j]? =some ⟨v,te.sz,l.map c⟩) (ht:E t=some ti) (hu:ti.aq= .sl e) (he:E e=some te) {n:Nat} (hr:mW H v n) (dH:hi=n) (hle:l.length≤n)
 (h: ∀v',pz v l.length (n-l.length) v' →K v' H):dh E t v (some (some (l.length:Int))) (some (some hi)) (some none) H K:=by
 subst dH;rcases hr.out with ⟨h1|h1,rfl⟩|⟨id,ad,off,len,b,rfl,hb,hl⟩
 ·subst h1;have hl:l.length=0:=by omega
  simp only [dh,du,ht,hu,he];rw [if_pos ⟨by simp [hl],by simp,rfl,by simp⟩]
  exact h .nil ⟨.inl ⟨.inl rfl,rfl⟩⟩
 ·subst h1;have hl:l.length=0:=by omega
  simp only [dh,du,ht,hu,he];rw [if_pos ⟨by simp [hl],by simp,rfl,by simp⟩]
  exact h .e0 ⟨.inl ⟨.inr rfl,rfl⟩⟩
 ·obtain ⟨k0,k1,b',ax,k2,k3,k4,k5⟩:=hS.ok j _ hj;rw [hb] at ax;simp only [Option.some.injEq] at ax;subst ax;simp only [dh,du,ht,hu,hb,he,k2,ne_eq,not_true_eq_false,if_false,Option.getD_some];rw [if_pos ⟨by omega,by omega,by omega⟩]
  exact h _ ⟨.inr ⟨id,ad,off,len,rfl,by simp⟩⟩
theorem zM {C:aF} {th:Bool} {s:aj} {K:AV→J→Prop} (x:Operand) (t:TypeId):aZ (au C) C false th (.call {callee:= .builtin .clear,args:= #[x],argTypes:= #[t]}) s H K=cz (cp C.E .clear #[t] [ev s x] H) K:=by
 unfold aZ wpOp;simp only [Bool.false_eq_true,false_implies,true_and];rfl
theorem zN {γ :Type} {E:aJ} {K:AV→J→Prop} {t:TypeId} {te:TI} {l:List γ} {c: γ →AV} {v' z:AV} {n:Nat} (j:Nat) (hS:ay H L) (hj:L[j]? =some ⟨v,te.sz,l.map c⟩) (ht:cm E t=some te) (h0:(te.sz==0)=false) (hz:dU te=some z) (hr:mW H v n) (hle:l.length≤n) (hb:pz v l.length (n-l.length) v')
 (h: ∀H',ay H' L→K (.aC []) H'):cz (cp E .clear #[t] [v'] H) K:=by
 have e1:((#[t]:Array TypeId)[0]?).bind (cm E)=some te:=ht;have aK:te.sz≠0:=by simpa using h0
 simp only [cp,e1];rcases hb.out with ⟨h1|h1,rfl⟩|⟨id,ad,off,len,rfl,rfl⟩
 ·subst h1;simp only [jn,cz];exact h H hS
 ·subst h1;simp only [jn,cz];exact h H hS
 ·rcases hr.out with ⟨h1|h1,_⟩|⟨fC,gp,Cw,Cx,b,he,ax,hl⟩
  ·simp at h1
  ·simp at h1
  ·simp only [AV.ref.injEq] at he;obtain ⟨rfl,rfl,rfl,rfl⟩:=he;obtain ⟨k0,k1,b',fg,k2,k3,k4,k5⟩:=hS.ok j _ hj;rw [ax] at fg;simp only [Option.some.injEq] at fg;subst fg;simp only [List.length_map] at k1;subst k1;have bG:=(J.br ax).2;simp only [jn,ax,hz];rw [if_pos ⟨k2,by omega,aK⟩]
   simp only [cz];have eP:L.set j ⟨.ref id ad off l.length,te.sz,l.map c⟩=L:=List.ext_getElem? fun k=>by
    rw [List.getElem?_set];split
    ·rename_i e;subst e;have:=(List.getElem?_eq_some_iff.1 hj).1;simp only [this,if_true];exact hj.symm
    ·rfl
   refine h _ ?_;rw [←eP];have jG:(splice b.el (off+l.length) (List.replicate (n-l.length) z)).length=b.el.length:=iJ _ _ _ (by simp;omega)
   refine hS.bq hj rfl (fun fC gp aK _=>mN aK) ⟨k0,by simp,{b with el:=splice b.el (off+l.length) (List.replicate (n-l.length) z)},?_,k2,k3,by simp only [jG];exact k4,?_⟩ (fun k hk=>by simpa [bV] using hk.symm)
   ·have:=lb (H:=H) (b:={b with el:=splice b.el (off+l.length) (List.replicate (n-l.length) z)}) ((hS.ok j _ hj).lt rfl);simpa only [bG] using this
   ·simp only [aG] at k5⊢;unfold splice;rw [List.append_assoc,List.drop_append_of_le_length (by simp;omega),List.drop_take,List.take_append_of_le_length (by simp;omega),List.take_take]
    rw [show min l.length (off+l.length-off)=l.length by omega]
    exact k5
theorem Cy {γ :Type} {C:aF} {th:Bool} {s:aj} {K:AV→J→Prop} {xo:Operand} {t:TypeId} {te:TI} {l:List γ} {c: γ →AV} {v' z:AV} {n:Nat} (j:Nat) (hS:ay H L) (hj:L[j]? =some ⟨v,te.sz,l.map c⟩) (hx:ev s xo=v') (ht:cm C.E t=some te) (h0:(te.sz==0)=false) (hz:dU te=some z) (hr:mW H v n) (hle:l.length≤n) (hb:pz v l.length (n-l.length) v')
 (h: ∀H',ay H' L→K (.aC []) H'):aZ (au C) C false th (.call {callee:= .builtin .clear,args:= #[xo],argTypes:= #[t]}) s H K:=by
 rw [zM,hx];exact zN j hS hj ht h0 hz hr hle hb h
theorem Cz {γ :Type} {b:Nat} {l m r:List γ} (h:app b l m=some r):r.length=l.length+m.length:=by
 unfold app at h;split at h
 ·simp only [Option.some.injEq] at h;rw [←h];simp
 ·simp at h
theorem CA {γ :Type} {l m:List γ} {lo hi:Int} (h:eu l lo hi=some m):0≤lo∧lo≤hi∧hi≤l.length∧(m.length:Int)=hi-lo:=by
 obtain ⟨h1,h2,h3,_,h5⟩:=li h;exact ⟨h1,h2,h3,by omega⟩
theorem CB {γ δ :Type} {E:aJ} {K:AV→J→Prop} {t u:TypeId} {te tu:TI} {k:IntKind} {n:Int} {z0:AV} {d: γ} {c: γ →AV} {f:List γ →Option δ} {r: δ} (hS:ay H L) (ht:cm E t=some te) (hu:E u=some tu) (hi:tu.aq= .it k) (hz:hR te=some z0) (hd:c d=z0) (h0:(te.sz==0)=false) (hh:(jW te.bytes n d).bind f=some r)
 (h: ∀v H' l,bm v→jW te.bytes n d=some l→f l=some r→ay H' (⟨v,te.sz,l.map c⟩::L)→K v H'):cz (cp E .append #[t,u] [.nil,.int .i64 n] H) K:=by
 cases hm:jW te.bytes n d with
 |none=>rw [hm] at hh;simp at hh
 |some l=>
  rw [hm] at hh;have ll:=hm
  unfold jW at ll;split at ll
  ·rename_i hc;simp only [Option.some.injEq] at ll;subst ll;have aK:te.sz≠0:=by simpa using h0
   have e1:(#[t,u]:Array TypeId)[0]? =some t:=rfl;have e2:((#[t,u]:Array TypeId)[1]?).bind E=E u:=rfl;simp only [cp,e1,e2,ht,hu,hi,jm,hz];rw [if_pos ⟨hc.1,hc.2,aK⟩];by_cases hn:n=0
   ·rw [if_pos hn];subst hn;exact h .nil H _ mQ hm hh (hS.za te.sz)
   ·rw [if_neg hn];refine h _ _ _ (gE ..) hm hh (hS.mO (by simp [hd]) (by simp) ?_)
    simp only [bC,List.map_replicate,List.all_replicate,hd,yZ hz];simp
  ·simp at ll
end
theorem CC {C:aF} {kp:List Nat} {s s' :aj} {H:J} {K:Ex→aj→J→Prop} (hk:ez kp s=s') (h:K .normal s' H):aM (au C) C (.gH [] (some kp)) s H K:=by
 subst hk;exact h
end Go.VS
