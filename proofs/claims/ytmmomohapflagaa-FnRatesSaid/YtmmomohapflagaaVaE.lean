import Derived.Test.YtmmomohapflagaaVaD
namespace Go.VS
def FZ (l:List (List Nat×List Sh)) (s:ah) (H:J) (P:ah→J→Prop):Prop:= ∃s' H',dm l s H=some (s',H')∧P s' H'
section
variable {C:aK} {s:ah} {H:J} {L:List It}
theorem u3 (P:ah→J→Prop):FZ [] s H P=P s H:=by
 apply propext;constructor
 ·rintro ⟨s',H',h,hp⟩;simp only [dm,Option.some.injEq,Prod.mk.injEq] at h;obtain ⟨rfl,rfl⟩:=h;exact hp
 ·exact fun h=>⟨s,H,rfl,h⟩
theorem lR {t:Nat} {ts:List Nat} {e:Sh} {sh:List Sh} {l:List (List Nat×List Sh)} {P:ah→J→Prop} {y:AV} {H1:J} (ht:aR (e::sh) (s.getD t .undef) H=some (y,H1)) (h:FZ l (e9 (s.getD t .undef) (bq y) ts (s.set t (bq y))) H1 P):FZ ((t::ts,e::sh)::l) s H P:=by
 obtain ⟨s',H',h1,h2⟩:=h;exact ⟨s',H',by simp only [dm,ht];exact h1,h2⟩
theorem u4 {f:AV→J→Option (AV×J)}: ∀(xs:List AV) (H:J),(∀x∈xs,∀H,f x H=some (x,H))→cW f xs H=some (xs,H)
 |[],H,_=>rfl
 |x::xs,H,h=>by
  simp only [cW,h x (by simp) H,u4 xs H (fun y hy=>h y (by simp [hy]))]
theorem u5 {α :Type} {c: α →AV} (hz: ∀x,bq (c x)=c x): ∀(l:List α),bM (l.map c)=l.map c
 |[]=>rfl
 |x::l=>by simp only [List.map_cons,bM,hz x,u5 hz l]
theorem ap.del (hS:ap H L) {id:Nat} (h: ∀(i:Nat) (it:It),L[i]? =some it→bY it.v≠some id):ap (H.del id) L:=
 ⟨fun i it hi=>(hS.ok i it hi).frame fun k ad hk=>by
  have aH: ¬id=k:=fun e=>h i it hi (by rw [hk,e])
  simp only [J.aq,J.del,List.getElem?_set,if_neg aH],hS.b_⟩
theorem Aj (hS:ap H L) {j:Nat} {v:AV} {sz:Nat} {el:List AV} (hj:L[j]? =some ⟨v,sz,el⟩) (hp:aJ v):e8 v v=true:=by
 have af:=(hS.ok j _ hj).2;simp only at af;split at af
 ·rfl
 ·rfl
 ·simp [e8]
 ·rename_i id ad ix off;obtain ⟨rfl,rfl,_⟩:=af;exact absurd rfl (hp.ne id ad)
 ·exact af.elim
theorem ap.take {α :Type} (hS:ap H L) (j:Nat) {v:AV} {es:List Sh} {l:List α} {c: α →AV} (hj:L[j]? =some ⟨v,es.length,l.map c⟩) (hp:aJ v) (hc: ∀x H,aR es (c x) H=some (c x,H)):
 ∃H',aR [.sl es] v H=some (.own es.length (l.map c),H')∧ap H' (L.eraseIdx j):=by
 have af:=hS.ok j _ hj;have hf:=hS.front j hj;obtain ⟨k0,af⟩:=af;have e1:aR [.sl es] v H=aO (.sl es) v H:=by
  have jI: ∀cs,v≠ .agg cs:=by rintro cs rfl;exact af
  cases v with
  |agg cs=>exact absurd rfl (jI cs)
  |_=>simp only [aR]
 rw [e1];simp only at af;split at af
 ·rename_i hv;exact ⟨H,by simp only [aO,af],hf.tl⟩
 ·exact ⟨H,by simp only [aO,af],hf.tl⟩
 ·rename_i id ad off len;obtain ⟨k1,b,hb,k2,k3,k4,k5⟩:=af;have hm:cW (aR es) (l.map c) (H.del id)=some (l.map c,H.del id):=u4 _ _ (by
   intro x hx H;obtain ⟨y,_,rfl⟩:=List.mem_map.1 hx;exact hc y H)
  refine ⟨H.del id,?_,hf.tl.del fun i it hi e=> ?_⟩
  ·simp only [aO,hb];rw [if_pos ⟨k2,k4,.inl k3⟩,k5,hm]
  ·have:=hf.b_ 0 (i+1) _ it id rfl (by simpa using hi) rfl e
   omega
 ·rename_i id ad ix off;obtain ⟨rfl,rfl,_⟩:=af;exact absurd rfl (hp.ne id ad)
 ·exact af.elim
theorem CY {α :Type} {t:Nat} {ts:List Nat} {es:List Sh} {l:List (List Nat×List Sh)} {P:ah→J→Prop} {v:AV} {m:List α} {c: α →AV} (j:Nat) (hS:ap H L) (hj:L[j]? =some ⟨v,es.length,m.map c⟩) (hp:aJ v) (hv:s.getD t .undef=v) (hc: ∀x H,aR es (c x) H=some (c x,H)) (hz: ∀x,bq (c x)=c x)
 (h: ∀H',e8 v v=true→ap H' (L.eraseIdx j)→FZ l (e9 v (.fz (m.map c)) ts (s.set t (.fz (m.map c)))) H' P):FZ ((t::ts,[.sl es])::l) s H P:=by
 obtain ⟨H',h1,h2⟩:=hS.take j hj hp hc;rw [←hv] at h1;refine lR h1 ?_;simp only [bq,u5 hz,hv];exact h H' (Aj hS hj hp) h2
theorem CZ {t:Nat} {ts:List Nat} {es:List Sh} {l:List (List Nat×List Sh)} {P:ah→J→Prop} (hv:s.getD t .undef= .nil) (h:FZ l (e9 .nil (.fz []) ts (s.set t (.fz []))) H P):FZ ((t::ts,[.sl es])::l) s H P:=by
 refine lR (y:= .own es.length []) (H1:=H) (by rw [hv];simp only [aR,aO]) ?_
 rw [hv];exact h
theorem C0 {t:Nat} {ts:List Nat} {es:List Sh} {l:List (List Nat×List Sh)} {P:ah→J→Prop} (hv:s.getD t .undef= .e0) (h:FZ l (e9 .e0 (.fz []) ts (s.set t (.fz []))) H P):FZ ((t::ts,[.sl es])::l) s H P:=by
 refine lR (y:= .own es.length []) (H1:=H) (by rw [hv];simp only [aR,aO]) ?_
 rw [hv];exact h
def TC (es:List Sh) (cs:List AV) (H:J) (K:List AV→J→Prop):Prop:= ∃ys H',cu es cs H=some (ys,H')∧K ys H'
theorem C1 {K:List AV→J→Prop} (h:K [] H):TC [] [] H K:=⟨[],H,by simp only [cu],h⟩
theorem kB {e:Sh} {es:List Sh} {v y:AV} {cs:List AV} {H1:J} {K:List AV→J→Prop} (ht:aO e v H=some (y,H1)) (h:TC es cs H1 fun ys H' =>K (y::ys) H'):TC (e::es) (v::cs) H K:=by
 obtain ⟨ys,H',h1,h2⟩:=h;exact ⟨y::ys,H',by simp only [cu,ht,h1],h2⟩
theorem C2 {es:List Sh} {v:AV} {cs:List AV} {K:List AV→J→Prop} (hp:dD v=true) (h:TC es cs H fun ys H' =>K (v::ys) H'):TC (.sc::es) (v::cs) H K:=
 kB (by simp only [aO,hp,if_true]) h
theorem C3 {es fs:List Sh} {xs cs:List AV} {K:List AV→J→Prop} (h:TC es cs H fun ys H' =>K (.fz xs::ys) H'):TC (.sl fs::es) (.fz xs::cs) H K:=
 kB (by simp only [aO]) h
theorem C4 {es fs:List Sh} {cs:List AV} {K:List AV→J→Prop} (h:TC es cs H fun ys H' =>K (.own fs.length []::ys) H'):TC (.sl fs::es) (.nil::cs) H K:=
 kB (by simp only [aO]) h
theorem C5 {es fs:List Sh} {cs:List AV} {K:List AV→J→Prop} (h:TC es cs H fun ys H' =>K (.own fs.length []::ys) H'):TC (.sl fs::es) (.e0::cs) H K:=
 kB (by simp only [aO]) h
theorem C6 {α :Type} {es fs:List Sh} {v:AV} {cs:List AV} {K:List AV→J→Prop} {m:List α} {c: α →AV} (j:Nat) (hS:ap H L) (hj:L[j]? =some ⟨v,fs.length,m.map c⟩) (hp:aJ v) (hc: ∀x H,aR fs (c x) H=some (c x,H))
 (h: ∀H',ap H' (L.eraseIdx j)→TC es cs H' fun ys H' =>K (.own fs.length (m.map c)::ys) H'):TC (.sl fs::es) (v::cs) H K:=by
 obtain ⟨H',h1,h2⟩:=hS.take j hj hp hc;have h3:aO (.sl fs) v H=some (.own fs.length (m.map c),H'):=by
  have jI: ∀cs,v≠ .agg cs:=by rintro cs rfl;rcases hp.ok with h|h|⟨_,_,_,_,h⟩<;>simp at h
  cases v with
  |agg cs=>exact absurd rfl (jI cs)
  |_=>simpa only [aR] using h1
 exact kB h3 (h H' h2)
theorem C7 {t:Nat} {e:Sh} {sh:List Sh} {l:List (List Nat×List Sh)} {P:ah→J→Prop} {cs:List AV} (hv:s.getD t .undef= .agg cs) (h:TC (e::sh) cs H fun ys H' =>FZ l (s.set t (bq (.agg ys))) H' P):FZ (([t],e::sh)::l) s H P:=by
 obtain ⟨ys,H',h1,h2⟩:=h;refine lR (y:= .agg ys) (H1:=H') (by rw [hv];simp only [aR,h1]) ?_
 exact h2
theorem u6 (xs:List AV):bq (.agg xs)= .agg (bM xs):=rfl
theorem u7 (x:AV) (xs:List AV):bM (x::xs)=bq x::bM xs:=rfl
theorem u9:bM []=[]:=rfl
theorem u_ (k:IntKind) (n:Int):bq (.int k n)= .int k n:=rfl
theorem va (b:Bool):bq (.bool b)= .bool b:=rfl
theorem vb (b:List UInt8):bq (.str b)= .str b:=rfl
theorem vd (b:List AV):bq (.fz b)= .fz b:=rfl
theorem ve (n:Nat) (b:List AV):bq (.own n b)= .fz (bM b):=rfl
theorem vf (xs:List AV):bq (.aA xs)= .aA (bM xs):=rfl
theorem vg (x:AV):cf [x]=x:=rfl
theorem vh (x y:AV) (l:List AV):cf (x::y::l)= .aA (x::y::l):=rfl
theorem vi:cf []= .aA []:=rfl
theorem C8 {t:Nat} {ts:List Nat} {l:List (List Nat×List Sh)} {P:ah→J→Prop} {v:AV} (hv:s.getD t .undef=v) (hn: ∀a b c d,v≠ .ref a b c d) (h:FZ l (s.set t (cN v)) H P):FZ ((t::ts,[])::l) s H P:=by
 obtain ⟨s',H',h1,h2⟩:=h;refine ⟨s',H',?_,h2⟩;simp only [dm];have:gO t s H=(s.set t (cN v),H):=by
  unfold gO;rw [hv];cases v<;>first|rfl|exact absurd rfl (hn _ _ _ _)
 rw [this];exact h1
theorem C9 {α :Type} {t:Nat} {ts:List Nat} {l:List (List Nat×List Sh)} {P:ah→J→Prop} {v:AV} {sz:Nat} {el:List AV} {m:List α} {c: α →AV} (j:Nat) (hS:ap H L) (hj:L[j]? =some ⟨v,sz,el⟩) (hp:aJ v) (hv:s.getD t .undef=v) (he:el.map cN=m.map c)
 (h: ∀s' H',(s' =s∨s' =s.set t (.fz []))→(v= .nil∨v= .e0→m=[])→(s' =s→ap H' (L.set j ⟨v,sz,m.map c⟩))→FZ l s' H' P):(v≠ .nil∧v≠ .e0)→FZ ((t::ts,[])::l) s H P:=by
 intro aH;have af:=hS.ok j _ hj;obtain ⟨k0,af⟩:=af;simp only at af k0;split at af
 ·exact absurd rfl aH.1
 ·exact absurd rfl aH.2
 ·rename_i id ad off len;obtain ⟨k1,b,hb,k2,k3,k4,k5⟩:=af;have bz:=(J.bm hb).2;have ax:=(hS.ok j _ hj).lt rfl;obtain ⟨s',H',h1,h2⟩:=h s (H.bg id {b with el:=b.el.map cN}) (.inl rfl) (fun h=>by rcases h with h|h<;>simp at h) (fun _=>by
   refine hS.bg hj rfl (fun dH fp aH _=>kx aH) ⟨?_,?_,{b with el:=b.el.map cN},?_,k2,k3,by simpa using k4,?_⟩ (fun k hk=>by simpa [bY] using hk.symm)
   ·rw [←he];simp only [bp,List.all_eq_true,List.mem_map] at k0⊢;rintro z ⟨y,hy,rfl⟩;rw [j6,List.length_map];exact k0 y hy
   ·simp only;rw [←he];simpa using k1
   ·have:=jF (b:={b with el:=b.el.map cN}) ax;simpa only [bz] using this
   ·simp only [aI,←List.map_drop,←List.map_take] at k5⊢;rw [k5,he])
  refine ⟨s',H',?_,h2⟩;simp only [dm];have:gO t s H=(s,H.bg id {b with el:=b.el.map cN}):=by
   unfold gO;rw [hv];simp only [hb]
  rw [this];exact h1
 ·rename_i id ad ix off;obtain ⟨rfl,rfl,_⟩:=af;exact absurd rfl (hp.ne id ad)
 ·exact af.elim
theorem vj (x y:AV):e9 x y [] s=s:=rfl
theorem vk (x y:AV) (t:Nat) (ts:List Nat):e9 x y (t::ts) s=e9 x y ts (if e8 (s.getD t .undef) x then s.set t y else s):=rfl
theorem vl:e8 .nil .nil=true:=rfl
theorem vm:e8 .e0 .e0=true:=rfl
theorem vn (fz:List (Nat×List (List Nat×List Sh))) (K:ah→J→Prop) (i:Nat):eV C fz K [] i s H=K s H:=rfl
theorem C_ (fz:List (Nat×List (List Nat×List Sh))) (K:ah→J→Prop) (d:Option Tmp) (op:Op) (g:Option (Option Tmp×Bool)) (late:List (Op×Option Tmp)) (q th:Bool) (rest:List GO) (i:Nat):
 eV C fz K (⟨d,op,g,late,th,q⟩::rest) i s H=FZ ((fz.lookup i).getD []) s H fun s H=>eU g s (aV (aw C) C q th op s H fun v H' =>eV C fz K rest (i+1) (aZ s d v) H') (eV C fz K rest (i+1) (aZ s d (.aA [])) H):=rfl
theorem Da {l:List (List Nat×List Sh)} {kp:Option (List Nat)} {K:Ex→ah→J→Prop} (h:FZ l s H fun s H=>K .normal (eu kp s) H):aN (aw C) C (.fV l kp) s H K:=by
 obtain ⟨s',H',h1,h2⟩:=h;exact zR h1 h2
theorem ap.Db (hS:ap H L) (n:Nat) (js:List Nat) (hj:(js.Nodup∧ ∀j∈js,j<n)):ap H (js.filterMap (L[·]?) ++ L.drop n):=by
 refine ⟨fun i it hi=> ?_,fun i j a b id hi Ak ha hb=> ?_⟩
 ·rcases List.mem_append.1 (List.mem_of_getElem? hi) with h|h
  ·obtain ⟨k,_,hk⟩:=List.mem_filterMap.1 h;exact hS.ok k it hk
  ·obtain ⟨k,hk⟩:=List.mem_iff_getElem?.1 (List.mem_of_mem_drop h);exact hS.ok k it hk
 ·
  have key: ∀(js:List Nat),js.Nodup→(∀j∈js,j<n)→ ∀(i j:Nat) (a b:It),(js.filterMap (L[·]?) ++ L.drop n)[i]? =some a→(js.filterMap (L[·]?) ++ L.drop n)[j]? =some b→bY a.v=some id→bY b.v=some id→i=j:=by
   intro js;induction js with
   |nil=>
    intro _ _ i j a b hi hj ha hb;simp only [List.filterMap_nil,List.nil_append,List.getElem?_drop] at hi hj;have:=hS.b_ _ _ a b id hi hj ha hb;omega
   |cons k ks ih=>
    intro qY ax i j a b hi hj ha hb;have vo:=(List.nodup_cons.1 qY)
    have l9:=ih vo.2 (fun j h=>ax j (by simp [h]))
    cases hk:L[k]? with
    |none=>
     simp only [List.filterMap_cons,hk] at hi hj;exact l9 i j a b hi hj ha hb
    |some c=>
     simp only [List.filterMap_cons,hk,List.cons_append] at hi hj;have other: ∀(m:Nat) (d:It),(ks.filterMap (L[·]?) ++ L.drop n)[m]? =some d→bY c.v=some id→bY d.v≠some id:=by
      intro m d hm hc hd;rcases List.mem_append.1 (List.mem_of_getElem? hm) with h|h
      ·obtain ⟨k',Al,bJ⟩:=List.mem_filterMap.1 h;have:=hS.b_ k k' c d id hk bJ hc hd
       subst this;exact vo.1 Al
      ·obtain ⟨k',bJ⟩:=List.mem_iff_getElem?.1 h;rw [List.getElem?_drop] at bJ;have:=hS.b_ k _ c d id hk bJ hc hd
       have:=ax k (by simp)
       omega
     cases i with
     |zero=>
      simp at hi;subst hi;cases j with
      |zero=>rfl
      |succ j=>exact absurd hb (other j b (by simpa using hj) ha)
     |succ i=>
      cases j with
      |zero=>simp at hj;subst hj;exact absurd ha (other i a (by simpa using hi) hb)
      |succ j=>have:=l9 i j a b (by simpa using hi) (by simpa using hj) ha hb;omega
  exact key js hj.1 hj.2 i j a b hi Ak ha hb
end
theorem Dc {α :Type} {L F:List α} {n:Nat} {x: α} (hL:L.drop n=F) (h:x∈F):x∈L:=List.mem_of_mem_drop (hL.symm▸h)
abbrev u:=AV.undef
def Am {α :Type} (c: α →AV) (l:List α):AV:= .fz (l.map c)
theorem Dd (E:aE) (s:ah) (H:J):dc E s H []=some []:=rfl
theorem De (E:aE) (s:ah) (H:J) (t:Tmp) (rs:List ResultVar):dc E s H (.tmp t::rs)=(dc E s H rs).map (s.getD t .undef:: ·):=rfl
theorem Df {E:aE} {s:ah} {H:J} {a:Tmp} {t:TypeId} {rs:List ResultVar} {ti:TI} {id ad sz:Nat} {x y:AV} {ys:List AV} (ht:E t=some ti) (ha:s.getD a .undef= .ptr id ad 0 0) (hb:H.aq id ad=some ⟨ad,sz,false,[x]⟩) (hx:bS ti x 0=some y) (hr:dc E s H rs=some ys):dc E s H (.cell a t::rs)=some (y::ys):=by
 have:aP E (.load t (.tmp a)) s H=some (y,H):=by
  have e:ev s (.tmp a)= .ptr id ad 0 0:=ha;simp only [aP,ht,e,hb,List.getElem?_cons_zero,hx]
 simp only [dc,this,hr,Option.map_some]
theorem Dg {E:aE} {s:ah} {H:J} {a:Tmp} {rs:List ResultVar} {y:AV} {ys:List AV} (ha:s.getD a .undef=y) (hr:dc E s H rs=some ys):dc E s H (.tmp a::rs)=some (y::ys):=by
 simp only [dc,hr,Option.map_some,ha]
section
variable {C:aK} {s:ah} {H:J}
def fR (C:aK) (K:ah→J→Prop) (d:Option Tmp) (late:List (Op×Option Tmp)) (rest:List GO) (s:ah):AV→J→Prop:=fun v H=>dO C (aZ s d v) H (cS C K rest (aZ s d v) H) late
def iz (C:aK) (K:ah→J→Prop) (v:AV) (w:Bool) (d:Option Tmp) (op:Op) (late:List (Op×Option Tmp)) (th q:Bool) (rest:List GO) (s:ah) (H:J):Prop:=eK v w (aV (aw C) C q th op s H (fR C K d late rest s)) (fR C K d late rest s (.aA []) H)
theorem vp (K:ah→J→Prop) (d:Option Tmp) (rest:List GO) (v:AV):fR C K d [] rest s v H=cS C K rest (aZ s d v) H:=rfl
theorem vq (K:ah→J→Prop) (d:Option Tmp) (l:Op×Option Tmp) (ls:List (Op×Option Tmp)) (rest:List GO) (v:AV):fR C K d (l::ls) rest s v H=dO C (aZ s d v) H (cS C K rest (aZ s d v) H) (l::ls):=rfl
theorem vr (K:ah→J→Prop) (d:Option Tmp) (op:Op) (late:List (Op×Option Tmp)) (q th:Bool) (rest:List GO):cS C K (⟨d,op,none,late,th,q⟩::rest) s H=aV (aw C) C q th op s H (fR C K d late rest s):=rfl
theorem vt (K:ah→J→Prop) (d:Option Tmp) (op:Op) (t:Tmp) (w:Bool) (late:List (Op×Option Tmp)) (q th:Bool) (rest:List GO):cS C K (⟨d,op,some (some t,w),late,th,q⟩::rest) s H=iz C K (s.getD t .undef) w d op late th q rest s H:=rfl
variable (K:ah→J→Prop) (d:Option Tmp) (op:Op) (late:List (Op×Option Tmp)) (th q:Bool) (rest:List GO)
theorem vu:iz C K (.bool true) true d op late th q rest s H=aV (aw C) C q th op s H (fR C K d late rest s):=sQ _ _
theorem vv:iz C K (.bool false) false d op late th q rest s H=aV (aw C) C q th op s H (fR C K d late rest s):=sR _ _
theorem vw:iz C K (.bool true) false d op late th q rest s H=fR C K d late rest s (.aA []) H:=sT _ _
theorem vx:iz C K (.bool false) true d op late th q rest s H=fR C K d late rest s (.aA []) H:=sU _ _
theorem vy (l:List AV) (w:Bool):iz C K (.aA l) w d op late th q rest s H=fR C K d late rest s (.aA []) H:=rfl
theorem Dh {α :Type} {c w:Bool} {x y:Option α} {r: α} {K:ah→J→Prop} {d:Option Tmp} {op:Op} {late:List (Op×Option Tmp)} {th q:Bool} {rest:List GO} (h:(bif c then x else y)=some r) (ht:c=true→x=some r→iz C K (.bool true) w d op late th q rest s H) (hf:c=false→y=some r→iz C K (.bool false) w d op late th q rest s H):iz C K (.bool c) w d op late th q rest s H:=by
 cases c with
 |true=>exact ht rfl h
 |false=>exact hf rfl h
variable (fz:List (Nat×List (List Nat×List Sh))) (i:Nat)
def gH (C:aK) (fz:List (Nat×List (List Nat×List Sh))) (K:ah→J→Prop) (d:Option Tmp) (rest:List GO) (i:Nat) (s:ah):AV→J→Prop:=fun v H=>eV C fz K rest (i+1) (aZ s d v) H
def iA (C:aK) (fz:List (Nat×List (List Nat×List Sh))) (K:ah→J→Prop) (v:AV) (w:Bool) (d:Option Tmp) (op:Op) (th q:Bool) (rest:List GO) (i:Nat) (s:ah) (H:J):Prop:=eK v w (aV (aw C) C q th op s H (gH C fz K d rest i s)) (gH C fz K d rest i s (.aA []) H)
def p8 (C:aK) (fz:List (Nat×List (List Nat×List Sh))) (K:ah→J→Prop) (o:GO) (rest:List GO) (i:Nat):ah→J→Prop:=fun s H=>eU o.g s (aV (aw C) C o.q o.th o.op s H (gH C fz K o.d rest i s)) (gH C fz K o.d rest i s (.aA []) H)
theorem vz (o:GO):eV C fz K (o::rest) i s H=FZ ((fz.lookup i).getD []) s H (p8 C fz K o rest i):=rfl
theorem vA:p8 C fz K ⟨d,op,none,late,th,q⟩ rest i s H=aV (aw C) C q th op s H (gH C fz K d rest i s):=rfl
theorem vB (t:Tmp) (w:Bool):p8 C fz K ⟨d,op,some (some t,w),late,th,q⟩ rest i s H=iA C fz K (s.getD t .undef) w d op th q rest i s H:=rfl
theorem vC (v:AV):gH C fz K d rest i s v H=eV C fz K rest (i+1) (aZ s d v) H:=rfl
theorem vD:iA C fz K (.bool true) true d op th q rest i s H=aV (aw C) C q th op s H (gH C fz K d rest i s):=sQ _ _
theorem vE:iA C fz K (.bool false) false d op th q rest i s H=aV (aw C) C q th op s H (gH C fz K d rest i s):=sR _ _
theorem vF:iA C fz K (.bool true) false d op th q rest i s H=gH C fz K d rest i s (.aA []) H:=sT _ _
theorem vG:iA C fz K (.bool false) true d op th q rest i s H=gH C fz K d rest i s (.aA []) H:=sU _ _
theorem vH (l:List AV) (w:Bool):iA C fz K (.aA l) w d op th q rest i s H=gH C fz K d rest i s (.aA []) H:=rfl
theorem Di {α :Type} {c w:Bool} {x y:Option α} {r: α} {K:ah→J→Prop} {d:Option Tmp} {op:Op} {th q:Bool} {rest:List GO} {fz:List (Nat×List (List Nat×List Sh))} {i:Nat} (h:(bif c then x else y)=some r) (ht:c=true→x=some r→iA C fz K (.bool true) w d op th q rest i s H) (hf:c=false→y=some r→iA C fz K (.bool false) w d op th q rest i s H):iA C fz K (.bool c) w d op th q rest i s H:=by
 cases c with
 |true=>exact ht rfl h
 |false=>exact hf rfl h
end
theorem vI {β :Type} (i:Nat) (l: β) (r:List (Nat× β)):((i,l)::r).lookup i=some l:=by simp [List.lookup]
theorem vJ {β :Type} (i k:Nat) (l: β) (r:List (Nat× β)) (h:(i==k)=false):((k,l)::r).lookup i=r.lookup i:=by simp only [List.lookup,h]
theorem vK {β :Type} (i:Nat):([]:List (Nat× β)).lookup i=none:=rfl
theorem vL (all:List Oper) (q:Nat→Bool) (late:Nat→List Nat) (th:List Nat) (i:Nat):ek all q late th [] i=[]:=rfl
theorem vM (all:List Oper) (q:Nat→Bool) (late:Nat→List Nat) (th:List Nat) (o:Oper) (rest:List Oper) (i:Nat):ek all q late th (o::rest) i=⟨o.dst,o.op,o.guard.map fun p=>(lk all p.1,p.2),(late i).map (kt all),th.contains i,q i⟩::ek all q late th rest (i+1):=rfl
theorem vN (o:Oper) (os:List Oper):lk (o::os) 0=o.dst:=rfl
theorem vO (o:Oper) (os:List Oper) (n:Nat):lk (o::os) (n+1)=lk os n:=rfl
theorem vP (K:Ex→ah→J→Prop) (s:ah) (H:J):iS K s H=K .normal s H:=rfl
theorem vQ (E:aE) (t:TypeId) (f:Nat):lM E t f=match E t with
 |some ti=>match ti.au with
  | .st fs=>match fs[f]? with
   |some (o,ft)=>match E ft with
    |some tf=>some (o,tf)
    |none=>none
   |none=>none
  |_=>none
 |none=>none:=rfl
theorem vR (ti:TI) (hu:jG ti.au=true) (xs:List AV) (n:Nat) {H:J} {K:AV→J→Prop}:cT (some ti) (.fz xs) (some n) H K=K (.int .i64 n) H:=by cases h:ti.au<;>rw [h] at hu<;>simp [jG] at hu;exact z6 ti h xs n
theorem vS (ti:TI) (hu:jG ti.au=true) (n:Nat) {H:J} {K:AV→J→Prop}:cT (some ti) .nil (some n) H K=K (.int .i64 n) H:=by cases h:ti.au<;>rw [h] at hu<;>simp [jG] at hu;exact z7 ti h n
theorem vT (ti:TI) (hu:jG ti.au=true) (n:Nat) {H:J} {K:AV→J→Prop}:cT (some ti) .e0 (some n) H K=K (.int .i64 n) H:=by cases h:ti.au<;>rw [h] at hu<;>simp [jG] at hu;exact z8 ti h n
theorem vU (ti:TI) (hu:lO ti.au=true) (l:List UInt8) (n:Nat) {H:J} {K:AV→J→Prop}:cT (some ti) (.str l) (some n) H K=K (.int .i64 n) H:=by cases h:ti.au<;>rw [h] at hu<;>simp [lO] at hu;exact z9 ti h l n
theorem vV (ta tb:TI) (n:Int) (H:J) (K:AV→J→Prop):pZ (some ta) (some tb) n H K=match tb.au with| .it k=>K (.int k (k.wrap n)) H|_=>False:=rfl
theorem vW (o:Nat) (tf:TI) (y:AV) (off:Nat) (h:(tf.sz==0)=false) {H:J} {K:AV→J→Prop}:iT (some (o,tf)) (.fe y off) H K=K (.fe y (off+o)) H:=zX o tf h y off
def p9 (b:Option bG) (k:Prop):Prop:=match b with|some _=>k|none=>False
theorem vX (o:Nat) (tf:TI) (id ad idx off:Nat) (h:(tf.sz==0)=false) {H:J} {K:AV→J→Prop}:iT (some (o,tf)) (.ptr id ad idx off) H K=p9 (H.aq id ad) (K (.ptr id ad idx (off+o)) H):=by
 rw [zY o tf h];rfl
theorem vY (b:bG) (k:Prop):p9 (some b) k=k:=rfl
theorem vZ {C:aK} {q th:Bool} {s:ah} {H:J} {K:AV→J→Prop} (x:Operand):aV (aw C) C q th (.nilCheck x) s H K=(match ev s x with| .ptr a b c d=>p9 (H.aq a b) (K (.ptr a b c d) H)| .fe x o=>K (.fe x o) H|_=>False):=by
 rw [di _ rfl];simp only [aP];generalize ev s x=r;cases r<;>try rfl
 rename_i a b c d;simp only;cases H.aq a b<;>rfl
theorem v5 (z:List AV) (b:Nat) (w:UD) (e:Bool) (cs:List AV) (off:Nat):bS ⟨1,false,z,b,w,e⟩ (.agg cs) off=cs[off]? :=by
 by_cases h:off<cs.length
 ·have e1:aI cs off 1=[cs[off]]:=by
   simp only [aI,List.drop_eq_getElem_cons h,List.take_succ_cons,List.take_zero]
  have e2:bS ⟨1,false,z,b,w,e⟩ (.agg cs) off=jO false (aI cs off 1):=if_pos (show off+1≤cs.length from h);rw [e2,e1,List.getElem?_eq_getElem h];rfl
 ·rw [List.getElem?_eq_none (by omega)]
  exact if_neg (show¬off+1≤cs.length from h)
theorem v7 (z:List AV) (b:Nat) (w:UD) (e:Bool) (k:IntKind) (n:Int):bS ⟨1,false,z,b,w,e⟩ (.int k n) 0=some (.int k n):=rfl
theorem v8 (z:List AV) (b:Nat) (w:UD) (e:Bool) (n:Bool):bS ⟨1,false,z,b,w,e⟩ (.bool n) 0=some (.bool n):=rfl
theorem v9 (z:List AV) (b:Nat) (w:UD) (e:Bool) (n:List UInt8):bS ⟨1,false,z,b,w,e⟩ (.str n) 0=some (.str n):=rfl
theorem v_ (z:List AV) (b:Nat) (w:UD) (e:Bool) (n:List AV):bS ⟨1,false,z,b,w,e⟩ (.fz n) 0=some (.fz n):=rfl
theorem wa (z:List AV) (b:Nat) (w:UD) (e:Bool):bS ⟨1,false,z,b,w,e⟩ .nil 0=some .nil:=rfl
theorem wb (z:List AV) (b:Nat) (w:UD) (e:Bool):bS ⟨1,false,z,b,w,e⟩ .e0 0=some .e0:=rfl
theorem wc (z:List AV) (b:Nat) (w:UD) (e:Bool) (a c d f:Nat):bS ⟨1,false,z,b,w,e⟩ (.ref a c d f) 0=some (.ref a c d f):=rfl
theorem wg (n:Nat) (z:List AV) (b:Nat) (w:UD) (e:Bool) (cs:List AV) (off:Nat):bS ⟨n,true,z,b,w,e⟩ (.agg cs) off=if off+n≤cs.length then some (.agg ((cs.drop off).take n)) else none:=rfl
theorem wh (ti:TI) (r:Bool) (neg:Bool):lL (some ti) (some r) neg=if ti.agg then some (.bool (if neg then !r else r)) else none:=rfl
theorem wi (ti:TI) (x y:AV) (neg:Bool):iw (some ti) x y neg=match isNil ti.au x y with|some b=>some (.bool (if neg then !b else b))|none=>none:=rfl
theorem wj (E:aE) (d:Nat) (t:TypeId) (xs ys:List AV):dW E (d+1) t xs ys=match E t with
 |none=>none
 |some ti=>match ti.au with
  | .it _=>match xs,ys with
   |[.int k a],[.int j b]=>if k=j then some (a==b) else none
   |_,_=>none
  | .bl=>match xs,ys with
   |[.bool a],[.bool b]=>some (a==b)
   |_,_=>none
  | .str=>match xs,ys with
   |[.str a],[.str b]=>some (a==b)
   |_,_=>none
  | .st fs=>if ti.kF then hG E (dW E d) fs xs ys else none
  |_=>none:=rfl
theorem wk (E:aE) (f:TypeId→List AV→List AV→Option Bool) (xs ys:List AV):hG E f [] xs ys=some true:=rfl
theorem wl (E:aE) (f:TypeId→List AV→List AV→Option Bool) (o:Nat) (ft:TypeId) (fs:List (Nat×TypeId)) (xs ys:List AV):hG E f ((o,ft)::fs) xs ys=match E ft with
 |none=>none
 |some tf=>
  if o+tf.sz≤xs.length∧o+tf.sz≤ys.length then
   match f ft (aI xs o tf.sz) (aI ys o tf.sz) with
   |some b=>match hG E f fs xs ys with
    |some r=>some (b&&r)
    |none=>none
   |none=>none
  else none:=rfl
theorem wm (cs:List AV) (off n:Nat):aI cs off n=(cs.drop off).take n:=rfl
def nD (E:aE) (t:TypeId) (ps:List (Nat×AV)) (H:J) (K:AV→J→Prop):Prop:=match E t with
 |some ti=>match ti.au with
  | .st fs=>if !(fs.all fun f=>(E f.2).isSome)|| !(ti.zero.all cV) then False else cB ((fS (fun i=>match fs[i]? with|some (o,ft)=>(E ft).map fun tf=>(o,tf.sz)|none=>none) ti.zero ps).map .agg) H K
  | .ar n e=>match E e with
   |some te=>if !(ti.zero.all cV) then False else cB ((fS (fun i=>if i<n then some (i*te.sz,te.sz) else none) ti.zero ps).map .agg) H K
   |none=>False
  |_=>False
 |none=>False
theorem wo {C:aK} {q th:Bool} {s:ah} {H:J} {K:AV→J→Prop} (t:TypeId) (ps:Array (Nat×Operand)):aV (aw C) C q th (.build t ps) s H K=nD C.E t (ps.toList.map fun p=>(p.1,ev s p.2)) H K:=by
 rw [di _ rfl];simp only [aP,nD];cases C.E t with
 |none=>rfl
 |some ti=>
  simp only;cases ti.au<;>try rfl
  ·rename_i fs;simp only;split
   ·rfl
   ·generalize Option.map AV.agg _=r;cases r<;>rfl
  ·rename_i n e;simp only;cases C.E e with
   |none=>rfl
   |some te=>
    simp only;split
    ·rfl
    ·generalize Option.map AV.agg _=r;cases r<;>rfl
theorem Dj {E:aE} {t:TypeId} {ps:List (Nat×AV)} {H:J} {K:AV→J→Prop} {ti:TI} {fs:List (Nat×TypeId)} {cs:List AV} (ht:E t=some ti) (hu:ti.au= .st fs) (h1:(fs.all fun f=>(E f.2).isSome)=true) (h2:ti.zero.all cV=true)
 (hf:fS (fun i=>match fs[i]? with|some (o,ft)=>(E ft).map fun tf=>(o,tf.sz)|none=>none) ti.zero ps=some cs) (h:K (.agg cs) H):nD E t ps H K:=by
 simp only [nD,ht,hu,h1,h2,Bool.not_true,Bool.or_self,Bool.false_eq_true,if_false,hf];exact h
theorem wq {C:aK} {q th:Bool} {s:ah} {H:J} {K:AV→J→Prop} (f:FuncId) (cap:Array Operand):aV (aw C) C q th (.makeFunc (.func f) #[] cap) s H K=K (.fn f (cap.toList.map (ev s))) H:=by
 rw [di _ rfl];simp only [aP];rfl
theorem W:type_of% (And.intro @vI<|And.intro @u6<|And.intro @u7<|And.intro @u9<|And.intro @u_<|And.intro @va<|And.intro @vb<|And.intro @vd<|And.intro @ve<|And.intro @vf<|And.intro @vg<|And.intro @vh<|And.intro @vi<|And.intro @Bool.or_false<|And.intro @vJ<|And.intro @vK<|And.intro @sP<|And.intro @vr<|And.intro @vt<|And.intro @vp<|And.intro @vq<|And.intro @vu<|And.intro @vv<|And.intro @vw<|And.intro @vx<|And.intro @vy<|And.intro @vz<|And.intro @vA<|And.intro @vB<|And.intro @vC<|And.intro @vD<|And.intro @vE<|And.intro @vF<|And.intro @vG<|And.intro @vH<|
 And.intro @sV<|And.intro @sW<|And.intro @sY<|And.intro @sZ<|And.intro @s4<|And.intro @s7<|And.intro @s8<|And.intro @s9<|And.intro @tc<|And.intro @tg<|And.intro @tj<|And.intro @tn<|And.intro @tp<|
 And.intro @tq<|And.intro @tv<|And.intro @tw<|And.intro @tz<|And.intro @tA<|And.intro @tB<|And.intro @tC<|And.intro @tD<|And.intro @tE<|And.intro @tF<|And.intro @tG<|And.intro @tH<|
 And.intro @uU<|And.intro @uV<|And.intro @uW<|And.intro @tI<|And.intro @tJ<|And.intro @tK<|And.intro @tL<|And.intro @tM<|And.intro @tN<|And.intro @tO<|And.intro @tP<|And.intro @tQ<|And.intro @tR<|
 And.intro @tS<|And.intro @tT<|And.intro @tU<|And.intro @tV<|And.intro @tW<|And.intro @tX<|And.intro @tY<|And.intro @tZ<|And.intro @t_<|And.intro @ua<|And.intro @ub<|And.intro @uc<|And.intro @ud<|
 And.intro @uf<|And.intro @ug<|And.intro @uh<|And.intro @ui<|And.intro @uj<|And.intro @uk<|And.intro @ul<|And.intro @um<|And.intro @uo<|And.intro @uq<|And.intro @ur<|And.intro @uu<|And.intro @uw<|
 And.intro @ux<|And.intro @uy<|And.intro @uz<|And.intro @uA<|And.intro @min2<|And.intro @max2<|And.intro @uE<|And.intro @uI<|And.intro @uK<|And.intro @uL<|And.intro @uM<|And.intro @uN<|
 And.intro @uP<|And.intro @uQ<|And.intro @uR<|And.intro @uX<|And.intro @uY<|And.intro @uZ<|And.intro @u0<|And.intro @u1<|And.intro @u3<|And.intro @vj<|And.intro @vk<|And.intro @vl<|And.intro @vm<|
 And.intro @vn<|And.intro @vL<|And.intro @vM<|And.intro @vN<|And.intro @vO<|And.intro @vP<|And.intro @vQ<|And.intro @vR<|And.intro @vS<|And.intro @vT<|And.intro @vU<|And.intro @vV<|
 And.intro @vW<|And.intro @vX<|And.intro @vY<|And.intro @vZ<|And.intro @v5<|And.intro @v7<|And.intro @v8<|And.intro @v9<|And.intro @v_<|And.intro @wa<|And.intro @wb<|And.intro @wc<|And.intro @wg<|And.intro @wh<|And.intro @wi<|
 And.intro @wj<|And.intro @wk<|And.intro @wl<|And.intro @wm<|And.intro @wo<|And.intro @wq<|And.intro @uF<|And.intro @uG<|And.intro @uH<|
 And.intro @List.set_cons_succ.{0}<|And.intro @List.set_cons_zero.{0}<|And.intro @List.getD_cons_succ.{0}<|And.intro @List.getD_cons_zero.{0}<|And.intro @Option.map_some.{0,0}<|And.intro @Option.map_none.{0,0}<|And.intro @List.map_nil.{0,0}<|And.intro @List.map_cons.{0,0}<|And.intro @List.contains_nil.{0}<|
 And.intro @List.getElem?_cons_succ.{0}<|And.intro @List.getElem?_cons_zero.{0}<|And.intro @List.length_map.{0,0}<|And.intro @List.drop_succ_cons.{0}<|And.intro @List.drop_zero.{0}<|And.intro @List.take_succ_cons.{0}<|And.intro @List.take_zero.{0}<|And.intro @List.length_cons.{0}<|And.intro @List.length_nil.{0}<|
 And.intro @if_true.{0}<|And.intro @if_false.{0}<|And.intro @Bool.not_true<|And.intro @Bool.not_false<|And.intro @Option.getD_none.{0}<|And.intro @Option.getD_some.{0}<|And.intro @List.cons_append.{0}<|And.intro @List.nil_append.{0}<|And.intro @and_self<|And.intro @and_true @true_and):=
 And.intro @vI<|And.intro @u6<|And.intro @u7<|And.intro @u9<|And.intro @u_<|And.intro @va<|And.intro @vb<|And.intro @vd<|And.intro @ve<|And.intro @vf<|And.intro @vg<|And.intro @vh<|And.intro @vi<|And.intro @Bool.or_false<|And.intro @vJ<|And.intro @vK<|And.intro @sP<|And.intro @vr<|And.intro @vt<|And.intro @vp<|And.intro @vq<|And.intro @vu<|And.intro @vv<|And.intro @vw<|And.intro @vx<|And.intro @vy<|And.intro @vz<|And.intro @vA<|And.intro @vB<|And.intro @vC<|And.intro @vD<|And.intro @vE<|And.intro @vF<|And.intro @vG<|And.intro @vH<|
 And.intro @sV<|And.intro @sW<|And.intro @sY<|And.intro @sZ<|And.intro @s4<|And.intro @s7<|And.intro @s8<|And.intro @s9<|And.intro @tc<|And.intro @tg<|And.intro @tj<|And.intro @tn<|And.intro @tp<|
 And.intro @tq<|And.intro @tv<|And.intro @tw<|And.intro @tz<|And.intro @tA<|And.intro @tB<|And.intro @tC<|And.intro @tD<|And.intro @tE<|And.intro @tF<|And.intro @tG<|And.intro @tH<|
 And.intro @uU<|And.intro @uV<|And.intro @uW<|And.intro @tI<|And.intro @tJ<|And.intro @tK<|And.intro @tL<|And.intro @tM<|And.intro @tN<|And.intro @tO<|And.intro @tP<|And.intro @tQ<|And.intro @tR<|
 And.intro @tS<|And.intro @tT<|And.intro @tU<|And.intro @tV<|And.intro @tW<|And.intro @tX<|And.intro @tY<|And.intro @tZ<|And.intro @t_<|And.intro @ua<|And.intro @ub<|And.intro @uc<|And.intro @ud<|
 And.intro @uf<|And.intro @ug<|And.intro @uh<|And.intro @ui<|And.intro @uj<|And.intro @uk<|And.intro @ul<|And.intro @um<|And.intro @uo<|And.intro @uq<|And.intro @ur<|And.intro @uu<|And.intro @uw<|
 And.intro @ux<|And.intro @uy<|And.intro @uz<|And.intro @uA<|And.intro @min2<|And.intro @max2<|And.intro @uE<|And.intro @uI<|And.intro @uK<|And.intro @uL<|And.intro @uM<|And.intro @uN<|
 And.intro @uP<|And.intro @uQ<|And.intro @uR<|And.intro @uX<|And.intro @uY<|And.intro @uZ<|And.intro @u0<|And.intro @u1<|And.intro @u3<|And.intro @vj<|And.intro @vk<|And.intro @vl<|And.intro @vm<|
 And.intro @vn<|And.intro @vL<|And.intro @vM<|And.intro @vN<|And.intro @vO<|And.intro @vP<|And.intro @vQ<|And.intro @vR<|And.intro @vS<|And.intro @vT<|And.intro @vU<|And.intro @vV<|
 And.intro @vW<|And.intro @vX<|And.intro @vY<|And.intro @vZ<|And.intro @v5<|And.intro @v7<|And.intro @v8<|And.intro @v9<|And.intro @v_<|And.intro @wa<|And.intro @wb<|And.intro @wc<|And.intro @wg<|And.intro @wh<|And.intro @wi<|
 And.intro @wj<|And.intro @wk<|And.intro @wl<|And.intro @wm<|And.intro @wo<|And.intro @wq<|And.intro @uF<|And.intro @uG<|And.intro @uH<|
 And.intro @List.set_cons_succ.{0}<|And.intro @List.set_cons_zero.{0}<|And.intro @List.getD_cons_succ.{0}<|And.intro @List.getD_cons_zero.{0}<|And.intro @Option.map_some.{0,0}<|And.intro @Option.map_none.{0,0}<|And.intro @List.map_nil.{0,0}<|And.intro @List.map_cons.{0,0}<|And.intro @List.contains_nil.{0}<|
 And.intro @List.getElem?_cons_succ.{0}<|And.intro @List.getElem?_cons_zero.{0}<|And.intro @List.length_map.{0,0}<|And.intro @List.drop_succ_cons.{0}<|And.intro @List.drop_zero.{0}<|And.intro @List.take_succ_cons.{0}<|And.intro @List.take_zero.{0}<|And.intro @List.length_cons.{0}<|And.intro @List.length_nil.{0}<|
 And.intro @if_true.{0}<|And.intro @if_false.{0}<|And.intro @Bool.not_true<|And.intro @Bool.not_false<|And.intro @Option.getD_none.{0}<|And.intro @Option.getD_some.{0}<|And.intro @List.cons_append.{0}<|And.intro @List.nil_append.{0}<|And.intro @and_self<|And.intro @and_true @true_and
end Go.VS
namespace Go.VS
def iV:List (Nat×List Nat)→Nat→List Nat
 |[],_=>[]
 |(a,l)::t,i=>if i=a then l else iV t i
def lS:List Nat→Nat→Bool
 |[],_=>true
 |a::t,i=>if i=a then false else lS t i
theorem wu: ∀(ls:List Nat) (i:Nat),(!ls.contains i)=lS ls i
 |[],_=>rfl
 |a::t,i=>by
  have:=wu t i;unfold lS;by_cases h:i=a
  ·simp [h]
  ·rw [if_neg h,←this];simp [h]
theorem An {f:Nat→List Nat}: ∀(iB:List (Nat×List Nat)) (_:iB.all (fun p=>f p.1==p.2)=true) (_: ∀i,i∉iB.map (·.1)→f i=[]) (i:Nat),f i=iV iB i
 |[],_,h,i=>h i (by simp)
 |(a,l)::t,h1,h2,i=>by
  simp only [List.all_cons,Bool.and_eq_true,beq_iff_eq] at h1;unfold iV;by_cases h:i=a
  ·rw [if_pos h,h];exact h1.1
  ·rw [if_neg h];by_cases hm:i∈t.map (·.1)
   ·clear h2;have go: ∀(t:List (Nat×List Nat)),t.all (fun p=>f p.1==p.2)=true→i∈t.map (·.1)→f i=iV t i:=by
     intro t;induction t with
     |nil=>intro _ hm;simp at hm
     |cons p t ih=>
      intro h1 hm;simp only [List.all_cons,Bool.and_eq_true,beq_iff_eq] at h1;obtain ⟨a,l⟩:=p;unfold iV;by_cases h:i=a
      ·rw [if_pos h,h];exact h1.1
      ·rw [if_neg h];exact ih h1.2 (by simpa [h] using hm)
    exact go t h1.2 hm
   ·have e:f i=[]:=h2 i (by simp only [List.map_cons,List.mem_cons,not_or];exact ⟨h,hm⟩)
    rw [e];clear h1 h2;induction t with
    |nil=>rfl
    |cons p t ih=>
     obtain ⟨b,m⟩:=p;simp only [List.map_cons,List.mem_cons,not_or] at hm;unfold iV;rw [if_neg hm.1];exact ih hm.2
section
variable {C:aK} {s:ah} {H:J} {K:Ex→ah→J→Prop}
theorem Dk (gC:Good C) {id:Nat} {ops:List Oper} {ls th:List Nat} {fz:List (Nat×List (List Nat×List Sh))} (iB:List (Nat×List Nat)) (hd:iE ops.toArray ls=true) (h1:iB.map (·.1)=ls) (h2:iB.all (fun p=>fZ ops.toArray ls p.1==p.2)=true)
 (h:cS C (iS K) (ek ops (lS ls) (iV iB) th ops 0) s H):aN (aw C) C (.region id ops.toArray true ls th fz) s H K:=by
 refine sO gC hd ?_;have e1:(fun i=> !ls.contains i)=lS ls:=funext (wu ls);have e2:fZ ops.toArray ls=iV iB:=funext (An iB h2 (fun i hi=>by
  unfold fZ;rw [h1] at hi;rw [if_neg (by simpa using hi)]))
 rw [e1,e2];exact h
end
theorem Dl {C:aK} {K:ah→J→Prop} {d:Option Tmp} {l:List (Op×Option Tmp)} {rest:List GO} {s:ah} {v:AV} {H:J} (h:dO C (aZ s d v) H (fR C K d [] rest s v H) l):fR C K d l rest s v H:=h
theorem Dm {C:aK} {s:ah} {H:J} {P:Prop} {op:Op} {t:Tmp} {js:List (Op×Option Tmp)} (h1:aP C.E op s H=some (s.getD t .undef,H)) (h:dO C s H P js):dO C s H P ((op,some t)::js):=⟨⟨t,rfl,h1⟩,h⟩
theorem Dn {C:aK} {s:ah} {H:J} {P:Prop} (h:P):dO C s H P []:=h
theorem p_ {x:Int} (h: -9223372036854775808≤x∧x≤9223372036854775807):IntKind.i64.wrap x=x:=IntWalk.i64_in x (by omega)
end Go.VS
namespace Go.VS
section
variable {C:aK} {H:J} {L:List It}
theorem Dp (π :List Nat) (l:List Oper):lY π l= π.map (fun i=>fA π (l.getD i default)):=rfl
theorem Dq (π :List Nat) (o:Oper):(fA π o).dst=o.dst:=rfl
theorem Dr (π :List Nat) (o:Oper):(fA π o).op=o.op:=rfl
theorem Ds (π :List Nat) (o:Oper):(fA π o).guard=o.guard.map (fun p=>(dj π p.1,p.2)):=rfl
theorem Dt (a:Nat) (l:List Nat) (i:Nat):dj (a::l) i=if a=i then 0 else dj l i+1:=by
 unfold dj;rw [List.idxOf_cons];by_cases h:a=i
 ·simp [h]
 ·have:(a==i)=false:=by simpa using h
  simp [h,this]
theorem Du {C:aK} {th:Bool} {s:ah} {H:J} {K:AV→J→Prop} {a b:Operand} {t u:TypeId} (h0:eM .append [ev s a,ev s b]=true) (h:cr (ck C.E .append #[t,u] [ev s a,ev s b] H) K):aV (aw C) C true th (.call {callee:= .builtin .append,args:= #[a,b],argTypes:= #[t,u]}) s H K:=by
 unfold aV wpOp;refine ⟨fun _=>h0,?_⟩;unfold cr at h;exact h
theorem aJ.Ao {v y:AV} (h:aJ v) (h1: ∀cs,y≠ .agg cs) (h2:y≠ .undef):eY y 0 v=some v:=by
 rcases h.ok with rfl|rfl|⟨_,_,_,_,rfl⟩<;>cases y<;>first|rfl|exact absurd rfl (h1 _)|exact absurd rfl h2
theorem aJ.Dv {v y:AV} (h:aJ v) (h1:aJ y):eY y 0 v=some v:=by
 rcases h1.ok with rfl|rfl|⟨_,_,_,_,rfl⟩<;>exact h.Ao (by simp) (by simp)
theorem Dw (f:AV→Option AV):([]:List AV).mapM f=some []:=rfl
theorem wv {f:AV→Option AV} {c y:AV} {cs ys:List AV} (h1:f c=some y) (h2:cs.mapM f=some ys):(c::cs).mapM f=some (y::ys):=by
 simp [List.mapM_cons,h1,h2]
theorem nE {f:AV→Option AV}: ∀(cs:List AV),(∀c∈cs,f c=some c)→cs.mapM f=some cs
 |[],_=>rfl
 |c::cs,h=>wv (h c (by simp)) (nE cs fun d hd=>h d (by simp [hd]))
theorem Dx {n:Nat} {cs ys:List AV} (h:cs.mapM (aL n H)=some ys):aL (n+1) H (.agg cs)=some (.agg ys):=by
 simp only [aL,h,Option.map_some]
theorem Dy {n:Nat} {f:FuncId} {cs ys:List AV} (h:cs.mapM (aL n H)=some ys):aL (n+1) H (.fn f cs)=some (.fn f ys):=by
 simp only [aL,h,Option.map_some]
theorem Dz {α :Type} {n:Nat} (hS:ap H L) (j:Nat) {v:AV} {sz:Nat} {l:List α} {c: α →AV} (hj:L[j]? =some ⟨v,sz,l.map c⟩) (hp:aJ v) (hc: ∀x,aL n H (c x)=some (c x)):aL (n+1) H v=some (.fz (l.map c)):=by
 obtain ⟨k0,af⟩:=hS.ok j _ hj;simp only at af;rcases hp.ok with rfl|rfl|⟨id,ad,off,len,rfl⟩
 ·simp only at af;simp only [aL,af]
 ·simp only at af;simp only [aL,af]
 ·simp only at af;obtain ⟨k1,b,hb,k2,k3,k4,k5⟩:=af;simp only [aL,hb];rw [if_pos k4,k5,nE (l.map c) (by
   intro d hd;obtain ⟨x,_,rfl⟩:=List.mem_map.1 hd;exact hc x),Option.map_some]
theorem Ap {n o:Nat} (hS:ap H L) (j:Nat) {id ad sz:Nat} {a y:AV} (hj:L[j]? =some ⟨.ptr id ad 0 0,sz,[a]⟩) (h:aL n H a=some y):aL (n+1) H (.ptr id ad 0 o)=some (.fe y o):=by
 simp only [aL,hS.var j hj,List.getElem?_cons_zero,h,Option.map_some]
theorem DA {n o:Nat} (hS:ap H L) {id ad sz:Nat} {a y:AV} (hm:⟨.ptr id ad 0 0,sz,[a]⟩∈L) (h:aL n H a=some y):aL (n+1) H (.ptr id ad 0 o)=some (.fe y o):=by
 obtain ⟨j,hj⟩:=List.mem_iff_getElem?.1 hm;exact Ap hS j hj h
theorem DB:cd [] [] H=some ([],false):=rfl
theorem DC {v y:AV} {vs ys:List AV} {b:Bool} (h1:aL 8 H v=some y) (h2:cd [] vs H=some (ys,b)):cd [] (v::vs) H=some (y::ys,eZ v||b):=by
 simp only [cd,h1,h2]
def TV (bC:List (List Sh)) (rs:List AV) (H:J) (K:List AV→Prop):Prop:= ∃zs H',dl bC rs H=some (zs,H')∧K zs
theorem DE {bC:List (List Sh)} {K:List AV→Prop} (h:K []):TV bC [] H K:=⟨[],H,rfl,h⟩
theorem lT {e:List Sh} {bC:List (List Sh)} {v y:AV} {rs:List AV} {H1:J} {K:List AV→Prop} (ht:aR e v H=some (y,H1)) (h:TV bC rs H1 fun zs=>K (y::zs)):TV (e::bC) (v::rs) H K:=by
 obtain ⟨zs,H',h1,h2⟩:=h;exact ⟨y::zs,H',by simp only [dl,List.headD_cons,List.tail_cons,ht,h1],h2⟩
theorem Aq {v:AV} (hp:dD v=true) (H:J):aR [.sc] v H=some (v,H):=by
 cases v<;>simp [dD] at hp<;>simp [aR,aO,dD]
theorem DF {bC:List (List Sh)} {v:AV} {rs:List AV} {K:List AV→Prop} (hp:dD v=true) (h:TV bC rs H fun zs=>K (v::zs)):TV ([.sc]::bC) (v::rs) H K:=
 lT (Aq hp H) h
theorem DG {bC:List (List Sh)} {es:List Sh} {xs:List AV} {rs:List AV} {K:List AV→Prop} (h:TV bC rs H fun zs=>K (.fz xs::zs)):TV ([.sl es]::bC) (.fz xs::rs) H K:=
 lT (by simp only [aR,aO]) h
theorem DH {α :Type} {bC:List (List Sh)} {es:List Sh} {v:AV} {rs:List AV} {K:List AV→Prop} {m:List α} {c: α →AV} (j:Nat) (hS:ap H L) (hj:L[j]? =some ⟨v,es.length,m.map c⟩) (hp:aJ v) (hc: ∀x H,aR es (c x) H=some (c x,H))
 (h: ∀H',ap H' (L.eraseIdx j)→TV bC rs H' fun zs=>K (.own es.length (m.map c)::zs)):TV ([.sl es]::bC) (v::rs) H K:=by
 obtain ⟨H',h1,h2⟩:=hS.take j hj hp hc;exact lT h1 (h H' h2)
theorem DI {bC:List (List Sh)} {es:List Sh} {cs:List AV} {rs:List AV} {K:List AV→Prop} (h:TC es cs H fun ys H' =>TV bC rs H' fun zs=>K (.agg ys::zs)):TV (es::bC) (.agg cs::rs) H K:=by
 obtain ⟨ys,H',h1,h2⟩:=h;exact lT (by simp only [aR,h1]) h2
theorem DJ {bC:List (List Sh)} {rs:List AV} {y v:AV} (hv:v=cf rs) (h:TV bC rs H fun zs=>y=cf zs): ∃rs zs L2,v=cf rs∧dl bC rs H=some (zs,L2)∧y=cf zs:=by
 obtain ⟨zs,H',h1,h2⟩:=h;exact ⟨rs,zs,H',hv,h1,h2⟩
def TH (ys:List AV) (H:J) (K:List AV→J→Prop):Prop:=K (az ys H).1 (az ys H).2
theorem DK {K:List AV→J→Prop} (h:K [] H):TH [] H K:=h
theorem DL {y:AV} {ys:List AV} {K:List AV→J→Prop} (hp: ∀H,aD y H=(y,H)) (h:TH ys H fun zs H' =>K (y::zs) H'):TH (y::ys) H K:=by
 unfold TH at h⊢;simp only [az,hp H];exact h
theorem qa {α :Type} {c: α →AV} (hc: ∀x H,aD (c x) H=(c x,H)): ∀(l:List α) (H:J),az (l.map c) H=(l.map c,H)
 |[],_=>rfl
 |x::l,H=>by simp only [List.map_cons,az,hc x H,qa hc l H]
theorem DM {α :Type} {sz:Nat} {m:List α} {c: α →AV} {ys:List AV} {K:List AV→J→Prop} (hS:ap H L) (hc: ∀x H,aD (c x) H=(c x,H)) (hz: ∀x,(c x).cells.length=sz)
 (h: ∀v H',aJ v→ap H' (⟨v,sz,m.map c⟩::L)→TH ys H' fun zs fP=>K (v::zs) fP):TH (.own sz (m.map c)::ys) H K:=by
 have hs:bp sz (m.map c)=true:=by simp [bp,hz]
 have:=h _ _ (eW H.bs.length H.st 0 (m.map c).length) (hS.iU (all:=m.map c) (List.take_of_length_le (Nat.le_refl _)) rfl hs);unfold TH at this⊢;simp only [az,aD,qa hc m H];exact this
theorem DN {cs ys:List AV} {K:List AV→J→Prop} (h:TH cs H fun ds H' =>TH ys H' fun zs fP=>K (.agg ds::zs) fP):TH (.agg cs::ys) H K:=by
 unfold TH at h⊢;simp only [az,aD];exact h
theorem DO {y:AV} {K:AV→J→Prop} (h:TH [y] H fun zs H' =>K (zs.headD .undef) H'):K (aD y H).1 (aD y H).2:=by
 unfold TH at h;simp only [az] at h;exact h
theorem DP {ys:List AV} {K:AV→J→Prop} (h:TH ys H fun zs H' =>K (.aA zs) H'):K (aD (.aA ys) H).1 (aD (.aA ys) H).2:=by
 unfold TH at h;simp only [aD];exact h
variable {q th:Bool} {K:AV→J→Prop}
theorem DQ {α β :Type} {g:FuncId} {bP args ys:List AV} {bZ:Bool} {o:Option α} {f: α →Option β} {r: β} {bC:List (List Sh)} (h:o.bind f=some r) (hr:(C.fX g).bC=bC) (hp:cd [] (args ++ bP) H=some (ys,bZ))
 (hk: ∀x,o=some x→f x=some r→ ∃y,aw C g ys ⟨0,[]⟩ (fun v L=> ∃rs zs L2,v=cf rs∧dl bC rs L=some (zs,L2)∧y=cf zs)∧(cg y=true∧bq y=y∧ ∀H,aD y H=(y,H))∧K y H):kz C q th (.fn g bP) args H K:=by
 refine p7 h hr hp fun x hx hf=> ?_;obtain ⟨y,h1,⟨h2,h3,h4⟩,h5⟩:=hk x hx hf;refine ⟨y,h1,.inr h2,?_⟩;rw [h3,h4 H];split<;>exact h5
theorem DR {α β :Type} {g:FuncId} {bP args ys:List AV} {bZ:Bool} {o:Option α} {f: α →Option β} {r: β} {bC:List (List Sh)} (h:o.bind f=some r) (hr:(C.fX g).bC=bC) (hp:cd [] (args ++ bP) H=some (ys,bZ))
 (hk: ∀x,o=some x→f x=some r→ ∃y,aw C g ys ⟨0,[]⟩ (fun v L=> ∃rs zs L2,v=cf rs∧dl bC rs L=some (zs,L2)∧y=cf zs)∧cg y=true∧K (aD y H).1 (aD y H).2):kz C q true (.fn g bP) args H K:=by
 refine p7 h hr hp fun x hx hf=> ?_;obtain ⟨y,h1,h2,h5⟩:=hk x hx hf;refine ⟨y,h1,.inr h2,?_⟩;simpa using h5
theorem DS {α β :Type} {g:FuncId} {bP args ys:List AV} {o:Option α} {f: α →Option β} {r: β} {bC:List (List Sh)} (h:o.bind f=some r) (hr:(C.fX g).bC=bC) (hp:cd [] (args ++ bP) H=some (ys,false))
 (hk: ∀x,o=some x→f x=some r→ ∃y,aw C g ys ⟨0,[]⟩ (fun v L=> ∃rs zs L2,v=cf rs∧dl bC rs L=some (zs,L2)∧y=cf zs)∧K (bq y) H):kz C q false (.fn g bP) args H K:=by
 refine p7 h hr hp fun x hx hf=> ?_;obtain ⟨y,h1,h5⟩:=hk x hx hf;exact ⟨y,h1,.inl rfl,h5⟩
theorem ww {α :Type} {c: α →AV} (hc: ∀x,cg (c x)=true): ∀(l:List α),er (l.map c)=true
 |[]=>rfl
 |x::l=>by simp only [List.map_cons,er,hc x,ww hc l,Bool.and_self]
theorem DT {α :Type} {c: α →AV} (sz:Nat) (hc: ∀x,cg (c x)=true) (l:List α):cg (.own sz (l.map c))=true:=by
 simp only [cg];exact ww hc l
theorem DU:er []=true:=rfl
theorem DV {y:AV} {ys:List AV} (h1:cg y=true) (h2:er ys=true):er (y::ys)=true:=by simp only [er,h1,h2,Bool.and_self]
theorem DW {ys:List AV} (h:er ys=true):cg (.agg ys)=true:=by simp only [cg];exact h
theorem DX {ys:List AV} (h:er ys=true):cg (.aA ys)=true:=by simp only [cg];exact h
end
end Go.VS
namespace Go.VS
def wx (t b:TypeId):Code:=
 (Go.Code.seq
  (Go.Code.region 0 #[{dst:=some 2,op:=Go.Op.assign (Go.Operand.const (Go.Value.slice none 0 0)),type:=t,pos:= "slices.go:355",after:= #[],guard:=none}] false)
  (Go.Code.seq
   (Go.Code.seq
    (Go.Code.region 1
     #[{dst:=some 3,op:=Go.Op.move (Go.Operand.tmp 0),type:=t,pos:= "slices.go:357",after:= #[],guard:=none},
      {dst:=some 4,op:=Go.Op.binOp Go.BinOp.eql t (Go.Operand.tmp 3) (Go.Operand.const (Go.Value.slice none 0 0)) t,type:=b,pos:= "slices.go:357",after:= #[{on:=0,ground:=Go.Ground.data}],guard:=none}]
     false)
    (Go.Code.cond (Go.Operand.tmp 4)
     (Go.Code.seq
      (Go.Code.region 2 #[{dst:=some 2,op:=Go.Op.assign (Go.Operand.const (Go.Value.slice none 0 0)),type:=t,pos:= "slices.go:358",after:= #[],guard:=none}] false)
      Go.Code.ret)
     Go.Code.skip))
   (Go.Code.seq
    (Go.Code.region 3
     #[{dst:=some 5,op:=Go.Op.buildSlice t 0 #[],type:=t,pos:= "slices.go:362",after:= #[],guard:=none},
      {dst:=some 6,op:=Go.Op.move (Go.Operand.tmp 0),type:=t,pos:= "slices.go:362",after:= #[],guard:=none},
      {dst:=some 7,op:=Go.Op.call {callee:=Go.Callee.builtin Go.Builtin.append,args:= #[Go.Operand.tmp 5,Go.Operand.tmp 6],argTypes:= #[t,t]},type:=t,pos:= "slices.go:362",after:= #[{on:=0,ground:=Go.Ground.data},{on:=1,ground:=Go.Ground.data}],guard:=none},
      {dst:=some 2,op:=Go.Op.assign (Go.Operand.tmp 7),type:=t,pos:= "slices.go:362",after:= #[{on:=2,ground:=Go.Ground.data},{on:=2,ground:=Go.Ground.chain},{on:=0,ground:=Go.Ground.phase},{on:=1,ground:=Go.Ground.phase},{on:=2,ground:=Go.Ground.phase}],guard:=none}]
     false)
    Go.Code.ret)))
def kC:bK:=fun _ _ _ _=>False
def g_ (E:aE):aK:=⟨E,fun _=>{},fun _=>none,kC⟩
theorem Ar {w:World} {H:J} {φ :ag} {A:aj} {xs:List AV} {v:Value} (h:R w H φ A (.fz xs) v): ∃a cap,v= .slice a xs.length cap:=by
 cases h.dU with
 |cO a cap=>exact ⟨a,cap,rfl⟩
 |fz _ c off cap n arr T fr=>exact ⟨_,_,rfl⟩
theorem As {P:Program} {w:World} {t e:TypeId} {a:Option Addr} {n cap:Nat} (h:(underlying t).run P w= .ok (.slice e) w) (d:Nat): ∃b,(Op.equalIn (d+1) t (.slice a n cap) (.slice none 0 0)).run P w= .ok b w∧(b=true→a=none):=by
 cases a with
 |none=>exact ⟨true,by simp [Op.equalIn,h],fun _=>rfl⟩
 |some a=>exact ⟨false,qC h d,by simp⟩
theorem At: ∀c:Code,c9 {} c=true:=by
 intro c;induction c with
 |seq a b gB gD=>simp [c9,gB,gD]
 |cond c a b gB gD=>simp [c9,gB,gD]
 |block id a ih=>simp [c9,ih]
 |loop a ih=>simp [c9,ih]
 |region id ops draw=>simp [c9]
 |_=>simp [c9]
section
variable {P:Program} {E:aE}
theorem Au (hm:P.follows .mixedOrders=true) (hE: ∀t ti,E t=some ti→aW P t ti) {f:FuncId} {fn:Func} {t b e:TypeId} {ti te:TI} (hf:P.funcs[f]? =some fn) (pE:(fn.name== "runtime.NumGoroutine")=false)
 (hb:fn.body=some (wx t b)) (hr:fn.results= #[.tmp 2]) (hn:fn.ntmps=8) (ht:E t=some ti) (hu:ti.au= .sl e) (he:E e=some te) (xs:List AV) (H:J) (hz:bp te.sz xs=true) (h0:te.sz≠0) (ej:roomy xs.length te.bytes=true):
 dh P f [.fz xs] H (fun v H' =>v=(if xs=[] then .e0 else .ref H.bs.length H.st 0 xs.length)∧H' =(if xs=[] then H else H.new te.sz false xs)):=by
 have dA:Exact kC:=fun _ _ _ _ h=>h.elim;have hX: ∀f ys H K,kC f ys H K→dh P f ys H K:=fun _ _ _ _ h=>h.elim;have hD:mT P (g_ E) kC:=sF (C:=g_ E) dA hm hE hX;have qb:=fun (c:Code) s H K Q w φ A a h=>r_ (P:=P) (C:=g_ E) (X:=kC) hm hE hX hD {} c 0 s H K Q w φ A a (At c) h;refine ⟨⟨fn,hf,pE,by simp [hb]⟩,fun w A φ us ae hl gk=> ?_⟩
 refine calls_of_wp hf hb ?_;rw [hn];obtain ⟨v,rfl⟩: ∃v,us= #[v]:=by
  match us,hl with
  |⟨[v]⟩,_=>exact ⟨v,rfl⟩
 have hv:R w H φ A (.fz xs) v:=gk 0 _ _ rfl rfl;have eD:SF w H φ A [.fz xs,.undef,.undef,.undef,.undef,.undef,.undef,.undef] {tmps:= #[v] ++ Array.replicate (8-1) undef,defers:=[]}:=by
  refine ⟨rfl,fun i x u hx hu=> ?_,rfl⟩
  match i with
  |0=>simp at hx hu;subst hx;subst hu;exact hv
  |i+1=>
   have:x= .undef:=by
    match i with
    |0|1|2|3|4|5|6=>simpa using hx.symm
    |i+7=>simp at hx
   subst this;exact .fr _ _ (.undef _)
 have fin: ∀(s' :ah) (H' :J) (ak:ag) (A' :aj) (a' :Act) (w' :World) (x:AV),Out w H φ A w' H' ak A' →SF w' H' ak A' s' a' →s'.getD 2 .undef=x→(∀u,R w' H' ak A' x u→ ∃y,R w' H' ak A' y u∧(y=(if xs=[] then .e0 else .ref H.bs.length H.st 0 xs.length)∧H' =(if xs=[] then H else H.new te.sz false xs)))→
  a'.defers=[]∧ ∃v,(results fn a'.tmps).run P w' = .ok v w' ∧iM w H φ A (fun v H' =>v=(if xs=[] then .e0 else .ref H.bs.length H.st 0 xs.length)∧H' =(if xs=[] then H else H.new te.sz false xs)) (.returned v) w' :=by
  intro s' H' ak A' a' w' x h1 h2 hx hy
  refine ⟨h2.eS,?_⟩;obtain ⟨cF,k1,k2,k3⟩:=sb (P:=P) (C:=g_ E) hE h1.st h2 (fn:=fn) (rs:=[x]) (by rw [hr];simp only [dc,hx,Option.map_some])
  obtain ⟨u,rfl⟩: ∃u,cF=[u]:=by
   match cF,k2 with
   |[u],_=>exact ⟨u,rfl⟩
  obtain ⟨y,Av,Aw⟩:=hy u (k3 0 x u rfl rfl);exact ⟨_,k1,y,H',ak,A',h1,by simpa [ii] using Av,Aw⟩
 refine wp_seq (qb _ _ H (fun e s1 H1=>e= .normal∧s1=[.fz xs,.undef,.nil,.undef,.undef,.undef,.undef,.undef]∧H1=H) _ w φ A _ ?_ ae eD ?_)
 ·simp [da,jT,iD,fW,aN,cX,dm,wpOp,dX,aP,ev,ofValue,aZ,g_]
 rintro e1 s1 H1 φ1 A1 a1 w1 o1 cP ⟨rfl,rfl,rfl⟩;show (Code.seq _ _).wp P _ a1 w1;have lH:=o1.st;refine wp_seq (wp_seq (wp_region_list ?_));simp only [wpList];rw [if_pos (by simp [Region.wanted])]
 refine .inl (mO (C:=g_ E) (X:=kC) hE hX lH (s:=[.fz xs,.undef,.nil,.undef,.undef,.undef,.undef,.undef]) (fun x _=>cP.ev x) (th:=false) (K:=fun x H' =>x= .fz xs∧H' =H1) (by simp [wpOp,dX,aP,ev]) ?_)
 rintro x3 v3 w3 H3 c8 A3 o3 qc ⟨rfl,rfl⟩;have Ax:=(cP.mono o3.b8).set (some 3) qc;have lG:=o3.st;rw [if_pos (by simp [Region.wanted])]
 have Ay:(a1.put (some 3) v3).eval (.tmp 3)=v3:=by
  have:a1.tmps.size=8:=by have:=cP.len;simpa using this.symm
  simp [Act.eval,Act.put,this]
 obtain ⟨a0,cap,rfl⟩:=Ar qc;obtain ⟨bb,kd,Az⟩:=As (a:=a0) (n:=xs.length) (cap:=cap) ((hE t ti ht).sl w3 hu) 9999;have AA:cp w3 H3 c8 A3 H3 ((execOp (a1.put (some 3) (.slice a0 xs.length cap)).eval {dst:=some 4,op:=Go.Op.binOp Go.BinOp.eql t (Go.Operand.tmp 3) (Go.Operand.const (Go.Value.slice none 0 0)) t,type:=b,pos:= "slices.go:357",after:= #[{on:=0,ground:=Go.Ground.data}],guard:=none}).run P w3) (.bool bb):=by
  have hg:=iF P w3 .eql t (.tmp 3) (.const (.slice none 0 0)) (.slice a0 xs.length cap) (.slice none 0 0) (by simp) rfl
  have AB:binOp .eql t (.slice a0 xs.length cap) (.slice none 0 0)=(do pure (.bool (←Op.equal t (.slice a0 xs.length cap) (.slice none 0 0)))):=rfl
  rw [←n6] at kd;refine cp.k9 lG (.inl rfl) (a9.fM lG ⟨.bool bb,?_,.fr _ _ (.bool _)⟩);rw [Ay];show (do eqGuard .eql t (.tmp 3) (.const (.slice none 0 0)) (.slice a0 xs.length cap) (.slice none 0 0);binOp .eql t (.slice a0 xs.length cap) (.slice none 0 0):Sem Value).run P w3=_
  simp [hg,AB,kd]
 refine .inl (AA.upon fun v4 w4 wy A4 o4 AD=> ?_);have wz:=(Ax.mono o4.b8).set (some 4) AD;have qd:=o4.st;have wA:Out w H3 φ A w4 H3 wy A4:=o1.trans ae (o3.trans lH (o4.trans lG (.refl qd)));simp only [aZ,List.set_cons_succ,List.set_cons_zero] at wz;simp only [Exit.then];refine qb _ [.fz xs,.undef,.nil,.fz xs,.bool bb,.undef,.undef,.undef] H3 (fun e s' H' =>H' =H3∧if bb=true then e= .ret∧s' =[.fz xs,.undef,.nil,.fz xs,.bool bb,.undef,.undef,.undef] else e= .normal∧s' =[.fz xs,.undef,.nil,.fz xs,.bool bb,.undef,.undef,.undef]) _ w4 wy A4 _ ?_ qd wz ?_
 ·cases bb
  ·simp [da,lX,aN,ev,g_]
  ·simp [da,lX,jT,iD,fW,aN,cX,dm,wpOp,dX,aP,ev,ofValue,aZ,g_];exact ⟨_,_,⟨rfl,rfl⟩,rfl,rfl⟩
 rintro e5 s5 H5 AE A5 a5 w5 o5 wB ⟨rfl,nF⟩;cases bb with
 |true=>
  simp only [if_true] at nF;obtain ⟨rfl,rfl⟩:=nF;obtain rfl:=Az rfl;have ec:xs=[]:=by
   cases DY:qc.dU with
   |cO=>rfl
  subst ec;show (bodyPost P fn _) .ret a5 w5;refine fin _ _ _ _ _ _ .nil (wA.trans ae o5) wB rfl fun u hu=>⟨.e0,?_,by simp⟩
  have:=hu.dn;subst this;exact .fr _ _ (.e0 none)
 |false=>
  simp only [Bool.false_eq_true,if_false] at nF;obtain ⟨rfl,rfl⟩:=nF;show (Code.seq _ _).wp P _ a5 w5;refine qb _ [.fz xs,.undef,.nil,.fz xs,.bool false,.undef,.undef,.undef] H5 (fun e s' H' =>e= .ret∧s'.getD 2 .undef=(if xs=[] then .e0 else .ref H5.bs.length H5.st 0 xs.length)∧H' =(if xs=[] then H5 else H5.new te.sz false xs)) _ w5 AE A5 a5 ?_ o5.st wB ?_
  ·by_cases ec:xs=[]
   ·subst ec;simp [da,jT,iD,fW,aN,cX,dm,wpOp,dX,aP,ev,aZ,g_,cc,ht,hu,he,ck,dR,b6,bp,h0];refine ⟨_,_,⟨rfl,rfl⟩,_,_,⟨rfl,rfl⟩,_,_,⟨rfl,rfl⟩,?_⟩;simp
   ·have hlen: ¬xs.length=0:=by simpa using ec
    simp [da,jT,iD,fW,aN,cX,dm,wpOp,dX,aP,ev,aZ,g_,cc,ht,hu,he,ck,dR,b6,h0,ec];refine ⟨_,_,⟨rfl,rfl⟩,_,_,⟨rfl,rfl⟩,_,_,⟨rfl,rfl⟩,?_⟩;simp [hz,ej,ec]
  ·rintro e6 s6 H6 DZ A6 a6 w6 o6 AF ⟨rfl,AG,rfl⟩;show (bodyPost P fn _) .ret a6 w6;exact fin _ _ _ _ _ _ _ (wA.trans ae (o5.trans qd o6)) AF AG fun u hu=>⟨_,hu,rfl,rfl⟩
def qe (ids:List (FuncId×Nat×Nat)):bK:=fun f ys H K=> ∃sz b xs,(f,sz,b)∈ids∧ys=[.fz xs]∧bp sz xs=true∧sz≠0∧roomy xs.length b=true∧K (if xs=[] then .e0 else .ref H.bs.length H.st 0 xs.length) (if xs=[] then H else H.new sz false xs)
structure AI (P:Program) (E:aE) (f:FuncId) (sz b:Nat):Prop where
 out: ∃fn t bt e ti te,P.funcs[f]? =some fn∧(fn.name== "runtime.NumGoroutine")=false∧fn.body=some (wx t bt)∧fn.results= #[.tmp 2]∧fn.ntmps=8∧E t=some ti∧ti.au= .sl e∧E e=some te∧te.sz=sz∧te.bytes=b
theorem D0 (hm:P.follows .mixedOrders=true) (hE: ∀t ti,E t=some ti→aW P t ti) {ids:List (FuncId×Nat×Nat)} (AJ: ∀x∈ids,AI P E x.1 x.2.1 x.2.2):
 ∀f ys H K,qe ids f ys H K→ ∃v H',dh P f ys H (fun v1 H1=>v1=v∧H1=H')∧K v H' :=by
 rintro f ys H K ⟨sz,b,xs,h1,rfl,h2,h3,h4,h5⟩;obtain ⟨fn,t,bt,e,ti,te,k1,k2,k3,k4,k5,k6,k7,k8,rfl,rfl⟩:=(AJ _ h1).out;exact ⟨_,_,Au hm hE k1 k2 k3 k4 k5 k6 k7 k8 xs H h2 h3 h4,h5⟩
theorem D1 {C:aK} {ids:List (FuncId×Nat×Nat)} (h:C.ext=qe ids):Good C:=by
 constructor
 ·rintro f ys H K K' hK hx
  rw [h] at hx⊢;obtain ⟨sz,b,xs,h1,h2,h3,h4,h5,h6⟩:=hx;exact ⟨sz,b,xs,h1,h2,h3,h4,h5,hK _ _ h6⟩
 ·rintro f ys H K hx;rw [h] at hx⊢;obtain ⟨sz,b,xs,h1,h2,h3,h4,h5,h6⟩:=hx;exact ⟨_,_,⟨sz,b,xs,h1,h2,h3,h4,h5,rfl,rfl⟩,h6⟩
theorem D2 {C:aK} {ids:List (FuncId×Nat×Nat)} (hx:C.ext=qe ids) {α :Type} {f:FuncId} {sz b:Nat} (bU:(f,sz,b)∈ids) {c: α →AV} (hc: ∀x,(c x).cells.length=sz) (h0:sz≠0) {l r:List α} (h:app b [] l=some r) {F:List It} {H:J} (hS:ap H F)
 {P:AV→J→Prop} (hP: ∀v,aJ v→ ∀H',ap H' (⟨v,sz,r.map c⟩::F)→P v H'):aw C f [.fz (l.map c)] H P:=by
 unfold app at h;split at h
 ·rename_i hr;simp only [List.nil_append,Option.some.injEq] at h;subst h;simp only [List.length_nil,Nat.zero_add] at hr;refine aw.ext ?_;rw [hx];refine ⟨sz,b,l.map c,bU,rfl,kA hc l,h0,by simpa using hr,?_⟩
  cases l with
  |nil=>exact hP _ ny _ (by simpa using hS.Ai sz)
  |cons x l=>
   rw [if_neg (by simp),if_neg (by simp)]
   exact hP _ (eW ..) _ (hS.iU (all:=(x::l).map c) (List.take_of_length_le (Nat.le_refl _)) rfl (kA hc _))
 ·simp at h
end
theorem D3 {E:aE} {s:ah} {H:J} {L:List It} {α β :Type} {t:TypeId} {x i:Operand} {ti te:TI} {e:TypeId} (j:Nat) (hS:ap H L) {v w:AV} {l:List α} {c: α →AV} {sz:Nat} (hj:L[j]? =some ⟨v,sz,l.map c⟩)
 (ht:E t=some ti) (hu:ti.au= .sl e) (he:E e=some te) (aG:sz=te.sz) {k:IntKind} {n:Int} {l0:List β} {y: β} {id ad off:Nat} (hv:v= .ref id ad off l0.length) (hb:idx l0 n=some y)
 (hx:ev s x=v) (hi:ev s i= .int k n) (hw:w= .ptr id ad (off+n.toNat) 0) {op:Op} (bA:op= .indexAddr t x i):aP E op s H=some (w,H):=by
 subst bA;obtain ⟨h0,h2,h1⟩:=gF hb;subst hv;obtain ⟨_,h3,b,hb,h4,_,h5,h6⟩:=hS.ok j _ hj;simp only at h3 h4 h5;simp only [aP,ht,hi,hu,he,hx,hb];rw [if_pos ⟨by rw [h4,aG],h0,h2,h5⟩,hw]
theorem D4 {E:aE} {s:ah} {H:J} {L:List It} {α :Type} {t:TypeId} {x:Operand} {ti:TI} (j:Nat) (hS:ap H L) {v w:AV} {l:List α} {c: α →AV} {sz:Nat} (hj:L[j]? =some ⟨v,sz,l.map c⟩)
 (ht:E t=some ti) {n:Int} {y: α} {id ad off k o:Nat} (hv:v= .ref id ad off k) (hb:idx l n=some y)
 (hx:ev s x= .ptr id ad (off+n.toNat) o) (hw:bS ti (c y) o=some w) {op:Op} (bA:op= .load t x):aP E op s H=some (w,H):=by
 subst bA;obtain ⟨b,h1,h2⟩:=hS.elem j hj hv hb;simp only [aP,ht,hx,h1,h2,hw]
end Go.VS
namespace Go.VS
structure bE (w:List AV) (n:Nat):Prop where
 len:w.length=n
 sl: ∀a∈w,aJ a
def bF {α β :Type} (p: α →List β) (c: β →AV) (z:Nat) (w:List AV) (l:List α):List It:=List.zipWith (fun a x=>⟨a,z,(p x).map c⟩) w l
def bf {α :Type} (m:AV→ α →AV) (w:List AV) (l:List α):List AV:=List.zipWith m w l
def nG {α β :Type} (p: α →List β) (c: β →AV) (z:Nat) (w:List AV) (l:List α) (i:Nat):List It:=(bF p c z w l).eraseIdx i
theorem D5 {α :Type} (c: α →AV) (l:List α):Am c l= .fz (l.map c):=rfl
theorem D6 {sz:Nat} {z x:AV} (h1:x.cells.length=sz) (h2:dC x=true):gK sz (List.replicate 1 z) [(0,x)]=some [x]:=by
 simp [gK,h1,h2,List.replicate]
theorem D7 {sz:Nat} {x:AV} (h1:x.cells.length=sz):bp sz [x]=true:=by simp [bp,h1]
theorem aJ.D8 {v:AV} (h:aJ v):v.cells.length=1:=by rw [h.cells];rfl
def gI:List (List It)→List It→List It
 |[],F=>F
 |a::as,F=>a ++ gI as F
theorem wC {α :Type} (a b c:List α):(a ++ (b ++ c)).Perm (b ++ (a ++ c)):=by
 rw [←List.append_assoc,←List.append_assoc];exact List.Perm.append_right _ List.perm_append_comm
theorem AK {as bs:List (List It)} (h:as.Perm bs) (F:List It):(gI as F).Perm (gI bs F):=by
 induction h with
 |nil=>exact .refl _
 |cons x _ ih=>exact List.Perm.append_left _ ih
 |swap x y l=>exact wC _ _ _
 |trans _ _ h1 h2=>exact h1.trans h2
theorem AM (as bs:List (List It)) (F:List It):gI (as ++ bs) F=gI as (gI bs F):=by
 induction as with
 |nil=>rfl
 |cons a as ih=>simp only [List.cons_append,gI,ih]
theorem wD (as:List (List It)) (F:List It):gI as F=as.flatten ++ F:=by
 induction as with
 |nil=>rfl
 |cons a as ih=>simp only [gI,ih,List.flatten_cons,List.append_assoc]
theorem wE: ∀(js L:List Nat),js.Nodup→(∀j∈js,j∈L)→ ∃rest,L.Perm (js ++ rest)
 |[],L,_,_=>⟨L,.refl _⟩
 |j::js,L,hn,hm=>by
  have wF:=List.nodup_cons.1 hn
  obtain ⟨rest,hr⟩:=wE js (L.erase j) wF.2 (fun k hk=>(List.mem_erase_of_ne (fun (e:k=j)=>wF.1 (e▸hk))).2 (hm k (by simp [hk])))
  exact ⟨rest,(List.perm_cons_erase (hm j (by simp))).trans (hr.cons j)⟩
section
variable {H:J} {L F R:List It}
theorem ap.AN {A B:List It} (h:ap H (A ++ (B ++ F))):ap H (A ++ F):=by
 have h1:ap H (B ++ (A ++ F)):=h.perm (wC _ _ _);clear h;induction B with
 |nil=>exact h1
 |cons b B ih=>exact ih h1.tl
theorem ap.D9 {bl:List (List It)} (h:ap H (gI bl F)) (n:Nat) (hn:bl.length=n) (js:List Nat) (hj:js.Nodup∧ ∀j∈js,j<n):ap H (gI (js.filterMap (bl[·]?)) F):=by
 subst hn;obtain ⟨rest,hr⟩:=wE js (List.range bl.length) hj.1 (fun j hm=>List.mem_range.2 (hj.2 j hm));have e:(List.range bl.length).filterMap (bl[·]?)=bl:=by
  refine List.ext_getElem? fun k=> ?_;have:(List.range bl.length).filterMap (bl[·]?)=(List.range bl.length).map (fun k=>bl.getD k []):=by
   have: ∀(l:List Nat),(∀k∈l,k<bl.length)→l.filterMap (bl[·]?)=l.map (fun k=>bl.getD k []):=by
    intro l;induction l with
    |nil=>intro _;rfl
    |cons k l ih=>
     intro hl;have hk:=hl k (by simp)
     rw [List.filterMap_cons,List.getElem?_eq_getElem hk,List.map_cons,ih (fun k h=>hl k (by simp [h]))]
     simp [List.getD,List.getElem?_eq_getElem hk]
   exact this _ (fun k h=>List.mem_range.1 h)
  rw [this,List.getElem?_map];by_cases hk:k<bl.length
  ·rw [List.getElem?_eq_getElem (by simpa using hk),List.getElem?_eq_getElem hk]
   simp [List.getD,List.getElem?_eq_getElem hk]
  ·rw [List.getElem?_eq_none (by simpa using hk),List.getElem?_eq_none (by omega)];rfl
 have hp:=hr.filterMap (bl[·]?);rw [e,List.filterMap_append] at hp;have h2:=h.perm (AK hp F);rw [AM] at h2;rw [wD] at h2⊢;rw [wD] at h2;exact h2.AN
variable {α β :Type} {p: α →List β} {c: β →AV} {z:Nat} {w:List AV} {l:List α} {m:AV→ α →AV} {v:AV} {sz:Nat}
theorem bE.nil:bE [] 0:=⟨rfl,by simp⟩
theorem bE.get (h:bE w l.length) {i:Int} {b: α} (hi:idx l i=some b): ∃a,w[i.toNat]? =some a∧aJ a:=by
 obtain ⟨_,_,h1⟩:=gF hi;have:=(List.getElem?_eq_some_iff.1 h1).1;have hw:i.toNat<w.length:=by rw [h.len];exact this
 exact ⟨_,List.getElem?_eq_getElem hw,h.sl _ (List.getElem_mem hw)⟩
theorem bE.set (h:bE w l.length) {a:AV} (ha:aJ a) (i:Nat) (y: α):bE (w.set i a) (l.set i y).length:=by
 refine ⟨by simpa using h.len,fun x hx=> ?_⟩
 rcases List.mem_or_eq_of_mem_set hx with h1|rfl
 ·exact h.sl _ h1
 ·exact ha
theorem bE.app {w' :List AV} {l' :List α} (h:bE w l.length) (h' :bE w' l'.length):bE (w ++ w') (l ++ l').length:=by
 refine ⟨by simp [h.len,h'.len],fun x hx=> ?_⟩
 rcases List.mem_append.1 hx with h1|h1
 ·exact h.sl _ h1
 ·exact h'.sl _ h1
theorem jJ (h:bE w l.length):(bf m w l).length=l.length:=by simp [bf,h.len]
theorem AO {i:Nat} {a:AV} {b: α} (ha:w[i]? =some a) (hb:l[i]? =some b):(bf m w l)[i]? =some (m a b):=by
 simp [bf,List.getElem?_zipWith,ha,hb]
theorem wG {i:Nat} {a:AV} {b: α} (ha:w[i]? =some a) (hb:l[i]? =some b):(bF p c z w l)[i]? =some ⟨a,z,(p b).map c⟩:=by
 simp [bF,List.getElem?_zipWith,ha,hb]
theorem qf {γ δ ε :Type} (f: γ → δ → ε): ∀(a:List γ) (b:List δ) (i:Nat) (x: γ) (y: δ),List.zipWith f (a.set i x) (b.set i y)=(List.zipWith f a b).set i (f x y)
 |[],_,i,x,y=>by simp
 |a::as,[],i,x,y=>by cases i<;>simp
 |a::as,b::bs,0,x,y=>rfl
 |a::as,b::bs,i+1,x,y=>by simp [qf f as bs i x y]
theorem wH {γ δ ε :Type} (f: γ → δ → ε) {a a' :List γ} {b b' :List δ} (h:a.length=b.length):List.zipWith f (a ++ a') (b ++ b')=List.zipWith f a b ++ List.zipWith f a' b' :=List.zipWith_append h
theorem wI {γ :Type} {l:List γ} {i:Nat} {x: γ} (h:l[i]? =some x):l.set i x=l:=List.ext_getElem? fun k=>by
 rw [List.getElem?_set];split
 ·rename_i e;subst e;have:=(List.getElem?_eq_some_iff.1 h).1;simp only [this,if_true];exact h.symm
 ·rfl
theorem wJ {γ :Type} {l:List γ} {i:Nat} {x: γ} (h:l[i]? =some x):l.Perm (x::l.eraseIdx i):=by
 have he:=(List.getElem?_eq_some_iff.1 h).2;have:l=l.take i ++ x::l.drop (i+1):=by rw [←he,List.getElem_cons_drop,List.take_append_drop]
 rw [List.eraseIdx_eq_take_drop_succ]
 conv=>lhs;rw [this]
 exact List.perm_middle
theorem AP {γ :Type} (l:List γ) (i:Nat) (x: γ):(l.set i x).eraseIdx i=l.eraseIdx i:=by
 induction l generalizing i with
 |nil=>rfl
 |cons a l ih=>cases i with
  |zero=>rfl
  |succ i=>simp [ih]
theorem D_ {i:Int} {b: α} (hS:ap H (⟨v,sz,bf m w l⟩::(bF p c z w l ++ R))) (hq:bE w l.length) (hi:idx l i=some b):
 ∃a,aJ a∧ap H (⟨a,z,(p b).map c⟩::⟨v,sz,(bf m w l).set i.toNat (m a b)⟩::(nG p c z w l i.toNat ++ R)):=by
 obtain ⟨a,ha,hs⟩:=hq.get hi;obtain ⟨_,_,hb⟩:=gF hi;refine ⟨a,hs,?_⟩;rw [wI (AO ha hb)];have h1:=wJ (wG (p:=p) (c:=c) (z:=z) ha hb);have h2:(⟨v,sz,bf m w l⟩::(bF p c z w l ++ R)).Perm (⟨a,z,(p b).map c⟩::⟨v,sz,bf m w l⟩::(nG p c z w l i.toNat ++ R)):=by
  refine List.Perm.trans ?_ (List.Perm.swap _ _ _);exact List.Perm.cons _ ((List.Perm.append_right R h1))
 exact hS.perm h2
theorem AQ {i:Int} {b y: α} {a:AV} (hS:ap H (⟨a,z,(p y).map c⟩::⟨v,sz,(bf m w l).set i.toNat (m a y)⟩::(nG p c z w l i.toNat ++ R))) (hq:bE w l.length) (ha:aJ a) (hi:idx l i=some b):
 ∃w',bE w' (l.set i.toNat y).length∧ap H (⟨v,sz,bf m w' (l.set i.toNat y)⟩::(bF p c z w' (l.set i.toNat y) ++ R)):=by
 obtain ⟨a0,jn,hs⟩:=hq.get hi;obtain ⟨_,_,hb⟩:=gF hi;refine ⟨w.set i.toNat a,hq.set ha _ _,?_⟩;have e1:bf m (w.set i.toNat a) (l.set i.toNat y)=(bf m w l).set i.toNat (m a y):=qf _ _ _ _ _ _;have e2:bF p c z (w.set i.toNat a) (l.set i.toNat y)=(bF p c z w l).set i.toNat ⟨a,z,(p y).map c⟩:=qf _ _ _ _ _ _;have ax:i.toNat<(bF p c z w l).length:=(List.getElem?_eq_some_iff.1 (wG (p:=p) (c:=c) (z:=z) jn hb)).1;have h1:=wJ (l:=(bF p c z w l).set i.toNat ⟨a,z,(p y).map c⟩) (i:=i.toNat) (x:=⟨a,z,(p y).map c⟩) (by simp [ax])
 rw [AP] at h1;rw [e1,e2];refine hS.perm (List.Perm.trans (List.Perm.swap _ _ _) (List.Perm.cons _ ?_));exact (List.Perm.append_right R h1.symm)
theorem AR {w' :List AV} {l' :List α} {v' :AV} (hS:ap H (⟨v',sz,bf m w l ++ bf m w' l'⟩::(bF p c z w l ++ (bF p c z w' l' ++ R)))) (hq:bE w l.length) (jw:bE w' l'.length):
 ∃w2,bE w2 (l ++ l').length∧ap H (⟨v',sz,bf m w2 (l ++ l')⟩::(bF p c z w2 (l ++ l') ++ R)):=by
 refine ⟨w ++ w',hq.app jw,?_⟩;have hl:=hq.len;have e1:bf m (w ++ w') (l ++ l')=bf m w l ++ bf m w' l' :=wH _ hl
 have e2:bF p c z (w ++ w') (l ++ l')=bF p c z w l ++ bF p c z w' l' :=wH _ hl
 rw [e1,e2,List.append_assoc];exact hS
theorem Ea (hS:ap H (⟨v,sz,[]⟩::R)): ∃w,bE w ([]:List α).length∧ap H (⟨v,sz,bf m w ([]:List α)⟩::(bF p c z w ([]:List α) ++ R)):=⟨[],bE.nil,hS⟩
theorem Eb {a:AV} {b: α} (hS:ap H (⟨v,sz,[m a b]⟩::⟨a,z,(p b).map c⟩::R)) (ha:aJ a): ∃w,bE w [b].length∧ap H (⟨v,sz,bf m w [b]⟩::(bF p c z w [b] ++ R)):=
 ⟨[a],⟨rfl,by simpa using ha⟩,hS⟩
theorem AS {n:Nat} {d: α} (hd:p d=[]) (hS:ap H (⟨v,sz,List.replicate n (m .nil d)⟩::R)): ∃w,bE w (List.replicate n d).length∧ap H (⟨v,sz,bf m w (List.replicate n d)⟩::(bF p c z w (List.replicate n d) ++ R)):=by
 refine ⟨List.replicate n .nil,⟨by simp,fun a h=>by rw [(List.mem_replicate.1 h).2];exact lP⟩,?_⟩
 have e1:bf m (List.replicate n AV.nil) (List.replicate n d)=List.replicate n (m .nil d):=by simp [bf]
 have e2:bF p c z (List.replicate n AV.nil) (List.replicate n d)=List.replicate n ⟨.nil,z,[]⟩:=by simp [bF,hd]
 rw [e1,e2];have: ∀n,ap H (List.replicate n ⟨.nil,z,[]⟩ ++ (⟨v,sz,List.replicate n.succ (m .nil d)⟩::R))→True:=fun _ _=>trivial;clear this e1 e2;have h1: ∀(k:Nat) (x:It),ap H (x::R)→ap H (x::(List.replicate k ⟨.nil,z,[]⟩ ++ R)):=by
  intro k x hx;induction k with
  |zero=>exact hx
  |succ k ih=>exact (ih.u2 z).perm (List.Perm.swap _ _ _)
 exact h1 n _ hS
theorem Ec {E:aE} {t:TypeId} {ti te:TI} {e:TypeId} {K:AV→J→Prop} (j:Nat) (hS:ap H L) {el:List AV} {x:AV} (hj:L[j]? =some ⟨v,sz,el⟩) (ht:E t=some ti) (hu:ti.au= .sl e) (he:E e=some te) (aG:sz=te.sz) {k:IntKind} {n:Int}
 (h0:0≤n) (hx:el[n.toNat]? =some x) (hp:aJ v) (hk: ∀id ad off,v= .ref id ad off el.length→(∃b,H.aq id ad=some b∧b.el[off+n.toNat]? =some x)→K (.ptr id ad (off+n.toNat) 0) H):iy E t v (.int k n) H K:=by
 have af:=(hS.ok j _ hj).2;have ax:=(List.getElem?_eq_some_iff.1 hx).1;simp only at af;have aH:el≠[]:=by intro e;subst e;simp at hx
 split at af
 ·exact absurd af aH
 ·exact absurd af aH
 ·rename_i id ad off len;obtain ⟨h3,b,hb,h4,_,h5,h6⟩:=af;subst h3;simp only [iy,ht,hu,he,hb];rw [if_pos ⟨by rw [h4,aG],h0,by omega,h5⟩]
  refine hk id ad off rfl ⟨b,hb,?_⟩;have:=congrArg (·[n.toNat]?) h6;simp only [hx,aI] at this;rw [←this,List.getElem?_take,List.getElem?_drop,if_pos (by omega)]
 ·rename_i id ad ix off;obtain ⟨rfl,rfl,_⟩:=af;exact absurd rfl (hp.ne id ad)
 ·exact af.elim
theorem Ed {C:aK} {th:Bool} {s:ah} {K:AV→J→Prop} {t:TypeId} {x xw:Operand} {ti:TI} {id ad off n o:Nat} {a y y' :AV} {el fi:List AV} {i:Nat} (j:Nat) (hS:ap H L) (hj:L[j]? =some ⟨v,sz,el⟩) (hv:v= .ref id ad off n) (hi:el[i]? =some y) (ht:C.E t=some ti) (hx:ev s x= .ptr id ad (off+i) o) (hw:ev s xw=a)
 (h1:a.cells.length=ti.sz) (h2:dC a=true) (hr:eY y o a=some y') (h3:y'.cells.length=sz) (AT:el.set i y' =fi) (h: ∀H',ap H' (L.set j ⟨v,sz,fi⟩)→K (.aA []) H'):aV (aw C) C false th (.store t x xw) s H K:=by
 rw [pT _ (by simp)]
 subst hv;obtain ⟨k0,k1,b,hb,k2,k3,k4,k5⟩:=hS.ok j _ hj;simp only at k1 k5 k0;have ax:=(List.getElem?_eq_some_iff.1 hi).1;have he:b.el[off+i]? =some y:=by
  have:=congrArg (·[i]?) k5;simp only [hi,aI] at this;rw [←this,List.getElem?_take,List.getElem?_drop,if_pos (by omega)]
 simp only [aP,ht,hx,hw,hb,he,h1,h2,and_self,if_true,hr,cr];have bz:=(J.bm hb).2;subst AT;refine h _ (hS.bg hj rfl (fun dH fp aH _=>kx aH) ⟨?_,by simpa using k1,{b with el:=b.el.set (off+i) y' },?_,k2,k3,by simpa using k4,?_⟩ (fun k hk=>by simpa [bY] using hk.symm))
 ·simp only [bp,List.all_eq_true] at k0⊢;intro q hq;rcases List.mem_or_eq_of_mem_set hq with h' |rfl
  ·exact k0 _ h'
  ·simpa using h3
 ·have:=jF (b:={b with el:=b.el.set (off+i) y' }) ((hS.ok j _ hj).lt rfl)
  simpa only [bz] using this
 ·simp only [aI] at k5⊢;rw [←k5,List.drop_set,if_neg (by omega),List.take_set]
  congr 1;omega
theorem ap.takeN {es:List Sh} {d: α →AV} (hS:ap H (⟨v,es.length,bf m w l⟩::(bF p c z w l ++ R))) (hv:aJ v) (hq:bE w l.length)
 (hc: ∀(a:AV) (x: α) (H:J) (L:List It),aJ a→ap H (⟨a,z,(p x).map c⟩::L)→ ∃H',aR es (m a x) H=some (d x,H')∧ap H' L): ∃H',aR [.sl es] v H=some (.own es.length (l.map d),H')∧ap H' R:=by
 have key: ∀(l:List α) (w:List AV) (H:J),bE w l.length→ap H (bF p c z w l ++ R)→ ∃H',cW (aR es) (bf m w l) H=some (l.map d,H')∧ap H' R:=by
  intro l;induction l with
  |nil=>
   intro w H hq hS;have:w=[]:=List.eq_nil_of_length_eq_zero hq.len;subst this;exact ⟨H,rfl,hS⟩
  |cons x l ih=>
   intro w H hq hS;cases w with
   |nil=>have:=hq.len;simp at this
   |cons a w=>
    obtain ⟨H1,h1,h2⟩:=hc a x H (bF p c z w l ++ R) (hq.sl a (by simp)) hS
    obtain ⟨H2,h3,h4⟩:=ih w H1 ⟨by have:=hq.len;simpa using this,fun b hb=>hq.sl b (by simp [hb])⟩ h2
    refine ⟨H2,?_,h4⟩;show cW (aR es) (m a x::bf m w l) H=_;simp only [cW,h1,h3,List.map_cons]
 have af:=hS.ok 0 _ rfl;obtain ⟨k0,af⟩:=af;have e1:aR [.sl es] v H=aO (.sl es) v H:=by
  have jI: ∀cs,v≠ .agg cs:=by rintro cs rfl;exact af
  cases v with
  |agg cs=>exact absurd rfl (jI cs)
  |_=>simp only [aR]
 rw [e1];simp only at af;have gu:bf m w l=[]→l=[]∧w=[]:=by
  intro h;have h1:=jJ (m:=m) hq;rw [h] at h1;have hl:l=[]:=List.eq_nil_of_length_eq_zero h1.symm;refine ⟨hl,?_⟩;have:=hq.len;rw [hl] at this;exact List.eq_nil_of_length_eq_zero this
 split at af
 ·obtain ⟨rfl,rfl⟩:=gu af;exact ⟨H,by simp only [aO];rfl,hS.tl⟩
 ·obtain ⟨rfl,rfl⟩:=gu af;exact ⟨H,by simp only [aO];rfl,hS.tl⟩
 ·rename_i id ad off len;obtain ⟨k1,b,hb,k2,k3,k4,k5⟩:=af;have hd:ap (H.del id) (bF p c z w l ++ R):=hS.tl.del fun i it hi e=>by
   have:=hS.b_ 0 (i+1) _ it id rfl (by simpa using hi) rfl e
   omega
  obtain ⟨H',h1,h2⟩:=key l w (H.del id) hq hd;refine ⟨H',?_,h2⟩;simp only [aO,hb];rw [if_pos ⟨k2,k4,.inl k3⟩,k5,h1]
 ·rename_i id ad ix off;obtain ⟨rfl,rfl,_⟩:=af;exact absurd rfl (hv.ne id ad)
 ·exact af.elim
theorem Ee {fs:List Sh} {γ :Type} {c: γ →AV} {b:List γ} {a:AV} (hc: ∀x H,aR fs (c x) H=some (c x,H)) (ha:aJ a) (hS:ap H (⟨a,fs.length,b.map c⟩::L)): ∃H',aR [.sl fs] a H=some (.own fs.length (b.map c),H')∧ap H' L:=by
 obtain ⟨H',h1,h2⟩:=hS.take 0 rfl ha hc;exact ⟨H',h1,h2⟩
theorem Ef {i:Int} {b: α} {a:AV} (hS:ap H (⟨a,z,(p b).map c⟩::⟨v,sz,(bf m w l).set i.toNat (m a b)⟩::(nG p c z w l i.toNat ++ R))) (hq:bE w l.length) (ha:aJ a) (hi:idx l i=some b):
 ∃w',bE w' l.length∧ap H (⟨v,sz,bf m w' l⟩::(bF p c z w' l ++ R)):=by
 obtain ⟨w',h1,h2⟩:=AQ hS hq ha hi;obtain ⟨_,_,hb⟩:=gF hi;rw [wI hb] at h1 h2;exact ⟨w',h1,h2⟩
theorem Eg {i:Int} {b: α} {x:AV} (hq:bE w l.length) (hi:idx l i=some b):((bf m w l).set i.toNat x)[i.toNat]? =some x:=by
 obtain ⟨_,h1,_⟩:=gF hi;have:i.toNat<(bf m w l).length:=by rw [jJ hq];omega
 simp [this]
theorem Eh {K:AV→J→Prop} (j:Nat) (hS:ap H L) (hj:L[j]? =some ⟨v,sz,bf m w l⟩) (hp:aJ v) (hq:bE w l.length) {ti:TI} {e:TypeId} (hu:ti.au= .sl e) (h:K (.int .i64 l.length) H):cT (some ti) v (lenOf H v) H K:=
 uJ j hS hj hp hu (by rw [jJ hq];exact h)
theorem Ei {K:AV→J→Prop} (j:Nat) (hS:ap H L) {i:Nat} {x:AV} (hj:L[j]? =some ⟨v,sz,(bf m w l).set i x⟩) (hp:aJ v) (hq:bE w l.length) {ti:TI} {e:TypeId} (hu:ti.au= .sl e) (h:K (.int .i64 l.length) H):cT (some ti) v (lenOf H v) H K:=
 uJ j hS hj hp hu (by rw [List.length_set,jJ hq];exact h)
theorem wK {n:Nat} (hq:bE w l.length) (aG: ∀a x,aJ a→(m a x).cells.length=n):bp n (bf m w l)=true:=by
 simp only [bp,List.all_eq_true,bf];intro y hy;obtain ⟨k,hk⟩:=List.mem_iff_getElem?.1 hy;rw [List.getElem?_zipWith] at hk;split at hk
 ·rename_i a x ha _;simp only [Option.some.injEq] at hk;subst hk;simp [aG _ _ (hq.sl _ (List.mem_of_getElem? ha))]
 ·simp at hk
theorem Ej {γ :Type} {E:aE} {t u:TypeId} {te tu:TI} {e:TypeId} {x:AV} {w' :List AV} {l' :List α} {f:List α →Option γ} {r: γ} {K:AV→J→Prop} (hS:ap H (⟨v,te.sz,bf m w l⟩::⟨x,sz,bf m w' l'⟩::(bF p c z w l ++ (bF p c z w' l' ++ R)))) (hp:aJ v) (hx:aJ x) (hq:bE w l.length) (jw:bE w' l'.length)
 (ht:cc E t=some te) (hu:E u=some tu) (hi:tu.au= .sl e) (aG: ∀a y,aJ a→(m a y).cells.length=te.sz) (h0:(te.sz==0)=false) (hh:(app te.bytes l l').bind f=some r)
 (h: ∀v' H' lm w2,aJ v' →bE w2 lm.length→app te.bytes l l' =some lm→f lm=some r→ap H' (⟨v',te.sz,bf m w2 lm⟩::(bF p c z w2 lm ++ R))→K v' H'):cr (ck E .append #[t,u] [v,x] H) K:=by
 cases hr:app te.bytes l l' with
 |none=>rw [hr] at hh;simp at hh
 |some lm=>
  have bO:=hr
  unfold app at hr;split at hr
  ·rename_i iI;simp only [Option.some.injEq] at hr;subst hr;rw [bO] at hh;obtain ⟨v',H',h1,h2,h3⟩:=pX hS 0 rfl hp (hS.g6 1 rfl hx) (wK jw aG) (by simpa using h0) (by rw [jJ hq,jJ jw];exact iI)
   have e1:(#[t,u]:Array TypeId)[0]? =some t:=rfl;have e2:((#[t,u]:Array TypeId)[1]?).bind E=E u:=rfl;simp only [ck,e1,e2,ht,hu,hi,h1,cr];have h4:ap H' (⟨v',te.sz,bf m w l ++ bf m w' l'⟩::(bF p c z w l ++ (bF p c z w' l' ++ R))):=h3.drop 1
   obtain ⟨w2,k1,k2⟩:=AR h4 hq jw;exact h v' H' _ w2 h2 k1 bO hh k2
  ·simp at hr
theorem Ek {γ :Type} {C:aK} {q th:Bool} {s:ah} {K:AV→J→Prop} {t:TypeId} {xo yo:Operand} {te:TI} {z0:AV} {n:Int} {d: α} {f:List α →Option γ} {r: γ} (hS:ap H L) (ht:cc C.E t=some te) (hx:ev s xo= .int .i64 n) (hy:ev s yo= .int .i64 n) (hz:fT te=some z0) (hd:m .nil d=z0) (AU:p d=[]) (h0:(te.sz==0)=false)
 (hh:(eX te.bytes n d).bind f=some r) (h: ∀v H' l w,aJ v→bE w l.length→eX te.bytes n d=some l→f l=some r→ap H' (⟨v,te.sz,bf m w l⟩::(bF p c z w l ++ L))→K v H'):aV (aw C) C q th (.makeSlice t xo yo) s H K:=by
 refine Ah (c:=fun _: α =>z0) hS ht hx hy hz rfl h0 hh fun v H' l hv hm hf hS=> ?_
 have gJ:=hm
 unfold eX at gJ;split at gJ
 ·simp only [Option.some.injEq] at gJ;subst gJ;rw [List.map_replicate,←hd] at hS;obtain ⟨w,k1,k2⟩:=AS (p:=p) (c:=c) (z:=z) AU hS;exact h v H' _ w hv k1 hm hf k2
 ·simp at gJ
theorem wL {d enc: α →AV} (hz: ∀x,bq (d x)=enc x): ∀(l:List α),bM (l.map d)=l.map enc
 |[]=>rfl
 |x::l=>by simp only [List.map_cons,bM,hz x,wL hz l]
theorem El {s:ah} {t:Nat} {ts:List Nat} {es:List Sh} {fl:List (List Nat×List Sh)} {P:ah→J→Prop} {d enc: α →AV} (hS:ap H (⟨v,es.length,bf m w l⟩::(bF p c z w l ++ R))) (hv:aJ v) (hq:bE w l.length) (hs:s.getD t .undef=v)
 (hc: ∀(a:AV) (x: α) (H:J) (L:List It),aJ a→ap H (⟨a,z,(p x).map c⟩::L)→ ∃H',aR es (m a x) H=some (d x,H')∧ap H' L) (hz: ∀x,bq (d x)=enc x)
 (h: ∀H',e8 v v=true→ap H' R→FZ fl (e9 v (.fz (l.map enc)) ts (s.set t (.fz (l.map enc)))) H' P):FZ ((t::ts,[.sl es])::fl) s H P:=by
 obtain ⟨H',h1,h2⟩:=hS.takeN hv hq hc;rw [←hs] at h1;refine lR h1 ?_;simp only [bq,wL hz,hs];exact h H' hv.same h2
theorem Em {es fs:List Sh} {cs:List AV} {K:List AV→J→Prop} {d: α →AV} (hS:ap H (⟨v,fs.length,bf m w l⟩::(bF p c z w l ++ R))) (hv:aJ v) (hq:bE w l.length)
 (hc: ∀(a:AV) (x: α) (H:J) (L:List It),aJ a→ap H (⟨a,z,(p x).map c⟩::L)→ ∃H',aR fs (m a x) H=some (d x,H')∧ap H' L)
 (h: ∀H',ap H' R→TC es cs H' fun ys H' =>K (.own fs.length (l.map d)::ys) H'):TC (.sl fs::es) (v::cs) H K:=by
 obtain ⟨H',h1,h2⟩:=hS.takeN hv hq hc;have h3:aO (.sl fs) v H=some (.own fs.length (l.map d),H'):=by
  have jI: ∀cs,v≠ .agg cs:=by rintro cs rfl;rcases hv.ok with h|h|⟨_,_,_,_,h⟩<;>simp at h
  cases v with
  |agg cs=>exact absurd rfl (jI cs)
  |_=>simpa only [aR] using h1
 exact kB h3 (h H' h2)
theorem En {n:Nat} {γ :Type} {g: γ →AV} {b:List γ} {a:AV} (hk:fw H ⟨a,z,b.map g⟩) (ha:aJ a) (hg: ∀x,aL n H (g x)=some (g x)):aL (n+1) H a=some (.fz (b.map g)):=by
 obtain ⟨k0,af⟩:=hk;simp only at af;rcases ha.ok with rfl|rfl|⟨id,ad,off,len,rfl⟩
 ·simp only at af;simp only [aL,af]
 ·simp only at af;simp only [aL,af]
 ·simp only at af;obtain ⟨k1,b',hb,k2,k3,k4,k5⟩:=af;simp only [aL,hb];rw [if_pos k4,k5,nE (b.map g) (by
   intro d hd;obtain ⟨x,_,rfl⟩:=List.mem_map.1 hd;exact hg x),Option.map_some]
theorem Eo {n:Nat} {enc: α →AV} (hS:ap H L) (j:Nat) (hj:L[j]? =some ⟨v,sz,bf m w l⟩) (hp:aJ v) (hq:bE w l.length) (cq: ∀it∈bF p c z w l,it∈L) (hc: ∀a x,aJ a→fw H ⟨a,z,(p x).map c⟩→aL n H (m a x)=some (enc x)):aL (n+1) H v=some (.fz (l.map enc)):=by
 have key: ∀(l:List α) (w:List AV),bE w l.length→(∀it∈bF p c z w l,fw H it)→(bf m w l).mapM (aL n H)=some (l.map enc):=by
  intro l;induction l with
  |nil=>
   intro w hq _;have:w=[]:=List.eq_nil_of_length_eq_zero hq.len;subst this;rfl
  |cons x l ih=>
   intro w hq hk;cases w with
   |nil=>have:=hq.len;simp at this
   |cons a w=>
    show (m a x::bf m w l).mapM (aL n H)=_;exact wv (hc a x (hq.sl a (by simp)) (hk _ (by simp [bF]))) (ih w ⟨by have:=hq.len;simpa using this,fun b hb=>hq.sl b (by simp [hb])⟩ fun it h=>hk it (by simp only [bF,List.zipWith_cons_cons,List.mem_cons];exact .inr h))
 have hk:=key l w hq fun it h=>by
  obtain ⟨k,hk⟩:=List.mem_iff_getElem?.1 (cq it h);exact hS.ok k it hk
 obtain ⟨k0,af⟩:=hS.ok j _ hj;simp only at af;have gu:bf m w l=[]→l=[]:=fun h=>by
  have h1:=jJ (m:=m) hq;rw [h] at h1;exact List.eq_nil_of_length_eq_zero h1.symm
 rcases hp.ok with rfl|rfl|⟨id,ad,off,len,rfl⟩
 ·simp only at af;rw [gu af];rfl
 ·simp only at af;rw [gu af];rfl
 ·simp only at af;obtain ⟨k1,b,hb,k2,k3,k4,k5⟩:=af;simp only [aL,hb];rw [if_pos k4,k5,hk,Option.map_some]
theorem Ep {bC:List (List Sh)} {es:List Sh} {rs:List AV} {K:List AV→Prop} {d: α →AV} (hS:ap H (⟨v,es.length,bf m w l⟩::(bF p c z w l ++ R))) (hv:aJ v) (hq:bE w l.length)
 (hc: ∀(a:AV) (x: α) (H:J) (L:List It),aJ a→ap H (⟨a,z,(p x).map c⟩::L)→ ∃H',aR es (m a x) H=some (d x,H')∧ap H' L)
 (h: ∀H',ap H' R→TV bC rs H' fun zs=>K (.own es.length (l.map d)::zs)):TV ([.sl es]::bC) (v::rs) H K:=by
 obtain ⟨H',h1,h2⟩:=hS.takeN hv hq hc;exact lT h1 (h H' h2)
theorem wM {d: α →AV} (hc: ∀(x: α) (H:J) (L:List It),ap H L→ ∃a,aJ a∧(aD (d x) H).1=m a x∧ap (aD (d x) H).2 (⟨a,z,(p x).map c⟩::L)):
 ∀(l:List α) (H:J) (L:List It),ap H L→ ∃w,bE w l.length∧(az (l.map d) H).1=bf m w l∧ap (az (l.map d) H).2 (bF p c z w l ++ L)
 |[],H,L,hS=>⟨[],bE.nil,rfl,hS⟩
 |x::l,H,L,hS=>by
  obtain ⟨a,h1,h2,h3⟩:=hc x H L hS;obtain ⟨w,k1,k2,k3⟩:=wM hc l _ _ h3;refine ⟨a::w,⟨by simp [k1.len],fun b hb=> ?_⟩,?_,?_⟩
  ·rcases List.mem_cons.1 hb with rfl|h
   ·exact h1
   ·exact k1.sl b h
  ·simp only [List.map_cons,az,bf,List.zipWith_cons_cons,h2];rw [k2];rfl
  ·simp only [List.map_cons,az,bF,List.zipWith_cons_cons];exact k3.perm List.perm_middle
theorem Er {d: α →AV} {sz:Nat} {ys:List AV} {K:List AV→J→Prop} (hS:ap H L) (hz: ∀a x,aJ a→(m a x).cells.length=sz)
 (hc: ∀(x: α) (H:J) (L:List It),ap H L→ ∃a,aJ a∧(aD (d x) H).1=m a x∧ap (aD (d x) H).2 (⟨a,z,(p x).map c⟩::L))
 (h: ∀v w H',aJ v→bE w l.length→ap H' (⟨v,sz,bf m w l⟩::(bF p c z w l ++ L))→TH ys H' fun zs fP=>K (v::zs) fP):TH (.own sz (l.map d)::ys) H K:=by
 obtain ⟨w,k1,k2,k3⟩:=wM hc l H L hS;have:=h _ w _ (eW (az (l.map d) H).2.bs.length (az (l.map d) H).2.st 0 (bf m w l).length) k1 (k3.iU (all:=bf m w l) (List.take_of_length_le (Nat.le_refl _)) rfl (wK k1 hz));unfold TH at this⊢;simp only [az,aD,k2];exact this
theorem Es {γ :Type} {c: γ →AV} {n:Nat} (hc: ∀x H,aD (c x) H=(c x,H)) (hz: ∀x,(c x).cells.length=n) (b:List γ) (H:J) (L:List It) (hS:ap H L):
 ∃a H',aJ a∧aD (.own n (b.map c)) H=(a,H')∧ap H' (⟨a,n,b.map c⟩::L):=by
 refine ⟨_,_,eW H.bs.length H.st 0 (b.map c).length,?_,hS.iU (all:=b.map c) (List.take_of_length_le (Nat.le_refl _)) rfl (by simp [bp,hz])⟩
 simp only [aD,qa hc]
theorem Et {C:aK} {q th:Bool} {s:ah} {K:AV→J→Prop} {t e:TypeId} {x:Operand} {ti:TI} (ht:C.E t=some ti) (hu:ti.au= .sl e) (hx:ev s x= .nil) (h:K (.int .i64 0) H):aV (aw C) C q th (.call {callee:= .builtin .cap,args:= #[x],argTypes:= #[t]}) s H K:=by
 unfold aV wpOp;have e1:((#[t]:Array TypeId)[0]?).bind C.E=C.E t:=rfl;simp only [eM,implies_true,true_and,List.map_cons,List.map_nil,hx,ck,e1,ht,hu];exact h
theorem Eu {E:aE} {K:AV→J→Prop} {t e:TypeId} {ti te:TI} {lo hi:Option Int} (ht:E t=some ti) (hu:ti.au= .sl e) (he:E e=some te) (h1:lo.getD 0=0) (h2:hi.getD 0=0) (h:K .nil H):cU E t .nil (some lo) (some hi) (some none) H K:=by
 simp only [cU,dr,ht,hu,he];rw [if_pos ⟨h1,h2,rfl,by simp⟩]
 exact h
structure jK (v:AV) (lo n:Nat) (v' :AV):Prop where
 out:(v= .nil∧v' = .nil)∨(v= .e0∧v' = .e0)∨ ∃id ad off len,v= .ref id ad off len∧v' = .ref id ad (off+lo) n
theorem jL {γ :Type} {l m:List γ} {lo hi:Int} (h:cA l lo hi=some m):0≤lo∧lo≤hi∧hi≤l.length∧m=(l.drop lo.toNat).take (hi.toNat-lo.toNat)∧m.length=hi.toNat-lo.toNat:=by
 unfold cA at h;split at h
 ·rename_i hc;simp only [Option.some.injEq] at h;refine ⟨hc.1,hc.2.1,hc.2.2,h.symm,?_⟩;rw [←h,List.length_take,List.length_drop];omega
 ·simp at h
theorem Ev {γ δ :Type} {E:aE} {K:AV→J→Prop} {t e:TypeId} {ti te:TI} {l:List γ} {c: γ →AV} {lo hi:Option Int} {f:List γ →Option δ} {r: δ} (j:Nat) (hS:ap H L) (hj:L[j]? =some ⟨v,te.sz,l.map c⟩) (hp:aJ v) (ht:E t=some ti) (hu:ti.au= .sl e) (he:E e=some te) (hh:(cA l (lo.getD 0) (hi.getD l.length)).bind f=some r)
 (h: ∀v' m,aJ v' →jK v (lo.getD 0).toNat m.length v' →cA l (lo.getD 0) (hi.getD l.length)=some m→f m=some r→K v' H):cU E t v (some lo) (some hi) (some none) H K:=by
 cases hm:cA l (lo.getD 0) (hi.getD l.length) with
 |none=>rw [hm] at hh;simp at hh
 |some m=>
  rw [hm] at hh;have hk:=fun v' br hw=>h v' m br hw hm hh
  obtain ⟨cK,df,gG,_,g9⟩:=jL hm;have af:=hS.ok j _ hj;obtain ⟨k0,af⟩:=af;simp only at af k0;have empty:l.map c=[]→lo.getD 0=0∧hi.getD 0=0:=by
   intro e;rw [List.map_eq_nil_iff] at e;subst e;have e0:(([]:List γ).length:Int)=0:=rfl;rw [e0] at gG df;refine ⟨by omega,?_⟩
   cases hi with
   |none=>rfl
   |some x=>simp at df gG⊢;omega
  split at af
  ·obtain ⟨e1,e2⟩:=empty af;simp only [cU,dr,ht,hu,he];rw [if_pos ⟨e1,e2,rfl,by simp⟩]
   exact hk .nil lP ⟨.inl ⟨rfl,rfl⟩⟩
  ·obtain ⟨e1,e2⟩:=empty af;simp only [cU,dr,ht,hu,he];rw [if_pos ⟨e1,e2,rfl,by simp⟩]
   exact hk .e0 ny ⟨.inr (.inl ⟨rfl,rfl⟩)⟩
  ·rename_i id ad off len;obtain ⟨k1,b,hb,k2,k3,k4,k5⟩:=af;simp only [List.length_map] at k1;subst k1;simp only [cU,dr,ht,hu,hb,he,k2,ne_eq,not_true_eq_false,if_false];rw [if_pos ⟨cK,df,by omega⟩]
   refine hk _ (eW ..) ⟨.inr (.inr ⟨id,ad,off,_,rfl,?_⟩)⟩;rw [g9]
  ·rename_i id ad ix off;obtain ⟨rfl,rfl,_⟩:=af;exact absurd rfl (hp.ne id ad)
  ·exact af.elim
theorem ap.wN {γ :Type} (hS:ap H L) (j:Nat) {sz:Nat} {l m:List γ} {c: γ →AV} {v' :AV} {lo hi:Int} (hj:L[j]? =some ⟨v,sz,l.map c⟩) (hv:jK v lo.toNat m.length v') (hm:cA l lo hi=some m):b6 H v' =some (m.map c):=by
 obtain ⟨cK,df,gG,iC,g9⟩:=jL hm;have af:=(hS.ok j _ hj).2;simp only at af;have empty:l.map c=[]→m=[]:=fun e=>by
  rw [List.map_eq_nil_iff] at e;subst e;rw [iC];simp
 rcases hv.out with ⟨rfl,rfl⟩|⟨rfl,rfl⟩|⟨id,ad,off,len,rfl,rfl⟩
 ·simp only at af;rw [empty af];rfl
 ·simp only at af;rw [empty af];rfl
 ·simp only at af;obtain ⟨k1,b,hb,k2,k3,k4,k5⟩:=af;simp only [List.length_map] at k1;subst k1;simp only [b6,hb];rw [if_pos (by omega)]
  simp only [aI] at k5⊢;rw [g9,iC,List.map_take,List.map_drop,←k5,List.drop_take,List.drop_drop,List.take_take];congr 2;omega
theorem Ew {γ :Type} {K:AV→J→Prop} (hS:ap H L) (j:Nat) {sz:Nat} {l m:List γ} {c: γ →AV} {v' :AV} {lo hi:Int} (hj:L[j]? =some ⟨v,sz,l.map c⟩) (hv:jK v lo.toNat m.length v') (hm:cA l lo hi=some m) {ti:TI} {e:TypeId} (hu:ti.au= .sl e) (h:K (.int .i64 m.length) H):cT (some ti) v' (lenOf H v') H K:=by
 have he:=hS.wN j hj hv hm;obtain ⟨cK,df,gG,iC,g9⟩:=jL hm;rcases hv.out with ⟨rfl,rfl⟩|⟨rfl,rfl⟩|⟨id,ad,off,len,rfl,rfl⟩
 ·simp only [b6,Option.some.injEq] at he;have:m=[]:=by rw [←List.map_eq_nil_iff (f:=c)];exact he.symm
  subst this;simp only [lenOf,cT,hu];exact h
 ·simp only [b6,Option.some.injEq] at he;have:m=[]:=by rw [←List.map_eq_nil_iff (f:=c)];exact he.symm
  subst this;simp only [lenOf,cT,hu];exact h
 ·simp only [b6] at he;cases hb:H.aq id ad with
  |none=>rw [hb] at he;simp at he
  |some b=>simp only [lenOf,cT,hu];exact h
theorem Ey {γ :Type} {n:Nat} (hS:ap H L) (j:Nat) {sz:Nat} {l m:List γ} {c: γ →AV} {v' :AV} {lo hi:Int} (hj:L[j]? =some ⟨v,sz,l.map c⟩) (hv:jK v lo.toNat m.length v') (hm:cA l lo hi=some m) (hc: ∀x,aL n H (c x)=some (c x)):aL (n+1) H v' =some (.fz (m.map c)):=by
 have he:=hS.wN j hj hv hm;rcases hv.out with ⟨rfl,rfl⟩|⟨rfl,rfl⟩|⟨id,ad,off,len,rfl,rfl⟩
 ·simp only [b6,Option.some.injEq] at he;simp only [aL,←he]
 ·simp only [b6,Option.some.injEq] at he;simp only [aL,←he]
 ·simp only [b6] at he;cases hb:H.aq id ad with
  |none=>rw [hb] at he;simp at he
  |some b=>
   rw [hb] at he;simp only at he;split at he
   ·rename_i ax;simp only [Option.some.injEq] at he;simp only [aL,hb];rw [if_pos ax,he,nE (m.map c) (by
     intro d hd;obtain ⟨x,_,rfl⟩:=List.mem_map.1 hd;exact hc x),Option.map_some]
   ·simp at he
theorem Ez {lo n:Nat} {v' :AV} (hv:jK v lo n v') (l:List UInt8):v' ≠ .str l:=by
 rintro rfl;rcases hv.out with ⟨_,h⟩|⟨_,h⟩|⟨_,_,_,_,_,h⟩<;>simp at h
theorem EA {γ δ :Type} {E:aE} {K:AV→J→Prop} {t e:TypeId} {ti te:TI} {l:List γ} {c: γ →AV} {lo hi mx:Int} {f:List γ →Option δ} {r: δ} (j:Nat) (hS:ap H L) (hj:L[j]? =some ⟨v,te.sz,l.map c⟩) (hp:aJ v) (ht:E t=some ti) (hu:ti.au= .sl e) (he:E e=some te) (eE:mx=l.length) (hh:(cA l lo hi).bind f=some r)
 (h: ∀x m,cA l lo hi=some m→f m=some r→K x H):cU E t v (some (some lo)) (some (some hi)) (some (some mx)) H K:=by
 cases hm:cA l lo hi with
 |none=>rw [hm] at hh;simp at hh
 |some m=>
  rw [hm] at hh;have hk:=fun x=>h x m hm hh;obtain ⟨cK,df,gG,_,g9⟩:=jL hm;have af:=hS.ok j _ hj;obtain ⟨k0,af⟩:=af;simp only at af k0;subst eE;have empty:l.map c=[]→lo=0∧hi=0∧(l.length:Int)=0:=by
   intro e;rw [List.map_eq_nil_iff] at e;subst e;have e0:(([]:List γ).length:Int)=0:=rfl;rw [e0] at gG;exact ⟨by omega,by omega,rfl⟩
  split at af
  ·obtain ⟨e1,e2,e3⟩:=empty af;simp only [cU,dr,ht,hu,he];rw [if_pos ⟨e1,e2,e3,by simp⟩]
   exact hk _
  ·obtain ⟨e1,e2,e3⟩:=empty af;simp only [cU,dr,ht,hu,he];rw [if_pos ⟨e1,e2,e3,by simp⟩]
   exact hk _
  ·rename_i id ad off len;obtain ⟨k1,b,hb,k2,k3,k4,k5⟩:=af;simp only [List.length_map] at k1;subst k1;simp only [cU,dr,ht,hu,hb,he,k2,ne_eq,not_true_eq_false,if_false];by_cases hq:(some hi).isSome=true∧0≤(some lo).getD 0∧(some lo).getD 0=(some hi).getD ↑l.length∧(some hi).getD ↑l.length= ↑l.length∧off+((some hi).getD ↑l.length).toNat≤b.el.length
   ·rw [if_pos hq];exact hk _
   ·rw [if_neg hq,if_pos ⟨rfl,cK,df,gG,by simpa using k4⟩];exact hk _
  ·rename_i id ad ix off;obtain ⟨rfl,rfl,_⟩:=af;exact absurd rfl (hp.ne id ad)
  ·exact af.elim
structure nH (H:J) (v:AV) (n:Nat):Prop where
 out:((v= .nil∨v= .e0)∧n=0)∨ ∃id ad off len b,v= .ref id ad off len∧H.aq id ad=some b∧off+n≤b.el.length
theorem EB {γ δ :Type} {E:aE} {K:AV→J→Prop} {t u:TypeId} {te tu:TI} {e:TypeId} {v1 x:AV} {l m1 m:List γ} {c: γ →AV} {lo hi:Int} {f:List γ →Option δ} {r: δ} (j:Nat) (hS:ap H L) (hj:L[j]? =some ⟨v,te.sz,l.map c⟩) (AW:aJ v1) (hw:jK v lo.toNat m1.length v1) (AX:cA l lo hi=some m1)
 (ht:cc E t=some te) (hu:E u=some tu) (ez:tu.au= .sl e) (hx:b6 H x=some (m.map c)) (aG: ∀x,(c x).cells.length=te.sz) (h0:(te.sz==0)=false) (hh:(app te.bytes m1 m).bind f=some r)
 (h: ∀v' H' lm,aJ v' →app te.bytes m1 m=some lm→f lm=some r→ap H' (L.set j ⟨v',te.sz,lm.map c⟩)→(lo=0→m1.length+m.length≤l.length→nH H' v' l.length)→K v' H'):
 cr (ck E .append #[t,u] [v1,x] H) K:=by
 obtain ⟨cK,df,gG,iC,g9⟩:=jL AX;have ax:=(List.getElem?_eq_some_iff.1 hj).1;have af:=hS.ok j _ hj;obtain ⟨k0,af⟩:=af;simp only at af k0;have fk: ∀it:It,L[j]? =some it→L.set j it=L:=fun it h=>List.ext_getElem? fun k=>by
  rw [List.getElem?_set];split
  ·rename_i e;subst e;have:=(List.getElem?_eq_some_iff.1 h).1;first|exact h.symm|(simp only [this,if_true];exact h.symm)
  ·rfl
 have wO:l.map c=[]→m1=[]:=fun e=>by
  rw [List.map_eq_nil_iff] at e;subst e;rw [iC];simp
 have AY:ap H (L.set j ⟨v1,te.sz,m1.map c⟩):=by
  rcases hw.out with ⟨rfl,rfl⟩|⟨rfl,rfl⟩|⟨id,ad,off,len,rfl,rfl⟩
  ·try simp only at af
   rw [wO af,List.map_nil,←af,fk _ hj];exact hS
  ·try simp only at af
   rw [wO af,List.map_nil,←af,fk _ hj];exact hS
  ·try simp only at af
   obtain ⟨k1,b,hb,k2,k3,k4,k5⟩:=af;simp only [List.length_map] at k1;subst k1;refine hS.bg hj rfl (fun _ _ _ _=>rfl) ⟨?_,by simp,b,hb,k2,k3,by first|omega|(simp only;omega),?_⟩ (fun k hk=>by simpa [bY] using hk.symm)
   ·simp only [bp,List.all_eq_true,List.mem_map];rintro z ⟨y,_,rfl⟩;simpa using aG y
   ·simp only [aI] at k5⊢;rw [g9,iC,List.map_take,List.map_drop,←k5,List.drop_take,List.drop_drop,List.take_take];congr 1;omega
 cases hr:app te.bytes m1 m with
 |none=>rw [hr] at hh;simp at hh
 |some lm=>
  have bO:=hr
  unfold app at hr;split at hr
  ·rename_i iI;simp only [Option.some.injEq] at hr;subst hr;rw [bO] at hh;have aH:te.sz≠0:=by simpa using h0
   obtain ⟨v',H',a1,a2,a3⟩:=pX AY j (show (L.set j ⟨v1,te.sz,m1.map c⟩)[j]? =some ⟨v1,te.sz,m1.map c⟩ by simp [ax]) AW hx (kA aG m) aH (by simpa using iI)
   have e1:(#[t,u]:Array TypeId)[0]? =some t:=rfl;have e2:((#[t,u]:Array TypeId)[1]?).bind E=E u:=rfl;simp only [ck,e1,e2,ht,hu,ez,a1,cr];refine h v' H' _ a2 bO hh (by rw [List.set_set] at a3;rw [List.map_append];exact a3) fun du hle=> ?_
   rcases hw.out with ⟨rfl,rfl⟩|⟨rfl,rfl⟩|⟨id,ad,off,len,rfl,rfl⟩
   ·try simp only at af
    have hl:l=[]:=List.map_eq_nil_iff.1 af;subst hl;simp at hle;have hm:m=[]:=by simpa using hle.2
    subst hm;simp only [List.map_nil] at hx;simp only [dR,hx,bp,List.all_nil,Bool.not_true,Bool.false_eq_true,if_false,if_neg aH,List.length_nil,if_true,Option.some.injEq,Prod.mk.injEq] at a1;exact ⟨.inl ⟨.inl a1.1.symm,rfl⟩⟩
   ·try simp only at af
    have hl:l=[]:=List.map_eq_nil_iff.1 af;subst hl;simp at hle;have hm:m=[]:=by simpa using hle.2
    subst hm;simp only [List.map_nil] at hx;simp only [dR,hx,bp,List.all_nil,Bool.not_true,Bool.false_eq_true,if_false,if_neg aH,List.length_nil,if_true,Option.some.injEq,Prod.mk.injEq] at a1;exact ⟨.inl ⟨.inr a1.1.symm,rfl⟩⟩
   ·try simp only at af
    obtain ⟨k1,b,hb,k2,k3,k4,k5⟩:=af;simp only [List.length_map] at k1;subst k1;subst du;have bz:=(J.bm hb).2;have hs:bp te.sz (m.map c)=true:=kA aG m;simp only [dR,hx,hs,Bool.not_true,Bool.false_eq_true,if_false,if_neg aH,hb,k2,ne_eq,not_true_eq_false] at a1;rw [if_pos (by simp;omega)] at a1
    simp only [Option.some.injEq,Prod.mk.injEq] at a1;obtain ⟨rfl,rfl⟩:=a1;refine ⟨.inr ⟨id,ad,_,_,{ad:=b.ad,sz:=te.sz,fix:=b.fix,el:=splice b.el (off+(0:Int).toNat+m1.length) (m.map c)},rfl,?_,?_⟩⟩
    ·have:=jF (H:=H) (b:={ad:=b.ad,sz:=te.sz,fix:=b.fix,el:=splice b.el (off+(0:Int).toNat+m1.length) (m.map c)}) ((hS.ok j _ hj).lt rfl);simpa only [bz] using this
    ·simp only;rw [jd _ _ _ (by simp;omega)]
     simpa using k4
  ·simp at hr
structure qg (v:AV) (n k:Nat) (v' :AV):Prop where
 out:((v= .nil∨v= .e0)∧v' =v)∨ ∃id ad off len,v= .ref id ad off len∧v' = .ref id ad (off+n) k
theorem EC {γ :Type} {E:aE} {K:AV→J→Prop} {t e:TypeId} {ti te:TI} {l:List γ} {c: γ →AV} {hi:Int} (j:Nat) (hS:ap H L) (hj:L[j]? =some ⟨v,te.sz,l.map c⟩) (ht:E t=some ti) (hu:ti.au= .sl e) (he:E e=some te) {n:Nat} (hr:nH H v n) (dZ:hi=n) (hle:l.length≤n)
 (h: ∀v',qg v l.length (n-l.length) v' →K v' H):cU E t v (some (some (l.length:Int))) (some (some hi)) (some none) H K:=by
 subst dZ;rcases hr.out with ⟨h1|h1,rfl⟩|⟨id,ad,off,len,b,rfl,hb,hl⟩
 ·subst h1;have hl:l.length=0:=by omega
  simp only [cU,dr,ht,hu,he];rw [if_pos ⟨by simp [hl],by simp,rfl,by simp⟩]
  exact h .nil ⟨.inl ⟨.inl rfl,rfl⟩⟩
 ·subst h1;have hl:l.length=0:=by omega
  simp only [cU,dr,ht,hu,he];rw [if_pos ⟨by simp [hl],by simp,rfl,by simp⟩]
  exact h .e0 ⟨.inl ⟨.inr rfl,rfl⟩⟩
 ·obtain ⟨k0,k1,b',ay,k2,k3,k4,k5⟩:=hS.ok j _ hj;rw [hb] at ay;simp only [Option.some.injEq] at ay;subst ay;simp only [cU,dr,ht,hu,hb,he,k2,ne_eq,not_true_eq_false,if_false,Option.getD_some];rw [if_pos ⟨by omega,by omega,by omega⟩]
  exact h _ ⟨.inr ⟨id,ad,off,len,rfl,by simp⟩⟩
theorem AZ {C:aK} {th:Bool} {s:ah} {K:AV→J→Prop} (x:Operand) (t:TypeId):aV (aw C) C false th (.call {callee:= .builtin .clear,args:= #[x],argTypes:= #[t]}) s H K=cr (ck C.E .clear #[t] [ev s x] H) K:=by
 unfold aV wpOp;simp only [Bool.false_eq_true,false_implies,true_and];rfl
theorem A7 {γ :Type} {E:aE} {K:AV→J→Prop} {t:TypeId} {te:TI} {l:List γ} {c: γ →AV} {v' z:AV} {n:Nat} (j:Nat) (hS:ap H L) (hj:L[j]? =some ⟨v,te.sz,l.map c⟩) (ht:cc E t=some te) (h0:(te.sz==0)=false) (hz:ep te=some z) (hr:nH H v n) (hle:l.length≤n) (hb:qg v l.length (n-l.length) v')
 (h: ∀H',ap H' L→K (.aA []) H'):cr (ck E .clear #[t] [v'] H) K:=by
 have e1:((#[t]:Array TypeId)[0]?).bind (cc E)=some te:=ht;have aH:te.sz≠0:=by simpa using h0
 simp only [ck,e1];rcases hb.out with ⟨h1|h1,rfl⟩|⟨id,ad,off,len,rfl,rfl⟩
 ·subst h1;simp only [jQ,cr];exact h H hS
 ·subst h1;simp only [jQ,cr];exact h H hS
 ·rcases hr.out with ⟨h1|h1,_⟩|⟨dH,fp,ED,EE,b,he,ay,hl⟩
  ·simp at h1
  ·simp at h1
  ·simp only [AV.ref.injEq] at he;obtain ⟨rfl,rfl,rfl,rfl⟩:=he;obtain ⟨k0,k1,b',fJ,k2,k3,k4,k5⟩:=hS.ok j _ hj;rw [ay] at fJ;simp only [Option.some.injEq] at fJ;subst fJ;simp only [List.length_map] at k1;subst k1;have bz:=(J.bm ay).2;simp only [jQ,ay,hz];rw [if_pos ⟨k2,by omega,aH⟩]
   simp only [cr];have fk:L.set j ⟨.ref id ad off l.length,te.sz,l.map c⟩=L:=List.ext_getElem? fun k=>by
    rw [List.getElem?_set];split
    ·rename_i e;subst e;have:=(List.getElem?_eq_some_iff.1 hj).1;simp only [this,if_true];exact hj.symm
    ·rfl
   refine h _ ?_;rw [←fk];have kb:(splice b.el (off+l.length) (List.replicate (n-l.length) z)).length=b.el.length:=jd _ _ _ (by simp;omega)
   refine hS.bg hj rfl (fun dH fp aH _=>kx aH) ⟨k0,by simp,{b with el:=splice b.el (off+l.length) (List.replicate (n-l.length) z)},?_,k2,k3,by simp only [kb];exact k4,?_⟩ (fun k hk=>by simpa [bY] using hk.symm)
   ·have:=jF (H:=H) (b:={b with el:=splice b.el (off+l.length) (List.replicate (n-l.length) z)}) ((hS.ok j _ hj).lt rfl);simpa only [bz] using this
   ·simp only [aI] at k5⊢;unfold splice;rw [List.append_assoc,List.drop_append_of_le_length (by simp;omega),List.drop_take,List.take_append_of_le_length (by simp;omega),List.take_take]
    rw [show min l.length (off+l.length-off)=l.length by omega]
    exact k5
theorem EF {γ :Type} {C:aK} {th:Bool} {s:ah} {K:AV→J→Prop} {xo:Operand} {t:TypeId} {te:TI} {l:List γ} {c: γ →AV} {v' z:AV} {n:Nat} (j:Nat) (hS:ap H L) (hj:L[j]? =some ⟨v,te.sz,l.map c⟩) (hx:ev s xo=v') (ht:cc C.E t=some te) (h0:(te.sz==0)=false) (hz:ep te=some z) (hr:nH H v n) (hle:l.length≤n) (hb:qg v l.length (n-l.length) v')
 (h: ∀H',ap H' L→K (.aA []) H'):aV (aw C) C false th (.call {callee:= .builtin .clear,args:= #[xo],argTypes:= #[t]}) s H K:=by
 rw [AZ,hx];exact A7 j hS hj ht h0 hz hr hle hb h
theorem EG {γ :Type} {b:Nat} {l m r:List γ} (h:app b l m=some r):r.length=l.length+m.length:=by
 unfold app at h;split at h
 ·simp only [Option.some.injEq] at h;rw [←h];simp
 ·simp at h
theorem EH {γ :Type} {l m:List γ} {lo hi:Int} (h:cA l lo hi=some m):0≤lo∧lo≤hi∧hi≤l.length∧(m.length:Int)=hi-lo:=by
 obtain ⟨h1,h2,h3,_,h5⟩:=jL h;exact ⟨h1,h2,h3,by omega⟩
theorem EI {γ :Type} {K:AV→J→Prop} {l:List γ} {c: γ →AV} {H0:J} (hL:lenOf H0 v=some (l.map c).length) (hp:aJ v) {ti:TI} {e:TypeId} (hu:ti.au= .sl e) (h:K (.int .i64 l.length) H):cT (some ti) v (lenOf H v) H K:=by
 have:lenOf H v=lenOf H0 v:=by rcases hp.ok with rfl|rfl|⟨_,_,_,_,rfl⟩<;>rfl
 rw [this,hL,List.length_map];rcases hp.ok with rfl|rfl|⟨_,_,_,_,rfl⟩<;>(simp only [cT,hu];exact h)
theorem EJ {γ δ :Type} {E:aE} {K:AV→J→Prop} {t u:TypeId} {te tu:TI} {k:IntKind} {n:Int} {z0:AV} {d: γ} {c: γ →AV} {f:List γ →Option δ} {r: δ} (hS:ap H L) (ht:cc E t=some te) (hu:E u=some tu) (hi:tu.au= .it k) (hz:fT te=some z0) (hd:c d=z0) (h0:(te.sz==0)=false) (hh:(eX te.bytes n d).bind f=some r)
 (h: ∀v H' l,aJ v→eX te.bytes n d=some l→f l=some r→ap H' (⟨v,te.sz,l.map c⟩::L)→K v H'):cr (ck E .append #[t,u] [.nil,.int .i64 n] H) K:=by
 cases hm:eX te.bytes n d with
 |none=>rw [hm] at hh;simp at hh
 |some l=>
  rw [hm] at hh;have gJ:=hm
  unfold eX at gJ;split at gJ
  ·rename_i hc;simp only [Option.some.injEq] at gJ;subst gJ;have aH:te.sz≠0:=by simpa using h0
   have e1:(#[t,u]:Array TypeId)[0]? =some t:=rfl;have e2:((#[t,u]:Array TypeId)[1]?).bind E=E u:=rfl;simp only [ck,e1,e2,ht,hu,hi,jP,hz];rw [if_pos ⟨hc.1,hc.2,aH⟩];by_cases hn:n=0
   ·rw [if_pos hn];subst hn;exact h .nil H _ lP hm hh (hS.u2 te.sz)
   ·rw [if_neg hn];refine h _ _ _ (eW ..) hm hh (hS.iU (by simp [hd]) (by simp) ?_)
    simp only [bp,List.map_replicate,List.all_replicate,hd,uD hz];simp
  ·simp at gJ
theorem EK {γ δ :Type} {E:aE} {K:AV→J→Prop} {t e:TypeId} {ti te:TI} {v1:AV} {sz:Nat} {l m:List γ} {c: γ →AV} {lo hi:Int} {k:IntKind} {n:Int} {f: γ →Option δ} {r: δ} (j:Nat) (hS:ap H L) (hj:L[j]? =some ⟨v,sz,l.map c⟩) (hw:jK v lo.toNat m.length v1) (hm:cA l lo hi=some m)
 (ht:E t=some ti) (hu:ti.au= .sl e) (he:E e=some te) (aG:sz=te.sz) (hh:(idx m n).bind f=some r) (h: ∀x p q o,idx m n=some x→f x=some r→(∃b,H.aq p q=some b∧b.el[o]? =some (c x))→K (.ptr p q o 0) H):iy E t v1 (.int k n) H K:=by
 cases ez:idx m n with
 |none=>rw [ez] at hh;simp at hh
 |some x=>
  rw [ez] at hh;obtain ⟨h0,h2,h1⟩:=gF ez;obtain ⟨cK,df,gG,iC,g9⟩:=jL hm;have af:=(hS.ok j _ hj).2;simp only at af;have aH:l.map c≠[]:=by
   intro e;rw [List.map_eq_nil_iff] at e;subst e;rw [iC] at h1;simp at h1
  rcases hw.out with ⟨rfl,rfl⟩|⟨rfl,rfl⟩|⟨id,ad,off,len,rfl,rfl⟩
  ·exact absurd af aH
  ·exact absurd af aH
  ·simp only at af;obtain ⟨k1,b,hb,k2,k3,k4,k5⟩:=af;simp only [List.length_map] at k1;subst k1;simp only [iy,ht,hu,he,hb];rw [if_pos ⟨by rw [k2,aG],h0,by omega,by omega⟩]
   refine h x id ad (off+lo.toNat+n.toNat) ez hh ⟨b,hb,?_⟩
   have hx:l[lo.toNat+n.toNat]? =some x:=by
    rw [iC,List.getElem?_take,List.getElem?_drop] at h1;split at h1
    ·exact h1
    ·simp at h1
   have:=congrArg (·[lo.toNat+n.toNat]?) k5;simp only [List.getElem?_map,hx,Option.map_some,aI] at this;rw [←this,List.getElem?_take,List.getElem?_drop,if_pos (by omega)]
   congr 1;omega
end
theorem EL {C:aK} {kp:List Nat} {s s' :ah} {H:J} {K:Ex→ah→J→Prop} (hk:eN kp s=s') (h:K .normal s' H):aN (aw C) C (.fV [] (some kp)) s H K:=by
 subst hk;exact h
end Go.VS
