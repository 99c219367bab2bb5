/-
  The plain law and all that it needs.
-/
import Derived.Test.YtclgbpneokeaeaaVaE
import Derived.Test.YtclgbpneokeaeaaVbF
import Derived.Test.YtclgbpneokeaeaaVaF
open Go Go.VS
namespace Go.DN
def Gt (c x:Int):Int:=if c<x then 2 else 1
def WG (c:Int) (X:List Int):Int:=(X.map (Gt c)).sum
theorem IL (c x:Int):1≤Gt c x:=by unfold Gt;split<;>omega
theorem Mn (c:Int): ∀X:List Int,0≤WG c X
 |[]=>by simp [WG]
 |x::X=>by have:=Mn c X;have:=IL c x;simp only [WG,List.map_cons,List.sum_cons] at*;omega
theorem FQ: ∀{X:List Int},(∀x∈X,0≤x)→0≤X.sum
 |[],_=>by simp
 |x::X,h=>by
  have h1:=h x (by simp)
  have h2:=FQ (X:=X) fun y hy=>h y (by simp [hy])
  simp only [List.sum_cons];omega
theorem QH {c m p:Int} (hp:0<p) (h3:m<3*p) (hc:c=m-p) {X:List Int} (hX: ∀x∈X,p≤x) (hs:X.sum≤m):WG c X≤2:=by
 match X,hX,hs with
 |[],_,_=>simp [WG]
 |[x],_,_=>simp only [WG,List.map_cons,List.map_nil,List.sum_cons,List.sum_nil,Gt];split<;>omega
 |[x,y],hX,hs=>
  have h1:=hX x (by simp)
  have h2:=hX y (by simp)
  simp only [List.sum_cons,List.sum_nil] at hs;simp only [WG,List.map_cons,List.map_nil,List.sum_cons,List.sum_nil,Gt];rw [if_neg (by omega),if_neg (by omega)];omega
 |x::y::z::r,hX,hs=>
  have h1:=hX x (by simp)
  have h2:=hX y (by simp)
  have xb:=hX z (by simp)
  have h4:=FQ (X:=r) fun w hw=>by have:=hX w (by simp [hw]);omega
  simp only [List.sum_cons] at hs;omega
theorem QI {c m p:Int} (Uw:p≤m) (hc:c=m-p) {X:List Int} (hs:c<X.sum):2≤WG c X:=by
 match X,hs with
 |[],hs=>simp at hs;omega
 |[x],hs=>
  simp only [List.sum_cons,List.sum_nil] at hs;simp only [WG,List.map_cons,List.map_nil,List.sum_cons,List.sum_nil,Gt];rw [if_pos (by omega)];omega
 |x::y::r,_=>
  have h1:=IL c x;have h2:=IL c y;have h3:=Mn c r;simp only [WG,List.map_cons,List.sum_cons] at*;omega
def SG:Nat→(Nat→Int)→Int
 |0,_=>0
 |k+1,f=>SG k f+f k
theorem QJ (k:Nat) (f g:Nat→Int):SG k (fun h=>f h+g h)=SG k f+SG k g:=by
 induction k with
 |zero=>rfl
 |succ k ih=>simp only [SG,ih];omega
theorem QK {k:Nat} {f g:Nat→Int} (h: ∀i,i<k→f i=g i):SG k f=SG k g:=by
 induction k with
 |zero=>rfl
 |succ k ih=>simp only [SG,h k (Nat.lt_succ_self k),ih fun i hi=>h i (by omega)]
theorem Kh {k:Nat} {f:Nat→Int} {c:Int} (h: ∀i,i<k→f i≤c):SG k f≤k*c:=by
 induction k with
 |zero=>simp [SG]
 |succ k ih=>
  have h1:=h k (Nat.lt_succ_self k);have h2:=ih fun i hi=>h i (by omega)
  simp only [SG];rw [Int.natCast_add,Int.add_mul];omega
theorem Mo {k:Nat} {f:Nat→Int} {c:Int} (h: ∀i,i<k→c≤f i):k*c≤SG k f:=by
 induction k with
 |zero=>simp [SG]
 |succ k ih=>
  have h1:=h k (Nat.lt_succ_self k);have h2:=ih fun i hi=>h i (by omega)
  simp only [SG];rw [Int.natCast_add,Int.add_mul];omega
theorem QL {k a:Nat} (v:Int):SG k (fun h=>if a=h then v else 0)=if a<k then v else 0:=by
 induction k with
 |zero=>rfl
 |succ k ih=>
  simp only [SG,ih];by_cases h1:a<k
  ·rw [if_pos h1,if_neg (by omega),if_pos (by omega)];omega
  ·by_cases h2:a=k
   ·rw [if_neg h1,if_pos h2,if_pos (by omega)];omega
   ·rw [if_neg h1,if_neg h2,if_neg (by omega)];omega
section
variable {τ :Type} (sz: τ →Int)
def JG (f: τ →Nat) (h:Nat) (ts:List τ):List Int:=(ts.filter fun t=>f t==h).map sz
theorem DM (f: τ →Nat) (h:Nat) (t: τ) (ts:List τ):JG sz f h (t::ts)=if f t=h then sz t::JG sz f h ts else JG sz f h ts:=by
 unfold JG;rw [List.filter_cons];by_cases e:f t=h
 ·simp [e]
 ·simp [e]
theorem Ki (f: τ →Nat) (h:Nat) (ps bs:List τ):JG sz f h (ps ++ bs)=JG sz f h ps ++ JG sz f h bs:=by
 unfold JG;rw [List.filter_append,List.map_append]
theorem IM (f: τ →Nat) (g:Int→Int) {k:Nat}: ∀{ts:List τ},(∀t∈ts,f t<k)→SG k (fun h=>((JG sz f h ts).map g).sum)=((ts.map sz).map g).sum
 |[],_=>by
  simp only [JG,List.filter_nil,List.map_nil,List.sum_nil];have: ∀k,SG k (fun _=>0)=0:=fun k=>by induction k with|zero=>rfl|succ k ih=>simp [SG,ih]
  exact this k
 |t::ts,h=>by
  have ih:=IM f g (k:=k) (ts:=ts) fun x hx=>h x (by simp [hx])
  have e: ∀i,((JG sz f i (t::ts)).map g).sum=(if f t=i then g (sz t) else 0)+((JG sz f i ts).map g).sum:=fun i=>by
   rw [DM];by_cases e:f t=i
   ·simp [e]
   ·simp [e]
  rw [QK fun i _=>e i,QJ,QL,if_pos (h t (by simp)),ih]
  simp
theorem HI {f: τ →Nat} {h:Nat} {ts:List τ} {x:Int} (hx:x∈JG sz f h ts): ∃t∈ts,f t=h∧sz t=x:=by
 unfold JG at hx;obtain ⟨t,ht,rfl⟩:=List.mem_map.1 hx;obtain ⟨h1,h2⟩:=List.mem_filter.1 ht;exact ⟨t,h1,by simpa using h2,rfl⟩
theorem Kj (f: τ →Nat) (h:Nat): ∀ts:List τ,JG sz f h ts=[]∨ ∃ps t bs,ts=ps ++ t::bs∧f t=h∧JG sz f h ts=JG sz f h ps ++ [sz t]
 |[]=> .inl rfl
 |t::ts=>by
  rcases Kj f h ts with e|⟨ps,u,bs,rfl,e1,e2⟩
  ·by_cases ht:f t=h
   ·refine .inr ⟨[],t,ts,rfl,ht,?_⟩;rw [DM,if_pos ht,e];rfl
   ·left;rw [DM,if_neg ht,e]
  ·refine .inr ⟨t::ps,u,bs,rfl,e1,?_⟩;rw [DM,DM,e2];split<;>rfl
theorem QM {f: τ →Nat} {h:Nat} {ps bs:List τ} (hb: ∀t∈bs,0≤sz t):(JG sz f h ps).sum≤(JG sz f h (ps ++ bs)).sum:=by
 have:=FQ (X:=JG sz f h bs) fun x hx=>by
  obtain ⟨t,ht,_,rfl⟩:=HI sz hx;exact hb t ht
 rw [Ki,List.sum_append];omega
theorem QN (l:List Int):l.map (fun x=>x)=l:=by simp
theorem Kk (f: τ →Nat) {k:Nat} {ts:List τ} (h: ∀t∈ts,f t<k):SG k (fun i=>(JG sz f i ts).sum)=(ts.map sz).sum:=by
 have:=IM sz f (fun x=>x) h;simpa only [QN] using this
structure FT (k:Nat) (m:Int) (f g: τ →Nat) (ts:List τ):Prop where
 pos: ∀t∈ts,0<sz t
 Kl: ∀t∈ts,f t<k
 FU: ∀t∈ts,g t<k
 least: ∀ps t bs,ts=ps ++ t::bs→ ∀h,h<k→(JG sz f (f t) ps).sum≤(JG sz f h ps).sum
 opt: ∀h,h<k→(JG sz g h ts).sum≤m
theorem FT.step {k:Nat} {m:Int} {f g: τ →Nat} {ts:List τ} (G:FT sz k m f g ts) {ps bs:List τ} {t: τ} (e:ts=ps ++ t::bs):
 (k:Int)*(JG sz f (f t) ps).sum+sz t≤k*m∧sz t≤m:=by
 have mem: ∀x∈ps,x∈ts:=fun x hx=>by rw [e];simp [hx]
 have IN: ∀x∈bs,x∈ts:=fun x hx=>by rw [e];simp [hx]
 have ht:t∈ts:=by rw [e];simp
 have h1:=Mo (k:=k) (f:=fun i=>(JG sz f i ps).sum) (G.least ps t bs e);rw [Kk sz f fun x hx=>G.Kl x (mem x hx)] at h1;have h2:=Kh (k:=k) (f:=fun i=>(JG sz g i ts).sum) G.opt;rw [Kk sz g G.FU,e] at h2;simp only [List.map_append,List.map_cons,List.sum_append,List.sum_cons] at h2;have h3:=FQ (X:=bs.map sz) fun x hx=>by
  obtain ⟨y,hy,rfl⟩:=List.mem_map.1 hx;have:=G.pos y (IN y hy);omega
 refine ⟨by omega,?_⟩
 have h4:=G.opt (g t) (G.FU t ht);rw [e,Ki,DM,if_pos rfl,List.sum_append,List.sum_cons] at h4;have h5:=FQ (X:=JG sz g (g t) ps) fun x hx=>by
  obtain ⟨y,hy,_,rfl⟩:=HI sz hx;have:=G.pos y (mem y hy);omega
 have h6:=FQ (X:=JG sz g (g t) bs) fun x hx=>by
  obtain ⟨y,hy,_,rfl⟩:=HI sz hx;have:=G.pos y (IN y hy);omega
 omega
theorem FT.list {k:Nat} {m:Int} {f g: τ →Nat} {ts:List τ} (G:FT sz k m f g ts) (hm:0≤m) {h:Nat} (hk:h<k):(k:Int)*(JG sz f h ts).sum≤(2*k-1)*m:=by
 have yI:(1:Int)≤k:=by omega
 rcases Kj sz f h ts with e|⟨ps,t,bs,e,rfl,e2⟩
 ·rw [e];have:=Int.mul_nonneg (show (0:Int)≤2*k-1 by omega) hm
  simpa using this
 ·obtain ⟨h1,h2⟩:=G.step sz e;rw [e2,List.sum_append,Int.mul_add,List.sum_cons,List.sum_nil,Int.add_zero];have h3:=Int.mul_le_mul_of_nonneg_left h2 (show (0:Int)≤k-1 by omega)
  rw [Int.sub_mul,Int.sub_mul,Int.one_mul,Int.one_mul] at h3;rw [Int.sub_mul,Int.one_mul,Int.mul_assoc];omega
theorem FT.QO {k:Nat} {m:Int} {f g: τ →Nat} {ts:List τ} (G:FT sz k m f g ts) (hd:ts.Pairwise fun a b=>sz b≤sz a) (hm:0≤m) {h:Nat} (hk:h<k):3*(k:Int)*(JG sz f h ts).sum≤(4*k-1)*m:=by
 have yI:(1:Int)≤k:=by omega
 rcases Kj sz f h ts with e|⟨ps,t,bs,e,rfl,e2⟩
 ·rw [e];have:=Int.mul_nonneg (show (0:Int)≤4*k-1 by omega) hm
  simpa using this
 ·obtain ⟨h1,h2⟩:=G.step sz e;have ht:t∈ts:=by rw [e];simp
  have hp:=G.pos t ht;have mem: ∀x∈ps,x∈ts:=fun x hx=>by rw [e];simp [hx]
  have IN: ∀x∈bs,x∈ts:=fun x hx=>by rw [e];simp [hx]
  rw [e2,List.sum_append,List.sum_cons,List.sum_nil,Int.add_zero,Int.mul_assoc,Int.mul_add,Int.sub_mul,Int.one_mul,Int.mul_assoc];by_cases h3:3*sz t≤m
  ·have h4:=Int.mul_le_mul_of_nonneg_left h3 (show (0:Int)≤k-1 by omega)
   rw [Int.sub_mul,Int.sub_mul,Int.one_mul,Int.one_mul,show (k:Int)*(3*sz t)=3*(k*sz t) by rw [←Int.mul_assoc,Int.mul_comm (k:Int) 3,Int.mul_assoc]] at h4
   omega
  ·have key:(JG sz f (f t) ps).sum+sz t≤m:=by
    refine Decidable.byContradiction fun hn=> ?_;have big: ∀a∈ps,sz t≤sz a:=fun a ha=>by
     rw [e] at hd;exact (List.pairwise_append.1 hd).2.2 a ha t (by simp)
    have w1:(k:Int)*2≤WG (m-sz t) (ps.map sz):=by
     have:=Mo (k:=k) (f:=fun i=>WG (m-sz t) (JG sz f i ps)) (c:=2) fun i hi=>QI h2 rfl (by
      have:=G.least ps t bs e i hi;omega)
     unfold WG at this⊢
     rwa [IM sz f _ fun x hx=>G.Kl x (mem x hx)] at this
    have w2:WG (m-sz t) ((ps ++ [t]).map sz)≤(k:Int)*2:=by
     have:=Kh (k:=k) (f:=fun i=>WG (m-sz t) (JG sz g i (ps ++ [t]))) (c:=2) fun i hi=>QH (p:=sz t) hp (by omega) rfl (fun x hx=>by
      obtain ⟨y,hy,_,rfl⟩:=HI sz hx;rcases List.mem_append.1 hy with h|h
      ·exact big y h
      ·rw [List.mem_singleton.1 h];exact Int.le_refl _) (by
      have h5:=G.opt i hi;have h6:=QM sz (f:=g) (h:=i) (ps:=ps ++ [t]) (bs:=bs) fun y hy=>by have:=G.pos y (IN y hy);omega
      rw [e,show ps ++ t::bs=ps ++ [t] ++ bs by simp] at h5
      omega)
     unfold WG at this⊢
     rwa [IM sz g _ fun x hx=>by
      rcases List.mem_append.1 hx with h|h
      ·exact G.FU x (mem x h)
      ·rw [List.mem_singleton.1 h];exact G.FU t ht] at this
    unfold WG at w1 w2;rw [List.map_append,List.map_append,List.sum_append] at w2;have:=IL (m-sz t) (sz t);simp only [List.map_cons,List.map_nil,List.sum_cons,List.sum_nil] at w2;omega
   have h4:=Int.mul_le_mul_of_nonneg_left key (show (0:Int)≤k by omega)
   rw [Int.mul_add] at h4;have h5:=Int.mul_le_mul_of_nonneg_left (show (1:Int)≤k by omega) hm
   rw [Int.mul_one,Int.mul_comm m] at h5;omega
def BJ:List Int→Int
 |[]=>0
 |x::l=>max x (BJ l)
theorem FV: ∀l:List Int,0≤BJ l
 |[]=>Int.le_refl _
 |x::l=>by have:=FV l;simp only [BJ];omega
theorem Gu {c:Int} (hc:0≤c): ∀{l:List Int},(∀h,h<l.length→l.getD h 0≤c)→BJ l≤c
 |[],_=>hc
 |x::l,h=>by
  have h1:=h 0 (by simp)
  have h2:=Gu hc (l:=l) fun i hi=>by have:=h (i+1) (by simpa using hi);simpa using this
  simp only [BJ];simp at h1;omega
theorem Km: ∀{l:List Int} {h:Nat},h<l.length→l.getD h 0≤BJ l
 |x::l,0,_=>by simp only [BJ];simp;omega
 |x::l,h+1,hh=>by
  have:=Km (l:=l) (h:=h) (by simpa using hh)
  simp only [BJ];simp at this⊢;omega
theorem Mp: ∀{l:List Int},(∀x∈l,0≤x)→0<l.length→ ∃h,h<l.length∧l.getD h 0=BJ l
 |[x],hx,_=>⟨0,by simp,by have:=hx x (by simp);simp [BJ];omega⟩
 |x::y::l,hx,_=>by
  obtain ⟨h,h1,h2⟩:=Mp (l:=y::l) (fun z hz=>hx z (by simp [hz])) (by simp)
  by_cases hc:x≤BJ (y::l)
  ·refine ⟨h+1,by simpa using h1,?_⟩
   show (x::y::l).getD (h+1) 0=max x (BJ (y::l));rw [List.getD_cons_succ,h2];omega
  ·exact ⟨0,by simp,by show x=max x (BJ (y::l));omega⟩
theorem Ei {l:List Int} {a h:Nat} {v:Int} (ha:a<l.length):(l.set a v).getD h 0=if a=h then v else l.getD h 0:=by
 simp only [List.getD_eq_getElem?_getD,List.getElem?_set];by_cases e:a=h
 ·subst e;rw [if_pos rfl,if_pos rfl,if_pos ha];rfl
 ·rw [if_neg e,if_neg e]
def B0:List Int→List Int→List Nat→List Int
 |has,x::l,a::ps=>B0 (has.set a (has.getD a 0+x)) l ps
 |has,_,_=>has
def CQ (h:Nat):List Int→List Nat→Int
 |x::l,a::ps=>(if a=h then x else 0)+CQ h l ps
 |_,_=>0
theorem E8: ∀{has l:List Int} {ps:List Nat},(B0 has l ps).length=has.length
 |has,x::l,a::ps=>by rw [B0,E8,List.length_set]
 |has,[],_=>by simp [B0]
 |has,_::_,[]=>by simp [B0]
theorem Gv: ∀{has l:List Int} {ps:List Nat},(∀a∈ps,a<has.length)→ ∀h,(B0 has l ps).getD h 0=has.getD h 0+CQ h l ps
 |has,x::l,a::ps,hk,h=>by
  have ha:=hk a (by simp)
  rw [B0,Gv (fun b hb=>by rw [List.length_set];exact hk b (by simp [hb])),Ei ha,CQ]
  by_cases e:a=h
  ·subst e;rw [if_pos rfl,if_pos rfl];omega
  ·rw [if_neg e,if_neg e];omega
 |has,[],_,_,h=>by simp [B0,CQ]
 |has,_::_,[],_,h=>by simp [B0,CQ]
def Dp (f:Nat→Int):Nat→Int
 |0=>0
 |1=>f 0
 |k+2=>min (Dp f (k+1)) (f (k+1))
theorem Mq {f:Nat→Int}: ∀{k i:Nat},i<k→Dp f k≤f i
 |1,0,_=>Int.le_refl _
 |k+2,i,h=>by
  rw [Dp];by_cases e:i=k+1
  ·subst e;omega
  ·have:=Mq (f:=f) (k:=k+1) (i:=i) (by omega);omega
theorem Kn {f:Nat→Int}: ∀{k:Nat},0<k→ ∃i,i<k∧Dp f k=f i
 |1,_=>⟨0,by omega,rfl⟩
 |k+2,_=>by
  obtain ⟨i,h1,h2⟩:=Kn (f:=f) (k:=k+1) (by omega)
  rw [Dp];by_cases e:Dp f (k+1)≤f (k+1)
  ·exact ⟨i,by omega,by omega⟩
  ·exact ⟨k+1,by omega,by omega⟩
def BS:List Int→List Int→Int
 |[],has=>BJ has
 |x::l,has=>Dp (fun h=>BS l (has.set h (has.getD h 0+x))) has.length
theorem Ko: ∀{l has:List Int},0<has.length→ ∃ps:List Nat,ps.length=l.length∧(∀a∈ps,a<has.length)∧BS l has=BJ (B0 has l ps)
 |[],has,_=>⟨[],rfl,by simp,rfl⟩
 |x::l,has,h0=>by
  obtain ⟨i,h1,h2⟩:=Kn (f:=fun h=>BS l (has.set h (has.getD h 0+x))) h0;obtain ⟨ps,k1,k2,k3⟩:=Ko (l:=l) (has:=has.set i (has.getD i 0+x)) (by rw [List.length_set];exact h0)
  rw [List.length_set] at k2;refine ⟨i::ps,by simp [k1],fun a ha=> ?_,?_⟩
  ·rcases List.mem_cons.1 ha with rfl|ha
   ·exact h1
   ·exact k2 a ha
  ·rw [BS,h2,k3,B0]
theorem Kp: ∀{l has:List Int} {ps:List Nat},ps.length=l.length→(∀a∈ps,a<has.length)→BS l has≤BJ (B0 has l ps)
 |[],has,ps,_,_=>by
  have:B0 has [] ps=has:=by cases ps<;>rfl
  rw [BS,this];exact Int.le_refl _
 |x::l,has,a::ps,hl,hk=>by
  have ha:=hk a (by simp)
  have h1:=Mq (f:=fun h=>BS l (has.set h (has.getD h 0+x))) ha;have h2:=Kp (l:=l) (has:=has.set a (has.getD a 0+x)) (ps:=ps) (by simpa using hl) fun b hb=>by rw [List.length_set];exact hk b (by simp [hb])
  rw [BS,B0];omega
theorem Mr: ∀{l has:List Int},(∀x∈l,0≤x)→0<has.length→BJ has≤BS l has
 |l,has,hx,h0=>by
  obtain ⟨ps,k1,k2,k3⟩:=Ko (l:=l) h0;rw [k3];refine Gu (FV _) fun h hh=> ?_;have h1:=Km (l:=B0 has l ps) (h:=h) (by rw [E8];exact hh)
  rw [Gv k2] at h1;have QP: ∀{l:List Int} {ps:List Nat},(∀x∈l,0≤x)→0≤CQ h l ps:=by
   intro l;induction l with
   |nil=>intro ps _;simp [CQ]
   |cons x l ih=>
    intro ps hx;cases ps with
    |nil=>simp [CQ]
    |cons a ps=>
     have h1:=ih (ps:=ps) fun y hy=>hx y (by simp [hy])
     have h2:=hx x (by simp)
     simp only [CQ];split<;>omega
  have:=QP (ps:=ps) hx;omega
def B1:List Int→Nat
 |[]=>0
 |x::l=>if∀y∈l,x≤y then 0 else B1 l+1
theorem FW: ∀{l:List Int},0<l.length→B1 l<l.length
 |x::l,_=>by
  unfold B1;split
  ·simp
  ·rename_i h;have h0:0<l.length:=by
    rcases l with _|⟨y,l⟩
    ·simp at h
    ·simp
   have:=FW h0;simp only [List.length_cons];omega
theorem Gw: ∀{l:List Int} {h:Nat},h<l.length→l.getD (B1 l) 0≤l.getD h 0
 |x::l,h,hh=>by
  unfold B1;split
  ·rename_i hc;cases h with
   |zero=>simp
   |succ h=>
    have hl:h<l.length:=by simpa using hh
    have:=hc l[h] (List.getElem_mem hl);have e:(x::l).getD (h+1) 0=l[h]:=by simp [List.getD_eq_getElem?_getD,hl]
    rw [e];exact this
  ·rename_i hc;have gp: ∃y∈l,y<x:=by
    refine Decidable.byContradiction fun hn=>hc fun y hy=> ?_;exact Decidable.byContradiction fun h2=>hn ⟨y,hy,by omega⟩
   obtain ⟨y,hy,QQ⟩:=gp;obtain ⟨i,hi,rfl⟩:=List.getElem_of_mem hy;rw [List.getD_cons_succ];cases h with
   |zero=>
    have:=Gw (l:=l) (h:=i) hi;rw [show l.getD i 0=l[i] by simp [List.getD_eq_getElem?_getD,hi]] at this
    simp only [List.getD_cons_zero];omega
   |succ h=>
    rw [List.getD_cons_succ];exact Gw (by simpa using hh)
theorem Kq: ∀{l:List Int} {h:Nat},h<B1 l→l.getD (B1 l) 0<l.getD h 0
 |[],h,hh=>by simp [B1] at hh
 |x::l,h,hh=>by
  unfold B1 at hh⊢;split at hh
  ·omega
  ·rename_i hc;rw [if_neg hc];rw [List.getD_cons_succ];have gp: ∃y∈l,y<x:=by
    refine Decidable.byContradiction fun hn=>hc fun y hy=> ?_;exact Decidable.byContradiction fun h2=>hn ⟨y,hy,by omega⟩
   obtain ⟨y,hy,QQ⟩:=gp;obtain ⟨i,hi,rfl⟩:=List.getElem_of_mem hy;cases h with
   |zero=>
    have:=Gw (l:=l) (h:=i) hi;rw [show l.getD i 0=l[i] by simp [List.getD_eq_getElem?_getD,hi]] at this
    simp only [List.getD_cons_zero];omega
   |succ h=>
    rw [List.getD_cons_succ];exact Kq (by omega)
theorem QR {l:List Int} {a:Nat} (ha:a<l.length) (h1: ∀h,h<l.length→l.getD a 0≤l.getD h 0) (h2: ∀h,h<a→l.getD a 0<l.getD h 0):a=B1 l:=by
 have h0:0<l.length:=by omega
 rcases Nat.lt_trichotomy a (B1 l) with h|h|h
 ·have:=Kq h;have:=h1 _ (FW h0);omega
 ·exact h
 ·have:=h2 _ h;have:=Gw (l:=l) ha;omega
def CK (l:List Int) (s:List Int×List Int) (i:Nat):List Int×List Int:=(s.1.set i (B1 s.2:Int),s.2.set (B1 s.2) (s.2.getD (B1 s.2) 0+l.getD i 0))
def Cx (l:List Int) (s:List Int×List Int) (order:List Nat):List Int×List Int:=order.foldl (CK l) s
theorem Ms {l:List Int} {s:List Int×List Int}: ∀{order:List Nat},(Cx l s order).1.length=s.1.length∧(Cx l s order).2.length=s.2.length:=by
 intro order;induction order generalizing s with
 |nil=>exact ⟨rfl,rfl⟩
 |cons i r ih=>
  have:=ih (s:=CK l s i);simp only [Cx,List.foldl_cons] at this⊢;rw [this.1,this.2];simp [CK]
theorem Mt {l:List Int} {s:List Int×List Int} {i:Nat}: ∀{order:List Nat},i∉order→(Cx l s order).1.getD i 0=s.1.getD i 0:=by
 intro order;induction order generalizing s with
 |nil=>intro _;rfl
 |cons j r ih=>
  intro hi;simp only [List.mem_cons,not_or] at hi;have:=ih (s:=CK l s j) hi.2;simp only [Cx,List.foldl_cons] at this⊢;rw [this];simp only [CK,List.getD_eq_getElem?_getD,List.getElem?_set];rw [if_neg (fun e=>hi.1 e.symm)]
theorem Kr {l:List Int} {s:List Int×List Int} {ps bs:List Nat}:Cx l s (ps ++ bs)=Cx l (Cx l s ps) bs:=List.foldl_append ..
def CR (l:List Int) (i:Nat):Int:=l.getD i 0
def CS (g:List Int) (i:Nat):Nat:=(g.getD i 0).toNat
theorem IP {τ :Type} {sz: τ →Int} {f g: τ →Nat} {h:Nat}: ∀{ts:List τ},(∀t∈ts,f t=g t)→JG sz f h ts=JG sz g h ts
 |[],_=>rfl
 |t::ts,e=>by rw [DM,DM,e t (by simp),IP fun x hx=>e x (by simp [hx])]
theorem Gx {l g:List Int} {k:Nat} (hk:0<k): ∀(n:Nat) {order:List Nat},order.length=n→order.Nodup→(∀i∈order,i<g.length)→
 (∀h,(Cx l (g,List.replicate k 0) order).2.getD h 0=(JG (CR l) (CS (Cx l (g,List.replicate k 0) order).1) h order).sum)∧ ∀i∈order,CS (Cx l (g,List.replicate k 0) order).1 i<k
 |0,order,e,_,_=>by
  obtain rfl:=List.eq_nil_of_length_eq_zero e;refine ⟨fun h=> ?_,by simp⟩
  simp only [Cx,List.foldl_nil,JG,List.filter_nil,List.map_nil,List.sum_nil,List.getD_eq_getElem?_getD,List.getElem?_replicate];split<;>rfl
 |n+1,order,e,hn,hi=>by
  obtain ⟨ps,t,rfl⟩: ∃ps t,order=ps ++ [t]:=by
   refine ⟨order.dropLast,order.getLast (fun h=>by simp [h] at e),(List.dropLast_concat_getLast _).symm⟩
  rw [List.nodup_append] at hn;obtain ⟨E9,_,IQ⟩:=hn;have jD:t∉ps:=fun h=>IQ t h t (by simp) rfl
  obtain ⟨Ks,Kt⟩:=Gx hk n (order:=ps) (by simpa using e) E9 fun i h=>hi i (by simp [h])
  rw [Kr];have hl:=Ms (l:=l) (s:=(g,List.replicate k 0)) (order:=ps);revert Ks Kt hl;generalize Cx l (g,List.replicate k 0) ps=s;rintro Ks Kt ⟨l1,l2⟩;simp only [List.length_replicate] at l1 l2;have ha:B1 s.2<s.2.length:=FW (by omega)
  have ht:=hi t (by simp)
  have f1: ∀i∈ps,CS (CK l s t).1 i=CS s.1 i:=fun i h=>by
   have:t≠i:=fun e=>jD (e▸h);simp only [CS,CK,List.getD_eq_getElem?_getD,List.getElem?_set];rw [if_neg this]
  have f2:CS (CK l s t).1 t=B1 s.2:=by
   simp only [CS,CK];rw [Ei (by omega),if_pos rfl];simp
  show (∀h,(CK l s t).2.getD h 0=(JG (CR l) (CS (CK l s t).1) h (ps ++ [t])).sum)∧ ∀i∈ps ++ [t],CS (CK l s t).1 i<k;constructor
  ·intro h;rw [Ki,IP f1,List.sum_append,←Ks h,DM,f2];simp only [CK];rw [Ei ha];by_cases e2:B1 s.2=h
   ·subst e2;rw [if_pos rfl,if_pos rfl];simp [JG,CR]
   ·rw [if_neg e2,if_neg e2];simp [JG]
  ·intro i h;rcases List.mem_append.1 h with h|h
   ·rw [f1 i h];exact Kt i h
   ·rw [List.mem_singleton.1 h,f2];omega
def Cm (n:Nat):List Int:=(List.range n).map fun (k:Nat)=>(k:Int)
theorem FX (n:Nat):(Cm n).length=n:=by simp [Cm]
theorem IS {n:Nat} {x:Int}:x∈Cm n↔0≤x∧x<n:=by
 simp only [Cm,List.mem_map,List.mem_range];constructor
 ·rintro ⟨k,hk,rfl⟩;omega
 ·rintro ⟨h0,h1⟩;exact ⟨x.toNat,by omega,by omega⟩
def Gy (d:Int→Int) (x:Int):List Int→List Int→List Int
 |[],b=>x::b
 |y::BM,b=>if d x<d y then Gy d x BM (y::b) else (y::BM).reverse ++ x::b
def CW (d:Int→Int) (x:Int) (a:List Int):List Int:=a.takeWhile (fun y=>decide (d y≤d x)) ++ x::a.dropWhile (fun y=>decide (d y≤d x))
theorem Mu {d:Int→Int} {g:Int→Int→Option Int} {x:Int}: ∀(BM b:List Int),(BM.length+b.length≤1000)→(∀y∈BM,g x y=some (d x-d y))→
 er (G5 0 g) (BM.reverse ++ x::b,(BM.length:Int))=some (Gy d x BM b)
 |[],b,_,_=>by
  rw [oR];simp only [G5];rw [Bw (by simp)]
  rfl
 |y::BM,b,hl,hg=>by
  simp only [List.length_cons] at hl;have e:(y::BM).reverse ++ x::b=BM.reverse ++ y::x::b:=by simp
  have i1:idx (BM.reverse ++ y::x::b) ((BM.length+1:Nat):Int)=some x:=by
   rw [y0,List.getElem?_append_right (by simp)];simp
  have i0:idx (BM.reverse ++ y::x::b) (BM.length:Int)=some y:=by
   rw [y0,List.getElem?_append_right (by simp)];simp
  have s1:(BM.reverse ++ y::x::b).set (BM.length+1) y=BM.reverse ++ y::y::b:=by
   rw [List.set_append_right _ _ (by simp)];simp
  have s0:(BM.reverse ++ y::y::b).set BM.length x=BM.reverse ++ x::y::b:=by
   rw [List.set_append_right _ _ (by simp)];simp
  have i2:idx (BM.reverse ++ y::y::b) (BM.length:Int)=some y:=by
   rw [y0,List.getElem?_append_right (by simp)];simp
  rw [oR,e];simp only [G5,List.length_cons];rw [y4 (by omega),i1,u3 (x:=((BM.length+1:Nat):Int)-1) (by omega),show ((BM.length+1:Nat):Int)-1=(BM.length:Int) by omega]
  simp only [cond_true,Option.bind_some,i0,hg y (by simp),Int.toNat_natCast,s1,i2,s0]
  unfold Gy;by_cases h:d x<d y
  ·rw [y4 (show d x-d y<0 by omega),if_pos h]
   simp only [cond_true,Option.bind_some];exact Mu BM (y::b) (by simp only [List.length_cons];omega) (fun z hz=>hg z (by simp [hz]))
  ·rw [Bw (show¬d x-d y<0 by omega),if_neg h]
   simp
theorem Mw {α :Type} {p: α →Bool}: ∀l:List α,(∀z∈l,p z=true)→l.dropWhile p=[]
 |[],_=>rfl
 |x::l,h=>by
  rw [List.dropWhile_cons,h x (by simp),if_pos rfl]
  exact Mw l fun z hz=>h z (by simp [hz])
theorem Mx {d:Int→Int} {x:Int}: ∀(BM b:List Int),BM.reverse.Pairwise (fun y z=>d y≤d z)→Gy d x BM b=CW d x BM.reverse ++ b
 |[],b,_=>by simp [Gy,CW]
 |y::BM,b,h=>by
  have e:(y::BM).reverse=BM.reverse ++ [y]:=by simp
  rw [e,List.pairwise_append] at h;unfold Gy;by_cases hy:d x<d y
  ·rw [if_pos hy,Mx BM (y::b) h.1,e];have QS:decide (d y≤d x)=false:=decide_eq_false (by omega)
   unfold CW;rw [List.takeWhile_append,List.dropWhile_append];by_cases pC:(BM.reverse.takeWhile fun z=>decide (d z≤d x)).length=BM.reverse.length
   ·rw [if_pos pC];have hd:BM.reverse.dropWhile (fun z=>decide (d z≤d x))=[]:=by
     have:=List.takeWhile_append_dropWhile (p:=fun z=>decide (d z≤d x)) (l:=BM.reverse);have h2:=congrArg List.length this;rw [List.length_append,pC] at h2;exact List.eq_nil_of_length_eq_zero (by omega)
    have ht:BM.reverse.takeWhile (fun z=>decide (d z≤d x))=BM.reverse:=by
     have:=List.takeWhile_append_dropWhile (p:=fun z=>decide (d z≤d x)) (l:=BM.reverse);rw [hd,List.append_nil] at this;exact this
    rw [hd,ht];simp [List.takeWhile,List.dropWhile,QS]
   ·rw [if_neg pC];have hd:(BM.reverse.dropWhile fun z=>decide (d z≤d x)).isEmpty=false:=by
     cases QT:BM.reverse.dropWhile (fun z=>decide (d z≤d x)) with
     |nil=>
      exfalso;have:=List.takeWhile_append_dropWhile (p:=fun z=>decide (d z≤d x)) (l:=BM.reverse);rw [QT,List.append_nil] at this;exact pC (by rw [this])
     |cons z zs=>rfl
    rw [hd];simp
  ·rw [if_neg hy,e];have pC: ∀z∈BM.reverse ++ [y],decide (d z≤d x)=true:=fun z hz=>by
    rcases List.mem_append.1 hz with h' |h'
    ·have:=h.2.2 z h' y (by simp)
     exact decide_eq_true (by omega)
    ·simp at h';subst h';exact decide_eq_true (by omega)
   unfold CW;have hd:=Mw (p:=fun z=>decide (d z≤d x)) _ pC;have hw:=List.takeWhile_append_dropWhile (p:=fun z=>decide (d z≤d x)) (l:=BM.reverse ++ [y]);rw [hd,List.append_nil] at hw;rw [hw,hd];simp
theorem Ku (d:Int→Int) (x y:Int) (a:List Int):CW d x (y::a)=if d y≤d x then y::CW d x a else x::y::a:=by
 unfold CW;by_cases h:d y≤d x
 ·rw [if_pos h,List.takeWhile_cons,List.dropWhile_cons,decide_eq_true h];rfl
 ·rw [if_neg h,List.takeWhile_cons,List.dropWhile_cons,decide_eq_false h];rfl
theorem Kv {d:Int→Int} {x z:Int}: ∀{a:List Int},z∈CW d x a↔z=x∨z∈a
 |[]=>by simp [CW]
 |y::a=>by
  rw [Ku];split
  ·rw [List.mem_cons,Kv,List.mem_cons];constructor
   ·rintro (h|h|h)
    ·exact .inr (.inl h)
    ·exact .inl h
    ·exact .inr (.inr h)
   ·rintro (h|h|h)
    ·exact .inr (.inl h)
    ·exact .inl h
    ·exact .inr (.inr h)
  ·simp
theorem My (d:Int→Int) (x:Int): ∀a:List Int,(CW d x a).length=a.length+1
 |[]=>by simp [CW]
 |y::a=>by
  rw [Ku];split
  ·simp [My d x a]
  ·simp
theorem Mz {d:Int→Int} {x:Int}: ∀{a:List Int},a.Pairwise (fun y z=>d y≤d z)→(CW d x a).Pairwise (fun y z=>d y≤d z)
 |[],_=>by simp [CW]
 |y::a,h=>by
  obtain ⟨h1,h2⟩:=List.pairwise_cons.1 h;rw [Ku];split
  ·rename_i hy;refine List.pairwise_cons.2 ⟨fun z hz=> ?_,Mz h2⟩;rcases Kv.1 hz with rfl|hz
   ·exact hy
   ·exact h1 z hz
  ·rename_i hy;refine List.pairwise_cons.2 ⟨fun z hz=> ?_,h⟩;rcases List.mem_cons.1 hz with rfl|hz
   ·omega
   ·have:=h1 z hz;omega
def CI (d:Int→Int) (o:List Int):List Int:=o.foldl (fun a x=>CW d x a) []
theorem IT (d:Int→Int) (o:List Int) (x:Int):CI d (o ++ [x])=CW d x (CI d o):=by simp [CI]
theorem HJ (d:Int→Int): ∀(n:Nat) (o:List Int),o.length=n→(CI d o).Pairwise (fun y z=>d y≤d z)∧(CI d o).length=n∧ ∀z,z∈CI d o↔z∈o
 |0,o,h=>by
  have:o=[]:=List.eq_nil_of_length_eq_zero h;subst this;simp [CI]
 |n+1,o,h=>by
  obtain ⟨o',x,rfl⟩: ∃o' x,o=o' ++ [x]:=⟨o.dropLast,o.getLast (fun e=>by subst e;simp at h),(List.dropLast_concat_getLast _).symm⟩
  obtain ⟨h1,h2,h3⟩:=HJ d n o' (by simpa using h)
  rw [IT];refine ⟨Mz h1,by rw [My,h2],fun z=> ?_⟩
  rw [Kv,h3,List.mem_append,List.mem_singleton];exact ⟨fun h=>h.symm,fun h=>h.symm⟩
theorem QU {d:Int→Int} {g:Int→Int→Option Int} {o:List Int} (hl:o.length≤18) (h0:0<o.length) (hg: ∀x∈o,∀y∈o,g x y=some (d x-d y)):
 EO o g=some (CI d o):=by
 have one:EM o 0 (o.length:Int) g=some (CI d o):=by
  unfold EM;rw [u3 (by omega)]
  have key:er (H9 0 (o.length:Int) g) (o,0+1)=some (CI d o):=by
   refine Bo (fun x:List Int×Int=>o.length-x.2.toNat) (fun x=>1≤x.2∧x.2≤o.length∧x.1=CI d (o.take x.2.toNat) ++ o.drop x.2.toNat) _ ?_ _ ⟨by simp,by simp only;omega,?_⟩
   ·rintro ⟨c,i⟩ ⟨i0,i1,i2⟩;simp only at i0 i1 i2;subst i2;simp only [H9];by_cases hi:i<o.length
    ·have aw:i.toNat<o.length:=by omega
     obtain ⟨s1,s2,s3⟩:=HJ d i.toNat (o.take i.toNat) (by rw [List.length_take];omega)
     have e1:=Mu (d:=d) (g:=g) (x:=o[i.toNat]) (CI d (o.take i.toNat)).reverse (o.drop (i.toNat+1)) (by simp [s2];omega) (fun y hy=>by
      rw [List.mem_reverse,s3] at hy;exact hg _ (List.getElem_mem aw) y (List.mem_of_mem_take hy))
     rw [List.reverse_reverse,List.length_reverse,s2,←List.drop_eq_getElem_cons aw,show ((i.toNat:Nat):Int)=i by omega,Mx _ _ (by rw [List.reverse_reverse];exact s1),List.reverse_reverse] at e1
     rw [y4 hi,cond_true,e1,Option.bind_some,u3 (by omega)]
     refine ⟨_,rfl,⟨by simp only;omega,by simp only;omega,?_⟩,by simp only;omega⟩
     simp only;rw [show (i+1).toNat=i.toNat+1 by omega,List.take_succ_eq_append_getElem aw,IT]
    ·rw [Bw hi];refine ⟨_,rfl,?_⟩;simp only;rw [List.take_of_length_le (by omega),List.drop_eq_nil_of_le (by omega),List.append_nil]
   ·simp only;obtain ⟨x,r,rfl⟩:=List.exists_cons_of_ne_nil (List.length_pos_iff.1 h0);simp [CI,CW]
  rw [key];rfl
 unfold EO G9;have e0:er (G7 (o.length:Int) g) (o,0,20)=some (o,0):=by
  rw [oR];simp only [G7];rw [Bw (by omega)]
  rfl
 have e2:er (G8 (o.length:Int)) 20=some ():=by
  rw [oR];simp only [G8];rw [Bw (by omega)]
  rfl
 rw [e0,Option.bind_some];simp only;rw [one,Option.bind_some,e2];rfl
theorem MA (n:Nat):Cm (n+1)=Cm n ++ [(n:Int)]:=by simp [Cm,List.range_succ]
theorem QV {α :Type} {l:List α} {i:Int} (h0:0≤i) (h:i≤l.length):dN l 0 i=some (l.take i.toNat):=by
 simp [dN];omega
theorem QW {α :Type} {l:List α} {k:Nat} (h:k≤l.length):dN l (k:Int) (l.length:Int)=some (l.drop k):=by
 simp only [dN];rw [if_pos (by omega)]
 congr 1;simp only [Int.toNat_natCast];exact List.take_of_length_le (by simp)
theorem QX {α :Type} {a b c:List α} (h:a ++ b=c):c.take a.length=a∧c.drop a.length=b:=by subst h;simp
theorem QY (g:Int→Int→Option Int):EO [] g=some []:=by
 unfold EO G9;have e0:er (G7 (([]:List Int).length:Int) g) ([],0,20)=some ([],0):=by
  rw [oR];rfl
 have e2:er (G8 (([]:List Int).length:Int)) 20=some ():=by
  rw [oR];rfl
 have one:EM [] 0 (([]:List Int).length:Int) g=some []:=by
  unfold EM;rw [u3 (by omega),oR];rfl
 rw [e0,Option.bind_some];simp only;rw [one,Option.bind_some,e2];rfl
structure B8 (c:BP) (b:Int):Prop where
 len:c.Code.length≤1048576
 bytes: ∀x∈c.Code,0≤x∧x≤255
 lo:0≤c.BT
 hi:c.BT≤b
theorem B8.mono {c:BP} {b d:Int} (h:B8 c b) (hd:b≤d):B8 c d:=⟨h.len,h.bytes,h.lo,by have:=h.hi;omega⟩
theorem QZ (k:Int):0≤yy .u64 k 255∧yy .u64 k 255≤255:=by
 have h:(BitVec.ofInt IntKind.u64.bits k&&&BitVec.ofInt IntKind.u64.bits 255).toNat≤255:=by
  rw [BitVec.toNat_and];exact Nat.and_le_right
 unfold yy;rw [IntWalk.u64_in _ (by omega)]
 omega
theorem MB {c:BP} {b:Int} (h:B8 c b) (hb:b≤4611686018427387904): ∃x d,F1 c=some (x,d)∧(0≤x∧x≤255)∧B8 d (b+1):=by
 obtain ⟨h1,h2,h3,h4⟩:=h;unfold F1;rw [u3 (x:=c.BT+1) (by omega)]
 have e: ∃BG,(bif (decide (c.BT<(c.Code.length:Int))) then (idx c.Code c.BT).bind fun Cy=>some ((IntKind.i64.wrap Cy)) else some (0))=some BG∧0≤BG∧BG≤255:=by
  by_cases hc:c.BT<c.Code.length
  ·rw [show decide (c.BT<(c.Code.length:Int))=true by simpa using hc]
   obtain ⟨n,hn⟩:=Int.eq_ofNat_of_zero_le h3;rw [hn,vk (show n<c.Code.length by omega)]
   have:=h2 _ (List.getElem_mem (show n<c.Code.length by omega))
   simp only [cond_true,Option.bind_some];rw [u3 (by omega)]
   exact ⟨_,rfl,this⟩
  ·rw [show decide (c.BT<(c.Code.length:Int))=false by simpa using hc]
   exact ⟨0,rfl,by omega,by omega⟩
 obtain ⟨BG,e1,e2⟩:=e;rw [e1,Option.bind_some];cases decide (c.BT+1≤(c.Code.length:Int))
 ·refine ⟨_,_,rfl,?_,⟨h1,h2,by simp only;omega,by simp only;omega⟩⟩
  have:=QZ (s9 .u64 (IntKind.u64.wrap ((IntKind.u64.wrap ((IntKind.u64.wrap (c.B7*6364136223846793005))+(IntKind.u64.wrap BG)))+1442695040888963407)) 40);rw [u3 (by omega)]
  exact this
 ·exact ⟨_,_,rfl,e2,⟨h1,h2,by simp only;omega,by simp only;omega⟩⟩
theorem MC {x n:Int} (hx:0≤x) (hn:1<n): ∃r,md x n=some r∧0≤r∧r<n:=by
 unfold md;rw [if_neg (by omega)]
 refine ⟨_,rfl,?_,?_⟩
 ·rw [Int.tmod_eq_emod_of_nonneg hx];exact Int.emod_nonneg _ (by omega)
 ·rw [Int.tmod_eq_emod_of_nonneg hx];exact Int.emod_lt_of_pos _ (by omega)
theorem Kw {c:BP} {b n:Int} (h:B8 c b) (hb:b≤4000000000000000000): ∃x d,Dy c n=some (x,d)∧(0≤x∧(1≤n→x<n))∧B8 d (b+2):=by
 unfold Dy;by_cases hn:n≤1
 ·rw [show decide (n≤1)=true by simpa using hn]
  exact ⟨0,c,rfl,⟨by omega,by omega⟩,h.mono (by omega)⟩
 ·rw [show decide (n≤1)=false by simpa using hn]
  obtain ⟨x,d,e1,e2,e3⟩:=MB h (by omega)
  simp only [cond_false];rw [e1,Option.bind_some];cases decide (200<n)
  ·simp only [cond_false,Option.bind_some];obtain ⟨r,r1,r2,r3⟩:=MC (x:=x) e2.1 (show 1<n by omega)
   rw [r1];exact ⟨r,_,rfl,⟨r2,fun _=>r3⟩,e3.mono (by omega)⟩
  ·simp only [cond_true];obtain ⟨y,d',f1,f2,f3⟩:=MB e3 (by omega)
   rw [f1];simp only [Option.bind_some];rw [u3 (x:=x*256) (by omega),u3 (by omega)]
   obtain ⟨r,r1,r2,r3⟩:=MC (x:=x*256+y) (by omega) (show 1<n by omega)
   rw [r1];exact ⟨r,_,rfl,⟨r2,fun _=>r3⟩,f3.mono (by omega)⟩
theorem Q0 {c:BP} {b n:Int} (h:B8 c b) (hb:b≤4000000000000000000): ∃x d,EC c n=some (x,d)∧B8 d (b+2):=by
 obtain ⟨x,d,e1,_,e3⟩:=Kw (n:=n) h hb;unfold EC;rw [e1];exact ⟨_,_,rfl,e3⟩
theorem Q1 {c:BP} {b:Int} {l:List Int} (h:B8 c b) (hb:b≤4000000000000000000) (hl:l≠[]): ∃x d,Fc c l=some (x,d)∧x∈l∧B8 d (b+2):=by
 obtain ⟨x,d,e1,e2,e3⟩:=Kw (n:=(l.length:Int)) h hb;have cS:1≤l.length:=by cases l with|nil=>exact absurd rfl hl|cons _ _=>simp
 unfold Fc;rw [e1];obtain ⟨n,rfl⟩:=Int.eq_ofNat_of_zero_le e2.1;have hn:n<l.length:=by have:=e2.2 (by omega);omega
 simp only [Option.bind_some];rw [vk hn];exact ⟨_,_,rfl,List.getElem_mem hn,e3⟩
theorem Q2 {l:List Int} (hl:l.length≤1048576) (hb: ∀x∈l,0≤x∧x≤255):B8 ⟨l,0,0⟩ 0:=⟨hl,hb,by simp,by simp⟩
theorem B8.eta {c:BP} {b:Int} (h:B8 c b):B8 ⟨c.Code,c.BT,c.B7⟩ b:=h
theorem sw {c:BP} {b n:Int} (h:B8 c b) (hb:b≤4000000000000000000):cO (Dy c n) fun r=>0≤r.1∧(1≤n→r.1<n)∧B8 r.2 (b+2):=by
 obtain ⟨x,d,e,⟨h1,h2⟩,h3⟩:=Kw (n:=n) h hb;exact ⟨_,e,h1,h2,h3⟩
theorem Kx {c:BP} {b n:Int} (h:B8 c b) (hb:b≤4000000000000000000):cO (EC c n) fun r=>B8 r.2 (b+2):=by
 obtain ⟨x,d,e,h3⟩:=Q0 (n:=n) h hb;exact ⟨_,e,h3⟩
theorem MD {c:BP} {b:Int} {l:List Int} (h:B8 c b) (hb:b≤4000000000000000000) (hl:l≠[]):cO (Fc c l) fun r=>r.1∈l∧B8 r.2 (b+2):=by
 obtain ⟨x,d,e,h2,h3⟩:=Q1 h hb hl;exact ⟨_,e,h2,h3⟩
def C7 (n a b:Int):Bool:=decide (a≤n)&&decide (n≤b)
theorem ME (n a b:Int):F6 n a b=some (C7 n a b):=by
 unfold F6 C7;cases decide (a≤n)<;>rfl
theorem Ky (n a b:Int):Fi n a b=some (C7 n a b):=by
 unfold Fi C7;cases decide (a≤n)<;>rfl
theorem Kz {n a b:Int}:C7 n a b=true↔a≤n∧n≤b:=by simp [C7]
theorem MF {l:List Int} (hl:l.length≤1048576) (a b:Int):F7 l a b=some (l.all (C7 · a b)):=by
 unfold F7;rw [vm l (GS l a b) (fun k (_:Unit)=>k) (fun _ x s=>if C7 x a b then .next s else .done (.done false)) (fun _=> .next ()) (fun k hk s=>by
  simp only [GS];rw [y4 (by omega),vk hk,u3 (by omega)]
  simp only [cond_true,Option.bind_some,ME];cases C7 l[k] a b<;>rfl) (fun s=>by simp [GS]) (),Br _ _ (fun _ _ _=>rfl)]
 cases l.all (C7 · a b)<;>rfl
theorem Q3 {l:List Int} (hl:l.length<2^60) {g:Int→Option Bool} (p:Int→Bool) (hg: ∀x∈l,g x=some (p x)):GP l g=some (dB p l):=by
 unfold GP;rw [Bx p (f:=I7 l g) (fun _=>rfl) hl hg];have:=oZ p l;by_cases h:dB p l<0
 ·rw [if_pos h];simp;omega
 ·rw [if_neg h];rfl
theorem MH {l:List Int} (hl:l.length<2^60) {g:Int→Option Bool} (p:Int→Bool) (hg: ∀x∈l,g x=some (p x)):F5 l g=some (l.any p):=by
 unfold F5;rw [Q3 hl p hg,Option.bind_some,y5]
theorem MI {a b:Nat} (h:a≠b):((a:Int) !=(b:Int))=true:=bne_iff_ne.2 (by omega)
def CD (l:List Int) (h:Int):Bool:=decide (l.length≤8)&&(l.all (C7 · 1 50)&&C7 h 1 4)
theorem MJ {l:List Int} (p:Int→Bool):l.any (fun x=> !p x)= !l.all p:=by
 induction l with
 |nil=>rfl
 |cons x l ih=>simp only [List.any_cons,List.all_cons,ih];cases p x<;>simp
theorem MK (a b:Bool):(bif a then some b else some false)=some (a&&b):=by cases a<;>rfl
theorem Gz {l:List Int} (hl:l.length≤1048576) (h:Int):D4 l h=some (CD l h):=by
 unfold D4 CD;rw [MH (by omega) (fun x=> !C7 x 1 50) (fun x _=>by unfold HV;rw [Ky];rfl),MJ]
 simp only [Option.bind_some,Ky,Bool.not_not];by_cases h8:l.length≤8
 ·rw [y4 (by omega),y4 h8,cond_true,MK];rfl
 ·rw [Bw (by omega),Bw h8];rfl
theorem HK {l:List Int} (hl:l.length≤1048576) (h:Int):Er l h=some (CD l h):=by
 unfold Er CD;rw [MF hl];simp only [Option.bind_some,ME];by_cases h8:l.length≤8
 ·rw [y4 (by omega),y4 h8,cond_true,MK];rfl
 ·rw [Bw (by omega),Bw h8];rfl
structure GC (l:List Int) (k:Nat):Prop where
 len:l.length≤8
 el: ∀x∈l,1≤x∧x≤50
 k1:1≤k
 k4:k≤4
theorem E_ {l:List Int} {h:Int} (g:CD l h=true): ∃k:Nat,h=k∧GC l k:=by
 simp only [CD,Bool.and_eq_true,decide_eq_true_eq,List.all_eq_true,Kz] at g;exact ⟨h.toNat,by omega,g.1,g.2.1,by omega,by omega⟩
theorem foldl_max {x:Int}: ∀{xs:List Int},(0≤x)→xs.foldl (fun m y=>if y>m then y else m) x=max x (BJ xs):=by
 intro xs;induction xs generalizing x with
 |nil=>intro h;simp only [List.foldl_nil,BJ];omega
 |cons y ys ih=>
  intro h;simp only [List.foldl_cons,BJ];by_cases c:y>x
  ·rw [if_pos c,ih (by omega)];omega
  ·rw [if_neg c,ih h];omega
theorem IU {l:List Int} (hl:l.length≤1048576) (h0:0<l.length) (hx: ∀x∈l,0≤x):EJ l=some (BJ l):=by
 obtain ⟨x,xs,rfl⟩:=List.exists_cons_of_ne_nil (List.length_pos_iff.1 h0);unfold EJ;rw [Bw (by simp only [List.length_cons];omega)]
 have e0:idx (x::xs) 0=some x:=rfl;simp only [cond_false,Option.bind_some,e0];have:=y1 (x::xs) (GR (x::xs)) (fun k s=>(s,k)) (fun _ y s=> .next (if y>s then y else s)) (fun s=>s) (fun _ _=>True) (fun k hk s _=>by
  simp only [GR];rw [y4 (by omega),vk hk]
  simp only [cond_true,Option.bind_some];rw [List.length_cons] at hk hl;rw [u3 (by omega)]
  exact ⟨rfl,fun _ _=>trivial⟩) (fun s _=>by simp [GR]) xs.length 1 (by simp<;>omega) x trivial
 rw [show ((1:Nat):Int)=1 from rfl] at this;rw [this,y3 (fun (s y:Int)=>if y>s then y else s) (fun _ _ _=>rfl)];show some (xs.foldl (fun m y=>if y>m then y else m) x)=_;rw [foldl_max (hx x (by simp))];rfl
theorem getD_in {l:List Int} {i:Nat} (h:i<l.length):l[i]=l.getD i 0:=by
 rw [List.getD_eq_getElem?_getD,List.getElem?_eq_getElem h];rfl
theorem foldl_min {x:Int}: ∀{xs:List Int},xs.foldl (fun m y=>if y<m then y else m) x=(x::xs).getD (B1 (x::xs)) 0:=by
 intro xs;have key: ∀(xs:List Int) (x:Int),(xs.foldl (fun m y=>if y<m then y else m) x)∈x::xs∧ ∀y∈x::xs,(xs.foldl (fun m y=>if y<m then y else m) x)≤y:=by
  intro xs;induction xs with
  |nil=>intro x;simp
  |cons y ys ih=>
   intro x;simp only [List.foldl_cons];by_cases c:y<x
   ·rw [if_pos c];obtain ⟨h1,h2⟩:=ih y;refine ⟨List.mem_cons_of_mem _ h1,fun z hz=> ?_⟩;rcases List.mem_cons.1 hz with rfl|hz
    ·have:=h2 y (by simp);omega
    ·exact h2 z hz
   ·rw [if_neg c];obtain ⟨h1,h2⟩:=ih x
    refine ⟨by rcases List.mem_cons.1 h1 with h|h;· rw [h];simp
               ·exact List.mem_cons_of_mem _ (List.mem_cons_of_mem _ h),fun z hz=> ?_⟩
    rcases List.mem_cons.1 hz with rfl|hz
    ·exact h2 _ (by simp)
    ·rcases List.mem_cons.1 hz with rfl|hz
     ·have:=h2 x (by simp);omega
     ·exact h2 z (by simp [hz])
 obtain ⟨h1,h2⟩:=key xs x;obtain ⟨i,hi,he⟩:=List.getElem_of_mem h1;have ha:=FW (l:=x::xs) (by simp)
 have h3:=Gw (l:=x::xs) hi;have h4:=h2 _ (List.getElem_mem ha);rw [←getD_in hi,he] at h3;rw [←getD_in ha] at h3⊢;omega
theorem Q4 {l:List Int} (hl:l.length≤1048576) (h0:0<l.length):GX l=some (l.getD (B1 l) 0):=by
 obtain ⟨x,xs,rfl⟩:=List.exists_cons_of_ne_nil (List.length_pos_iff.1 h0);unfold GX;rw [Bw (by simp only [List.length_cons];omega)]
 have e0:idx (x::xs) 0=some x:=rfl;simp only [cond_false,Option.bind_some,e0];have:=y1 (x::xs) (GW (x::xs)) (fun k s=>(s,k)) (fun _ y s=> .next (if y<s then y else s)) (fun s=>s) (fun _ _=>True) (fun k hk s _=>by
  simp only [GW];rw [y4 (by omega),vk hk]
  simp only [cond_true,Option.bind_some];rw [List.length_cons] at hk hl;rw [u3 (by omega)]
  exact ⟨rfl,fun _ _=>trivial⟩) (fun s _=>by simp [GW]) xs.length 1 (by simp<;>omega) x trivial
 rw [show ((1:Nat):Int)=1 from rfl] at this;rw [this,y3 (fun (s y:Int)=>if y<s then y else s) (fun _ _ _=>rfl),←foldl_min];rfl
theorem Cn {l:List Int} {i:Int} (h0:0≤i) (h:i<l.length):idx l i=some (l.getD i.toNat 0):=by
 rw [Bt h0 h,getD_in (by omega)]
theorem Q5 {l:List Int} (hl:l.length≤1048576) (h0:0<l.length):GY l (l.getD (B1 l) 0)=some (B1 l:Int):=by
 unfold GY;have ha:=FW h0;have key:er (H3 l (l.getD (B1 l) 0)) 0=some (.done (B1 l:Int)):=by
  refine Bo (fun x:Int=>B1 l+1-x.toNat) (fun x=>0≤x∧x≤B1 l) _ ?_ _ ⟨by omega,by omega⟩
  rintro x ⟨x0,DI⟩;simp only [H3];rw [y4 (by omega),Cn x0 (by omega)]
  simp only [cond_true,Option.bind_some];by_cases hx:x.toNat=B1 l
  ·rw [hx,beq_self_eq_true,cond_true];exact ⟨_,rfl,by simp only [LR.done.injEq];omega⟩
  ·have:=Kq (l:=l) (h:=x.toNat) (by omega)
   rw [show (l.getD (B1 l) 0==l.getD x.toNat 0)=false from beq_eq_false_iff_ne.2 (by omega),cond_false,u3 (by omega)]
   exact ⟨_,rfl,⟨by omega,by omega⟩,by omega⟩
 rw [key];rfl
theorem KA (a b:Int):EF a b=some (max a b):=by
 unfold EF;by_cases h:b<a
 ·rw [y4 h];simp only [cond_true,Option.some.injEq];omega
 ·rw [Bw h];simp only [cond_false,Option.some.injEq];omega
theorem Q6 {l:List Int} {a:Nat} {v:Int}: ∀(_:a<l.length) (_:l.getD a 0≤v),BJ (l.set a v)=max (BJ l) v:=by
 induction l generalizing a with
 |nil=>intro h;simp at h
 |cons x l ih=>
  intro ha hv;cases a with
  |zero=>simp only [List.set_cons_zero,BJ];simp at hv;omega
  |succ a=>
   have:=ih (by simpa using ha) (by simpa using hv)
   simp only [List.set_cons_succ,BJ,this];omega
theorem Q7 {l:List Int} (hl: ∀x∈l,0≤x∧x≤50): ∀{o:List Nat} {s:List Int×List Int} {c:Int},(∀h,0≤s.2.getD h 0∧s.2.getD h 0≤c)→ ∀h,0≤(Cx l s o).2.getD h 0∧(Cx l s o).2.getD h 0≤c+50*o.length:=by
 intro o;induction o with
 |nil=>intro s c hs h;simpa [Cx] using hs h
 |cons i r ih=>
  intro s c hs h;have hx:0≤l.getD i 0∧l.getD i 0≤50:=by
   by_cases hi:i<l.length
   ·rw [←getD_in hi];exact hl _ (List.getElem_mem hi)
   ·simp [List.getD_eq_getElem?_getD,List.getElem?_eq_none (show l.length≤i by omega)]
  have:=ih (s:=CK l s i) (c:=c+50) (fun h' =>by
   simp only [CK];by_cases ha:B1 s.2<s.2.length
   ·rw [Ei ha];have h1:=hs h';have h2:=hs (B1 s.2);split<;>omega
   ·rw [List.set_eq_of_length_le (by omega)]
    have h1:=hs h';omega) h
  simp only [Cx,List.foldl_cons,List.length_cons] at this⊢;omega
def Dj (o:List Nat):List Int:=o.map fun (i:Nat)=>(i:Int)
theorem IV (o:List Nat):(Dj o).length=o.length:=by simp [Dj]
theorem ML {o:List Nat} {i:Nat} (h:i<o.length):(Dj o).getD i 0=(o[i]:Int):=by simp [Dj,List.getD_eq_getElem?_getD,h]
theorem FY (k h:Nat):(List.replicate k (0:Int)).getD h 0=0:=by
 simp only [List.getD_eq_getElem?_getD,List.getElem?_replicate];split<;>rfl
theorem KB (k:Nat): ∀h,0≤(List.replicate k (0:Int)).getD h 0∧(List.replicate k (0:Int)).getD h 0≤0:=fun h=>by rw [FY];omega
def BI (l:List Int) (k:Nat) (o:List Nat):List Int×List Int:=Cx l (List.replicate l.length 0,List.replicate k 0) o
theorem F0 {l:List Int} {k:Nat} (o:List Nat):(BI l k o).1.length=l.length∧(BI l k o).2.length=k:=by
 have:=Ms (l:=l) (s:=(List.replicate l.length 0,List.replicate k 0)) (order:=o);simpa [BI] using this
theorem MN {l:List Int} {k:Nat} {o:List Nat} {j:Nat} (hj:j<o.length):BI l k (o.take (j+1))=CK l (BI l k (o.take j)) o[j]:=by
 rw [List.take_succ_eq_append_getElem hj];exact Kr
theorem IW {l:List Int} {k:Nat} (G:GC l k) {o:List Nat} (h8:o.length≤8) (j:Nat) (h:Nat):0≤(BI l k (o.take j)).2.getD h 0∧(BI l k (o.take j)).2.getD h 0≤400:=by
 have:0≤(BI l k (o.take j)).2.getD h 0∧(BI l k (o.take j)).2.getD h 0≤0+50*((o.take j).length:Int):=Q7 (l:=l) (fun x hx=>by have:=G.el x hx;omega) (o:=o.take j) (s:=(List.replicate l.length 0,List.replicate k 0)) (c:=0) (KB k) h
 have hl:(o.take j).length≤8:=by rw [List.length_take];omega
 have h9:(50:Int)*((o.take j).length:Int)≤400:=by omega
 exact ⟨this.1,by have:=this.2;omega⟩
theorem IX {l:List Int} (h: ∀i,0≤l.getD i 0): ∀x∈l,0≤x:=fun x hx=>by
 obtain ⟨i,hi,rfl⟩:=List.getElem_of_mem hx;rw [getD_in hi];exact h i
theorem Q8 {l:List Int} {k:Nat} (G:GC l k) {o:List Nat} (h8:o.length≤8) (ho: ∀i∈o,i<l.length):Fk l (k:Int) (Dj o)=some ((BI l k o).1,BJ (BI l k o).2,true):=by
 have yI:=G.k1;have Fa:=G.k4;have Ej:=G.len;unfold Fk;rw [Bp (by omega) (by omega),Bp (by omega) (by omega)]
 simp only [Option.bind_some];have key:er (H4 l (Dj o)) (List.replicate l.length 0,List.replicate k 0,0)=some ((BI l k o).1,(BI l k o).2):=by
  refine Bo (fun x:List Int×List Int×Int=>o.length-x.2.2.toNat) (fun x=>0≤x.2.2∧x.2.2≤o.length∧x.1=(BI l k (o.take x.2.2.toNat)).1∧x.2.1=(BI l k (o.take x.2.2.toNat)).2) _ ?_ _ ⟨by simp,by simp,by simp [BI,Cx],by simp [BI,Cx]⟩
  rintro ⟨g,s,j⟩ ⟨Co,j1,i1,i2⟩;simp only at Co j1 i1 i2;simp only [H4,IV];by_cases hj:j<o.length
  ·have aw:j.toNat<o.length:=by omega
   have ci:=IW G h8 j.toNat;have hle:=F0 (l:=l) (k:=k) (o.take j.toNat);have Dk:=MN (l:=l) (k:=k) aw;have qy:=ho _ (List.getElem_mem aw);have eA:s.length=k:=by rw [i2];exact hle.2
   have mJ:g.length=l.length:=by rw [i1];exact hle.1
   have ha:=FW (l:=s) (by omega)
   rw [←i2] at ci;have h1:=ci (B1 s);have hx:=G.el _ (List.getElem_mem qy);rw [getD_in qy] at hx;rw [y4 hj,Cn Co (by rw [IV];omega),ML aw]
   simp only [cond_true,Option.bind_some];rw [Q4 (by omega) (by omega),Option.bind_some,Q5 (by omega) (by omega)]
   simp only [Option.bind_some];rw [Cn (l:=g) (by omega) (by omega),Cn (l:=s) (by omega) (by omega),Cn (l:=l) (by omega) (by omega)]
   simp only [Option.bind_some,Int.toNat_natCast];rw [u3 (x:=s.getD (B1 s) 0+l.getD o[j.toNat] 0) (by omega),u3 (x:=j+1) (by omega)]
   refine ⟨_,rfl,⟨by simp only;omega,by simp only;omega,?_,?_⟩,by simp only;omega⟩
   ·simp only;rw [show (j+1).toNat=j.toNat+1 by omega,Dk,i1,i2];rfl
   ·simp only;rw [show (j+1).toNat=j.toNat+1 by omega,Dk,i2];rfl
  ·rw [Bw hj];refine ⟨_,rfl,?_⟩;rw [List.take_of_length_le (by omega)] at i1 i2
   simp only [i1,i2]
 rw [key];simp only [Option.bind_some];have ci:=IW G h8 o.length;rw [List.take_length] at ci;have hle:=F0 (l:=l) (k:=k) o;rw [IU (by omega) (by omega) (IX fun i=>(ci i).1)]
 rfl
theorem Q9 {s:List Int} (hl:s.length≤1048576) (h0:0<s.length):er (H5 s) (0,0)=some (B1 s:Int):=by
 refine Bo (fun x:Int×Int=>s.length-x.2.toNat) (fun x=>0≤x.2∧x.2≤s.length∧0≤x.1∧x.1<s.length∧(∀h:Nat,(h:Int)<x.2→s.getD x.1.toNat 0≤s.getD h 0)∧ ∀h:Nat,(h:Int)<x.1→s.getD x.1.toNat 0<s.getD h 0) _ ?_ _ ⟨by simp,by simp,by simp,by simp only;omega,by intro h hh;simp only at hh;omega,by intro h hh;simp only at hh;omega⟩
 rintro ⟨b,j⟩ ⟨Co,j1,b0,b1,i1,i2⟩;simp only at Co j1 b0 b1 i1 i2;simp only [H5];by_cases hj:j<s.length
 ·rw [y4 hj,Cn Co hj,Cn b0 b1];simp only [cond_true,Option.bind_some];by_cases hc:s.getD j.toNat 0<s.getD b.toNat 0
  ·rw [y4 hc,cond_true];simp only [Option.bind_some];rw [u3 (by omega)]
   refine ⟨_,rfl,⟨by simp only;omega,by simp only;omega,by simp only;omega,by simp only;omega,fun h hh=> ?_,fun h hh=> ?_⟩,by simp only;omega⟩
   ·simp only at hh⊢;by_cases e:(h:Int)<j
    ·have:=i1 h e;omega
    ·rw [show h=j.toNat by omega];omega
   ·simp only at hh⊢;have:=i1 h hh;omega
  ·rw [Bw hc,cond_false];simp only [Option.bind_some];rw [u3 (by omega)]
   refine ⟨_,rfl,⟨by simp only;omega,by simp only;omega,by simp only;omega,by simp only;omega,fun h hh=> ?_,i2⟩,by simp only;omega⟩
   simp only at hh⊢;by_cases e:(h:Int)<j
   ·exact i1 h e
   ·rw [show h=j.toNat by omega];omega
 ·rw [Bw hj];refine ⟨_,rfl,?_⟩;simp only;have:=QR (l:=s) (a:=b.toNat) (by omega) (fun h hh=>i1 h (by omega)) (fun h hh=>i2 h (by omega))
  omega
theorem Q_ {l:List Int} {k:Nat} (G:GC l k) {o:List Nat} (h8:o.length≤8) (ho: ∀i∈o,i<l.length):Fl l (k:Int) (Dj o)=some (BI l k o).1:=by
 have yI:=G.k1;have Fa:=G.k4;have Ej:=G.len;unfold Fl;rw [Bp (by omega) (by omega),Bp (by omega) (by omega)]
 simp only [Option.bind_some];have key:er (H6 l (Dj o)) (List.replicate k 0,List.replicate l.length 0,0)=some (BI l k o).1:=by
  refine Bo (fun x:List Int×List Int×Int=>o.length-x.2.2.toNat) (fun x=>0≤x.2.2∧x.2.2≤o.length∧x.2.1=(BI l k (o.take x.2.2.toNat)).1∧x.1=(BI l k (o.take x.2.2.toNat)).2) _ ?_ _ ⟨by simp,by simp,by simp [BI,Cx],by simp [BI,Cx]⟩
  rintro ⟨s,g,j⟩ ⟨Co,j1,i1,i2⟩;simp only at Co j1 i1 i2;simp only [H6,IV];by_cases hj:j<o.length
  ·have aw:j.toNat<o.length:=by omega
   have ci:=IW G h8 j.toNat;have hle:=F0 (l:=l) (k:=k) (o.take j.toNat);have Dk:=MN (l:=l) (k:=k) aw;have qy:=ho _ (List.getElem_mem aw);have eA:s.length=k:=by rw [i2];exact hle.2
   have mJ:g.length=l.length:=by rw [i1];exact hle.1
   have ha:=FW (l:=s) (by omega)
   rw [←i2] at ci;have h1:=ci (B1 s);have hx:=G.el _ (List.getElem_mem qy);rw [getD_in qy] at hx;rw [y4 hj,Cn Co (by rw [IV];omega),ML aw]
   simp only [cond_true,Option.bind_some];rw [Q9 (by omega) (by omega)]
   simp only [Option.bind_some];rw [Cn (l:=g) (by omega) (by omega),Cn (l:=s) (by omega) (by omega),Cn (l:=l) (by omega) (by omega)]
   simp only [Option.bind_some,Int.toNat_natCast];rw [u3 (x:=s.getD (B1 s) 0+l.getD o[j.toNat] 0) (by omega),u3 (x:=j+1) (by omega)]
   refine ⟨_,rfl,⟨by simp only;omega,by simp only;omega,?_,?_⟩,by simp only;omega⟩
   ·simp only;rw [show (j+1).toNat=j.toNat+1 by omega,Dk,i1,i2];rfl
   ·simp only;rw [show (j+1).toNat=j.toNat+1 by omega,Dk,i2];rfl
  ·rw [Bw hj];refine ⟨_,rfl,?_⟩;rw [List.take_of_length_le (by omega)] at i1 i2
   simp only [i1]
 rw [key];rfl
theorem MO: ∀{l:List Int} {ps:List Nat} {has:List Int} {x:Int} {a:Nat},l.length=ps.length→B0 has (l ++ [x]) (ps ++ [a])=(B0 has l ps).set a ((B0 has l ps).getD a 0+x)
 |[],[],has,x,a,_=>rfl
 |y::l,b::ps,has,x,a,h=>by
  simp only [List.cons_append,B0];exact MO (by simpa using h)
theorem Ra {l:List Int} {h:Nat}: ∀{ps:List Nat},(∀x∈l,0≤x∧x≤50)→0≤CQ h l ps∧CQ h l ps≤50*l.length:=by
 induction l with
 |nil=>intro ps _;simp [CQ]
 |cons x l ih=>
  intro ps hx;cases ps with
  |nil=>simp [CQ];omega
  |cons a ps=>
   have h1:=ih (ps:=ps) fun y hy=>hx y (by simp [hy])
   have h2:=hx x (by simp)
   simp only [CQ,List.length_cons];split<;>omega
structure Fb (l:List Int) (k:Nat) (g:List Int):Prop where
 len:g.length=l.length
 el: ∀i,i<g.length→0≤g.getD i 0∧g.getD i 0<k
def Db (g:List Int):List Nat:=g.map Int.toNat
abbrev zs (k:Nat):List Int:=List.replicate k 0
theorem Fb.ps {l g:List Int} {k:Nat} (H:Fb l k g):(Db g).length=l.length∧ ∀a∈Db g,a<k:=by
 refine ⟨by simp [Db,H.len],fun a ha=> ?_⟩
 obtain ⟨x,hx,rfl⟩:=List.mem_map.1 ha;obtain ⟨i,hi,rfl⟩:=List.getElem_of_mem hx;have:=H.el i hi;rw [←getD_in hi] at this;omega
theorem IY {l:List Int} {k:Nat} (G:GC l k) {ps:List Nat} (ha: ∀a∈ps,a<k) (j h:Nat):0≤(B0 (zs k) (l.take j) (ps.take j)).getD h 0∧(B0 (zs k) (l.take j) (ps.take j)).getD h 0≤400:=by
 rw [Gv (fun a h=>by rw [List.length_replicate];exact ha a (List.mem_of_mem_take h)),FY]
 have h1:=Ra (l:=l.take j) (h:=h) (ps:=ps.take j) fun x hx=>by have:=G.el x (List.mem_of_mem_take hx);omega
 have hl:(l.take j).length≤8:=by rw [List.length_take];have:=G.len;omega
 omega
theorem MP {l:List Int} {ps:List Nat} {k j:Nat} (e:ps.length=l.length) (hj:j<l.length):B0 (zs k) (l.take (j+1)) (ps.take (j+1))=(B0 (zs k) (l.take j) (ps.take j)).set (ps[j]'(by omega)) ((B0 (zs k) (l.take j) (ps.take j)).getD (ps[j]'(by omega)) 0+l[j]):=by
 rw [List.take_succ_eq_append_getElem hj,List.take_succ_eq_append_getElem (l:=ps) (by omega),MO (by simp [e])]
theorem MQ {g:List Int} {i:Nat} (h:i<g.length) (h' :i<(Db g).length):(Db g)[i]=(g.getD i 0).toNat:=by
 simp [Db,List.getD_eq_getElem?_getD,h]
theorem Rb {l g:List Int} {k:Nat} (G:GC l k) (H:Fb l k g):GQ l (k:Int) g=some (B0 (zs k) l (Db g)):=by
 have yI:=G.k1;have Fa:=G.k4;have Ej:=G.len;have vA:=H.len;obtain ⟨a1,a2⟩:=H.ps;unfold GQ;rw [Bp (by omega) (by omega)]
 simp only [Option.bind_some];have key:er (HX l g) (List.replicate k 0,0)=some (B0 (zs k) l (Db g)):=by
  refine Bo (fun x:List Int×Int=>l.length-x.2.toNat) (fun x=>0≤x.2∧x.2≤l.length∧x.1=B0 (zs k) (l.take x.2.toNat) ((Db g).take x.2.toNat)) _ ?_ _ ⟨by simp,by simp,by simp [B0]⟩
  rintro ⟨s,j⟩ ⟨Co,j1,i1⟩;simp only at Co j1 i1;simp only [HX];by_cases hj:j<l.length
  ·have aw:j.toNat<l.length:=by omega
   have hb:=H.el j.toNat (by omega)
   have ci:=IY G a2 j.toNat (g.getD j.toNat 0).toNat;have Dk:=MP (k:=k) a1 aw;have eA:s.length=k:=by rw [i1,E8,List.length_replicate]
   have hx:=G.el _ (List.getElem_mem aw);have bO:=MQ (g:=g) (i:=j.toNat) (by omega) (by omega)
   rw [bO] at Dk;rw [←i1] at ci Dk;rw [getD_in aw] at hx Dk;rw [y4 hj,Cn Co hj,Cn Co (by omega)]
   simp only [cond_true,Option.bind_some];rw [Cn (l:=s) hb.1 (by omega)]
   simp only [Option.bind_some];rw [u3 (x:=s.getD (g.getD j.toNat 0).toNat 0+l.getD j.toNat 0) (by omega),u3 (x:=j+1) (by omega)]
   refine ⟨_,rfl,⟨by simp only;omega,by simp only;omega,?_⟩,by simp only;omega⟩
   simp only;rw [show (j+1).toNat=j.toNat+1 by omega,Dk]
  ·rw [Bw hj];refine ⟨_,rfl,?_⟩;rw [List.take_of_length_le (by omega),List.take_of_length_le (by omega)] at i1
   simp only [i1]
 rw [key];rfl
theorem MR {l g:List Int} {k:Nat} (G:GC l k) (H:Fb l k g):EK l (k:Int) g=some (BJ (B0 (zs k) l (Db g))):=by
 have yI:=G.k1;have Fa:=G.k4;have Ej:=G.len;have vA:=H.len;obtain ⟨a1,a2⟩:=H.ps;unfold EK;rw [Bp (by omega) (by omega)]
 simp only [Option.bind_some];have key:er (HY l g) (List.replicate k 0,0,0)=some (BJ (B0 (zs k) l (Db g))):=by
  refine Bo (fun x:List Int×Int×Int=>l.length-x.2.2.toNat) (fun x=>0≤x.2.2∧x.2.2≤l.length∧x.1=B0 (zs k) (l.take x.2.2.toNat) ((Db g).take x.2.2.toNat)∧x.2.1=BJ x.1) _ ?_ _ ⟨by simp,by simp,by simp [B0],?_⟩
  ·rintro ⟨s,m,j⟩ ⟨Co,j1,i1,i2⟩;simp only at Co j1 i1 i2;simp only [HY];by_cases hj:j<l.length
   ·have aw:j.toNat<l.length:=by omega
    have hb:=H.el j.toNat (by omega)
    have ci:=IY G a2 j.toNat (g.getD j.toNat 0).toNat;have Dk:=MP (k:=k) a1 aw;have eA:s.length=k:=by rw [i1,E8,List.length_replicate]
    have hx:=G.el _ (List.getElem_mem aw);have bO:=MQ (g:=g) (i:=j.toNat) (by omega) (by omega)
    rw [bO] at Dk;rw [←i1] at ci Dk;rw [getD_in aw] at hx Dk;rw [y4 (by omega),Cn Co (by omega)]
    simp only [cond_true,Option.bind_some];rw [Cn (l:=s) hb.1 (by omega),Cn Co hj]
    simp only [Option.bind_some];rw [u3 (x:=s.getD (g.getD j.toNat 0).toNat 0+l.getD j.toNat 0) (by omega),Cn hb.1 (by rw [List.length_set];omega)]
    simp only [Option.bind_some];rw [KA];simp only [Option.bind_some];rw [u3 (x:=j+1) (by omega)]
    refine ⟨_,rfl,⟨by simp only;omega,by simp only;omega,?_,?_⟩,by simp only;omega⟩
    ·simp only;rw [show (j+1).toNat=j.toNat+1 by omega,Dk]
    ·simp only;rw [Q6 (by omega) (by omega),Ei (by omega),if_pos rfl,i2]
   ·rw [Bw (by omega)]
    refine ⟨_,rfl,?_⟩;rw [List.take_of_length_le (by omega),List.take_of_length_le (by omega)] at i1
    simp only [i2,i1]
  ·simp only;refine (Int.le_antisymm (Gu (Int.le_refl _) fun h _=>by rw [FY];exact Int.le_refl _) (FV _)).symm
 rw [key];rfl
def Dv (l:List Int) (k:Nat) (g:List Int):Int:=BJ (B0 (zs k) l (Db g))
def CT (l:List Int) (h:Int) (g:List Int):Bool:=CD l h&&(decide (g.length=l.length)&&g.all (C7 · 0 (h-1)))
theorem KC {l g:List Int} {h:Int} (e:CT l h g=true): ∃k:Nat,h=k∧GC l k∧Fb l k g:=by
 simp only [CT,Bool.and_eq_true,decide_eq_true_eq,List.all_eq_true,Kz] at e;obtain ⟨k,rfl,G⟩:=E_ e.1;refine ⟨k,rfl,G,e.2.1,fun i hi=> ?_⟩;have:=e.2.2 _ (List.getElem_mem hi);rw [getD_in hi] at this;omega
theorem KD {l g:List Int} {h:Int} (hl:l.length≤1048576) (hg:g.length≤1048576):Fj l h g=some (if CT l h g then (Dv l h.toNat g,true) else (0,false)):=by
 unfold Fj;rw [Gz hl];have hb: -9≤h∧h≤9∨CD l h=false:=by
  cases e:CD l h
  ·exact .inr rfl
  ·obtain ⟨k,rfl,G⟩:=E_ e;have:=G.k4;exact .inl ⟨by omega,by omega⟩
 cases e:CD l h
 ·simp [CT,e]
 ·rw [e] at hb;have hb: -9≤h∧h≤9:=by simpa using hb
  simp only [Option.bind_some,Bool.not_true,cond_false];rw [MH (by omega) (fun x=> !C7 x 0 (h-1)) (fun x _=>by unfold HW;rw [u3 (by omega),Ky];rfl),MJ]
  by_cases e1:g.length=l.length
  ·rw [e1];simp only [bne_self_eq_false,cond_false,Option.bind_some];cases e2:g.all (C7 · 0 (h-1))
   ·simp [CT,e2]
   ·have hh:CT l h g=true:=by simp [CT,e,e1,e2]
    obtain ⟨k,rfl,G,H⟩:=KC hh;have ci:=IY G H.ps.2 (l.length+g.length);rw [List.take_of_length_le (by omega),List.take_of_length_le (by rw [H.ps.1];omega)] at ci
    have yI:=G.k1;have Fa:=G.k4;simp only [Bool.not_true,cond_false];rw [Rb G H,Option.bind_some,IU (by rw [E8,List.length_replicate];omega) (by rw [E8,List.length_replicate];omega) (IX fun i=>(ci i).1)]
    simp only [Option.bind_some,hh,if_true,Dv,Int.toNat_natCast]
  ·rw [MI e1];simp [CT,e1]
theorem Rc {l g:List Int} {h:Int} (hl:l.length≤1048576) (hg:g.length≤1048576):GV l h g=some (if CT l h g then (Dv l h.toNat g,true) else (0,false)):=by
 unfold GV;rw [HK hl];have hb: -9≤h∧h≤9∨CD l h=false:=by
  cases e:CD l h
  ·exact .inr rfl
  ·obtain ⟨k,rfl,G⟩:=E_ e;have:=G.k4;exact .inl ⟨by omega,by omega⟩
 cases e:CD l h
 ·simp [CT,e]
 ·rw [e] at hb;have hb: -9≤h∧h≤9:=by simpa using hb
  simp only [Option.bind_some,Bool.not_true,cond_false];rw [u3 (by omega),MF hg]
  by_cases e1:g.length=l.length
  ·rw [e1];simp only [bne_self_eq_false,cond_false,Option.bind_some];cases e2:g.all (C7 · 0 (h-1))
   ·simp [CT,e2]
   ·have hh:CT l h g=true:=by simp [CT,e,e1,e2]
    obtain ⟨k,rfl,G,H⟩:=KC hh;simp only [Bool.not_true,cond_false];rw [MR G H];simp only [Option.bind_some,hh,if_true,Dv,Int.toNat_natCast]
  ·rw [MI e1];simp [CT,e1]
theorem MS {has:List Int} {a:Nat} {v c:Int} (hv:0≤v∧v≤c) (h: ∀i,0≤has.getD i 0∧has.getD i 0≤c): ∀i,0≤(has.set a v).getD i 0∧(has.set a v).getD i 0≤c:=fun i=>by
 by_cases ha:a<has.length
 ·rw [Ei ha];split
  ·exact hv
  ·exact h i
 ·rw [List.set_eq_of_length_le (by omega)];exact h i
theorem Re {has:List Int} {a:Nat} {v:Int} (_ha:a<has.length):(has.set a v).set a (has.getD a 0)=has:=by
 rw [List.set_set];apply List.ext_getElem
 ·simp
 ·intro i h1 h2;rw [List.getElem_set];split
  ·rename_i e;subst e;rw [getD_in h2]
  ·rfl
def HL (f:Nat→Int) (j:Nat):Int:=if j=0 then -1 else Dp f j
theorem MT {l has:List Int} (hl: ∀x∈l,0≤x) (h0:0<has.length):0≤BS l has:=by
 have:=Mr hl h0;have:=FV has;omega
theorem MU: ∀(l:List Int) (n:Nat) (has:List Int) (c:Int),l.length<n→(∀x∈l,0≤x∧x≤50)→0<has.length→has.length≤4→(∀i,0≤has.getD i 0∧has.getD i 0≤c)→c+50*l.length≤1000→
 EQ n l has=some (BS l has,has)
 |l,0,_,_,h,_,_,_,_,_=>by omega
 |[],n+1,has,c,_,_,h0,h4,hb,hc=>by
  simp only [EQ,He];rw [show (((([]:List Int).length:Nat):Int)==0)=true from rfl,cond_true,IU (by omega) h0 (IX fun i=>(hb i).1)]
  rfl
 |x::l,n+1,has,c,hn,hl,h0,h4,hb,hc=>by
  have hx:=hl x (by simp)
  have cS: ∀y∈l,0≤y∧y≤50:=fun y hy=>hl y (by simp [hy])
  have KE:l.length<n:=by simpa using hn
  simp only [List.length_cons] at hc;simp only [EQ,He];rw [show ((((x::l).length:Nat):Int)==0)=false from by rw [beq_eq_false_iff_ne];simp only [List.length_cons];omega,cond_false]
  have key:er (Ib (x::l) has (EQ n)) (has,-1,0)=some (BS (x::l) has,has):=by
   refine Bo (fun y:List Int×Int×Int=>has.length-y.2.2.toNat) (fun y=>0≤y.2.2∧y.2.2≤has.length∧y.1=has∧y.2.1=HL (fun h=>BS l (has.set h (has.getD h 0+x))) y.2.2.toNat) _ ?_ _ ⟨by simp,by simp,rfl,by simp [HL]⟩
   rintro ⟨s,o,j⟩ ⟨Co,j1,i1,i2⟩;simp only at Co j1 i1 i2;subst i1;simp only [Ib];by_cases hj:j<s.length
   ·have aw:j.toNat<s.length:=by omega
    have hs:=hb j.toNat;rw [y4 hj,Cn Co hj];simp only [cond_true,Option.bind_some];have es:dN (x::l) 1 (((x::l).length:Nat):Int)=some l:=by
     rw [Bu (by omega) (by simp only [List.length_cons];omega) (Int.le_refl _)];simp
    rw [show idx (x::l) 0=some x from rfl,es];simp only [Option.bind_some];rw [u3 (x:=s.getD j.toNat 0+x) (by omega)]
    rw [MU l n (s.set j.toNat (s.getD j.toNat 0+x)) (c+50) KE cS (by rw [List.length_set];exact h0) (by rw [List.length_set];exact h4) (MS (by omega) fun i=>by have:=hb i;omega) (by omega)]
    simp only [Option.bind_some];have bp:=MT (l:=l) (has:=s.set j.toNat (s.getD j.toNat 0+x)) (fun y hy=>(cS y hy).1) (by rw [List.length_set];exact h0)
    have Rf:((bif (decide (o<0)) then some (true) else some ((decide (BS l (s.set j.toNat (s.getD j.toNat 0+x))<o)))).bind fun Fm=>((bif Fm then some (BS l (s.set j.toNat (s.getD j.toNat 0+x))) else some o)))=some (HL (fun h=>BS l (s.set h (s.getD h 0+x))) (j.toNat+1)):=by
     rw [i2];unfold HL;rw [if_neg (Nat.succ_ne_zero _)];cases Ux:j.toNat with
     |zero=>rw [if_pos rfl,y4 (by omega)];rfl
     |succ m=>
      rw [if_neg (Nat.succ_ne_zero _)];obtain ⟨i,_,hi⟩:=Kn (f:=fun h=>BS l (s.set h (s.getD h 0+x))) (k:=m+1) (by omega)
      have iH:=MT (l:=l) (has:=s.set i (s.getD i 0+x)) (fun y hy=>(cS y hy).1) (by rw [List.length_set];exact h0)
      rw [Bw (by omega)]
      simp only [cond_false,Option.bind_some];rw [show Dp (fun h=>BS l (s.set h (s.getD h 0+x))) (m+1+1)=min (Dp (fun h=>BS l (s.set h (s.getD h 0+x))) (m+1)) (BS l (s.set (m+1) (s.getD (m+1) 0+x))) from rfl];by_cases dw:BS l (s.set (m+1) (s.getD (m+1) 0+x))<Dp (fun h=>BS l (s.set h (s.getD h 0+x))) (m+1)
      ·rw [y4 dw];simp only [cond_true,Option.some.injEq];omega
      ·rw [Bw dw];simp only [cond_false,Option.some.injEq];omega
    rw [←Option.bind_assoc,Rf];simp only [Option.bind_some];rw [Cn (l:=s.set j.toNat (s.getD j.toNat 0+x)) Co (by rw [List.length_set];exact hj),Ei aw,if_pos rfl]
    simp only [Option.bind_some];rw [show s.getD j.toNat 0+x-x=s.getD j.toNat 0 by omega,u3 (x:=s.getD j.toNat 0) (by omega),u3 (x:=j+1) (by omega),Re aw]
    refine ⟨_,rfl,⟨by simp only;omega,by simp only;omega,rfl,?_⟩,by simp only;omega⟩
    simp only;rw [show (j+1).toNat=j.toNat+1 by omega]
   ·rw [Bw hj];refine ⟨_,rfl,?_⟩;simp only [Prod.mk.injEq,and_true];rw [i2,show j.toNat=s.length by omega,HL,if_neg (by omega)]
    rfl
  rw [key];rfl
theorem MV {l:List Int} (hl:l.length≤1048576) (m:Int) (hm:0≤m) {f:Int×Int→Option (LR (Int×Int) Int)} (hf:f=Ig l):er f (m,0)=some (max m (BJ l)):=by
 subst hf;refine Bo (fun x:Int×Int=>l.length-x.2.toNat) (fun x=>0≤x.2∧x.2≤l.length∧0≤x.1∧max x.1 (BJ (l.drop x.2.toNat))=max m (BJ l)) _ ?_ _ ⟨by simp,by simp,hm,by simp⟩
 rintro ⟨o,j⟩ ⟨Co,j1,Rg,i1⟩;simp only at Co j1 Rg i1;simp only [Ig];by_cases hj:j<l.length
 ·rw [y4 hj,Cn Co hj];simp only [cond_true,Option.bind_some];rw [KA,Option.bind_some,u3 (by omega)]
  rw [List.drop_eq_getElem_cons (show j.toNat<l.length by omega),BJ,getD_in (by omega)] at i1
  refine ⟨_,rfl,⟨by simp only;omega,by simp only;omega,by simp only;omega,?_⟩,by simp only;omega⟩
  simp only;rw [show (j+1).toNat=j.toNat+1 by omega];omega
 ·rw [Bw hj];refine ⟨_,rfl,?_⟩;rw [List.drop_eq_nil_of_le (by omega)] at i1
  simp only [BJ] at i1⊢;omega
def GA (f:Nat→Int) (b:Int) (j:Nat):Int:=if j=0 then b else min b (Dp f j)
theorem Rh (f:Nat→Int) (b:Int) (j:Nat):GA f b (j+1)=min (GA f b j) (f j):=by
 unfold GA;rw [if_neg (Nat.succ_ne_zero _)];cases j with
 |zero=>rfl
 |succ j=>
  rw [if_neg (Nat.succ_ne_zero _),show Dp f (j+1+1)=min (Dp f (j+1)) (f (j+1)) from rfl];omega
theorem MW: ∀(l:List Int) (n:Nat) (has:List Int) (c b:Int),l.length<n→(∀x∈l,0≤x∧x≤50)→0<has.length→has.length≤4→(∀i,0≤has.getD i 0∧has.getD i 0≤c)→c+50*l.length≤1000→
 Fo n l has b=some (min b (BS l has))
 |l,0,_,_,_,h,_,_,_,_,_=>by omega
 |l,n+1,has,c,b,hn,hl,h0,h4,hb,hc=>by
  simp only [Fo,Ii];rw [MV (by omega) 0 (Int.le_refl _) rfl,show max 0 (BJ has)=BJ has by have:=FV has;omega]
  simp only [Option.bind_some];have xU:=Mr (l:=l) (fun x hx=>(hl x hx).1) h0;by_cases MX:b≤BJ has
  ·rw [y4 MX];simp only [cond_true,Option.some.injEq];omega
  ·rw [Bw MX,cond_false];cases l with
   |nil=>
    rw [show (((([]:List Int).length:Nat):Int)==0)=true from rfl,cond_true,BS];simp only [Option.some.injEq];omega
   |cons x l=>
    have hx:=hl x (by simp)
    have cS: ∀y∈l,0≤y∧y≤50:=fun y hy=>hl y (by simp [hy])
    have KE:l.length<n:=by simpa using hn
    simp only [List.length_cons] at hc;rw [show ((((x::l).length:Nat):Int)==0)=false from by rw [beq_eq_false_iff_ne];simp only [List.length_cons];omega,cond_false]
    have key:er (Ih (x::l) has (Fo n)) (b,0)=some (min b (BS (x::l) has)):=by
     refine Bo (fun y:Int×Int=>has.length-y.2.toNat) (fun y=>0≤y.2∧y.2≤has.length∧y.1=GA (fun h=>BS l (has.set h (has.getD h 0+x))) b y.2.toNat) _ ?_ _ ⟨by simp,by simp,by simp [GA]⟩
     rintro ⟨o,j⟩ ⟨Co,j1,i2⟩;simp only at Co j1 i2;simp only [Ih];by_cases hj:j<has.length
     ·have aw:j.toNat<has.length:=by omega
      have hs:=hb j.toNat;have es:dN (x::l) 1 (((x::l).length:Nat):Int)=some l:=by
       rw [Bu (by omega) (by simp only [List.length_cons];omega) (Int.le_refl _)];simp
      rw [y4 hj,Bq (by simp only [List.length_nil];omega) (by omega),List.nil_append]
      simp only [cond_true,Option.bind_some];rw [Cn Co hj,show idx (x::l) 0=some x from rfl,es];simp only [Option.bind_some];rw [u3 (x:=has.getD j.toNat 0+x) (by omega)]
      rw [MW l n (has.set j.toNat (has.getD j.toNat 0+x)) (c+50) o KE cS (by rw [List.length_set];exact h0) (by rw [List.length_set];exact h4) (MS (by omega) fun i=>by have:=hb i;omega) (by omega)]
      simp only [Option.bind_some];rw [u3 (x:=j+1) (by omega)]
      refine ⟨_,rfl,⟨by simp only;omega,by simp only;omega,?_⟩,by simp only;omega⟩
      simp only;rw [show (j+1).toNat=j.toNat+1 by omega,Rh,i2]
     ·rw [Bw hj];refine ⟨_,rfl,?_⟩;simp only;rw [i2,show j.toNat=has.length by omega,GA,if_neg (by omega)]
      rfl
    rw [key];rfl
theorem GB {l:List Int} (h: ∀x∈l,0≤x∧x≤50):0≤l.sum∧l.sum≤50*l.length:=by
 induction l with
 |nil=>simp
 |cons x l ih=>
  have h1:=h x (by simp)
  have h2:=ih fun y hy=>h y (by simp [hy])
  simp only [List.sum_cons,List.length_cons];omega
theorem KF {l:List Int} (hl:l.length≤8) (hb: ∀x∈l,0≤x∧x≤50) {f:Int×Int→Option (LR (Int×Int) Int)} (hf:f=Ij l):er f (0,0)=some l.sum:=by
 subst hf;refine Bo (fun x:Int×Int=>l.length-x.2.toNat) (fun x=>0≤x.2∧x.2≤l.length∧x.1=(l.take x.2.toNat).sum) _ ?_ _ ⟨by simp,by simp,by simp⟩
 rintro ⟨m,i⟩ ⟨i1,i2,i3⟩;simp only at i1 i2 i3;subst i3;simp only [Ij];by_cases hi:i<l.length
 ·have aw:i.toNat<l.length:=by omega
  have h1:=GB (l:=l.take i.toNat) (fun x hx=>hb x (List.mem_of_mem_take hx));have hlen:(l.take i.toNat).length≤8:=by rw [List.length_take];omega
  have h2:=hb _ (List.getElem_mem aw);rw [y4 hi,Bt i1 hi];simp only [cond_true,Option.bind_some];rw [u3 (x:=i+1) (by omega),u3 (by omega)]
  refine ⟨_,rfl,⟨by simp only;omega,by simp only;omega,?_⟩,by simp only;omega⟩
  simp only;rw [show (i+1).toNat=i.toNat+1 by omega,List.take_succ_eq_append_getElem aw,List.sum_append]
  simp
 ·rw [Bw hi];refine ⟨_,rfl,?_⟩;simp only;rw [List.take_of_length_le (by omega)]
theorem GC.D1 {l:List Int} {k:Nat} (G:GC l k): ∀x∈l,0≤x∧x≤50:=fun x hx=>by have:=G.el x hx;omega
theorem MY {l:List Int} {k:Nat} (hl: ∀x∈l,0≤x∧x≤50) (hk:0<k):BS l (zs k)≤l.sum:=by
 have h1:=Kp (l:=l) (has:=zs k) (ps:=List.replicate l.length 0) (by simp) fun a ha=>by rw [(List.mem_replicate.1 ha).2,List.length_replicate];exact hk
 refine Int.le_trans h1 (Gu (GB hl).1 fun h _=> ?_);rw [Gv (fun a ha=>by rw [(List.mem_replicate.1 ha).2,List.length_replicate];exact hk),FY]
 have: ∀{l:List Int} (ps:List Nat),(∀x∈l,0≤x∧x≤50)→CQ h l ps≤l.sum:=by
  intro l;induction l with
  |nil=>intro ps _;simp [CQ]
  |cons x l ih=>
   intro ps hx;have h1:=hx x (by simp)
   have h2:=ih (ps.drop 1) fun y hy=>hx y (by simp [hy])
   have h3:=GB (l:=l) fun y hy=>hx y (by simp [hy])
   cases ps with
   |nil=>simp only [CQ,List.sum_cons];omega
   |cons a ps=>
    simp only [List.drop_one,List.tail_cons] at h2;simp only [CQ,List.sum_cons];split<;>omega
 have:=this (List.replicate l.length 0) hl;omega
def IZ (l:List Int) (h:Int):Int×Bool:=if CD l h then (BS l (zs h.toNat),true) else (0,false)
theorem MZ {l:List Int} (hl:l.length≤1048576) (h:Int):Hf l h=some (IZ l h)∧Hh l h=some (IZ l h):=by
 unfold Hf Hh IZ;rw [Gz hl,HK hl];cases e:CD l h
 ·exact ⟨rfl,rfl⟩
 ·obtain ⟨k,rfl,G⟩:=E_ e;have yI:=G.k1;have Fa:=G.k4;have Ej:=G.len;have hs:=GB G.D1;have cK:=MY G.D1 (show 0<k by omega)
  simp only [Option.bind_some,Bool.not_true,cond_false,if_true,Int.toNat_natCast];rw [Bp (by omega) (by omega)]
  simp only [Option.bind_some];constructor
  ·unfold Ja;rw [MU l 64 (zs k) 0 (by omega) G.D1 (by simp<;>omega) (by simp<;>omega) (KB k) (by omega)]
   rfl
  ·unfold Ga;rw [KF (f:=If l) Ej G.D1 rfl];simp only [Option.bind_some];unfold Jb;rw [u3 (by omega),MW l 64 (zs k) 0 (l.sum+1) (by omega) G.D1 (by simp<;>omega) (by simp<;>omega) (KB k) (by omega),show min (l.sum+1) (BS l (zs k))=BS l (zs k) by omega]
   rfl
def HM (l:List Int) (k:Nat):Int:=max ((l.sum+k-1)/k) (BJ l)
def I0 (l:List Int) (h:Int):Int×Bool:=if CD l h then (HM l h.toNat,true) else (0,false)
theorem M0 {l:List Int} (hl:l.length≤1048576) (h:Int):Hi l h=some (I0 l h)∧Hj l h=some (I0 l h):=by
 unfold Hi Hj I0;rw [Gz hl,HK hl];cases e:CD l h
 ·exact ⟨rfl,rfl⟩
 ·obtain ⟨k,rfl,G⟩:=E_ e;have yI:=G.k1;have Fa:=G.k4;have Ej:=G.len;have hs:=GB G.D1;have hq:0≤(l.sum+(k:Int)-1)/k:=Int.ediv_nonneg (by omega) (by omega)
  simp only [Option.bind_some,Bool.not_true,cond_false,if_true,Int.toNat_natCast];constructor
  ·rw [Bq (by simp<;>omega) (by omega)]
   simp only [Option.bind_some];rw [IU (by simp<;>omega) (by simp) (fun x hx=>by
    rcases List.mem_cons.1 hx with rfl|hx
    ·omega
    ·exact (G.D1 x hx).1)]
   simp only [Option.bind_some];unfold Ik;rw [KF Ej G.D1 rfl];simp only [Option.bind_some];rw [u3 (x:=l.sum+(k:Int)) (by omega),u3 (by omega),Bv (by omega) (by omega) (by omega)]
   simp only [Option.bind_some,HM];have hm:BJ ([0] ++ l)=BJ l:=by have:=FV l;simp only [List.cons_append,List.nil_append,BJ];omega
   rw [hm];congr 2;split<;>omega
  ·unfold Ga;rw [KF (f:=If l) Ej G.D1 rfl];simp only [Option.bind_some];rw [u3 (x:=l.sum+(k:Int)) (by omega),u3 (by omega),Bv (by omega) (by omega) (by omega)]
   simp only [Option.bind_some];rw [MV (f:=Jc l) hl _ hq rfl];rfl
theorem Ri {a b:List Int} (h:a.Perm b):a.sum=b.sum:=by
 induction h with
 |nil=>rfl
 |cons x _ ih=>simp only [List.sum_cons,ih]
 |swap x y l=>simp only [List.sum_cons];omega
 |trans _ _ h1 h2=>rw [h1,h2]
theorem M1 {τ :Type} {sz: τ →Int} {f: τ →Nat} {h:Nat} {a b:List τ} (p:a.Perm b):(JG sz f h a).sum=(JG sz f h b).sum:=
 Ri ((p.filter _).map _)
theorem M2 {τ σ :Type} {sz: σ →Int} {f: σ →Nat} {h:Nat} {u: τ → σ}: ∀(a:List τ),JG sz f h (a.map u)=JG (fun x=>sz (u x)) (fun x=>f (u x)) h a
 |[]=>rfl
 |x::a=>by rw [List.map_cons,DM,DM,M2 a]
theorem KG {h:Nat}: ∀{l:List Int} {ps:List Nat},ps.length=l.length→CQ h l ps=(JG (CR l) (fun i=>ps.getD i 0) h (List.range l.length)).sum
 |[],[],_=>rfl
 |x::l,a::ps,e=>by
  have ih:=KG (h:=h) (l:=l) (ps:=ps) (by simpa using e)
  rw [CQ,ih,List.length_cons,List.range_succ_eq_map,DM,M2];have e1:(fun i=>CR (x::l) (Nat.succ i))=CR l:=rfl;have e2:(fun i=>(a::ps).getD (Nat.succ i) 0)=fun i=>ps.getD i 0:=rfl;rw [e1,e2];have e3:(a::ps).getD 0 0=a:=rfl;have e4:CR (x::l) 0=x:=rfl;rw [e3,e4];split<;>simp
theorem Rj (g:List Int):CS g=fun i=>(Db g).getD i 0:=by
 funext i
 simp only [CS,Db,List.getD_eq_getElem?_getD,List.getElem?_map];cases g[i]? <;>rfl
theorem Rk {a b:List Int} (h1:a.length=b.length) (h2: ∀h,h<a.length→a.getD h 0=b.getD h 0):a=b:=by
 apply List.ext_getElem h1;intro i ha hb;rw [getD_in ha,getD_in hb];exact h2 i ha
theorem Rl {l:List Int}: ∀{o:List Nat} {s:List Int×List Int},(∀h,0≤s.1.getD h 0)→ ∀h,0≤(Cx l s o).1.getD h 0:=by
 intro o;induction o with
 |nil=>intro s hs h;exact hs h
 |cons i r ih=>
  intro s hs h;refine ih (s:=CK l s i) (fun h' => ?_) h
  simp only [CK];by_cases ha:i<s.1.length
  ·rw [Ei ha];split
   ·omega
   ·exact hs h'
  ·rw [List.set_eq_of_length_le (by omega)];exact hs h'
structure Dw (l:List Int) (o:List Nat):Prop where
 perm:o.Perm (List.range l.length)
theorem Dw.mem {l:List Int} {o:List Nat} (O:Dw l o) {i:Nat}:i∈o↔i<l.length:=by rw [O.perm.mem_iff,List.mem_range]
theorem Dw.len {l:List Int} {o:List Nat} (O:Dw l o):o.length=l.length:=by rw [O.perm.length_eq,List.length_range]
theorem Dw.nodup {l:List Int} {o:List Nat} (O:Dw l o):o.Nodup:=O.perm.nodup_iff.2 List.nodup_range
theorem I1 {l:List Int} {k:Nat} {o:List Nat} (G:GC l k) (O:Dw l o):Fb l k (BI l k o).1:=by
 obtain ⟨h1,h2⟩:=F0 (l:=l) (k:=k) o;refine ⟨h1,fun i hi=> ?_⟩;have h3:=(Gx (l:=l) (g:=List.replicate l.length 0) (k:=k) (by have:=G.k1;omega) o.length (order:=o) rfl O.nodup fun i hi=>by rw [List.length_replicate];exact O.mem.1 hi).2 i (O.mem.2 (by omega))
 have h4:0≤(BI l k o).1.getD i 0:=Rl (fun h=>by rw [FY];exact Int.le_refl _) i
 have h5:CS (BI l k o).1 i<k:=h3;unfold CS at h5;omega
theorem KH {l:List Int} {k:Nat} {o:List Nat} (G:GC l k) (O:Dw l o):B0 (zs k) l (Db (BI l k o).1)=(BI l k o).2:=by
 obtain ⟨h1,h2⟩:=F0 (l:=l) (k:=k) o;have H:=I1 G O;refine Rk (by rw [E8,List.length_replicate,h2]) fun h _=> ?_
 rw [Gv (fun a ha=>by rw [List.length_replicate];exact H.ps.2 a ha),FY,KG H.ps.1,←Rj,←M1 O.perm,Int.zero_add]
 exact ((Gx (l:=l) (g:=List.replicate l.length 0) (k:=k) (by have:=G.k1;omega) o.length (order:=o) rfl O.nodup fun i hi=>by rw [List.length_replicate];exact O.mem.1 hi).1 h).symm
theorem M3 {l:List Int} {k:Nat} {o:List Nat} (G:GC l k) (O:Dw l o) {ps:List Nat} (hp:ps.length=l.length) (hk: ∀a∈ps,a<k) {m:Int} (hm: ∀h,h<k→(B0 (zs k) l ps).getD h 0≤m):
 FT (CR l) k m (CS (BI l k o).1) (fun i=>ps.getD i 0) o where
 pos t ht:=by
  have h1:=O.mem.1 ht;have:=G.el _ (List.getElem_mem h1);rw [getD_in h1] at this;exact this.1
 Kl t ht:=(Gx (l:=l) (g:=List.replicate l.length 0) (k:=k) (by have:=G.k1;omega) o.length (order:=o) rfl O.nodup fun i hi=>by rw [List.length_replicate];exact O.mem.1 hi).2 t ht
 FU t ht:=by
  have h1:=O.mem.1 ht;show ps.getD t 0<k;rw [List.getD_eq_getElem?_getD,List.getElem?_eq_getElem (by omega)]
  exact hk _ (List.getElem_mem _)
 least A t B e h hh:=by
  have hn:=O.nodup;rw [e] at hn;obtain ⟨E9,n2,IQ⟩:=List.nodup_append.1 hn;obtain ⟨Rm,Uy⟩:=List.nodup_cons.1 n2;have fy:t<l.length:=O.mem.1 (by rw [e];simp)
  have hA: ∀i∈A,i<l.length:=fun i hi=>O.mem.1 (by rw [e];simp [hi])
  obtain ⟨q1,q2⟩:=Gx (l:=l) (g:=List.replicate l.length 0) (k:=k) (by have:=G.k1;omega) A.length (order:=A) rfl E9 fun i hi=>by rw [List.length_replicate];exact hA i hi
  obtain ⟨l1,l2⟩:=F0 (l:=l) (k:=k) A;have es:BI l k o=Cx l (CK l (BI l k A) t) B:=by
   rw [e];exact Kr
  have f1: ∀i∈A,CS (BI l k o).1 i=CS (BI l k A).1 i:=fun i hi=>by
   have aN:t≠i:=fun h=>IQ i hi t (by simp) h.symm
   have hb:i∉B:=fun h=>IQ i hi i (by simp [h]) rfl
   unfold CS;rw [es,Mt hb];simp only [CK];rw [Ei (by omega),if_neg aN]
  have f2:CS (BI l k o).1 t=B1 (BI l k A).2:=by
   unfold CS;rw [es,Mt Rm];simp only [CK];rw [Ei (by omega),if_pos rfl];simp
  rw [f2,IP f1,IP f1];have Uz:=q1
  have r1:=q1 (B1 (BI l k A).2);have r2:=q1 h;have r3:=Gw (l:=(BI l k A).2) (h:=h) (by omega)
  unfold BI at r1 r3⊢;rw [←r1,←r2];exact r3
 opt h hh:=by
  have:=hm h hh;rw [Gv (fun a ha=>by rw [List.length_replicate];exact hk a ha),FY,KG hp,←M1 O.perm] at this
  omega
theorem KI {l:List Int} (hl:l.length≤1048576) {f:List Int×Int→Option (LR (List Int×Int) (List Int))} (hf:f=HZ l):er f ([],0)=some (Cm l.length):=by
 subst hf;refine Bo (fun x:List Int×Int=>l.length-x.2.toNat) (fun x=>0≤x.2∧x.2≤l.length∧x.1=Cm x.2.toNat) _ ?_ _ ⟨by simp,by simp,by simp [Cm]⟩
 rintro ⟨c,i⟩ ⟨i0,i1,i2⟩;simp only at i0 i1 i2;subst i2;simp only [HZ];by_cases hi:i<l.length
 ·rw [y4 hi,cond_true,Bq (by rw [FX];simp<;>omega) (by omega),Option.bind_some,u3 (by omega)]
  refine ⟨_,rfl,⟨by simp only;omega,by simp only;omega,?_⟩,by simp only;omega⟩
  simp only;rw [show (i+1).toNat=i.toNat+1 by omega,MA,show ((i.toNat:Nat):Int)=i by omega]
 ·rw [Bw hi];refine ⟨_,rfl,?_⟩;simp only;rw [show i.toNat=l.length by omega]
theorem HN (l:List Int):Dw l (List.range l.length):=⟨.refl _⟩
theorem M4 (n:Nat):Cm n=Dj (List.range n):=rfl
def HO (l:List Int) (k:Nat) (o:List Nat):List Int×Int×Bool:=((BI l k o).1,BJ (BI l k o).2,true)
theorem M5 {l:List Int} {k:Nat} {o:List Nat} (G:GC l k) (O:Dw l o):Fk l (k:Int) (Dj o)=some (HO l k o)∧
 ((Fl l (k:Int) (Dj o)).bind fun CZ=>(EK l (k:Int) CZ).bind fun BR=>some (CZ,BR,true))=some (HO l k o):=by
 have h8:o.length≤8:=by rw [O.len];exact G.len
 refine ⟨Q8 G h8 fun i hi=>O.mem.1 hi,?_⟩;rw [Q_ G h8 fun i hi=>O.mem.1 hi,Option.bind_some,MR G (I1 G O),KH G O];rfl
def I2 (l:List Int) (h:Int):List Int×Int×Bool:=if CD l h then HO l h.toNat (List.range l.length) else ([],0,false)
theorem M6 {l:List Int} (hl:l.length≤1048576) (h:Int):GZ l h=some (I2 l h)∧G3 l h=some (I2 l h):=by
 unfold GZ G3 I2;rw [Gz hl,HK hl];cases e:CD l h
 ·exact ⟨rfl,rfl⟩
 ·obtain ⟨k,rfl,G⟩:=E_ e;obtain ⟨g1,g2⟩:=M5 G (HN l);simp only [Option.bind_some,Bool.not_true,cond_false,if_true,Int.toNat_natCast];constructor
  ·unfold F8;rw [KI hl rfl];simp only [Option.bind_some];rw [M4,g1];rfl
  ·rw [KI (f:=I9 l) hl rfl];simp only [Option.bind_some];rw [M4,g2]
def Ca (l:List Int) (x:Int):Int:= -(l.getD x.toNat 0)
theorem Rn {l:List Int} {a:List Int} (ha:a.length≤1048576) (ci: ∀y∈a,0≤y∧y<l.length) {x i:Int} (hx:x=l.getD i.toNat 0):er (H_ l a x) 0=some ((a.takeWhile fun y=>decide (Ca l y≤Ca l i)).length:Int):=by
 refine Bo (fun k:Int=>a.length-k.toNat) (fun k=>0≤k∧k≤a.length∧(k:Int)+(((a.drop k.toNat).takeWhile fun y=>decide (Ca l y≤Ca l i)).length:Int)=((a.takeWhile fun y=>decide (Ca l y≤Ca l i)).length:Int)) _ ?_ _ ⟨by omega,by omega,by simp⟩
 rintro k ⟨k0,k1,k2⟩;simp only [H_];by_cases hk:k<a.length
 ·have aw:k.toNat<a.length:=by omega
  obtain ⟨Eo,D8⟩:=ci _ (List.getElem_mem aw);have hd:=List.drop_eq_getElem_cons aw;rw [hd,List.takeWhile_cons] at k2;rw [y4 hk,Bt k0 hk];simp only [cond_true,Option.bind_some];rw [Cn Eo D8];simp only [Option.bind_some];by_cases hle:Ca l a[k.toNat]≤Ca l i
  ·rw [y4 hle] at k2;unfold Ca at hle;rw [y4 (by omega),cond_true,u3 (by omega)]
   refine ⟨_,rfl,⟨by omega,by omega,?_⟩,by omega⟩
   rw [show (k+1).toNat=k.toNat+1 by omega]
   simp only [if_true,List.length_cons] at k2;omega
  ·rw [Bw hle] at k2;unfold Ca at hle;rw [Bw (by omega),cond_false]
   refine ⟨_,rfl,?_⟩;simp at k2⊢;exact k2
 ·rw [Bw hk];rw [List.drop_eq_nil_of_le (by omega)] at k2
  refine ⟨_,rfl,?_⟩;simp at k2⊢;exact k2
theorem Ro (d:Int→Int) (x:Int) (a:List Int):(CW d x a).Perm (x::a):=by
 unfold CW;refine List.perm_middle.trans ?_;rw [List.takeWhile_append_dropWhile]
theorem M7 (d:Int→Int): ∀(n:Nat) (o:List Int),o.length=n→(CI d o).Perm o
 |0,o,e=>by obtain rfl:=List.eq_nil_of_length_eq_zero e;exact .refl _
 |n+1,o,e=>by
  obtain ⟨p,x,rfl⟩: ∃p x,o=p ++ [x]:=⟨o.dropLast,o.getLast (fun h=>by simp [h] at e),(List.dropLast_concat_getLast _).symm⟩
  rw [IT];have:=M7 d n p (by simpa using e)
  refine (Ro d x _).trans ((this.cons x).trans ?_);exact (List.perm_append_singleton x p).symm
def Dx (l:List Int):List Nat:=(CI (Ca l) (Cm l.length)).map Int.toNat
theorem M8 (l:List Int):Dj (Dx l)=CI (Ca l) (Cm l.length):=by
 have hm:=(HJ (Ca l) l.length (Cm l.length) (FX _)).2.2;unfold Dj Dx;rw [List.map_map];refine (List.map_congr_left fun x hx=> ?_).trans (List.map_id _);have:=IS.1 ((hm x).1 hx);simp;omega
theorem HP (l:List Int):Dw l (Dx l):=by
 refine ⟨?_⟩;have:=(M7 (Ca l) l.length (Cm l.length) (FX _)).map Int.toNat;have e:(Cm l.length).map Int.toNat=List.range l.length:=by
  unfold Cm;rw [List.map_map];exact (List.map_congr_left fun x _=>by simp).trans (List.map_id _)
 rw [e] at this;exact this
theorem Rp (l:List Int):(Dx l).Pairwise fun a b=>CR l b≤CR l a:=by
 have h1:=(HJ (Ca l) l.length (Cm l.length) (FX _)).1;unfold Dx;rw [List.pairwise_map];refine h1.imp fun {a b} h=> ?_;unfold Ca at h;unfold CR;omega
theorem Rq {l:List Int} (hl:l.length≤8) (hb: ∀x∈l,1≤x∧x≤50):EO (Cm l.length) (fun Eo D8=>G4 Eo D8 l)=some (Dj (Dx l)):=by
 rw [M8];by_cases h0:0<l.length
 ·refine QU (by rw [FX];omega) (by rw [FX];exact h0) fun x hx y hy=> ?_
  obtain ⟨x0,DI⟩:=IS.1 hx;obtain ⟨Eo,D8⟩:=IS.1 hy;have hx:=hb _ (List.getElem_mem (l:=l) (n:=x.toNat) (by omega))
  have hy:=hb _ (List.getElem_mem (l:=l) (n:=y.toNat) (by omega))
  rw [getD_in (by omega)] at hx hy
  unfold G4 Ca;rw [Cn x0 DI,Cn Eo D8];simp only [Option.bind_some];rw [u3 (by omega)]
  congr 1;omega
 ·have:l=[]:=List.eq_nil_of_length_eq_zero (by omega)
  subst this;exact QY _
theorem Rr {l:List Int} (hl:l.length≤8):er (Ia l) ([],0)=some (Dj (Dx l)):=by
 rw [M8];refine Bo (fun x:List Int×Int=>l.length-x.2.toNat) (fun x=>0≤x.2∧x.2≤l.length∧x.1=CI (Ca l) (Cm x.2.toNat)) _ ?_ _ ⟨by simp,by simp,by simp [Cm,CI]⟩
 rintro ⟨a,i⟩ ⟨i0,i1,i2⟩;simp only at i0 i1 i2;subst i2;simp only [Ia];by_cases hi:i<l.length
 ·obtain ⟨s1,s2,s3⟩:=HJ (Ca l) i.toNat (Cm i.toNat) (FX _);have ht:=List.takeWhile_append_dropWhile (p:=fun y=>decide (Ca l y≤Ca l i)) (l:=CI (Ca l) (Cm i.toNat));have fy:((CI (Ca l) (Cm i.toNat)).takeWhile fun y=>decide (Ca l y≤Ca l i)).length≤(CI (Ca l) (Cm i.toNat)).length:=by
   have:=congrArg List.length ht;rw [List.length_append] at this;omega
  obtain ⟨t1,t2⟩:=QX ht;rw [y4 hi,Cn i0 hi];simp only [cond_true,Option.bind_some];rw [Rn (i:=i) (by omega) (fun y hy=>by have:=IS.1 ((s3 y).1 hy);omega) rfl]
  simp only [Option.bind_some];rw [QV (by omega) (by omega),QW fy,Int.toNat_natCast,t1,t2]
  simp only [Option.bind_some];rw [Bq (by simp only [List.length_nil];omega) (by omega)]
  simp only [Option.bind_some];rw [Bq (by simp only [List.nil_append,List.length_cons,List.length_nil];omega) (by omega)]
  simp only [Option.bind_some];have UA:((CI (Ca l) (Cm i.toNat)).dropWhile fun y=>decide (Ca l y≤Ca l i)).length≤8:=by
   have:=congrArg List.length ht;rw [List.length_append] at this;omega
  rw [Bq (by simp only [List.nil_append,List.length_append,List.length_cons,List.length_nil];omega) (by omega)]
  simp only [Option.bind_some];rw [u3 (by omega)]
  refine ⟨_,rfl,⟨by simp only;omega,by simp only;omega,?_⟩,by simp only;omega⟩
  simp only;rw [show (i+1).toNat=i.toNat+1 by omega,MA,IT,show ((i.toNat:Nat):Int)=i by omega]
  simp [CW]
 ·rw [Bw hi];refine ⟨_,rfl,?_⟩;simp only;rw [show i.toNat=l.length by omega]
def I3 (l:List Int) (h:Int):List Int×Int×Bool:=if CD l h then HO l h.toNat (Dx l) else ([],0,false)
theorem M9 {l:List Int} (hl:l.length≤1048576) (h:Int):G_ l h=some (I3 l h)∧Hb l h=some (I3 l h):=by
 unfold G_ Hb I3;rw [Gz hl,HK hl];cases e:CD l h
 ·exact ⟨rfl,rfl⟩
 ·obtain ⟨k,rfl,G⟩:=E_ e;obtain ⟨g1,g2⟩:=M5 G (HP l);simp only [Option.bind_some,Bool.not_true,cond_false,if_true,Int.toNat_natCast];constructor
  ·unfold F8;rw [KI hl rfl];simp only [Option.bind_some];rw [Rq G.len G.el,Option.bind_some,g1];rfl
  ·rw [Rr G.len];simp only [Option.bind_some];rw [g2]
theorem Rs {c:BP} {b:Int} (h:B8 c b) (hb:b≤1000000000000000000):cO (GD c) fun r=>r.1.length≤9∧B8 r.2.2 (b+100):=by
 unfold GD;refine cO.then (sw (by assumption) (by omega)) ?_
 rintro ⟨x,UB⟩ ⟨M_,Na,Rt⟩;dsimp only at M_ Na Rt⊢;refine cO.then (Kx (by assumption) (by omega)) ?_
 rintro ⟨y,UC⟩ Nb;dsimp only at Nb⊢;refine cO.then (P:=fun r=>0≤r.1∧r.1≤9∧B8 ⟨r.2.1,r.2.2.1,r.2.2.2⟩ (b+6)) ?_ ?_
 ·refine cO.Bs (fun hc=> ?_) (fun hc=> ?_)
  ·refine cO.then (sw (by assumption) (by omega)) ?_
   rintro ⟨z,HQ⟩ ⟨KJ,I4,Dc⟩;dsimp only at KJ I4 Dc⊢;have:=I4 (by omega)
   exact .ret ⟨by dsimp only;rw [u3 (by omega)];omega,by dsimp only;rw [u3 (by omega)];omega,Dc.eta.mono (by omega)⟩
  ·have:=Na (by omega)
   exact .ret ⟨M_,(by first|omega|(dsimp only;omega)),Nb.eta.mono (by omega)⟩
 rintro ⟨n,C,A,S⟩ ⟨Nc,E9,C0⟩;dsimp only at Nc E9 C0⊢;refine cO.then (P:=fun r=>r.1.length≤9∧B8 ⟨r.2.1,r.2.2.1,r.2.2.2⟩ (b+50)) ?_ ?_
 ·refine cO.er (fun x=>x.2.1.toNat) (fun x=>0≤x.2.1∧(x.1.length:Int)+x.2.1≤9∧B8 ⟨x.2.2.1,x.2.2.2.1,x.2.2.2.2⟩ (b+6+2*(9-x.2.1))) ?_ ⟨Nc,by simp only [List.length_nil];omega,C0.mono (by simp only;omega)⟩
  rintro ⟨l,m,C,A,S⟩ ⟨i0,i1,i2⟩;dsimp only at i0 i1 i2;unfold I5;dsimp only;refine cO.Bs (fun hc=> ?_) (fun hc=> ?_)
  ·have hm:0<m:=by simpa using hc
   refine cO.then (sw i2 (by omega)) ?_
   rintro ⟨v,Ru⟩ ⟨KK,KL,HR⟩;dsimp only at KK KL HR⊢;rw [Bq (by simp only [List.length_cons,List.length_nil];omega) (by omega),Option.bind_some]
   rw [u3 (x:=m-1) (by omega)]
   exact .ret ⟨⟨(by first|omega|(dsimp only;omega)),by simp only [List.length_append,List.length_cons,List.length_nil];omega,HR.eta.mono (by dsimp only;omega)⟩,(by first|omega|(dsimp only;omega))⟩
  ·exact .ret ⟨(by first|omega|(dsimp only;omega)),i2.mono (by omega)⟩
 rintro ⟨l,C,A,S⟩ ⟨l1,C0⟩;dsimp only at l1 C0⊢;refine cO.then (P:=fun r=>(r.1=true→0<l.length)∧B8 ⟨r.2.1,r.2.2.1,r.2.2.2⟩ (b+52)) ?_ ?_
 ·refine cO.Bs (fun hc=> ?_) (fun hc=> ?_)
  ·refine cO.then (Kx (by assumption) (by omega)) ?_
   rintro ⟨z,HQ⟩ Dc;dsimp only at Dc⊢;exact .ret ⟨fun _=>by simpa using hc,Dc.eta.mono (by omega)⟩
  ·exact .ret ⟨fun h=>by simp at h,C0.mono (by omega)⟩
 rintro ⟨t,C,A,S⟩ ⟨ht,C0⟩;dsimp only at ht C0⊢;refine cO.then (P:=fun r=>r.1.length≤9∧B8 ⟨r.2.1,r.2.2.1,r.2.2.2⟩ (b+54)) ?_ ?_
 ·refine cO.Bs (fun hc=> ?_) (fun hc=> ?_)
  ·have h0:=ht hc;refine cO.then (MD (by assumption) (by omega) (by simp)) ?_
   rintro ⟨z,HQ⟩ ⟨KM,Dc⟩;dsimp only at KM Dc⊢;rw [Bt (by omega) (by omega),Option.bind_some]
   exact .ret ⟨by dsimp only;rw [List.length_set];exact l1,Dc.eta.mono (by omega)⟩
  ·exact .ret ⟨l1,C0.mono (by omega)⟩
 rintro ⟨l,C,A,S⟩ ⟨l1,C0⟩;dsimp only at l1 C0⊢;refine cO.then (MD (by assumption) (by omega) (by simp)) ?_
 rintro ⟨z,HQ⟩ ⟨KM,Dc⟩;dsimp only at KM Dc⊢;exact .ret ⟨l1,Dc.mono (by omega)⟩
theorem Rv {a:List Int} (hl:a.length≤1048576) (hb: ∀x∈a,0≤x∧x≤255):cO (GL a) fun r=>r.1.length≤9∧r.2.2.length≤9:=by
 unfold GL;refine cO.then (Rs (Q2 hl hb) (by omega)) ?_
 rintro ⟨l,h,c⟩ ⟨l1,C0⟩;dsimp only at l1 C0⊢;refine cO.then (P:=fun r=>r.1.length≤9∧B8 ⟨r.2.1,r.2.2.1,r.2.2.2⟩ 200) ?_ ?_
 ·refine cO.er (fun x=>l.length-x.2.1.toNat) (fun x=>0≤x.2.1∧x.2.1≤l.length∧(x.1.length:Int)=x.2.1∧B8 ⟨x.2.2.1,x.2.2.2.1,x.2.2.2.2⟩ (100+2*x.2.1)) ?_ ⟨by simp,by simp only;omega,by simp,C0.eta.mono (by simp only;omega)⟩
  rintro ⟨g,i,C,A,S⟩ ⟨i0,i1,i2,i3⟩;dsimp only at i0 i1 i2 i3;unfold I6;dsimp only;refine cO.Bs (fun hc=> ?_) (fun hc=> ?_)
  ·have hm:i<l.length:=by simpa using hc
   rw [KA,Option.bind_some];refine cO.then (sw i3 (by omega)) ?_
   rintro ⟨v,Ru⟩ ⟨KK,KL,HR⟩;dsimp only at KK KL HR⊢;rw [Bq (by simp only [List.length_cons,List.length_nil];omega) (by omega),Option.bind_some]
   rw [u3 (x:=i+1) (by omega)]
   exact .ret ⟨⟨(by first|omega|(dsimp only;omega)),(by first|omega|(dsimp only;omega)),by simp only [List.length_append,List.length_cons,List.length_nil];omega,HR.eta.mono (by dsimp only;omega)⟩,(by first|omega|(dsimp only;omega))⟩
  ·exact .ret ⟨(by first|omega|(dsimp only;omega)),i3.mono (by omega)⟩
 rintro ⟨g,C,A,S⟩ ⟨g1,C0⟩;dsimp only at g1 C0⊢;refine cO.then (P:=fun r=>(r.1=true→0<g.length)∧B8 ⟨r.2.1,r.2.2.1,r.2.2.2⟩ 300) ?_ ?_
 ·refine cO.Bs (fun hc=> ?_) (fun hc=> ?_)
  ·refine cO.then (Kx (by assumption) (by omega)) ?_
   rintro ⟨z,HQ⟩ Dc;dsimp only at Dc⊢;exact .ret ⟨fun _=>by simpa using hc,Dc.eta.mono (by omega)⟩
  ·exact .ret ⟨fun h=>by simp at h,C0.mono (by omega)⟩
 rintro ⟨t,C,A,S⟩ ⟨ht,C0⟩;dsimp only at ht C0⊢;refine cO.then (P:=fun r=>r.length≤9) ?_ ?_
 ·refine cO.Bs (fun hc=> ?_) (fun hc=> ?_)
  ·have h0:=ht hc;refine cO.then (sw (by assumption) (by omega)) ?_
   rintro ⟨z,HQ⟩ ⟨KJ,I4,Dc⟩;dsimp only at KJ I4 Dc⊢;rw [Bt (by omega) (by omega),Option.bind_some]
   exact .ret (by rw [List.length_set];exact g1)
  ·exact .ret g1
 intro g g1;exact .ret ⟨l1,g1⟩
theorem KN {l:List Int} (hl:l.length≤1048576):Gb l l=some true:=by
 unfold Gb;rw [bne_self_eq_false,cond_false];have key:er (Hk l l) 0=some (.next ()):=by
  refine By (l:=l) (fun k hk=> ?_) (by simp [Hk])
  simp only [Hk];rw [y4 (by omega),vk hk]
  simp only [cond_true,Option.bind_some,bne_self_eq_false,cond_false];rw [u3 (by omega)]
 rw [key];rfl
theorem bounds {l:List Int} {k:Nat} (G:GC l k):
 HM l k≤BS l (zs k)∧0≤BS l (zs k)∧BS l (zs k)≤400∧(∀g,Fb l k g→BS l (zs k)≤Dv l k g∧Dv l k g≤400)∧
 (k:Int)*BJ (BI l k (List.range l.length)).2≤(2*k-1)*BS l (zs k)∧
 3*(k:Int)*BJ (BI l k (Dx l)).2≤(4*k-1)*BS l (zs k):=by
 have yI:=G.k1;have Fa:=G.k4;obtain ⟨ps,p1,p2,p3⟩:=Ko (l:=l) (has:=zs k) (by simp<;>omega)
 rw [List.length_replicate] at p2;have hm: ∀h,h<k→(B0 (zs k) l ps).getD h 0≤BS l (zs k):=fun h hh=>by
  rw [p3];exact Km (by rw [E8,List.length_replicate];exact hh)
 have h0:0≤BS l (zs k):=by rw [p3];exact FV _
 have hs:=GB G.D1;have Ej:=G.len;have UE:=MY G.D1 (show 0<k by omega)
 have gr:=M3 G (HN l) p1 p2 hm;have gl:=M3 G (HP l) p1 p2 hm;have top: ∀o:List Nat,Dw l o→ ∃h,h<k∧BJ (BI l k o).2=(JG (CR l) (CS (BI l k o).1) h o).sum:=fun o O=>by
  obtain ⟨l1,l2⟩:=F0 (l:=l) (k:=k) o;have ci:=IW G (o:=o) (by rw [O.len];exact Ej) o.length
  rw [List.take_length] at ci;obtain ⟨h,e1,e2⟩:=Mp (IX fun i=>(ci i).1) (show 0<(BI l k o).2.length by omega)
  refine ⟨h,by omega,?_⟩
  rw [←e2];exact (Gx (l:=l) (g:=List.replicate l.length 0) (k:=k) (by omega) o.length (order:=o) rfl O.nodup fun i hi=>by rw [List.length_replicate];exact O.mem.1 hi).1 h
 refine ⟨?_,h0,by omega,fun g H=>⟨?_,?_⟩,?_,?_⟩
 ·unfold HM;have e1:BJ l≤BS l (zs k):=by
   refine Gu h0 fun i hi=> ?_;have ht:i∈List.range l.length:=List.mem_range.2 hi;have h1:=gr.opt _ (gr.FU i ht);have h2:CR l i∈JG (CR l) (fun i=>ps.getD i 0) (ps.getD i 0) (List.range l.length):=by
    unfold JG;exact List.mem_map.2 ⟨i,List.mem_filter.2 ⟨ht,by simp⟩,rfl⟩
   have h3: ∀{X:List Int} {x:Int},(∀y∈X,0≤y)→x∈X→x≤X.sum:=by
    intro X;induction X with
    |nil=>intro x _ h;simp at h
    |cons y X ih=>
     intro x hX hx;have e1:=hX y (by simp)
     have e2:=FQ (X:=X) fun z hz=>hX z (by simp [hz])
     simp only [List.sum_cons];rcases List.mem_cons.1 hx with rfl|hx
     ·omega
     ·have:=ih (fun z hz=>hX z (by simp [hz])) hx;omega
   have h4:=h3 (fun y hy=>by
    obtain ⟨t,ht,_,rfl⟩:=HI _ hy;have:=gr.pos t ht;omega) h2
   unfold CR at h4;unfold CR at h1;omega
  have e2:=Kh (k:=k) (f:=fun i=>(JG (CR l) (fun i=>ps.getD i 0) i (List.range l.length)).sum) gr.opt;rw [Kk (CR l) _ gr.FU] at e2;have e3:(List.range l.length).map (CR l)=l:=by
   apply List.ext_getElem
   ·simp
   ·intro i h1 h2;simp [CR,List.getD_eq_getElem?_getD,h2]
  rw [e3] at e2;have e4:(l.sum+k-1)/k≤BS l (zs k):=by
   rcases (show k=1∨k=2∨k=3∨k=4 by omega) with rfl|rfl|rfl|rfl<;>omega
  omega
 ·exact Kp (l:=l) (has:=zs k) H.ps.1 fun a ha=>by rw [List.length_replicate];exact H.ps.2 a ha
 ·unfold Dv;refine Gu (by omega) fun h _=> ?_
  have:=IY G H.ps.2 (l.length+g.length) h;rw [List.take_of_length_le (by omega),List.take_of_length_le (by rw [H.ps.1];omega)] at this
  omega
 ·obtain ⟨h,e1,e2⟩:=top _ (HN l);rw [e2];exact gr.list _ h0 e1
 ·obtain ⟨h,e1,e2⟩:=top _ (HP l);rw [e2];exact gl.QO _ (Rp l) h0 e1
theorem Nd {l g:List Int} {k:Nat} (e:CD l (k:Int)=true) (H:Fb l k g):CT l (k:Int) g=true:=by
 simp only [CT,Bool.and_eq_true,decide_eq_true_eq,List.all_eq_true,Kz];refine ⟨e,H.len,fun x hx=> ?_⟩;obtain ⟨i,hi,rfl⟩:=List.getElem_of_mem hx;have:=H.el i hi;rw [getD_in hi];omega
theorem Rw (a b:List Int) (ha:a.length<2^47) (hb:b.length<2^47) (BM: ∀x∈a,0≤x∧x≤255) (_rb: ∀x∈b,0≤x∧x≤255):Hl a b=some true:=by
 unfold Hl;rw [u3 (by omega)]
 by_cases hlen:1048576<(a.length:Int)+b.length
 ·rw [y4 hlen];rfl
 ·rw [Bw hlen,cond_false];obtain ⟨⟨l,h,g⟩,e1,l1,g1⟩:=Rv (a:=a) (by omega) BM
  simp only at l1 g1;rw [e1];simp only [Option.bind_some];rw [KD (by omega) (by omega),Rc (by omega) (by omega),(M6 (by omega) h).1,(M6 (by omega) h).2,(M9 (by omega) h).1,(M9 (by omega) h).2,(MZ (by omega) h).1,(MZ (by omega) h).2,(M0 (by omega) h).1,(M0 (by omega) h).2]
  simp only [Option.bind_some];rw [Gz (by omega)]
  unfold I2 I3 IZ I0;cases e:CD l h
  ·have:CT l h g=false:=by simp [CT,e]
   simp [this,KN]
  ·obtain ⟨k,rfl,G⟩:=E_ e;have yI:=G.k1;have Fa:=G.k4;obtain ⟨b1,b2,b3,BU,Dd,C1⟩:=bounds G;have H1:=I1 G (HN l);have H2:=I1 G (HP l);have s1:Dv l k (BI l k (List.range l.length)).1=BJ (BI l k (List.range l.length)).2:=by unfold Dv;rw [KH G (HN l)]
   have s2:Dv l k (BI l k (Dx l)).1=BJ (BI l k (Dx l)).2:=by unfold Dv;rw [KH G (HP l)]
   have c1:=BU _ H1;have c2:=BU _ H2;rw [s1] at c1;rw [s2] at c2;have E9:(BI l k (List.range l.length)).1.length≤1048576:=by rw [H1.len];omega
   have n2:(BI l k (Dx l)).1.length≤1048576:=by rw [H2.len];omega
   simp only [if_true,Int.toNat_natCast,HO];rw [KN E9,KN n2,KD (by omega) E9,KD (by omega) n2,Nd e H1,Nd e H2]
   simp only [if_true,Int.toNat_natCast,s1,s2];have yU:CT l (k:Int) g=true→BS l (zs k)≤Dv l k g:=fun hh=>by
    obtain ⟨k',e',_,H⟩:=KC hh;obtain rfl:k=k' :=by omega
    exact (BU _ H).1
   revert b1 b2 b3 Dd C1 c1 c2 yU;generalize BJ (BI l k (List.range l.length)).2=s;generalize BJ (BI l k (Dx l)).2=t;generalize BS l (zs k)=m;generalize HM l k=q;generalize Dv l k g=n;intro b1 b2 b3 Dd C1 c1 c2 yU;have DI:(k:Int)*s≤4*400:=by
    have:=Int.mul_le_mul (show (k:Int)≤4 by omega) c1.2 (by omega) (by omega);exact this
   have EL:0≤(k:Int)*s:=Int.mul_nonneg (by omega) (by omega)
   have D7:3*(k:Int)*t≤12*400:=Int.mul_le_mul (show 3*(k:Int)≤12 by omega) c2.2 (by omega) (by omega)
   have BO:0≤3*(k:Int)*t:=Int.mul_nonneg (by omega) (by omega)
   have BG:(2*(k:Int)-1)*m≤7*400:=Int.mul_le_mul (show 2*(k:Int)-1≤7 by omega) b3 (by omega) (by omega)
   have B2:(4*(k:Int)-1)*m≤15*400:=Int.mul_le_mul (show 4*(k:Int)-1≤15 by omega) b3 (by omega) (by omega)
   rw [u3 (x:=2*(k:Int)) (by omega),u3 (x:=2*(k:Int)-1) (by omega),u3 (x:=(2*(k:Int)-1)*m) (by omega),u3 (x:=(k:Int)*s) (by omega),u3 (x:=4*(k:Int)) (by omega),u3 (x:=4*(k:Int)-1) (by omega),u3 (x:=(4*(k:Int)-1)*m) (by omega),u3 (x:=3*(k:Int)) (by omega),u3 (x:=3*(k:Int)*t) (by omega)]
   have D8:decide (m<q)=false:=Bw (by omega)
   have Nf:decide (s<m)=false:=Bw (by omega)
   have Ng:decide (t<m)=false:=Bw (by omega)
   have Gq:decide ((2*(k:Int)-1)*m<(k:Int)*s)=false:=Bw (by omega)
   have DG:decide ((4*(k:Int)-1)*m<3*(k:Int)*t)=false:=Bw (by omega)
   cases hh:CT l (k:Int) g
   ·simp [D8,Nf,Ng,Gq,DG]
   ·have Jf:decide (n<m)=false:=Bw (by have:=yU hh;omega)
    simp [D8,Nf,Ng,Gq,DG,Jf]
