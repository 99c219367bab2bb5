/-
  The plain law and all that it needs.
-/
import Derived.Test.YtmmomohapflagaaVfF
import Derived.Test.YtmmomohapflagaaVaF
open Go Go.VS
namespace Go.Hr
def Hg (n a b:Int):Bool:=decide (a≤n)&&decide (n≤b)
theorem Qa (n a b:Int):Jb n a b=some (Hg n a b):=by
 unfold Jb Hg;cases decide (a≤n)<;>rfl
theorem Qb (n a b:Int):JF n a b=some (Hg n a b):=by
 unfold JF Hg;cases decide (a≤n)<;>rfl
theorem JZ {n a b:Int}:Hg n a b=true↔a≤n∧n≤b:=by simp [Hg]
def Gz (n:Nat→Int):List Nat→Nat→Int
 |[],_=>0
 |x::r,k=>if x=k then n x else n x+Gz n r k
def Ge (n:Nat→Int):List Nat→Int
 |[]=>0
 |x::r=>n x+Ge n r
theorem N9 (n:Nat→Int): ∀(l:List Nat) (x:Nat),x∈l→Ge n l=n x+Ge n (l.erase x)
 |y::l,x,h=>by
  by_cases xO:y=x
  ·subst xO;simp [Ge]
  ·have hx:x∈l:=by
    rcases List.mem_cons.1 h with h|h
    ·exact absurd h.symm xO
    ·exact h
   rw [List.erase_cons_tail (by simpa using xO)]
   simp only [Ge];rw [N9 n l x hx];omega
theorem N_ (n:Nat→Int) (hn: ∀x,0≤n x): ∀(o P:List Nat),o.Nodup→P.Nodup→P≠[]→(∀x∈P,x∈o)→ ∃j∈P,Ge n P≤Gz n o j
 |[],P,_,_,aI,hs=>by
  obtain ⟨x,r,rfl⟩:=List.exists_cons_of_ne_nil aI;exact absurd (hs x (by simp)) (by simp)
 |x::o,P,ho,hP,aI,hs=>by
  obtain ⟨hx,sm⟩:=List.nodup_cons.1 ho;by_cases Lw:x∈P
  ·by_cases he:P.erase x=[]
   ·refine ⟨x,Lw,?_⟩;rw [N9 n P x Lw,he];simp [Ge,Gz]
   ·obtain ⟨j,hj,h⟩:=N_ n hn o (P.erase x) sm (hP.erase x) he (fun y hy=>by
     have eF:=(hP.mem_erase_iff).1 hy
     rcases List.mem_cons.1 (hs y eF.2) with h|h
     ·exact absurd h eF.1
     ·exact h)
    have Ab:=(hP.mem_erase_iff).1 hj
    refine ⟨j,Ab.2,?_⟩;rw [N9 n P x Lw];simp only [Gz];rw [if_neg (fun e=>Ab.1 e.symm)];omega
  ·obtain ⟨j,hj,h⟩:=N_ n hn o P sm hP aI (fun y hy=>by
    rcases List.mem_cons.1 (hs y hy) with h|h
    ·subst h;exact absurd hy Lw
    ·exact h)
   refine ⟨j,hj,?_⟩;simp only [Gz];rw [if_neg (fun e=>by subst e;exact Lw hj)]
   have:=hn x;omega
theorem Mz {α :Type} [DecidableEq α]: ∀(P o:List α),P.Nodup→(∀x∈P,x∈o)→P.length≤o.length
 |[],o,_,_=>by simp
 |x::P,o,hP,hs=>by
  obtain ⟨hx,Vb⟩:=List.nodup_cons.1 hP;have h1:=Mz P (o.erase x) Vb (fun y hy=>(List.mem_erase_of_ne (fun e=>by subst e;exact hx hy)).2 (hs y (by simp [hy])))
  have h2:x∈o:=hs x (by simp)
  have h3:=List.length_erase_of_mem h2;have h4:=List.length_pos_of_mem h2;simp only [List.length_cons];omega
theorem Qc {α :Type} [DecidableEq α]: ∀(o:List α),¬o.Nodup→ ∃x,x∈o∧x∈o.erase x
 |[],h=>absurd List.nodup_nil h
 |y::o,h=>by
  by_cases hy:y∈o
  ·exact ⟨y,by simp,by simpa using hy⟩
  ·have h' : ¬o.Nodup:=fun hn=>h (List.nodup_cons.2 ⟨hy,hn⟩)
   obtain ⟨x,h1,h2⟩:=Qc o h';have aI:x≠y:=fun e=>by subst e;exact hy h1
   refine ⟨x,by simp [h1],?_⟩
   rw [List.erase_cons_tail (by simpa using fun e=>aI e.symm)]
   exact List.mem_cons_of_mem _ h2
def Fz (n:Nat):List Int:=(List.range n).map fun (k:Nat)=>(k:Int)
theorem Ia (n:Nat):(Fz n).length=n:=by simp [Fz]
theorem Oa (n:Nat):(Fz n).Nodup:=by
 have key: ∀n:Nat,(Fz n).Pairwise (· < ·):=fun n=>by
  induction n with
  |zero=>simp [Fz]
  |succ n ih=>
   have e:Fz (n+1)=Fz n ++ [(n:Int)]:=by simp [Fz,List.range_succ]
   rw [e,List.pairwise_append];refine ⟨ih,by simp,fun x hx y hy=> ?_⟩
   simp only [List.mem_singleton] at hy;subst hy;simp only [Fz,List.mem_map,List.mem_range] at hx;obtain ⟨k,hk,rfl⟩:=hx;omega
 exact (key n).imp fun h=>by omega
theorem HR {n:Nat} {x:Int}:x∈Fz n↔0≤x∧x<n:=by
 simp only [Fz,List.mem_map,List.mem_range];constructor
 ·rintro ⟨k,hk,rfl⟩;omega
 ·rintro ⟨h0,h1⟩;exact ⟨x.toNat,by omega,by omega⟩
structure Gj (o:List Int) (n:Nat):Prop where
 len:o.length=n
 nd:o.Nodup
 bF: ∀x∈o,0≤x∧x<n
 all: ∀x:Int,0≤x→x<n→x∈o
theorem Ob {o:List Int} {n:Nat} (hl:o.length=n) (h: ∀x:Int,0≤x→x<n→x∈o):Gj o n:=by
 have hn:o.Nodup:=by
  cases hd:decide o.Nodup
  ·obtain ⟨x,h1,h2⟩:=Qc o (by simpa using hd)
   have:=Mz (Fz n) (o.erase x) (Oa n) (fun y hy=>by
    obtain ⟨h0,Vc⟩:=HR.1 hy;by_cases e:y=x
    ·subst e;exact h2
    ·exact (List.mem_erase_of_ne e).2 (h y h0 Vc))
   have h3:=List.length_erase_of_mem h1;have h4:=List.length_pos_of_mem h1;rw [Ia] at this;omega
  ·simpa using hd
 refine ⟨hl,hn,fun x hx=> ?_,h⟩;cases hd:decide (0≤x∧x<(n:Int))
 ·have gj:x∉Fz n:=fun hm=>by simp at hd;have:=HR.1 hm;omega
  have:=Mz (x::Fz n) o (List.nodup_cons.2 ⟨gj,Oa n⟩) (fun y hy=>by
   rcases List.mem_cons.1 hy with rfl|hy
   ·exact hx
   ·obtain ⟨h0,h1⟩:=HR.1 hy;exact h y h0 h1)
  simp only [List.length_cons,Ia] at this;omega
 ·simpa using hd
theorem Vd {o:List Int} {n:Nat} (hl:o.length=n) (hn:o.Nodup) (hi: ∀x∈o,0≤x∧x<n):Gj o n:=by
 refine ⟨hl,hn,hi,fun x h0 h1=> ?_⟩;cases hd:decide (x∈o)
 ·have hx:x∉o:=by simpa using hd
  have:=Mz (x::o) (Fz n) (List.nodup_cons.2 ⟨hx,hn⟩) (fun y hy=>by
   rcases List.mem_cons.1 hy with rfl|hy
   ·exact HR.2 ⟨h0,h1⟩
   ·exact HR.2 (hi y hy))
  simp only [List.length_cons,Ia] at this;omega
 ·simpa using hd
theorem Ve {l:List Int} (hl:l.length≤1048576) (x:Int): ∃b,Kp l x=some b∧(b=true↔x∈l):=by
 unfold Kp LP;have key:cA (dP (LO l x) 0) fun y=>match y with| .next ()=>x∉l| .done i=>0≤i∧x∈l:=by
  refine cA.dP (fun i:Int=>l.length-i.toNat) (fun i=>0≤i∧i≤l.length∧ ∀y∈l.take i.toNat,y≠x) ?_ ⟨by omega,by omega,by simp⟩
  rintro i ⟨i0,i1,i2⟩;simp only [LO];by_cases hi:i<l.length
  ·have ax:i.toNat<l.length:=by omega
   rw [qh hi,EZ i0 hi];simp only [cond_true,Option.bind_some];by_cases he:x=l[i.toNat]
   ·rw [show (x==l[i.toNat])=true by simpa using he]
    exact ⟨_,rfl,i0,by rw [he];exact List.getElem_mem _⟩
   ·rw [show (x==l[i.toNat])=false by simpa using he,cond_false,p0 (by omega)]
    refine ⟨_,rfl,⟨by omega,by omega,fun y hy=> ?_⟩,by omega⟩
    rw [show (i+1).toNat=i.toNat+1 by omega,List.take_succ_eq_append_getElem ax] at hy
    rcases List.mem_append.1 hy with h' |h'
    ·exact i2 y h'
    ·simp at h';rw [h'];exact fun h=>he h.symm
  ·rw [wW hi];refine ⟨_,rfl,fun hx=> ?_⟩;rw [List.take_of_length_le (by omega)] at i2
   exact i2 x hx rfl
 obtain ⟨y,e1,e2⟩:=key;rw [e1,Option.bind_some];rcases y with ⟨⟩|i
 ·exact ⟨_,rfl,by simpa using e2⟩
 ·exact ⟨_,rfl,by simp [e2.1,e2.2]⟩
theorem Qd {o:List Int} (ho:o.length≤1048576) {n:Nat} (hn:n≤1048576): ∃b,Kq o (n:Int)=some b∧(b=true↔Gj o n):=by
 unfold Kq;have key:cA (dP (LQ o (n:Int)) 0) fun y=>match y with| .next ()=> ∀x:Int,0≤x→x<n→x∈o| .done b=>b=false∧ ¬Gj o n:=by
  refine cA.dP (fun i:Int=>n-i.toNat) (fun i=>0≤i∧i≤n∧ ∀x:Int,0≤x→x<i→x∈o) ?_ ⟨by omega,by omega,fun x h0 h1=>by omega⟩
  rintro i ⟨i0,i1,i2⟩;simp only [LQ];by_cases hi:i<n
  ·rw [qh hi];obtain ⟨b,e1,e2⟩:=Ve ho i;simp only [cond_true,e1,Option.bind_some];cases b
   ·exact ⟨_,rfl,rfl,fun h=>by have:=e2.2 (h.all i i0 hi);simp at this⟩
   ·simp only [Bool.not_true,cond_false];rw [p0 (by omega)]
    refine ⟨_,rfl,⟨by omega,by omega,fun x h0 h1=> ?_⟩,by omega⟩
    by_cases hx:x<i
    ·exact i2 x h0 hx
    ·rw [show x=i by omega];exact e2.1 rfl
  ·rw [wW hi];exact ⟨_,rfl,fun x h0 h1=>i2 x h0 (by omega)⟩
 obtain ⟨y,e1,e2⟩:=key;rw [e1,Option.bind_some];rcases y with ⟨⟩|b
 ·refine ⟨_,rfl,?_⟩;rw [beq_iff_eq];constructor
  ·intro h;exact Ob (by omega) e2
  ·intro h;have:=h.len;omega
 ·exact ⟨_,rfl,by rw [e2.1];simpa using e2.2⟩
theorem Vf {l:List Int} (hl:l.length≤1048576) (x:Int): ∃b,Kv l x=some b∧(b=true↔x∈l):=by
 unfold Kv;have key:cA (dP (LV l x) 0) fun y=>match y with| .next ()=>x∉l| .done b=>b=true∧x∈l:=by
  refine cA.dP (fun i:Int=>l.length-i.toNat) (fun i=>0≤i∧i≤l.length∧ ∀y∈l.take i.toNat,y≠x) ?_ ⟨by omega,by omega,by simp⟩
  rintro i ⟨i0,i1,i2⟩;simp only [LV];by_cases hi:i<l.length
  ·have ax:i.toNat<l.length:=by omega
   rw [qh hi,EZ i0 hi];simp only [cond_true,Option.bind_some];by_cases he:l[i.toNat]=x
   ·rw [show (l[i.toNat]==x)=true by simpa using he]
    exact ⟨_,rfl,rfl,by rw [←he];exact List.getElem_mem _⟩
   ·rw [show (l[i.toNat]==x)=false by simpa using he,cond_false,p0 (by omega)]
    refine ⟨_,rfl,⟨by omega,by omega,fun y hy=> ?_⟩,by omega⟩
    rw [show (i+1).toNat=i.toNat+1 by omega,List.take_succ_eq_append_getElem ax] at hy
    rcases List.mem_append.1 hy with h' |h'
    ·exact i2 y h'
    ·simp at h';rw [h'];exact he
  ·rw [wW hi];refine ⟨_,rfl,fun hx=> ?_⟩;rw [List.take_of_length_le (by omega)] at i2
   exact i2 x hx rfl
 obtain ⟨y,e1,e2⟩:=key;rw [e1,Option.bind_some];rcases y with ⟨⟩|b
 ·exact ⟨_,rfl,by simpa using e2⟩
 ·exact ⟨_,rfl,by simp [e2.1,e2.2]⟩
theorem Vg {o:List Int} (ho:o.length≤1048576) {n:Nat} (_hn:n≤1048576): ∃b,Kw o (n:Int)=some b∧(b=true↔Gj o n):=by
 unfold Kw;by_cases hl:o.length=n
 ·rw [show ((o.length:Int) !=(n:Int))=false by simp [hl],cond_false]
  have key:cA (dP (LW o (n:Int)) 0) fun y=>match y with| .next ()=>o.Nodup∧ ∀x∈o,0≤x∧x<n| .done b=>b=false∧ ¬Gj o n:=by
   refine cA.dP (fun i:Int=>o.length-i.toNat) (fun i=>0≤i∧i≤o.length∧(o.take i.toNat).Nodup∧ ∀x∈o.take i.toNat,0≤x∧x<n) ?_ ⟨by omega,by omega,by simp,by simp⟩
   rintro i ⟨i0,i1,i2,i3⟩;simp only [LW];by_cases hi:i<o.length
   ·have ax:i.toNat<o.length:=by omega
    have ht:=List.take_succ_eq_append_getElem ax;rw [qh hi,EZ i0 hi,p0 (x:=(n:Int)-1) (by omega)]
    simp only [cond_true,Option.bind_some,Qa];cases hb:Hg o[i.toNat] 0 ((n:Int)-1)
    ·refine ⟨_,rfl,rfl,fun h=> ?_⟩;have:=h.bF _ (List.getElem_mem ax);have h' :Hg o[i.toNat] 0 ((n:Int)-1)=true:=JZ.2 ⟨by omega,by omega⟩
     rw [hb] at h';simp at h'
    ·have ay:=JZ.1 hb
     have ka:cy o 0 i=some (o.take i.toNat):=by simp [cy];omega
     obtain ⟨b,e1,e2⟩:=Vf (l:=o.take i.toNat) (by rw [List.length_take];omega) o[i.toNat]
     simp only [Bool.not_true,cond_false,ka,e1,Option.bind_some];cases b
     ·rw [p0 (by omega)]
      have fq:o[i.toNat]∉o.take i.toNat:=fun h=>by have:=e2.2 h;simp at this
      refine ⟨_,rfl,⟨by omega,by omega,?_,fun x hx=> ?_⟩,by omega⟩
      ·rw [show (i+1).toNat=i.toNat+1 by omega,ht,List.nodup_append]
       exact ⟨i2,by simp,fun x hx y hy=>by simp at hy;subst hy;exact fun e=>fq (e▸hx)⟩
      ·rw [show (i+1).toNat=i.toNat+1 by omega,ht] at hx
       rcases List.mem_append.1 hx with h' |h'
       ·exact i3 x h'
       ·simp at h';subst h';omega
     ·refine ⟨_,rfl,rfl,fun h=> ?_⟩;have cp:=e2.1 rfl;have h2:(o.take (i.toNat+1)).Nodup:=h.nd.sublist (List.take_sublist _ _);rw [ht,List.nodup_append] at h2;exact h2.2.2 _ cp _ (by simp) rfl
   ·rw [wW hi];rw [List.take_of_length_le (by omega)] at i2 i3
    exact ⟨_,rfl,i2,i3⟩
  obtain ⟨y,e1,e2⟩:=key;rw [e1,Option.bind_some];rcases y with ⟨⟩|b
  ·exact ⟨_,rfl,by simp only [true_iff];exact Vd hl e2.1 e2.2⟩
  ·exact ⟨_,rfl,by rw [e2.1];simpa using e2.2⟩
 ·rw [show ((o.length:Int) !=(n:Int))=true from bne_iff_ne.2 (by omega),cond_true]
  exact ⟨_,rfl,by simp only [Bool.false_eq_true,false_iff];exact fun h=>hl h.len⟩
def Gr (l:List Task) (k:Nat):Int:=match l[k]? with|some x=>x.Fi|none=>0
def Gb (x:Task):Bool:=Hg x.Fi 1 20&&Hg x.End 0 200
theorem MA (n:Nat→Int): ∀(a b:List Nat) (k:Nat),(k∈a→Gz n (a ++ b) k=Gz n a k)∧(k∉a→Gz n (a ++ b) k=Ge n a+Gz n b k)
 |[],b,k=>⟨fun h=>by simp at h,fun _=>by simp [Ge]⟩
 |x::a,b,k=>by
  obtain ⟨h1,h2⟩:=MA n a b k;simp only [List.cons_append,Gz,Ge,List.mem_cons,not_or];by_cases hx:x=k
  ·simp only [if_pos hx];exact ⟨fun _=>trivial,fun h=>absurd hx.symm h.1⟩
  ·simp only [if_neg hx];refine ⟨fun h=>by rw [h1 (h.resolve_left fun e=>hx e.symm)],fun h=>by rw [h2 h.2];omega⟩
theorem Qe (n:Nat→Int): ∀a b:List Nat,Ge n (a ++ b)=Ge n a+Ge n b
 |[],b=>by simp [Ge]
 |x::a,b=>by simp only [List.cons_append,Ge,Qe n a b];omega
theorem Qf (n:Nat→Int) (h: ∀k,0≤n k∧n k≤20): ∀a:List Nat,0≤Ge n a∧Ge n a≤20*a.length
 |[]=>by simp [Ge]
 |x::a=>by
  have h1:=h x;have h2:=Qf n h a;simp only [Ge,List.length_cons];omega
theorem Qg {l:List Task} (hl:l.length≤10) (ht: ∀x∈l,Gb x=true) {o:List Int} (ho:Gj o l.length) {f:List Int×Int×Int→Option (LR (List Int×Int×Int) (List Int))} (hf:f=LS l o):
 ∃c:List Int,dP f (List.replicate l.length 0,0,0)=some c∧c.length=l.length∧ ∀k:Nat,k<l.length→c[k]? =some (Gz (Gr l) (o.map Int.toNat) k):=by
 subst hf;have hn: ∀k,0≤Gr l k∧Gr l k≤20:=fun k=>by
  unfold Gr;cases hk:l[k]? with
  |none=>simp
  |some x=>
   have:=ht x (List.mem_of_getElem? hk);simp only [Gb,Bool.and_eq_true,JZ] at this;simp only;omega
 have Bo:=ho.len;refine wR (fun x:List Int×Int×Int=>o.length-x.2.2.toNat) (fun x:List Int×Int×Int=>0≤x.2.2∧x.2.2≤o.length∧x.1.length=l.length∧x.2.1=Ge (Gr l) ((o.take x.2.2.toNat).map Int.toNat)∧ ∀k:Nat,(k:Int)∈o.take x.2.2.toNat→x.1[k]? =some (Gz (Gr l) ((o.take x.2.2.toNat).map Int.toNat) k))
  (fun c:List Int=>c.length=l.length∧ ∀k:Nat,k<l.length→c[k]? =some (Gz (Gr l) (o.map Int.toNat) k)) ?_ _ ⟨by simp,by simp,by simp,by simp [Ge],by simp⟩
 rintro ⟨c,t,i⟩ ⟨i0,i1,i2,i3,i4⟩;simp only at i0 i1 i2 i3 i4;subst i3;simp only [LS];by_cases hi:i<o.length
 ·have ax:i.toNat<o.length:=by omega
  have Oc:=List.take_succ_eq_append_getElem ax;obtain ⟨Qh,q1⟩:=ho.bF _ (List.getElem_mem ax);obtain ⟨m,hm⟩:=Int.eq_ofNat_of_zero_le Qh;have g9:m<l.length:=by omega
  have bH:o[i.toNat]∉o.take i.toNat:=fun h=>by
   have h2:(o.take (i.toNat+1)).Nodup:=ho.nd.sublist (List.take_sublist _ _);rw [Oc,List.nodup_append] at h2;exact h2.2.2 _ h _ (by simp) rfl
  have hb:=Qf (Gr l) hn ((o.take i.toNat).map Int.toNat);rw [List.length_map,List.length_take] at hb;have Qi:Gr l m=l[m].Fi:=by unfold Gr;rw [List.getElem?_eq_getElem g9]
  have nT:=hn m;rw [qh hi,EZ i0 hi,Option.bind_some];have e1:idx l o[i.toNat]=some l[m]:=by rw [hm];exact qf g9
  have e2:idx c o[i.toNat]=some (c[m]'(by omega)):=by rw [hm];exact qf (by omega)
  rw [e1,Option.bind_some,e2,Option.bind_some,p0 (x:=i+1) (by omega),p0 (by omega)]
  have Qj:(i+1).toNat=i.toNat+1:=by omega
  refine ⟨_,rfl,⟨by simp only;omega,by simp only;omega,by simpa using i2,?_,fun k hk=> ?_⟩,by simp only;omega⟩
  ·simp only [Qj,Oc,List.map_append,Qe];simp [Ge,hm,Qi]
  ·simp only [Qj,Oc,List.map_append] at hk⊢;rw [hm];simp only [Int.toNat_natCast];rw [List.getElem?_set];by_cases lB:m=k
   ·subst lB;rw [if_pos rfl,if_pos (by omega)]
    have:m∉(o.take i.toNat).map Int.toNat:=fun h=>by
     obtain ⟨z,hz,ED⟩:=List.mem_map.1 h;have:=ho.bF z (List.mem_of_mem_take hz)
     exact bH (by rw [hm];have:z=(m:Int):=by omega
                  rw [←this];exact hz)
    rw [(MA _ _ _ _).2 this];simp [Gz,Qi]
   ·rw [if_neg lB];have bJ:(k:Int)∈o.take i.toNat:=by
     rcases List.mem_append.1 hk with h|h
     ·exact h
     ·simp at h;omega
    rw [i4 k bJ,(MA _ _ _ _).1 (List.mem_map.2 ⟨(k:Int),bJ,by simp⟩)]
 ·rw [wW hi];rw [List.take_of_length_le (by omega)] at i4
  exact ⟨_,rfl,i2,fun k hk=>i4 k (ho.all k (by omega) (by omega))⟩
theorem Vh {l:List Task} (hl:l.length<2^60) {g:Task→Option Bool} (p:Task→Bool) (hg: ∀x∈l,g x=some (p x)):Kn l g=some (cB p l):=by
 unfold Kn;rw [E7 p (f:=MN l g) (fun _=>rfl) hl hg];have:=nJ p l;by_cases h:cB p l<0
 ·rw [if_pos h];simp;omega
 ·rw [if_neg h];rfl
theorem Vi {l:List Task} (hl:l.length<2^60) {g:Task→Option Bool} (p:Task→Bool) (hg: ∀x∈l,g x=some (p x)):Ko l g=some (l.any p):=by
 unfold Ko;rw [Vh hl p hg,Option.bind_some,wX]
def HS (l:List Task):Bool:=decide (l.length≤10)&&l.all Gb
theorem Ly {l:List Task} (hl:l.length≤1048576):IF l=some (HS l):=by
 unfold IF HS;by_cases h:l.length≤10
 ·rw [qh (by omega),qh h,cond_true,Vi (by omega) (fun x=> !Gb x) (fun x _=>by
   unfold LN Gb;rw [Qb,Qb];cases Hg x.Fi 1 20<;>rfl),Option.bind_some,Bool.true_and,List.all_eq_not_any_not]
 ·rw [wW (by omega),wW h];rfl
theorem MB {l:List Task} (hl:l.length≤1048576):Jc l=some (HS l):=by
 unfold Jc HS;rw [wV l (Kt l) (fun k (_:Unit)=>k) (fun _ x s=>if Gb x then .next s else .done (.done false)) (fun _=> .next ()) (fun k hk s=>by
  simp only [Kt];rw [qh (by omega),qf hk,p0 (by omega)]
  simp only [cond_true,Option.bind_some,Qa];have e:(bif !Hg l[k].Fi 1 20 then some true else some !Hg l[k].End 0 200)=some (!Gb l[k]):=by
   unfold Gb;cases Hg l[k].Fi 1 20<;>rfl
  rw [e];cases h:Gb l[k]<;>simp [LR.nI]) (fun s=>by simp [Kt]) (),EU _ _ (fun _ _ _=>rfl)]
 cases l.all Gb
 ·simp
 ·simp only [if_true,Option.bind_some,Bool.and_true];congr 1;by_cases h:l.length≤10
  ·rw [qh (by omega),qh h]
  ·rw [wW (by omega),wW h]
theorem MC {l:List Task}:HS l=true↔l.length≤10∧ ∀x∈l,Gb x=true:=by
 simp [HS]
theorem Qk {l:List Task} (ht: ∀x∈l,Gb x=true) (k:Nat):0≤Gr l k∧Gr l k≤20:=by
 unfold Gr;cases hk:l[k]? with
 |none=>simp
 |some x=>
  have:=ht x (List.mem_of_getElem? hk);simp only [Gb,Bool.and_eq_true,JZ] at this;simp only;omega
def J0 (d:Int→Int) (x:Int):List Int→List Int→List Int
 |[],b=>x::b
 |y::Fu,b=>if d x<d y then J0 d x Fu (y::b) else (y::Fu).reverse ++ x::b
def Gk (d:Int→Int) (x:Int) (a:List Int):List Int:=a.takeWhile (fun y=>decide (d y≤d x)) ++ x::a.dropWhile (fun y=>decide (d y≤d x))
theorem Ql {d:Int→Int} {g:Int→Int→Option Int} {x:Int}: ∀(Fu b:List Int),(Fu.length+b.length≤1000)→(∀y∈Fu,g x y=some (d x-d y))→
 dP (Kz 0 g) (Fu.reverse ++ x::b,(Fu.length:Int))=some (J0 d x Fu b)
 |[],b,_,_=>by
  rw [lO];simp only [Kz];rw [wW (by simp)]
  rfl
 |y::Fu,b,hl,hg=>by
  simp only [List.length_cons] at hl;have e:(y::Fu).reverse ++ x::b=Fu.reverse ++ y::x::b:=by simp
  have i1:idx (Fu.reverse ++ y::x::b) ((Fu.length+1:Nat):Int)=some x:=by
   rw [A7,List.getElem?_append_right (by simp)];simp
  have i0:idx (Fu.reverse ++ y::x::b) (Fu.length:Int)=some y:=by
   rw [A7,List.getElem?_append_right (by simp)];simp
  have s1:(Fu.reverse ++ y::x::b).set (Fu.length+1) y=Fu.reverse ++ y::y::b:=by
   rw [List.set_append_right _ _ (by simp)];simp
  have s0:(Fu.reverse ++ y::y::b).set Fu.length x=Fu.reverse ++ x::y::b:=by
   rw [List.set_append_right _ _ (by simp)];simp
  have i2:idx (Fu.reverse ++ y::y::b) (Fu.length:Int)=some y:=by
   rw [A7,List.getElem?_append_right (by simp)];simp
  rw [lO,e];simp only [Kz,List.length_cons];rw [qh (by omega),i1,p0 (x:=((Fu.length+1:Nat):Int)-1) (by omega),show ((Fu.length+1:Nat):Int)-1=(Fu.length:Int) by omega]
  simp only [cond_true,Option.bind_some,i0,hg y (by simp),Int.toNat_natCast,s1,i2,s0]
  unfold J0;by_cases h:d x<d y
  ·rw [qh (show d x-d y<0 by omega),if_pos h]
   simp only [cond_true,Option.bind_some];exact Ql Fu (y::b) (by simp only [List.length_cons];omega) (fun z hz=>hg z (by simp [hz]))
  ·rw [wW (show¬d x-d y<0 by omega),if_neg h]
   simp
theorem Qm {α :Type} {p: α →Bool}: ∀l:List α,(∀z∈l,p z=true)→l.dropWhile p=[]
 |[],_=>rfl
 |x::l,h=>by
  rw [List.dropWhile_cons,h x (by simp),if_pos rfl]
  exact Qm l fun z hz=>h z (by simp [hz])
theorem Qn {d:Int→Int} {x:Int}: ∀(Fu b:List Int),Fu.reverse.Pairwise (fun y z=>d y≤d z)→J0 d x Fu b=Gk d x Fu.reverse ++ b
 |[],b,_=>by simp [J0,Gk]
 |y::Fu,b,h=>by
  have e:(y::Fu).reverse=Fu.reverse ++ [y]:=by simp
  rw [e,List.pairwise_append] at h;unfold J0;by_cases hy:d x<d y
  ·rw [if_pos hy,Qn Fu (y::b) h.1,e];have Vj:decide (d y≤d x)=false:=decide_eq_false (by omega)
   unfold Gk;rw [List.takeWhile_append,List.dropWhile_append];by_cases qQ:(Fu.reverse.takeWhile fun z=>decide (d z≤d x)).length=Fu.reverse.length
   ·rw [if_pos qQ];have hd:Fu.reverse.dropWhile (fun z=>decide (d z≤d x))=[]:=by
     have:=List.takeWhile_append_dropWhile (p:=fun z=>decide (d z≤d x)) (l:=Fu.reverse);have h2:=congrArg List.length this;rw [List.length_append,qQ] at h2;exact List.eq_nil_of_length_eq_zero (by omega)
    have ht:Fu.reverse.takeWhile (fun z=>decide (d z≤d x))=Fu.reverse:=by
     have:=List.takeWhile_append_dropWhile (p:=fun z=>decide (d z≤d x)) (l:=Fu.reverse);rw [hd,List.append_nil] at this;exact this
    rw [hd,ht];simp [List.takeWhile,List.dropWhile,Vj]
   ·rw [if_neg qQ];have hd:(Fu.reverse.dropWhile fun z=>decide (d z≤d x)).isEmpty=false:=by
     cases Vk:Fu.reverse.dropWhile (fun z=>decide (d z≤d x)) with
     |nil=>
      exfalso;have:=List.takeWhile_append_dropWhile (p:=fun z=>decide (d z≤d x)) (l:=Fu.reverse);rw [Vk,List.append_nil] at this;exact qQ (by rw [this])
     |cons z zs=>rfl
    rw [hd];simp
  ·rw [if_neg hy,e];have qQ: ∀z∈Fu.reverse ++ [y],decide (d z≤d x)=true:=fun z hz=>by
    rcases List.mem_append.1 hz with h' |h'
    ·have:=h.2.2 z h' y (by simp)
     exact decide_eq_true (by omega)
    ·simp at h';subst h';exact decide_eq_true (by omega)
   unfold Gk;have hd:=Qm (p:=fun z=>decide (d z≤d x)) _ qQ;have hw:=List.takeWhile_append_dropWhile (p:=fun z=>decide (d z≤d x)) (l:=Fu.reverse ++ [y]);rw [hd,List.append_nil] at hw;rw [hw,hd];simp
theorem J1 (d:Int→Int) (x y:Int) (a:List Int):Gk d x (y::a)=if d y≤d x then y::Gk d x a else x::y::a:=by
 unfold Gk;by_cases h:d y≤d x
 ·rw [if_pos h,List.takeWhile_cons,List.dropWhile_cons,decide_eq_true h];rfl
 ·rw [if_neg h,List.takeWhile_cons,List.dropWhile_cons,decide_eq_false h];rfl
theorem Od {d:Int→Int} {x z:Int}: ∀{a:List Int},z∈Gk d x a↔z=x∨z∈a
 |[]=>by simp [Gk]
 |y::a=>by
  rw [J1];split
  ·rw [List.mem_cons,Od,List.mem_cons];constructor
   ·rintro (h|h|h)
    ·exact .inr (.inl h)
    ·exact .inl h
    ·exact .inr (.inr h)
   ·rintro (h|h|h)
    ·exact .inr (.inl h)
    ·exact .inl h
    ·exact .inr (.inr h)
  ·simp
theorem Qo (d:Int→Int) (x:Int): ∀a:List Int,(Gk d x a).length=a.length+1
 |[]=>by simp [Gk]
 |y::a=>by
  rw [J1];split
  ·simp [Qo d x a]
  ·simp
theorem Oe {d:Int→Int} {x:Int}: ∀{a:List Int},a.Pairwise (fun y z=>d y≤d z)→(Gk d x a).Pairwise (fun y z=>d y≤d z)
 |[],_=>by simp [Gk]
 |y::a,h=>by
  obtain ⟨h1,h2⟩:=List.pairwise_cons.1 h;rw [J1];split
  ·rename_i hy;refine List.pairwise_cons.2 ⟨fun z hz=> ?_,Oe h2⟩;rcases Od.1 hz with rfl|hz
   ·exact hy
   ·exact h1 z hz
  ·rename_i hy;refine List.pairwise_cons.2 ⟨fun z hz=> ?_,h⟩;rcases List.mem_cons.1 hz with rfl|hz
   ·omega
   ·have:=h1 z hz;omega
def Gu (d:Int→Int) (o:List Int):List Int:=o.foldl (fun a x=>Gk d x a) []
theorem Og (d:Int→Int) (o:List Int) (x:Int):Gu d (o ++ [x])=Gk d x (Gu d o):=by simp [Gu]
theorem Lz (d:Int→Int): ∀(n:Nat) (o:List Int),o.length=n→(Gu d o).Pairwise (fun y z=>d y≤d z)∧(Gu d o).length=n∧ ∀z,z∈Gu d o↔z∈o
 |0,o,h=>by
  have:o=[]:=List.eq_nil_of_length_eq_zero h;subst this;simp [Gu]
 |n+1,o,h=>by
  obtain ⟨o',x,rfl⟩: ∃o' x,o=o' ++ [x]:=⟨o.dropLast,o.getLast (fun e=>by subst e;simp at h),(List.dropLast_concat_getLast _).symm⟩
  obtain ⟨h1,h2,h3⟩:=Lz d n o' (by simpa using h)
  rw [Og];refine ⟨Oe h1,by rw [Qo,h2],fun z=> ?_⟩
  rw [Od,h3,List.mem_append,List.mem_singleton];exact ⟨fun h=>h.symm,fun h=>h.symm⟩
theorem Vl {d:Int→Int} {g:Int→Int→Option Int} {o:List Int} (hl:o.length≤18) (h0:0<o.length) (hg: ∀x∈o,∀y∈o,g x y=some (d x-d y)):
 Jf o g=some (Gu d o):=by
 have one:IG o 0 (o.length:Int) g=some (Gu d o):=by
  unfold IG;rw [p0 (by omega)]
  have key:dP (L5 0 (o.length:Int) g) (o,0+1)=some (Gu d o):=by
   refine wS (fun x:List Int×Int=>o.length-x.2.toNat) (fun x=>1≤x.2∧x.2≤o.length∧x.1=Gu d (o.take x.2.toNat) ++ o.drop x.2.toNat) _ ?_ _ ⟨by simp,by simp only;omega,?_⟩
   ·rintro ⟨c,i⟩ ⟨i0,i1,i2⟩;simp only at i0 i1 i2;subst i2;simp only [L5];by_cases hi:i<o.length
    ·have ax:i.toNat<o.length:=by omega
     obtain ⟨s1,s2,s3⟩:=Lz d i.toNat (o.take i.toNat) (by rw [List.length_take];omega)
     have e1:=Ql (d:=d) (g:=g) (x:=o[i.toNat]) (Gu d (o.take i.toNat)).reverse (o.drop (i.toNat+1)) (by simp [s2];omega) (fun y hy=>by
      rw [List.mem_reverse,s3] at hy;exact hg _ (List.getElem_mem ax) y (List.mem_of_mem_take hy))
     rw [List.reverse_reverse,List.length_reverse,s2,←List.drop_eq_getElem_cons ax,show ((i.toNat:Nat):Int)=i by omega,Qn _ _ (by rw [List.reverse_reverse];exact s1),List.reverse_reverse] at e1
     rw [qh hi,cond_true,e1,Option.bind_some,p0 (by omega)]
     refine ⟨_,rfl,⟨by simp only;omega,by simp only;omega,?_⟩,by simp only;omega⟩
     simp only;rw [show (i+1).toNat=i.toNat+1 by omega,List.take_succ_eq_append_getElem ax,Og]
    ·rw [wW hi];refine ⟨_,rfl,?_⟩;simp only;rw [List.take_of_length_le (by omega),List.drop_eq_nil_of_le (by omega),List.append_nil]
   ·simp only;obtain ⟨x,r,rfl⟩:=List.exists_cons_of_ne_nil (List.length_pos_iff.1 h0);simp [Gu,Gk]
  rw [key];rfl
 unfold Jf KD;have e0:dP (KB (o.length:Int) g) (o,0,20)=some (o,0):=by
  rw [lO];simp only [KB];rw [wW (by omega)]
  rfl
 have e2:dP (KC (o.length:Int)) 20=some ():=by
  rw [lO];simp only [KC];rw [wW (by omega)]
  rfl
 rw [e0,Option.bind_some];simp only;rw [one,Option.bind_some,e2];rfl
def Fv (p:Int→Int) (t:List Int):Int:=(t.map p).sum
theorem Qp (p:Int→Int):Fv p []=0:=rfl
theorem IB (p:Int→Int) (x:Int) (t:List Int):Fv p (x::t)=p x+Fv p t:=by simp [Fv]
theorem Jw (p:Int→Int) (a b:List Int):Fv p (a ++ b)=Fv p a+Fv p b:=by simp [Fv]
def FK (p d:Int→Int) (now:Int):List Int→Bool
 |[]=>true
 |k::r=>decide (now+p k≤d k)&&FK p d (now+p k) r
theorem MD (p d:Int→Int): ∀(a b:List Int) (now:Int),FK p d now (a ++ b)=(FK p d now a&&FK p d (now+Fv p a) b)
 |[],b,now=>by simp [FK,Fv]
 |x::a,b,now=>by
  simp only [List.cons_append,FK,MD p d a b,IB,Bool.and_assoc];rw [show now+p x+Fv p a=now+(p x+Fv p a) by omega]
theorem ME (p d:Int→Int) (a:List Int) (k now:Int):FK p d now (a ++ [k])=(FK p d now a&&decide (now+Fv p a+p k≤d k)):=by
 rw [MD];simp [FK]
theorem Qq {p d:Int→Int}: ∀(t:List Int) (a b:Int),a≤b→FK p d b t=true→FK p d a t=true
 |[],_,_,_,_=>rfl
 |x::t,a,b,h,hf=>by
  simp only [FK,Bool.and_eq_true,decide_eq_true_eq] at hf⊢;exact ⟨by omega,Qq t _ _ (by omega) hf.2⟩
theorem Qr {p d:Int→Int}: ∀(t:List Int) (now:Int),t≠[]→FK p d now t=true→ ∃z∈t,now+Fv p t≤d z
 |[],_,h,_=>absurd rfl h
 |[x],now,_,hf=>by
  simp only [FK,Bool.and_true,decide_eq_true_eq] at hf;exact ⟨x,by simp,by simpa [Fv] using hf⟩
 |x::y::t,now,_,hf=>by
  rw [FK,Bool.and_eq_true] at hf;obtain ⟨z,hz,h⟩:=Qr (y::t) (now+p x) (by simp) hf.2
  exact ⟨z,List.mem_cons_of_mem _ hz,by rw [IB];omega⟩
theorem Qs {p d:Int→Int}: ∀(t:List Int) (now:Int),(∀a k b,t=a ++ k::b→now+Fv p a+p k≤d k)→FK p d now t=true
 |[],_,_=>rfl
 |x::t,now,h=>by
  simp only [FK,Bool.and_eq_true,decide_eq_true_eq];refine ⟨by simpa [Fv] using h [] x t rfl,Qs t _ fun a k b e=> ?_⟩
  have:=h (x::a) k b (by rw [e];rfl)
  rw [IB] at this;omega
theorem Qt (d:Int→Int) (x:Int): ∀a:List Int,(Gk d x a).Perm (x::a)
 |[]=>by simp [Gk]
 |y::a=>by
  rw [J1];split
  ·exact ((Qt d x a).cons y).trans (List.Perm.swap x y a)
  ·exact List.Perm.refl _
theorem LA: ∀{a b:List Int},a.Perm b→a.sum=b.sum
 |_,_,.nil=>rfl
 |_,_,.cons x h=>by simp only [List.sum_cons,LA h]
 |_,_,.swap x y l=>by simp only [List.sum_cons];omega
 |_,_,.trans h1 h2=>(LA h1).trans (LA h2)
theorem Vm (l:List Int) (m:Nat) (h:m<l.length):(l.take (m+1)).sum=(l.take m).sum+l[m]:=by
 rw [List.take_succ_eq_append_getElem h,List.sum_append];simp
theorem Qu (x:Int): ∀(xs:List Int) (m:Nat),xs.Pairwise (· ≤ ·)→m≤xs.length→((Gk id x xs).take m).sum≤(xs.take m).sum
 |xs,0,_,_=>by simp
 |[],m+1,_,h=>by simp at h
 |y::a,m+1,hs,h=>by
  obtain ⟨h1,h2⟩:=List.pairwise_cons.1 hs;simp only [List.length_cons] at h;rw [J1];split
  ·simp only [List.take_succ_cons,List.sum_cons];have:=Qu x a m h2 (by omega)
   omega
  ·rename_i xO;simp only [id] at xO;have e:=Vm (y::a) m (by simp<;>omega)
   rw [e,List.take_succ_cons,List.sum_cons];have:x≤(y::a)[m]'(by simp<;>omega):=by
    rcases List.mem_cons.1 (List.getElem_mem (l:=y::a) (n:=m) (by simp<;>omega)) with e|e
    ·rw [e];omega
    ·have:=h1 _ e;omega
   omega
theorem Qv (x:Int): ∀(xs:List Int) (m:Nat),((Gk id x xs).take (m+1)).sum≤(xs.take m).sum+x
 |[],m=>by simp [Gk]
 |y::a,m=>by
  rw [J1];split
  ·rename_i xO;simp only [id] at xO;cases m with
   |zero=>simp;omega
   |succ m=>
    have:=Qv x a m;simp only [List.take_succ_cons,List.sum_cons] at this⊢;omega
  ·simp only [List.take_succ_cons,List.sum_cons];omega
theorem wE: ∀(l:List Int) (i:Nat) (h:i<l.length),(l[i]::l.eraseIdx i).Perm l
 |[],_,h=>by simp at h
 |x::l,0,_=>by simp
 |x::l,i+1,h=>by
  simp only [List.getElem_cons_succ,List.eraseIdx_cons_succ];exact (List.Perm.swap x _ _).trans ((wE l i (by simpa using h)).cons x)
structure Hq (p d:Int→Int) (pre bF:List Int):Prop where
 sub:bF.Sublist pre
 ok:FK p d 0 bF=true
 best: ∃xs:List Int,xs.Pairwise (· ≤ ·)∧xs.Perm (bF.map p)∧ ∀t:List Int,t.Sublist pre→FK p d 0 t=true→t.length≤bF.length∧(xs.take t.length).sum≤Fv p t
theorem Hq.nil (p d:Int→Int):Hq p d [] []:=
 ⟨.refl _,rfl,[],.nil,.refl _,fun t ht _=>by rw [List.sublist_nil] at ht;subst ht;simp [Fv]⟩
theorem Vn {t pre:List Int} {k:Int} (h:t.Sublist (pre ++ [k])):t.Sublist pre∨ ∃t',t=t' ++ [k]∧t'.Sublist pre:=by
 obtain ⟨a,b,rfl,ha,hb⟩:=List.sublist_append_iff.1 h;cases b with
 |nil=>exact .inl (by simpa using ha)
 |cons y r=>
  have hl:=hb.length_le;have hr:r=[]:=List.eq_nil_of_length_eq_zero (by simp only [List.length_cons,List.length_nil] at hl;omega)
  subst hr;have:y=k:=by simpa using hb
  subst this;exact .inr ⟨a,rfl,ha⟩
theorem Qw {p d:Int→Int} {pre bF:List Int} {k:Int} (h:Hq p d pre bF):
 ∃xs:List Int,xs.Pairwise (· ≤ ·)∧xs.Perm ((bF ++ [k]).map p)∧ ∀t:List Int,t.Sublist (pre ++ [k])→FK p d 0 t=true→
  (xs.take t.length).sum≤Fv p t∧(t.length≤bF.length∨t.length=bF.length+1∧Fv p bF+p k≤d k):=by
 obtain ⟨xs,s,pm,hb⟩:=h.best;have hlen:xs.length=bF.length:=by rw [pm.length_eq,List.length_map]
 refine ⟨Gk id (p k) xs,Oe (d:=id) s,?_,fun t ht hf=> ?_⟩
 ·rw [List.map_append];exact (Qt id (p k) xs).trans (((pm.cons (p k))).trans (List.perm_append_singleton (p k) (bF.map p)).symm)
 ·rcases Vn ht with ht|⟨t',rfl,de⟩
  ·obtain ⟨b1,b2⟩:=hb t ht hf;have:=Qu (p k) xs t.length s (by omega)
   exact ⟨by omega,.inl b1⟩
  ·rw [ME,Bool.and_eq_true,decide_eq_true_eq] at hf;obtain ⟨b1,b2⟩:=hb t' de hf.1
   have h2:=Qv (p k) xs t'.length;have e:Fv p (t' ++ [k])=Fv p t' + p k:=by rw [Jw];simp [Fv]
   refine ⟨by rw [List.length_append,e];simp only [List.length_singleton];omega,?_⟩
   rw [List.length_append,List.length_singleton];by_cases hl:t'.length=bF.length
   ·have Vo:xs.sum=Fv p bF:=by unfold Fv;exact LA pm
    rw [hl,←hlen,List.take_length,Vo] at b2;exact .inr ⟨by omega,by omega⟩
   ·exact .inl (by omega)
theorem Vp {p d:Int→Int} {pre bF:List Int} {k:Int} (h:Hq p d pre bF) (hk:Fv p bF+p k≤d k):Hq p d (pre ++ [k]) (bF ++ [k]):=by
 obtain ⟨xs,s,pm,hb⟩:=Qw (k:=k) h;refine ⟨h.sub.append (.refl _),?_,xs,s,pm,fun t ht hf=> ?_⟩
 ·rw [ME,h.ok];simp;omega
 ·obtain ⟨b1,b2⟩:=hb t ht hf;exact ⟨by rw [List.length_append,List.length_singleton];omega,b1⟩
theorem Vq {p d:Int→Int} (hp: ∀x,0≤p x) {pre bF:List Int} {k:Int} (h:Hq p d pre bF) (hd: ∀z∈pre,d z≤d k) (hk: ¬Fv p bF+p k≤d k)
 {i:Nat} (hi:i<(bF ++ [k]).length) (hm: ∀x∈bF ++ [k],p x≤p ((bF ++ [k])[i])):Hq p d (pre ++ [k]) ((bF ++ [k]).eraseIdx i):=by
 obtain ⟨xs,s,pm,hb⟩:=Qw (k:=k) h;have hlen:xs.length=bF.length+1:=by rw [pm.length_eq];simp
 obtain ⟨ys,z,rfl⟩: ∃ys z,xs=ys ++ [z]:=⟨xs.dropLast,xs.getLast (fun e=>by rw [e] at hlen;simp at hlen),(List.dropLast_concat_getLast _).symm⟩
 obtain ⟨s1,_,s2⟩:=List.pairwise_append.1 s;have Zk:ys.length=bF.length:=by simpa using hlen
 have dw:((bF ++ [k]).eraseIdx i).length=bF.length:=by rw [List.length_eraseIdx_of_lt hi];simp
 have hz:z=p ((bF ++ [k])[i]):=by
  have h1:z∈(bF ++ [k]).map p:=(pm.mem_iff).1 (by simp)
  obtain ⟨x,hx,rfl⟩:=List.mem_map.1 h1;have h2:=hm x hx;have h3:p ((bF ++ [k])[i])∈ys ++ [p x]:=(pm.mem_iff).2 (List.mem_map.2 ⟨_,List.getElem_mem hi,rfl⟩);rcases List.mem_append.1 h3 with h3|h3
  ·have:=s2 _ h3 (p x) (by simp);omega
  ·simp only [List.mem_singleton] at h3;exact h3.symm
 have MF:=wE (bF ++ [k]) i hi;have Vr:ys.Perm (((bF ++ [k]).eraseIdx i).map p):=by
  have h1:(z::ys).Perm (z::((bF ++ [k]).eraseIdx i).map p):=by
   refine ((List.perm_append_singleton z ys).symm.trans pm).trans ?_;have:=(MF.map p).symm;rw [List.map_cons,←hz] at this;exact this
  exact h1.cons_inv
 refine ⟨(List.eraseIdx_sublist _ i).trans (h.sub.append (.refl _)),?_,ys,s1,Vr,fun t ht hf=> ?_⟩
 ·by_cases ck:i<bF.length
  ·rw [List.eraseIdx_append_of_lt_length ck];rw [List.getElem_append_left ck] at hm;have hw:=hm k (by simp)
   have Qx:bF=bF.take i ++ bF[i]::bF.drop (i+1):=by rw [←List.drop_eq_getElem_cons ck,List.take_append_drop]
   have af:=h.ok;have het:Fv p bF=Fv p (bF.take i)+(p bF[i]+Fv p (bF.drop (i+1))):=by
    conv=>lhs;rw [Qx]
    rw [Jw,IB]
   rw [Qx,MD,FK,Bool.and_eq_true,Bool.and_eq_true] at af;obtain ⟨o1,o2,o3⟩:=af;have Zl:=hp bF[i];rw [List.eraseIdx_eq_take_drop_succ,ME,MD,o1,Qq _ _ _ (by omega) o3,Jw]
   have:Fv p bF≤d k:=by
    obtain ⟨y,hy,hle⟩:=Qr bF 0 (fun e=>by rw [e] at ck;simp at ck) h.ok
    have:=hd y (h.sub.subset hy);omega
   simp;omega
  ·have:i=bF.length:=by simp at hi;omega
   subst this;rw [List.eraseIdx_append_of_length_le (Nat.le_refl _)];simp [h.ok]
 ·obtain ⟨b1,b2⟩:=hb t ht hf;rcases b2 with b2|⟨_,b2⟩
  ·refine ⟨by omega,?_⟩
   rw [List.take_append_of_le_length (by omega)] at b1
   exact b1
  ·exact absurd b2 hk
def Fj (l:List Task) (x:Int):Int:=match l[x.toNat]? with|some t=>t.End|none=>0
theorem Qy (n:Nat):Fz (n+1)=Fz n ++ [(n:Int)]:=by simp [Fz,List.range_succ]
theorem Qz {l:List Task} (hl:l.length≤1048576):dP (L6 l) ([],0)=some (Fz l.length):=by
 refine wS (fun x:List Int×Int=>l.length-x.2.toNat) (fun x=>0≤x.2∧x.2≤l.length∧x.1=Fz x.2.toNat) _ ?_ _ ⟨by simp,by simp,by simp [Fz]⟩
 rintro ⟨c,i⟩ ⟨i0,i1,i2⟩;simp only at i0 i1 i2;subst i2;simp only [L6];by_cases hi:i<l.length
 ·rw [qh hi,cond_true,ER (by rw [Ia];simp;omega) (by omega),Option.bind_some,p0 (by omega)]
  refine ⟨_,rfl,⟨by simp only;omega,by simp only;omega,?_⟩,by simp only;omega⟩
  simp only;rw [show (i+1).toNat=i.toNat+1 by omega,Qy,show ((i.toNat:Nat):Int)=i by omega]
 ·rw [wW hi];refine ⟨_,rfl,?_⟩;simp only;rw [show i.toNat=l.length by omega]
theorem Vs {l:List Task} (hl:l.length≤10) (h0:0<l.length) (ht: ∀x∈l,Gb x=true):Jg l=some (Gu (Fj l) (Fz l.length)):=by
 unfold Jg;rw [Qz (by omega),Option.bind_some,Vl (d:=Fj l) (by rw [Ia];omega) (by rw [Ia];exact h0) (fun x hx y hy=> ?_)]
 ·rfl
 ·obtain ⟨x0,GG⟩:=HR.1 hx;obtain ⟨KE,Ie⟩:=HR.1 hy;have Vt:=ht _ (List.getElem_mem (l:=l) (n:=x.toNat) (by omega))
  have Vu:=ht _ (List.getElem_mem (l:=l) (n:=y.toNat) (by omega))
  simp only [Gb,Bool.and_eq_true,JZ] at Vt Vu;unfold L3 Fj;rw [EZ x0 GG,EZ KE Ie,List.getElem?_eq_getElem (show x.toNat<l.length by omega),List.getElem?_eq_getElem (show y.toNat<l.length by omega)]
  simp only [Option.bind_some];rw [p0 (by omega)]
theorem Vv {l:List Task} {a:List Int} (ha:a.length≤1048576) (cp: ∀y∈a,0≤y∧y<l.length) {x:Task} {i:Int} (hx:x.End=Fj l i):dP (L7 l a x) 0=some ((a.takeWhile fun y=>decide (Fj l y≤Fj l i)).length:Int):=by
 refine wS (fun k:Int=>a.length-k.toNat) (fun k=>0≤k∧k≤a.length∧(k:Int)+(((a.drop k.toNat).takeWhile fun y=>decide (Fj l y≤Fj l i)).length:Int)=((a.takeWhile fun y=>decide (Fj l y≤Fj l i)).length:Int)) _ ?_ _ ⟨by omega,by omega,by simp⟩
 rintro k ⟨k0,k1,k2⟩;simp only [L7];by_cases hk:k<a.length
 ·have ax:k.toNat<a.length:=by omega
  obtain ⟨KE,Ie⟩:=cp _ (List.getElem_mem ax);have hd:=List.drop_eq_getElem_cons ax;rw [hd,List.takeWhile_cons] at k2;rw [qh hk,EZ k0 hk];simp only [cond_true,Option.bind_some];rw [EZ KE Ie,Option.bind_some];have he:(l[(a[k.toNat]).toNat]'(by omega)).End=Fj l a[k.toNat]:=by
   unfold Fj;rw [List.getElem?_eq_getElem (by omega)]
  simp only [he,hx,Option.bind_some];by_cases hle:Fj l a[k.toNat]≤Fj l i
  ·rw [qh hle,cond_true,p0 (by omega)]
   rw [qh hle] at k2;refine ⟨_,rfl,⟨by omega,by omega,?_⟩,by omega⟩
   rw [show (k+1).toNat=k.toNat+1 by omega]
   simp only [if_true,List.length_cons] at k2;omega
  ·rw [wW hle,cond_false];rw [wW hle] at k2;refine ⟨_,rfl,?_⟩;simp at k2⊢;exact k2
 ·rw [wW hk];rw [List.drop_eq_nil_of_le (by omega)] at k2
  refine ⟨_,rfl,?_⟩;simp at k2⊢;exact k2
theorem gF {α :Type} {l:List α} {i:Int} {x: α}:idx l i=some x↔0≤i∧i<l.length∧l[i.toNat]? =some x:=by
 unfold idx;constructor
 ·intro h;split at h
  ·rename_i h0;have:=(List.getElem?_eq_some_iff.1 h).1;exact ⟨h0,by omega,h⟩
  ·simp at h
 ·rintro ⟨h0,h1,h2⟩;rw [if_pos h0];exact h2
theorem Vw {a b:Int} (h:a≠b):(a==b)=false:=by simpa using h
theorem Vx {a b:Int} (h:a=b):(a !=b)=false:=by simp [h]
structure FO (c:Ft) (b:Int):Prop where
 len:c.Code.length≤1048576
 bytes: ∀x∈c.Code,0≤x∧x≤255
 lo:0≤c.Fx
 hi:c.Fx≤b
theorem FO.mono {c:Ft} {b d:Int} (h:FO c b) (hd:b≤d):FO c d:=⟨h.len,h.bytes,h.lo,by have:=h.hi;omega⟩
theorem Vy (k:Int):0≤zX .u64 k 255∧zX .u64 k 255≤255:=by
 have h:(BitVec.ofInt IntKind.u64.bits k&&&BitVec.ofInt IntKind.u64.bits 255).toNat≤255:=by
  rw [BitVec.toNat_and];exact Nat.and_le_right
 unfold zX;rw [IntWalk.u64_in _ (by omega)]
 omega
theorem QA {c:Ft} {b:Int} (h:FO c b) (hb:b≤4611686018427387904): ∃x d,Jz c=some (x,d)∧(0≤x∧x≤255)∧FO d (b+1):=by
 obtain ⟨h1,h2,h3,h4⟩:=h;unfold Jz;rw [p0 (x:=c.Fx+1) (by omega)]
 have e: ∃Fo,(bif (decide (c.Fx<(c.Code.length:Int))) then (idx c.Code c.Fx).bind fun HF=>some ((IntKind.i64.wrap HF)) else some (0))=some Fo∧0≤Fo∧Fo≤255:=by
  by_cases hc:c.Fx<c.Code.length
  ·rw [show decide (c.Fx<(c.Code.length:Int))=true by simpa using hc]
   obtain ⟨n,hn⟩:=Int.eq_ofNat_of_zero_le h3;rw [hn,qf (show n<c.Code.length by omega)]
   have:=h2 _ (List.getElem_mem (show n<c.Code.length by omega))
   simp only [cond_true,Option.bind_some];rw [p0 (by omega)]
   exact ⟨_,rfl,this⟩
  ·rw [show decide (c.Fx<(c.Code.length:Int))=false by simpa using hc]
   exact ⟨0,rfl,by omega,by omega⟩
 obtain ⟨Fo,e1,e2⟩:=e;rw [e1,Option.bind_some];cases decide (c.Fx+1≤(c.Code.length:Int))
 ·refine ⟨_,_,rfl,?_,⟨h1,h2,by simp only;omega,by simp only;omega⟩⟩
  have:=Vy (uO .u64 (IntKind.u64.wrap ((IntKind.u64.wrap ((IntKind.u64.wrap (c.FG*6364136223846793005))+(IntKind.u64.wrap Fo)))+1442695040888963407)) 40);rw [p0 (by omega)]
  exact this
 ·exact ⟨_,_,rfl,e2,⟨h1,h2,by simp only;omega,by simp only;omega⟩⟩
theorem QB {x n:Int} (hx:0≤x) (hn:1<n): ∃r,md x n=some r∧0≤r∧r<n:=by
 unfold md;rw [if_neg (by omega)]
 refine ⟨_,rfl,?_,?_⟩
 ·rw [Int.tmod_eq_emod_of_nonneg hx];exact Int.emod_nonneg _ (by omega)
 ·rw [Int.tmod_eq_emod_of_nonneg hx];exact Int.emod_lt_of_pos _ (by omega)
theorem Oh {c:Ft} {b n:Int} (h:FO c b) (hb:b≤4000000000000000000): ∃x d,GW c n=some (x,d)∧(0≤x∧(1≤n→x<n))∧FO d (b+2):=by
 unfold GW;by_cases hn:n≤1
 ·rw [show decide (n≤1)=true by simpa using hn]
  exact ⟨0,c,rfl,⟨by omega,by omega⟩,h.mono (by omega)⟩
 ·rw [show decide (n≤1)=false by simpa using hn]
  obtain ⟨x,d,e1,e2,e3⟩:=QA h (by omega)
  simp only [cond_false];rw [e1,Option.bind_some];cases decide (200<n)
  ·simp only [cond_false,Option.bind_some];obtain ⟨r,r1,r2,r3⟩:=QB (x:=x) e2.1 (show 1<n by omega)
   rw [r1];exact ⟨r,_,rfl,⟨r2,fun _=>r3⟩,e3.mono (by omega)⟩
  ·simp only [cond_true];obtain ⟨y,d',f1,f2,f3⟩:=QA e3 (by omega)
   rw [f1];simp only [Option.bind_some];rw [p0 (x:=x*256) (by omega),p0 (by omega)]
   obtain ⟨r,r1,r2,r3⟩:=QB (x:=x*256+y) (by omega) (show 1<n by omega)
   rw [r1];exact ⟨r,_,rfl,⟨r2,fun _=>r3⟩,f3.mono (by omega)⟩
theorem Vz {c:Ft} {b n:Int} (h:FO c b) (hb:b≤4000000000000000000): ∃x d,IC c n=some (x,d)∧FO d (b+2):=by
 obtain ⟨x,d,e1,_,e3⟩:=Oh (n:=n) h hb;unfold IC;rw [e1];exact ⟨_,_,rfl,e3⟩
theorem VA {c:Ft} {b:Int} {l:List Int} (h:FO c b) (hb:b≤4000000000000000000) (hl:l≠[]): ∃x d,I6 c l=some (x,d)∧x∈l∧FO d (b+2):=by
 obtain ⟨x,d,e1,e2,e3⟩:=Oh (n:=(l.length:Int)) h hb;have dr:1≤l.length:=by cases l with|nil=>exact absurd rfl hl|cons _ _=>simp
 unfold I6;rw [e1];obtain ⟨n,rfl⟩:=Int.eq_ofNat_of_zero_le e2.1;have hn:n<l.length:=by have:=e2.2 (by omega);omega
 simp only [Option.bind_some];rw [qf hn];exact ⟨_,_,rfl,List.getElem_mem hn,e3⟩
theorem VB {l:List Int} (hl:l.length≤1048576) (hb: ∀x∈l,0≤x∧x≤255):FO ⟨l,0,0⟩ 0:=⟨hl,hb,by simp,by simp⟩
theorem Oi {α :Type} {l:List α} {i:Int} (h0:0≤i) (h:i≤l.length):cy l 0 i=some (l.take i.toNat):=by
 simp [cy];omega
theorem Oj {α :Type} {l:List α} {k:Nat} (h:k≤l.length):cy l (k:Int) (l.length:Int)=some (l.drop k):=by
 simp only [cy];rw [if_pos (by omega)]
 congr 1;simp only [Int.toNat_natCast];exact List.take_of_length_le (by simp)
theorem QC {α :Type} {a b c:List α} (h:a ++ b=c):c.take a.length=a∧c.drop a.length=b:=by subst h;simp
theorem QD {l:List Task} (hl:l.length≤10):JM l=some (Gu (Fj l) (Fz l.length)):=by
 have key:dP (L9 l) ([],0)=some (Gu (Fj l) (Fz l.length)):=by
  refine wS (fun x:List Int×Int=>l.length-x.2.toNat) (fun x=>0≤x.2∧x.2≤l.length∧x.1=Gu (Fj l) (Fz x.2.toNat)) _ ?_ _ ⟨by simp,by simp,by simp [Fz,Gu]⟩
  rintro ⟨c,i⟩ ⟨i0,i1,i2⟩;simp only at i0 i1 i2;obtain ⟨s1,s2,s3⟩:=Lz (Fj l) i.toNat (Fz i.toNat) (Ia _);rw [←i2] at s1 s2 s3;simp only [L9];by_cases hi:i<l.length
  ·have ax:i.toNat<l.length:=by omega
   have hf:=Vv (l:=l) (a:=c) (by omega) (fun y hy=>by
    have:=HR.1 ((s3 y).1 hy);omega) (x:=l[i.toNat]) (i:=i) (by unfold Fj;rw [List.getElem?_eq_getElem ax])
   have hw:(c.takeWhile fun y=>decide (Fj l y≤Fj l i)).length≤c.length:=by
    have:=congrArg List.length (List.takeWhile_append_dropWhile (p:=fun y=>decide (Fj l y≤Fj l i)) (l:=c));rw [List.length_append] at this;omega
   have Ok:=List.takeWhile_append_dropWhile (p:=fun y=>decide (Fj l y≤Fj l i)) (l:=c);have e1:cy c 0 ((c.takeWhile fun y=>decide (Fj l y≤Fj l i)).length:Int)=some (c.takeWhile fun y=>decide (Fj l y≤Fj l i)):=by
    rw [Oi (by omega) (by omega),Int.toNat_natCast]
    rw [(QC Ok).1]
   have e2:cy c ((c.takeWhile fun y=>decide (Fj l y≤Fj l i)).length:Int) (c.length:Int)=some (c.dropWhile fun y=>decide (Fj l y≤Fj l i)):=by
    rw [Oj hw,(QC Ok).2]
   have Zm:(c.dropWhile fun y=>decide (Fj l y≤Fj l i)).length≤c.length:=by
    have:=congrArg List.length Ok;rw [List.length_append] at this;omega
   rw [qh hi,EZ i0 hi];simp only [cond_true,Option.bind_some,hf,e1];rw [ER (by simp<;>omega) (by omega),Option.bind_some,ER (by simp<;>omega) (by omega),Option.bind_some,e2,Option.bind_some,ER (by simp<;>omega) (by omega),Option.bind_some,p0 (by omega)]
   refine ⟨_,rfl,⟨by simp only;omega,by simp only;omega,?_⟩,by simp only;omega⟩
   simp only;rw [show (i+1).toNat=i.toNat+1 by omega,Qy,Og,←i2,show ((i.toNat:Nat):Int)=i by omega]
   simp [Gk]
  ·rw [wW hi];refine ⟨_,rfl,?_⟩;simp only;rw [i2,show i.toNat=l.length by omega]
 unfold JM;rw [key];rfl
theorem ua {c:Ft} {b n:Int} (h:FO c b) (hb:b≤4000000000000000000):cA (GW c n) fun r=>0≤r.1∧(1≤n→r.1<n)∧FO r.2 (b+2):=by
 obtain ⟨x,d,e,⟨h1,h2⟩,h3⟩:=Oh (n:=n) h hb;exact ⟨_,e,h1,h2,h3⟩
theorem Ol {c:Ft} {b n:Int} (h:FO c b) (hb:b≤4000000000000000000):cA (IC c n) fun r=>FO r.2 (b+2):=by
 obtain ⟨x,d,e,h3⟩:=Vz (n:=n) h hb;exact ⟨_,e,h3⟩
theorem QE {c:Ft} {b:Int} {l:List Int} (h:FO c b) (hb:b≤4000000000000000000) (hl:l≠[]):cA (I6 c l) fun r=>r.1∈l∧FO r.2 (b+2):=by
 obtain ⟨x,d,e,h2,h3⟩:=VA h hb hl;exact ⟨_,e,h2,h3⟩
theorem VC {c:Ft} {b:Int} (h:FO c b) (hb:b≤1000000000000000000):cA (J8 c) fun r=>r.1.length≤11∧FO r.2 (b+200):=by
 unfold J8;refine cA.then (ua (by assumption) (by omega)) ?_
 rintro ⟨x,QF⟩ ⟨Om,LB,J2⟩;dsimp only at Om LB J2⊢;have VD:=LB (by omega)
 refine cA.then (Ol (by assumption) (by omega)) ?_
 rintro ⟨y,Zn⟩ QH;dsimp only at QH⊢;refine cA.then (P:=fun r=>(0≤r.1∧r.1≤11)∧FO ⟨r.2.1,r.2.2.1,r.2.2.2⟩ (b+10)) ?_ ?_
 ·refine cA.EV (fun hc=> ?_) (fun hc=> ?_)
  ·refine cA.then (ua (by assumption) (by omega)) ?_
   rintro ⟨z,QI⟩ ⟨VE,QJ,I2⟩;dsimp only at VE QJ I2⊢;have Zo:=QJ (by omega)
   rw [p0 (by omega)]
   exact .ret ⟨(by first|omega|(dsimp only;omega)),I2.mono (by omega)⟩
  ·exact .ret ⟨(by first|omega|(dsimp only;omega)),QH.mono (by omega)⟩
 ·rintro ⟨n,co,a,J3⟩ ⟨hn,eH⟩;dsimp only at hn eH⊢;refine cA.then (P:=fun r=>r.1.length≤11∧FO ⟨r.2.1,r.2.2.1,r.2.2.2⟩ (b+120)) (cA.dP (fun s=>s.2.1.toNat) (fun s=>((0≤s.2.1∧s.2.1≤11)∧s.1.length+s.2.1.toNat≤11)∧FO ⟨s.2.2.1,s.2.2.2.1,s.2.2.2.2⟩ (b+10+10*(11-s.2.1))) ?_ ⟨⟨(by first|omega|(dsimp only;omega)),by simp only [List.length_nil];omega⟩,eH.mono (by first|omega|(dsimp only;omega))⟩) ?_
  ·rintro ⟨l,n,co,a,J3⟩ ⟨⟨h1,h2⟩,eH⟩;dsimp only at h1 h2 eH⊢;unfold MJ;dsimp only;refine cA.EV (fun hc=> ?_) (fun hc=> ?_)
   ·simp only [decide_eq_true_eq] at hc;refine cA.then (ua (by assumption) (by omega)) ?_
    rintro ⟨u,On⟩ ⟨LC,J4,I3⟩;dsimp only at LC J4 I3⊢;refine cA.then (ua (by assumption) (by omega)) ?_
    rintro ⟨v,QK⟩ ⟨Oo,MH,I4⟩;dsimp only at Oo MH I4⊢;rw [ER (by simp<;>omega) (by omega),Option.bind_some,p0 (x:=n-1) (by omega)]
    exact .ret ⟨⟨⟨(by first|omega|(dsimp only;omega)),by simp only [List.length_append,List.length_singleton];omega⟩,I4.mono (by first|omega|(dsimp only;omega))⟩,(by first|omega|(dsimp only;omega))⟩
   ·simp only [decide_eq_false_iff_not,Int.not_lt] at hc;exact .ret ⟨(by first|omega|(dsimp only;omega)),eH.mono (by first|omega|(dsimp only;omega))⟩
  ·rintro ⟨l,co,a,J3⟩ ⟨h1,eH⟩;dsimp only at h1 eH⊢;refine cA.then (P:=fun r=>(r.1=true→0<l.length)∧FO ⟨r.2.1,r.2.2.1,r.2.2.2⟩ (b+130)) ?_ ?_
   ·refine cA.EV (fun hc=> ?_) (fun hc=> ?_)
    ·simp only [decide_eq_true_eq] at hc;refine cA.then (Ol (by assumption) (by omega)) ?_
     rintro ⟨z,QI⟩ I2;dsimp only at I2⊢;exact .ret ⟨fun _=>by omega,I2.mono (by omega)⟩
    ·exact .ret ⟨fun h=>by simp at h,eH.mono (by omega)⟩
   ·rintro ⟨q,co,a,J3⟩ ⟨hq,eH⟩;dsimp only at hq eH⊢;refine cA.then (P:=fun r=>r.1.length≤11∧FO ⟨r.2.1,r.2.2.1,r.2.2.2⟩ (b+200)) ?_ (fun r hr=> .ret hr);refine cA.EV (fun hc=> ?_) (fun hc=> ?_)
    ·have hq:=hq hc;refine cA.then (QE (by assumption) (by omega) (by simp)) ?_
     rintro ⟨u,On⟩ ⟨VF,I3⟩;dsimp only at VF I3⊢;refine cA.then (QE (by assumption) (by omega) (by simp)) ?_
     rintro ⟨v,QK⟩ ⟨VG,I4⟩;dsimp only at VG I4⊢;rw [EZ (by omega) (by omega),Option.bind_some]
     exact .ret ⟨by simp only [List.length_set];omega,I4.mono (by omega)⟩
    ·exact .ret ⟨h1,eH.mono (by omega)⟩
theorem VH {c:Ft} {b:Int} {n:Nat} (hn:n≤11) (h:FO c b) (hb:b≤1000000000000000000):cA (Ke c (n:Int)) fun r=>r.1.length=n∧FO r.2 (b+200):=by
 unfold Ke;refine cA.then (P:=fun l=>l.length=n) (cA.dP (fun s=>n-s.2.toNat) (fun s=>(0≤s.2∧s.2≤n)∧s.1.length=s.2.toNat) ?_ ⟨⟨by simp,by simp⟩,by simp⟩) ?_
 ·rintro ⟨l,k⟩ ⟨h1,h2⟩;dsimp only at h1 h2⊢;unfold MK;dsimp only;refine cA.EV (fun hc=> ?_) (fun hc=> ?_)
  ·simp only [decide_eq_true_eq] at hc;rw [ER (by simp<;>omega) (by omega),Option.bind_some,p0 (x:=k+1) (by omega)]
   exact .ret ⟨⟨⟨by dsimp only;omega,by dsimp only;omega⟩,by simp only [List.length_append,List.length_singleton];omega⟩,(by first|omega|(dsimp only;omega))⟩
  ·simp only [decide_eq_false_iff_not,Int.not_lt] at hc;exact .ret (by dsimp only;omega)
 ·intro l hl;refine cA.then (ua (by assumption) (by omega)) ?_
  rintro ⟨x,QF⟩ ⟨Om,LB,J2⟩;dsimp only at Om LB J2⊢;have VD:=LB (by omega)
  refine cA.then (P:=fun r=>r.1.length=n∧FO ⟨r.2.1,r.2.2.1,r.2.2.2⟩ (b+100)) (cA.dP (fun s=>s.2.1.toNat) (fun s=>((0≤s.2.1∧s.2.1≤6)∧s.1.length=n)∧FO ⟨s.2.2.1,s.2.2.2.1,s.2.2.2.2⟩ (b+10+10*(6-s.2.1))) ?_ ⟨⟨(by first|omega|(dsimp only;omega)),hl⟩,J2.mono (by first|omega|(dsimp only;omega))⟩) ?_
  ·rintro ⟨l,k,co,a,J3⟩ ⟨⟨h1,h2⟩,eH⟩;dsimp only at h1 h2 eH⊢;unfold ML;dsimp only;refine cA.then (P:=fun q=>q=true→0<k∧1<n) ?_ ?_
   ·refine cA.EV (fun hc=> ?_) (fun hc=> ?_)
    ·simp only [decide_eq_true_eq] at hc;exact .ret fun h=>by simp only [decide_eq_true_eq] at h;omega
    ·exact .ret fun h=>by simp at h
   ·intro q hq;refine cA.EV (fun hc=> ?_) (fun hc=> ?_)
    ·obtain ⟨q1,q2⟩:=hq hc;refine cA.then (ua (by assumption) (by omega)) ?_
     rintro ⟨u,On⟩ ⟨LC,J4,I3⟩;dsimp only at LC J4 I3⊢;have Zp:=J4 (by omega)
     refine cA.then (ua (by assumption) (by omega)) ?_
     rintro ⟨v,QK⟩ ⟨Oo,MH,I4⟩;dsimp only at Oo MH I4⊢;have Zq:=MH (by omega)
     rw [EZ (by omega) (by omega),Option.bind_some,EZ (by omega) (by omega),Option.bind_some,Option.bind_some,EZ (by omega) (by simp only [List.length_set];omega),Option.bind_some,p0 (x:=k-1) (by omega)]
     exact .ret ⟨⟨⟨(by first|omega|(dsimp only;omega)),by simp only [List.length_set];omega⟩,I4.mono (by first|omega|(dsimp only;omega))⟩,(by first|omega|(dsimp only;omega))⟩
    ·exact .ret ⟨h2,eH.mono (by first|omega|(dsimp only;omega))⟩
  ·rintro ⟨l,co,a,J3⟩ ⟨h1,eH⟩;dsimp only at h1 eH⊢;refine cA.then (P:=fun r=>(r.1=true→0<n)∧FO ⟨r.2.1,r.2.2.1,r.2.2.2⟩ (b+110)) ?_ ?_
   ·refine cA.EV (fun hc=> ?_) (fun hc=> ?_)
    ·simp only [decide_eq_true_eq] at hc;refine cA.then (Ol (by assumption) (by omega)) ?_
     rintro ⟨z,QI⟩ I2;dsimp only at I2⊢;exact .ret ⟨fun _=>by omega,I2.mono (by omega)⟩
    ·exact .ret ⟨fun h=>by simp at h,eH.mono (by omega)⟩
   ·rintro ⟨q,co,a,J3⟩ ⟨hq,eH⟩;dsimp only at hq eH⊢;refine cA.then (P:=fun r=>r.1.length=n∧FO ⟨r.2.1,r.2.2.1,r.2.2.2⟩ (b+200)) ?_ (fun r hr=> .ret hr);refine cA.EV (fun hc=> ?_) (fun hc=> ?_)
    ·have hq:=hq hc;rw [p0 (by omega)]
     refine cA.then (ua (by assumption) (by omega)) ?_
     rintro ⟨u,On⟩ ⟨LC,J4,I3⟩;dsimp only at LC J4 I3⊢;rw [EZ (by omega) (by omega),Option.bind_some]
     exact .ret ⟨by simp only [List.length_set];omega,I3.mono (by omega)⟩
    ·exact .ret ⟨h1,eH.mono (by omega)⟩
theorem VI {l:List Int} (hl:l.length≤1048576) (hb: ∀x∈l,0≤x∧x≤255):cA (Kk l) fun r=>r.1.length≤11∧r.2.length=r.1.length:=by
 unfold Kk;have h:=VB hl hb;refine cA.then (VC (by assumption) (by omega)) ?_
 rintro ⟨x,QF⟩ ⟨QL,J2⟩;dsimp only at QL J2⊢;refine cA.then (VH (by omega) (by assumption) (by omega)) ?_
 rintro ⟨y,c⟩ ⟨h1,_⟩;exact .ret ⟨QL,h1⟩
theorem QM {l:List Int} (hl:l.length≤1048576):KS l l=some true:=by
 unfold KS;rw [E8 (l:=l) (fun k hk=>by
  simp only [Md];rw [qh (by omega),qf hk,p0 (by omega)]
  simp) (by simp [Md])]
 simp
theorem VJ (g:Int→Int→Option Int):Jf [] g=some []:=by
 unfold Jf KD;have e0:dP (KB (([]:List Int).length:Int) g) ([],0,20)=some ([],0):=by
  rw [lO];rfl
 have e2:dP (KC (([]:List Int).length:Int)) 20=some ():=by
  rw [lO];rfl
 have one:IG [] 0 (([]:List Int).length:Int) g=some []:=by
  unfold IG;rw [p0 (by omega),lO];rfl
 rw [e0,Option.bind_some];simp only;rw [one,Option.bind_some,e2];rfl
theorem VK {l:List Task} (hl:l.length≤10) (ht: ∀x∈l,Gb x=true):Jg l=some (Gu (Fj l) (Fz l.length)):=by
 by_cases h0:0<l.length
 ·exact Vs hl h0 ht
 ·have:l=[]:=List.eq_nil_of_length_eq_zero (by omega)
  subst this;unfold Jg;rw [Qz (by simp),Option.bind_some]
  have e:Fz ([]:List Task).length=[]:=rfl;rw [e,VJ];rfl
theorem VL (d:Int→Int) (n:Nat):Gj (Gu d (Fz n)) n:=by
 obtain ⟨_,s2,s3⟩:=Lz d n (Fz n) (Ia n);exact Ob s2 fun x h0 h1=>(s3 x).2 (HR.2 ⟨h0,h1⟩)
theorem VM {o:List Int} {n:Nat} (h:Gj o n):(o.map Int.toNat).Nodup:=by
 rw [List.nodup_iff_pairwise_ne,List.pairwise_map];exact (List.nodup_iff_pairwise_ne.1 h.nd).imp_of_mem fun {a b} ha hb J5 e=>J5 (by have:=h.bF a ha;have:=h.bF b hb;omega)
theorem VN {o:List Int} {n:Nat} (h:Gj o n) (k:Nat):k∈o.map Int.toNat↔k<n:=by
 rw [List.mem_map];constructor
 ·rintro ⟨x,hx,rfl⟩;have:=h.bF x hx;omega
 ·intro hk;exact ⟨(k:Int),h.all _ (by omega) (by omega),by omega⟩
def FB (l:List Task) (x:Int):Int:=Gr l x.toNat
theorem QN {l:List Task} (ht: ∀x∈l,Gb x=true) (x:Int):0≤FB l x∧FB l x≤20:=Qk ht x.toNat
theorem Jx {l:List Task} (ht: ∀x∈l,Gb x=true) {k:Int} (h0:0≤k) (h1:k<l.length): ∃x,idx l k=some x∧x.Fi=FB l k∧x.End=Fj l k∧(1≤x.Fi∧x.Fi≤20)∧0≤x.End∧x.End≤200:=by
 have ax:k.toNat<l.length:=by omega
 have hx:=ht _ (List.getElem_mem ax);simp only [Gb,Bool.and_eq_true,JZ] at hx;refine ⟨l[k.toNat],EZ h0 h1,?_,?_,hx.1,hx.2⟩
 ·unfold FB Gr;rw [List.getElem?_eq_getElem ax]
 ·unfold Fj;rw [List.getElem?_eq_getElem ax]
theorem Oq {l:List Task} (ht: ∀x∈l,Gb x=true): ∀t:List Int,0≤Fv (FB l) t∧Fv (FB l) t≤20*t.length
 |[]=>by simp [Fv]
 |x::t=>by
  have h1:=QN ht x;have h2:=Oq ht t;rw [IB,List.length_cons];omega
theorem VO {l:List Task} (ht: ∀x∈l,Gb x=true) {c:List Int} (hc:0<c.length) (hl:c.length≤1000) (cp: ∀x∈c,0≤x∧x<l.length):
 ∃(i:Nat) (h:i<c.length),dP (JH l c) (0,0)=some (i:Int)∧ ∀x∈c,FB l x≤FB l (c[i]):=by
 have key:cA (dP (JH l c) (0,0)) fun r=> ∃(i:Nat) (h:i<c.length),r=(i:Int)∧ ∀x∈c,FB l x≤FB l (c[i]):=by
  refine cA.dP (fun s=>c.length-s.2.toNat) (fun s=>0≤s.2∧s.2≤c.length∧ ∃(i:Nat) (h:i<c.length),s.1=(i:Int)∧ ∀x∈c.take s.2.toNat,FB l x≤FB l (c[i])) ?_ ⟨by simp,by simp,0,hc,rfl,by simp⟩
  rintro ⟨w,j⟩ ⟨QO,j1,i,hi,hw,hm⟩;simp only at QO j1 hw hm;subst hw;unfold JH;dsimp only;by_cases hj:j<c.length
  ·have eg:j.toNat<c.length:=by omega
   obtain ⟨a0,a1⟩:=cp _ (List.getElem_mem eg);obtain ⟨b0,b1⟩:=cp _ (List.getElem_mem hi);obtain ⟨x,e1,e2,_,_,_⟩:=Jx ht a0 a1;obtain ⟨y,f1,f2,_,_,_⟩:=Jx ht b0 b1;rw [qh hj,EZ QO hj,qf hi];simp only [cond_true,Option.bind_some];rw [e1,f1];simp only [Option.bind_some];rw [e2,f2,p0 (by omega)]
   have Jy:c.take (j+1).toNat=c.take j.toNat ++ [c[j.toNat]]:=by rw [show (j+1).toNat=j.toNat+1 by omega,List.take_succ_eq_append_getElem eg]
   by_cases ax:FB l c[i]<FB l c[j.toNat]
   ·rw [qh ax];refine .ret ⟨⟨by simp only;omega,by simp only;omega,j.toNat,eg,by simp only;omega,fun z hz=> ?_⟩,by simp only;omega⟩
    simp only at hz;rw [Jy] at hz;rcases List.mem_append.1 hz with hz|hz
    ·have:=hm z hz;omega
    ·simp only [List.mem_singleton] at hz;subst hz;omega
   ·rw [wW ax];refine .ret ⟨⟨by simp only;omega,by simp only;omega,i,hi,rfl,fun z hz=> ?_⟩,by simp only;omega⟩
    simp only at hz;rw [Jy] at hz;rcases List.mem_append.1 hz with hz|hz
    ·exact hm z hz
    ·simp only [List.mem_singleton] at hz;subst hz;omega
  ·rw [wW hj];refine .ret ⟨i,hi,rfl,fun z hz=>hm z ?_⟩
   rwa [List.take_of_length_le (by omega)]
 obtain ⟨r,e,i,hi,rfl,hm⟩:=key;exact ⟨i,hi,e,hm⟩
theorem VP (l:List Task) (c:List Int):MQ l c=JH l c:=rfl
theorem VQ {c:List Int} {i:Nat} (hi:i<c.length) (hl:c.length≤1000):KF c (i:Int) ((i:Int)+1)=some (c.eraseIdx i):=by
 have e1:cy c (i:Int) ((i:Int)+1)=some ((c.take (i+1)).drop i):=by
  simp only [cy];rw [if_pos (by omega)]
  congr 1;rw [show ((i:Int)+1).toNat-(i:Int).toNat=1 by omega,Int.toNat_natCast,List.drop_take];simp
 have e2:cy c ((i:Int)+1) (c.length:Int)=some (c.drop (i+1)):=by
  have:=Oj (l:=c) (k:=i+1) (by omega)
  rwa [show ((i+1:Nat):Int)=(i:Int)+1 by omega] at this
 unfold KF;rw [e1,Option.bind_some,Vw (by omega),cond_false,Oi (by omega) (by omega),Option.bind_some,e2,Option.bind_some,Int.toNat_natCast,ER (by simp<;>omega) (by omega),List.eraseIdx_eq_take_drop_succ]
 rfl
theorem VR {l:List Task} (hl:l.length≤10) (ht: ∀x∈l,Gb x=true) {e:List Int} (he:Gj e l.length) (hs:e.Pairwise fun y z=>Fj l y≤Fj l z):
 ∃bF out:List Int,dP (KH l e) ([],[],0,0)=some (bF,out)∧dP (KK l e) ([],[],0,0)=some (bF,out)∧Hq (FB l) (Fj l) e bF∧(bF ++ out).Perm e:=by
 have hlen:=he.len
 suffices h: ∃r,dP (KH l e) ([],[],0,0)=some r∧dP (KK l e) ([],[],0,0)=some r∧Hq (FB l) (Fj l) e r.1∧(r.1 ++ r.2).Perm e by
  obtain ⟨⟨a,b⟩,h⟩:=h;exact ⟨a,b,h⟩
 refine EP (fun s:List Int×List Int×Int×Int=>e.length-s.2.2.2.toNat) (fun s:List Int×List Int×Int×Int=>0≤s.2.2.2∧s.2.2.2≤e.length∧Hq (FB l) (Fj l) (e.take s.2.2.2.toNat) s.1∧(s.1 ++ s.2.1).Perm (e.take s.2.2.2.toNat)∧s.2.2.1=Fv (FB l) s.1) (fun r:List Int×List Int=>Hq (FB l) (Fj l) e r.1∧(r.1 ++ r.2).Perm e) ?_ _
  ⟨by simp,by simp,by simpa using Hq.nil _ _,by simp,rfl⟩
 rintro ⟨bF,out,now,i⟩ ⟨i0,i1,i2,i3,i4⟩;simp only at i0 i1 i2 i3 i4;subst i4;simp only [KH,KK];by_cases hi:i<e.length
 ·have ax:i.toNat<e.length:=by omega
  have Jy:e.take (i+1).toNat=e.take i.toNat ++ [e[i.toNat]]:=by rw [show (i+1).toNat=i.toNat+1 by omega,List.take_succ_eq_append_getElem ax]
  have hk:=he.bF _ (List.getElem_mem ax);have hd: ∀z∈e.take i.toNat,Fj l z≤Fj l e[i.toNat]:=fun z hz=>by
   obtain ⟨j,hj,rfl⟩:=List.mem_iff_getElem.1 hz;rw [List.getElem_take];simp only [List.length_take] at hj;exact List.pairwise_iff_getElem.1 hs j i.toNat (by omega) ax (by omega)
  obtain ⟨x,GG,Hd,x3,Fp,Fo⟩:=Jx ht hk.1 hk.2;have ld:bF.length+out.length≤10:=by
   have:=i3.length_eq;rw [List.length_append,List.length_take] at this;omega
  have Zr:=Oq ht bF;rw [qh hi,EZ i0 hi];simp only [cond_true,Option.bind_some];rw [ER (by simp<;>omega) (by omega),GG]
  simp only [Option.bind_some];rw [p0 (x:=Fv (FB l) bF+x.Fi) (by omega),p0 (x:=i+1) (by omega)]
  by_cases j_:Fv (FB l) bF+x.Fi≤x.End
  ·rw [qh j_];refine ⟨_,rfl,rfl,⟨by simp only;omega,by simp only;omega,?_,?_,?_⟩,by simp only;omega⟩
   ·simp only;rw [Jy];exact Vp i2 (by rw [Hd,x3] at j_;exact j_)
   ·simp only;rw [Jy];have:=i3.append_right [e[i.toNat]];refine List.Perm.trans ?_ this;rw [List.append_assoc,List.append_assoc];exact List.Perm.append_left bF (List.perm_append_comm)
   ·simp only;rw [Jw,Hd];simp [Fv]
  ·rw [wW j_];obtain ⟨w,hw,w1,w2⟩:=VO ht (c:=bF ++ [e[i.toNat]]) (by simp) (by simp<;>omega) (fun z hz=>by
    rcases List.mem_append.1 hz with hz|hz
    ·exact he.bF z (List.mem_of_mem_take (i2.sub.subset hz))
    ·simp only [List.mem_singleton] at hz;subst hz;exact hk)
   have QP:0≤(bF ++ [e[i.toNat]])[w]∧(bF ++ [e[i.toNat]])[w]<l.length:=by
    rcases List.mem_append.1 (List.getElem_mem hw) with hz|hz
    ·exact he.bF _ (List.mem_of_mem_take (i2.sub.subset hz))
    ·simp only [List.mem_singleton] at hz;rw [hz];exact hk
   obtain ⟨y,Ie,QQ,_,Zs,_⟩:=Jx ht QP.1 QP.2;have ml:(bF ++ [e[i.toNat]]).length≤11:=by simp<;>omega
   have e2:cy (bF ++ [e[i.toNat]]) ((w:Int)+1) ((bF ++ [e[i.toNat]]).length:Int)=some ((bF ++ [e[i.toNat]]).drop (w+1)):=by
    have:=Oj (l:=bF ++ [e[i.toNat]]) (k:=w+1) (by omega)
    rwa [show ((w+1:Nat):Int)=(w:Int)+1 by omega] at this
   rw [VP,w1];simp only [cond_false,Option.bind_some];rw [qf hw];simp only [Option.bind_some];rw [Ie];simp only [Option.bind_some];rw [ER (by simp<;>omega) (by omega),p0 (x:=(w:Int)+1) (by omega),VQ hw (by omega),Oi (by omega) (by omega)]
   simp only [Option.bind_some];rw [ER (by simp<;>omega) (by omega),Option.bind_some,e2,Option.bind_some,ER (by simp<;>omega) (by omega)]
   simp only [Option.bind_some];rw [p0 (x:=Fv (FB l) bF+x.Fi-y.Fi) (by omega)]
   rw [Int.toNat_natCast,List.nil_append,←List.eraseIdx_eq_take_drop_succ];have MF:=wE (bF ++ [e[i.toNat]]) w hw;refine ⟨_,rfl,rfl,⟨by simp only;omega,by simp only;omega,?_,?_,?_⟩,by simp only;omega⟩
   ·simp only;rw [Jy];exact Vq (fun z=>(QN ht z).1) i2 hd (by rw [Hd,x3] at j_;exact j_) hw w2
   ·simp only;rw [Jy];refine List.Perm.trans ?_ (i3.append_right [e[i.toNat]]);refine List.Perm.trans (l₂ :=(bF ++ [e[i.toNat]]) ++ out) ?_ ?_
    ·refine List.Perm.trans ?_ (MF.append_right out);refine List.Perm.trans ?_ List.perm_middle;exact List.Perm.append_left _ (List.perm_append_singleton _ _)
    ·rw [List.append_assoc,List.append_assoc];exact List.Perm.append_left bF (List.perm_append_comm)
   ·simp only;have h1:Fv (FB l) ((bF ++ [e[i.toNat]])[w]::(bF ++ [e[i.toNat]]).eraseIdx w)=Fv (FB l) (bF ++ [e[i.toNat]]):=by
     unfold Fv;exact LA (MF.map _)
    rw [IB,Jw,IB,Qp] at h1;omega
 ·rw [wW hi];refine ⟨_,rfl,rfl,?_⟩;have:e.take i.toNat=e:=List.take_of_length_le (by omega)
  rw [this] at i2 i3;exact ⟨i2,i3⟩
def Gf (l:List Task) (o:List Int) (k:Int):Bool:=decide (Fj l k<Gz (Gr l) (o.map Int.toNat) k.toNat)
def GM (l:List Task) (o:List Int):Nat:=(o.filter (Gf l o)).length
theorem VT {l:List Task} {o:List Int} (hl:l.length≤1048576) (_ho:o.length≤1048576) (hg:HS l=true) (lx:Gj o l.length):
 ∃c:List Int,Kr l o=some c∧Kx l o=some c∧c.length=l.length∧ ∀k:Nat,k<l.length→c[k]? =some (Gz (Gr l) (o.map Int.toNat) k):=by
 obtain ⟨g1,g2⟩:=MC.1 hg;obtain ⟨c,c1,c2,c3⟩:=Qg g1 g2 lx rfl;obtain ⟨c',d1,_,_⟩:=Qg g1 g2 lx (f:=MO l o) rfl;have:c' =c:=by
  have:some c' =some c:=d1.symm.trans c1
  exact Option.some.inj this
 subst this;unfold Kr Kx;rw [EQ (by omega) (by omega)]
 simp only [Option.bind_some];rw [c1,d1];exact ⟨c',rfl,rfl,c2,c3⟩
theorem Ot {o:List Int} {n:Nat} (h:Gj o n):o.Perm (Fz n):=
 (List.perm_ext_iff_of_nodup h.nd (Oa n)).2 fun x=>⟨fun hx=>HR.2 (h.bF x hx),fun hx=>by have:=HR.1 hx;exact h.all x this.1 this.2⟩
theorem QR {l:List Int} {q:Int→Bool} {i:Nat} (h:i<l.length):((l.take (i+1)).filter q).length=((l.take i).filter q).length+if q l[i] then 1 else 0:=by
 rw [List.take_succ_eq_append_getElem h,List.filter_append,List.length_append];cases hq:q l[i]<;>simp [hq]
theorem filter_le (l:List Int) (q:Int→Bool) (i:Nat):((l.take i).filter q).length≤l.length:=
 Nat.le_trans (List.length_filter_le _ _) (by rw [List.length_take];omega)
theorem VU {n i:Nat} (h:i<(Fz n).length):(Fz n)[i]=(i:Int):=by simp [Fz]
theorem QS {l:List Task} {o:List Int} (hl:l.length≤1048576) (ho:o.length≤1048576) (hg:HS l=true) (lx:Gj o l.length):
 Ks l o=some (GM l o:Int)∧Ky l o=some (GM l o:Int):=by
 obtain ⟨g1,g2⟩:=MC.1 hg;obtain ⟨c,c1,c2,c3,c4⟩:=VT hl ho hg lx;have eG: ∀k:Int,0≤k→k<l.length→idx c k=some (Gz (Gr l) (o.map Int.toNat) k.toNat):=fun k h0 h1=>by
  unfold idx;rw [if_pos h0];exact c4 _ (by omega)
 have hlen:=lx.len;refine ⟨?_,?_⟩
 ·unfold Ks;rw [c1,Option.bind_some];have key:dP (LU l o c) (0,0)=some (GM l o:Int):=by
   refine wS (fun s:Int×Int=>o.length-s.2.toNat) (fun s=>0≤s.2∧s.2≤o.length∧s.1=(((o.take s.2.toNat).filter (Gf l o)).length:Int)) _ ?_ _ ⟨by simp,by simp,by simp⟩
   rintro ⟨m,i⟩ ⟨i0,i1,i2⟩;simp only at i0 i1 i2;subst i2;simp only [LU];by_cases hi:i<o.length
   ·have ax:i.toNat<o.length:=by omega
    have hk:=lx.bF _ (List.getElem_mem ax);obtain ⟨x,GG,_,x3,_,_⟩:=Jx g2 hk.1 hk.2;have QT:=filter_le o (Gf l o) i.toNat;rw [qh hi,EZ i0 hi];simp only [cond_true,Option.bind_some];rw [eG _ hk.1 hk.2,Option.bind_some,GG];simp only [Option.bind_some];rw [x3,p0 (by omega),p0 (x:=i+1) (by omega)]
    have hs:=QR (q:=Gf l o) ax;cases hq:Gf l o o[i.toNat]
    ·have jt:=hq
     unfold Gf at jt;rw [jt];refine ⟨_,rfl,⟨by simp only;omega,by simp only;omega,?_⟩,by simp only;omega⟩
     simp only;rw [show (i+1).toNat=i.toNat+1 by omega,hs,hq];simp
    ·have jt:=hq
     unfold Gf at jt;rw [jt];refine ⟨_,rfl,⟨by simp only;omega,by simp only;omega,?_⟩,by simp only;omega⟩
     simp only;rw [show (i+1).toNat=i.toNat+1 by omega,hs,hq];simp
   ·rw [wW hi];refine ⟨_,rfl,?_⟩;simp only;rw [List.take_of_length_le (by omega)];rfl
  rw [key];rfl
 ·unfold Ky;rw [c2,Option.bind_some];have rY:GM l o=((Fz l.length).filter (Gf l o)).length:=((Ot lx).filter _).length_eq;have Zt:=Ia l.length;have key:dP (LZ l c) (0,0)=some (GM l o:Int):=by
   rw [rY];refine wS (fun s:Int×Int=>c.length-s.2.toNat) (fun s=>0≤s.2∧s.2≤c.length∧s.1=((((Fz l.length).take s.2.toNat).filter (Gf l o)).length:Int)) _ ?_ _ ⟨by simp,by simp,by simp⟩
   rintro ⟨m,i⟩ ⟨i0,i1,i2⟩;simp only at i0 i1 i2;subst i2;simp only [LZ];by_cases hi:i<c.length
   ·have ax:i.toNat<(Fz l.length).length:=by omega
    obtain ⟨x,GG,_,x3,_,_⟩:=Jx g2 i0 (by omega)
    have QT:=filter_le (Fz l.length) (Gf l o) i.toNat;rw [qh hi,eG _ i0 (by omega)]
    simp only [cond_true,Option.bind_some];rw [GG];simp only [Option.bind_some,LY];rw [x3];have hs:=QR (q:=Gf l o) ax;have hu:(Fz l.length)[i.toNat]=i:=by rw [VU ax];omega
    rw [hu] at hs;cases hq:Gf l o i
    ·have jt:=hq
     unfold Gf at jt;rw [jt];simp only [cond_false,Option.bind_some];rw [p0 (by omega),p0 (x:=i+1) (by omega)]
     refine ⟨_,rfl,⟨by simp only;omega,by simp only;omega,?_⟩,by simp only;omega⟩
     simp only;rw [show (i+1).toNat=i.toNat+1 by omega,hs,hq];simp
    ·have jt:=hq
     unfold Gf at jt;rw [jt];simp only [cond_true,Option.bind_some];rw [p0 (by omega),p0 (x:=i+1) (by omega)]
     refine ⟨_,rfl,⟨by simp only;omega,by simp only;omega,?_⟩,by simp only;omega⟩
     simp only;rw [show (i+1).toNat=i.toNat+1 by omega,hs,hq];simp
   ·rw [wW hi];refine ⟨_,rfl,?_⟩;simp only;rw [List.take_of_length_le (by omega)]
  rw [key];rfl
theorem Ou {l:List Task} {o:List Int} (hl:l.length≤1048576) (ho:o.length≤1048576):
 (HS l=true∧Gj o l.length∧HX l o=some ((GM l o:Int),true)∧Jd l o=some ((GM l o:Int),true))∨
 (HX l o=some (0,false)∧Jd l o=some (0,false)):=by
 unfold HX Jd LX;rw [Ly hl,MB hl];cases hg:HS l
 ·exact .inr ⟨rfl,rfl⟩
 obtain ⟨g1,g2⟩:=MC.1 hg;obtain ⟨b,e1,e2⟩:=Qd ho (n:=l.length) (by omega)
 obtain ⟨b',e3,e4⟩:=Vg ho (n:=l.length) (by omega)
 have hb:b' =b:=by rw [Bool.eq_iff_iff];exact e4.trans e2.symm
 subst hb;simp only [Bool.not_true,cond_false,cond_true,e1,e3,Option.bind_some];cases b'
 ·exact .inr ⟨rfl,rfl⟩
 ·have lx:=e2.1 rfl;obtain ⟨h1,h2⟩:=QS hl ho hg lx;simp only [Bool.not_true,cond_false];rw [h1,h2];exact .inl ⟨by simp,lx,rfl,rfl⟩
theorem QU {p d:Int→Int} {n:Nat→Int} (J6: ∀x:Int,p x=n x.toNat): ∀(t:List Int) (now:Int),t.Nodup→(∀x∈t,0≤x)→FK p d now t=true→ ∀k∈t,now+Gz n (t.map Int.toNat) k.toNat≤d k
 |[],_,_,_,_,k,hk=>by simp at hk
 |x::t,now,hn,h0,hf,k,hk=>by
  obtain ⟨hx,hn⟩:=List.nodup_cons.1 hn;rw [FK,Bool.and_eq_true,decide_eq_true_eq] at hf;rw [List.map_cons,Gz];rcases List.mem_cons.1 hk with rfl|bJ
  ·rw [if_pos rfl,←J6];exact hf.1
  ·have aI:x.toNat≠k.toNat:=fun e=>hx (by have:=h0 x (by simp);have:=h0 k hk;rw [show x=k by omega];exact bJ)
   rw [if_neg aI,←J6];have:=QU J6 t (now+p x) hn (fun y hy=>h0 y (List.mem_cons_of_mem _ hy)) hf.2 k bJ;omega
theorem QV {p:Int→Int} {n:Nat→Int} (J6: ∀x:Int,p x=n x.toNat): ∀t:List Int,Ge n (t.map Int.toNat)=Fv p t
 |[]=>rfl
 |x::t=>by rw [List.map_cons,Ge,IB,QV J6 t,J6]
theorem VV {t:List Int} (hn:t.Nodup) (h0: ∀x∈t,0≤x):(t.map Int.toNat).Nodup:=by
 rw [List.nodup_iff_pairwise_ne,List.pairwise_map];exact (List.nodup_iff_pairwise_ne.1 hn).imp_of_mem fun {a b} ha hb J5 e=>J5 (by have:=h0 a ha;have:=h0 b hb;omega)
theorem VW {l:List Task} (ht: ∀x∈l,Gb x=true) {e o:List Int} (he:Gj e l.length) (ho:Gj o l.length) (hs:e.Pairwise fun y z=>Fj l y≤Fj l z):
 FK (FB l) (Fj l) 0 (e.filter fun k=> !Gf l o k)=true:=by
 refine Qs _ _ fun a k b J5=> ?_;have bu:(a ++ k::b).Sublist e:=by rw [←J5];exact List.filter_sublist
 have Ov: ∀x∈a ++ [k],x∈e∧Gf l o x=false:=fun x hx=>by
  have:x∈e.filter fun k=> !Gf l o k:=by
   rw [J5];rcases List.mem_append.1 hx with h|h
   ·exact List.mem_append_left _ h
   ·simp only [List.mem_singleton] at h;subst h;simp
  simpa using this
 have qV:(a ++ [k]).Nodup:=by
  have h1:(a ++ [k]).Sublist (a ++ k::b):=List.Sublist.append (.refl _) (by simp)
  exact (h1.trans bu).nodup he.nd
 have hd: ∀x∈a ++ [k],Fj l x≤Fj l k:=fun x hx=>by
  rcases List.mem_append.1 hx with h|h
  ·exact (List.pairwise_append.1 (hs.sublist bu)).2.2 x h k (by simp)
  ·simp only [List.mem_singleton] at h;subst h;exact Int.le_refl _
 have h0: ∀x∈a ++ [k],0≤x:=fun x hx=>(he.bF x (Ov x hx).1).1;obtain ⟨j,hj,hle⟩:=N_ (Gr l) (fun x=>(Qk ht x).1) (o.map Int.toNat) ((a ++ [k]).map Int.toNat) (VM ho) (VV qV h0) (by simp) (fun x hx=>by
  obtain ⟨y,hy,rfl⟩:=List.mem_map.1 hx;have:=he.bF y (Ov y hy).1;exact (VN ho _).2 (by omega))
 obtain ⟨y,hy,rfl⟩:=List.mem_map.1 hj;rw [QV (p:=FB l) (fun _=>rfl),Jw,IB,Qp] at hle;have h1:=(Ov y hy).2;simp only [Gf,decide_eq_false_iff_not] at h1;have h2:=hd y hy;omega
theorem QW (q:Int→Bool): ∀l:List Int,(l.filter fun x=> !q x).length+(l.filter q).length=l.length
 |[]=>rfl
 |x::l=>by
  have:=QW q l;cases h:q x<;>simp only [List.filter_cons,h,Bool.not_true,Bool.not_false,Bool.false_eq_true,if_true,if_false,List.length_cons]<;>omega
theorem VX {l:List Task} {e o:List Int} (he:Gj e l.length) (ho:Gj o l.length):(e.filter fun k=> !Gf l o k).length+GM l o=l.length:=by
 have h1:GM l o=(e.filter (Gf l o)).length:=(((Ot ho).trans (Ot he).symm).filter _).length_eq;have h2:=QW (Gf l o) e;rw [he.len] at h2;omega
theorem VY {m:Nat} (hm:m<2^20) {k:Int} (h0:0≤k) (h1:k≤20): ∃y,sr .i64 (m:Int) (IntKind.u64.wrap k)=some y∧(zX .i64 y 1==1)=m.testBit k.toNat:=by
 rw [IntWalk.u64_in _ (by omega)]
 have e:sr .i64 (m:Int) k=some ((m/2^k.toNat:Nat):Int):=by
  unfold sr;rw [if_neg (by omega),show min k.toNat IntKind.i64.bits=k.toNat from Nat.min_eq_left (by show k.toNat≤64;omega),Int.fdiv_eq_ediv_of_nonneg _ (by exact_mod_cast Nat.zero_le (2^k.toNat))]
  congr 1
 refine ⟨_,e,?_⟩;have hle:m/2^k.toNat≤m:=Nat.div_le_self _ _;have ha:zX .i64 ((m/2^k.toNat:Nat):Int) 1=((m/2^k.toNat % 2:Nat):Int):=by
  unfold zX;rw [BitVec.ofInt_natCast,show (1:Int)=((1:Nat):Int) from rfl,BitVec.ofInt_natCast,BitVec.toNat_and,BitVec.toNat_ofNat,BitVec.toNat_ofNat,Nat.mod_eq_of_lt (by show _<2^64;omega),Nat.mod_eq_of_lt (by show _<2^64;omega),Nat.and_one_is_mod,p0 (by omega)]
 rw [ha,Nat.testBit_eq_decide_div_mod_eq];rw [Bool.eq_iff_iff];simp only [beq_iff_eq,decide_eq_true_eq];omega
def FY (e:List Int) (m:Nat):List Int:=e.filter fun k=>m.testBit k.toNat
theorem VZ {l:List Task} (hl:l.length≤10) (ht: ∀x∈l,Gb x=true) {e:List Int} (he:Gj e l.length) {m:Nat} (hm:m<2^20):
 dP (Mb l e (m:Int)) (0,0,true,0)=some (((FY e m).length:Int),FK (FB l) (Fj l) 0 (FY e m)):=by
 have hlen:=he.len;refine wS (fun s:Int×Int×Bool×Int=>e.length-s.2.2.2.toNat) (fun s=>0≤s.2.2.2∧s.2.2.2≤e.length∧s.1=((FY (e.take s.2.2.2.toNat) m).length:Int)∧s.2.1=Fv (FB l) (FY (e.take s.2.2.2.toNat) m)∧s.2.2.1=FK (FB l) (Fj l) 0 (FY (e.take s.2.2.2.toNat) m)) _ ?_ _ ⟨by simp,by simp,by simp [FY],by simp [FY,Fv],by simp [FY,FK]⟩
 rintro ⟨n,t,ok,i⟩ ⟨i0,i1,i2,i3,i4⟩;simp only at i0 i1 i2 i3 i4;subst i2 i3 i4;simp only [Mb];by_cases hi:i<e.length
 ·have ax:i.toNat<e.length:=by omega
  have hk:=he.bF _ (List.getElem_mem ax);obtain ⟨x,GG,Hd,x3,Fp,Fo⟩:=Jx ht hk.1 hk.2;obtain ⟨y,Ie,QQ⟩:=VY hm hk.1 (show e[i.toNat]≤20 by omega)
  have QT:(FY (e.take i.toNat) m).length≤e.length:=filter_le e _ _;have Zu:=Oq ht (FY (e.take i.toNat) m);have Ib:FY (e.take (i+1).toNat) m=FY (e.take i.toNat) m ++ if m.testBit (e[i.toNat]).toNat then [e[i.toNat]] else []:=by
   rw [show (i+1).toNat=i.toNat+1 by omega,List.take_succ_eq_append_getElem ax]
   unfold FY;rw [List.filter_append];cases hq:m.testBit (e[i.toNat]).toNat<;>simp [hq]
  rw [qh hi,EZ i0 hi];simp only [cond_true,Option.bind_some];rw [Ie,Option.bind_some,QQ,GG];cases hq:m.testBit (e[i.toNat]).toNat
  ·rw [hq] at Ib;simp only [Bool.false_eq_true,if_false,List.append_nil] at Ib;simp only [cond_false,Option.bind_some];rw [p0 (x:=i+1) (by omega)]
   exact ⟨_,rfl,⟨by simp only;omega,by simp only;omega,by simp only;rw [Ib],by simp only;rw [Ib],by simp only;rw [Ib]⟩,by simp only;omega⟩
  ·rw [hq] at Ib;simp only [if_true] at Ib;simp only [cond_true,Option.bind_some];rw [p0 (x:=Fv (FB l) (FY (e.take i.toNat) m)+x.Fi) (by omega),p0 (x:=i+1) (by omega),p0 (by omega)]
   have hb:(bif FK (FB l) (Fj l) 0 (FY (e.take i.toNat) m) then some (decide (Fv (FB l) (FY (e.take i.toNat) m)+x.Fi≤x.End)) else some false)=some (FK (FB l) (Fj l) 0 (FY (e.take (i+1).toNat) m)):=by
    rw [Ib,ME,Hd,x3,Int.zero_add];cases FK (FB l) (Fj l) 0 (FY (e.take i.toNat) m)<;>rfl
   rw [hb];simp only [Option.bind_some];exact ⟨_,rfl,⟨by simp only;omega,by simp only;omega,by simp only;rw [Ib];simp,by simp only;rw [Ib,Jw,Hd];simp [Fv],rfl⟩,by simp only;omega⟩
 ·rw [wW hi];refine ⟨_,rfl,?_⟩;simp only;rw [List.take_of_length_le (by omega)]
def I5 (q:Nat→Bool):Nat→Nat
 |0=>0
 |k+1=>if q k then 2^k+I5 q k else I5 q k
theorem QX (q:Nat→Bool): ∀k,I5 q k<2^k∧ ∀i,i<k→(I5 q k).testBit i=q i
 |0=>⟨by simp [I5],fun i h=>by omega⟩
 |k+1=>by
  obtain ⟨h1,h2⟩:=QX q k;have hp:2^(k+1)=2^k+2^k:=by rw [Nat.pow_succ];omega
  unfold I5;cases hq:q k
  ·simp only [Bool.false_eq_true,if_false];refine ⟨by omega,fun i hi=> ?_⟩
   by_cases MI:i<k
   ·exact h2 i MI
   ·have:i=k:=by omega
    subst this;rw [Nat.testBit_lt_two_pow h1,hq]
  ·simp only [if_true];refine ⟨by omega,fun i hi=> ?_⟩
   by_cases MI:i<k
   ·rw [Nat.testBit_two_pow_add_gt MI];exact h2 i MI
   ·have:i=k:=by omega
    subst this;rw [Nat.testBit_two_pow_add_eq,Nat.testBit_lt_two_pow h1,hq];rfl
theorem V0 {t e:List Int} (h:t.Sublist e):e.Nodup→e.filter (fun k=>decide (k∈t))=t:=by
 induction h with
 |slnil=>intro _;rfl
 |cons x h ih=>
  intro hn;obtain ⟨hx,hn⟩:=List.nodup_cons.1 hn;rw [List.filter_cons_of_neg (by simpa using fun hm=>hx (h.subset hm)),ih hn]
 |cons_cons x h ih=>
  intro hn;obtain ⟨hx,hn⟩:=List.nodup_cons.1 hn;rw [List.filter_cons_of_pos (by simp)]
  congr 1
  conv=>rhs;rw [←ih hn]
  refine List.filter_congr fun y hy=> ?_;have:y≠x:=fun e=>hx (e▸hy);simp [this]
theorem V1 {l:List Task} (hl:l.length≤10) (ht: ∀x∈l,Gb x=true) {e:List Int} (he:Gj e l.length) {bF:List Int} (hh:Hq (FB l) (Fj l) e bF):
 dP (Mc l e) (0,0)=some (bF.length:Int):=by
 obtain ⟨bu,af,xs,_,_,hb⟩:=hh;obtain ⟨N,Ox⟩: ∃N,2^l.length=N:=⟨_,rfl⟩;have Zv:N≤1024:=by rw [←Ox];exact Nat.le_trans (Nat.pow_le_pow_right (by omega) hl) (by decide)
 have ka:sl .i64 1 (IntKind.u64.wrap (l.length:Int))=some (N:Int):=by
  rw [IntWalk.u64_in _ (by omega)]
  unfold sl;have e1:min ((l.length:Int)).toNat IntKind.i64.bits=l.length:=Nat.min_eq_left (by show l.length≤64;omega)
  have e2:(1:Int)*2^l.length=(N:Int):=by rw [←Ox,Int.one_mul];norm_cast
  rw [if_neg (by omega),e1,e2,p0 (by omega)]
 refine wS (fun s:Int×Int=>N-s.2.toNat) (fun s=>0≤s.2∧s.2≤(N:Int)∧0≤s.1∧s.1≤bF.length∧ ∀m:Nat,(m:Int)<s.2→FK (FB l) (Fj l) 0 (FY e m)=true→((FY e m).length:Int)≤s.1) _ ?_ _ ⟨by simp,by simp only;omega,by simp,by simp only;omega,fun m h=>by simp only at h;omega⟩
 rintro ⟨best,i⟩ ⟨i0,i1,i2,i3,i4⟩;simp only at i0 i1 i2 i3 i4;simp only [Mc];rw [ka,Option.bind_some];by_cases hi:i<(N:Int)
 ·obtain ⟨m,rfl⟩:=Int.eq_ofNat_of_zero_le i0;rw [qh hi,VZ hl ht he (by omega)]
  simp only [cond_true,Option.bind_some];have xS:(FY e m).Sublist e:=List.filter_sublist;rw [p0 (by omega)]
  have qQ: ∀(b' :Int),best≤b' →(FK (FB l) (Fj l) 0 (FY e m)=true→((FY e m).length:Int)≤b')→ ∀m' :Nat,(m' :Int)<(m:Int)+1→FK (FB l) (Fj l) 0 (FY e m')=true→((FY e m').length:Int)≤b' :=fun b' h1 h2 m' gJ hf=>by
   by_cases V2:m' =m
   ·subst V2;exact h2 hf
   ·have:=i4 m' (by omega) hf;omega
  cases hf:FK (FB l) (Fj l) 0 (FY e m)
  ·simp only [cond_false,Option.bind_some];exact ⟨_,rfl,⟨by simp only;omega,by simp only;omega,i2,i3,qQ best (Int.le_refl _) (fun h=>by rw [hf] at h;simp at h)⟩,by simp only;omega⟩
  ·have hle:=(hb _ xS hf).1;simp only [cond_true,Option.bind_some];by_cases ax:best<((FY e m).length:Int)
   ·rw [qh ax];exact ⟨_,rfl,⟨by simp only;omega,by simp only;omega,by simp only;omega,by simp only;omega,qQ _ (by omega) (fun _=>Int.le_refl _)⟩,by simp only;omega⟩
   ·rw [wW ax];exact ⟨_,rfl,⟨by simp only;omega,by simp only;omega,i2,i3,qQ best (Int.le_refl _) (fun _=>by omega)⟩,by simp only;omega⟩
 ·rw [wW hi];refine ⟨_,rfl,?_⟩;simp only;obtain ⟨k1,k2⟩:=QX (fun k=>decide ((k:Int)∈bF)) l.length;rw [Ox] at k1;have hp:FY e (I5 (fun k=>decide ((k:Int)∈bF)) l.length)=bF:=by
   unfold FY;refine (List.filter_congr fun y hy=> ?_).trans (V0 bu he.nd);have cp:=he.bF y hy;rw [k2 _ (by omega),show ((y.toNat:Nat):Int)=y by omega]
  have:=i4 (I5 (fun k=>decide ((k:Int)∈bF)) l.length) (by omega) (by rw [hp];exact af)
  rw [hp] at this;omega
theorem V3 (a b:List Int) (ha:a.length<2^47) (hb:b.length<2^47) (Fu: ∀x∈a,0≤x∧x≤255) (_rb: ∀x∈b,0≤x∧x≤255):HY a b=some true:=by
 by_cases hs:(1048576:Int)<(a.length:Int)+(b.length:Int)
 ·unfold HY;rw [p0 (by omega),qh hs];rfl
 obtain ⟨⟨l,o⟩,e1,l1,l2⟩:=VI (l:=a) (by omega) Fu
 have e3:Km a=some (l,o):=by unfold Km;rw [e1];rfl
 simp only at l1 l2;have hl:l.length≤1048576:=by omega
 unfold HY;rw [p0 (by omega),wW hs,e3]
 simp only [cond_false,Option.bind_some];unfold JL JN JO JP;rw [Ly hl,MB hl];cases hg:HS l
 ·
  rcases Ou (l:=l) (o:=o) hl (by omega) with ⟨h,_⟩|⟨h1,h2⟩
  ·rw [hg] at h;simp at h
  ·rw [h1,h2];simp only [Option.bind_some,Bool.not_false,cond_true];rw [QM (by simp)]
   rw [qh (by omega)]
   rfl
 ·obtain ⟨g1,g2⟩:=MC.1 hg;have he:=VL (Fj l) l.length;obtain ⟨s1,_,_⟩:=Lz (Fj l) l.length (Fz l.length) (Ia _);obtain ⟨bF,out,m1,m2,hh,hp⟩:=VR g1 g2 he s1;have hlen:bF.length+out.length=l.length:=by have:=hp.length_eq;rw [List.length_append,he.len] at this;exact this
  have im:JK l=some (bF ++ out,(bF.length:Int)):=by
   unfold JK;rw [VK g1 g2,Option.bind_some,m1];simp only [Option.bind_some];rw [ER (by omega) (by omega)];rfl
  have V4:KL l=some (bF,out):=by
   unfold KL;rw [QD g1,Option.bind_some,m2];rfl
  have V5:=V1 g1 g2 he hh;have Oy:Gj (bF ++ out) l.length:=by
   refine Ob (by rw [List.length_append];exact hlen) fun x h0 h1=>hp.mem_iff.2 (he.all x h0 h1)
  have most: ∀o:List Int,Gj o l.length→l.length≤GM l o+bF.length:=fun o ho=>by
   have h1:=VX he ho;obtain ⟨xs,_,_,hb⟩:=hh.best;have h2:=(hb _ List.filter_sublist (VW g2 he ho s1)).1;omega
  have cp:GM l (bF ++ out)+bF.length=l.length:=by
   have h1:=most _ Oy;have h2:GM l (bF ++ out)≤out.length:=by
    unfold GM;rw [List.filter_append,List.length_append];have h3:bF.filter (Gf l (bF ++ out))=[]:=by
     rw [List.filter_eq_nil_iff];intro k hk;have bu:=hh.sub.subset hk;have qV:bF.Nodup:=hh.sub.nodup he.nd;have h4:=QU (p:=FB l) (n:=Gr l) (fun _=>rfl) bF 0 qV (fun x hx=>(he.bF x (hh.sub.subset hx)).1) hh.ok k hk;unfold Gf;rw [List.map_append,(MA (Gr l) (bF.map Int.toNat) (out.map Int.toNat) k.toNat).1 (List.mem_map.2 ⟨k,hk,rfl⟩)];simp only [decide_eq_true_eq];omega
    rw [h3];have:=List.length_filter_le (Gf l (bF ++ out)) out;simp only [List.length_nil];omega
   omega
  have V6:HX l (bF ++ out)=some ((GM l (bF ++ out):Int),true):=by
   rcases Ou (l:=l) (o:=bF ++ out) hl (by rw [List.length_append];omega) with ⟨_,_,h,_⟩|⟨h,_⟩
   ·exact h
   ·exfalso;unfold HX at h;obtain ⟨b,q1,q2⟩:=Qd (o:=bF ++ out) (by rw [List.length_append];omega) (n:=l.length) (by omega)
    rw [Ly hl,hg] at h;simp only [Option.bind_some,Bool.not_true,cond_false] at h;rw [q1,q2.2 Oy] at h;simp only [Option.bind_some,Bool.not_true,cond_false] at h;rw [(QS hl (by rw [List.length_append];omega) hg Oy).1] at h
    simp at h
  have main: ∀(n:Int) (ok:Bool),HX l o=some (n,ok)→Jd l o=some (n,ok)→(ok=true→ ¬n<(GM l (bF ++ out):Int))→HY a b=some true:=by
   intro n ok h1 h2 h3;unfold HY;rw [p0 (by omega),wW hs,e3]
   simp only [cond_false,Option.bind_some];unfold JL JN JO JP;rw [Ly hl,MB hl,hg,h1,h2];simp only [Option.bind_some,Bool.not_true,cond_false];rw [im,V4,QD g1];simp only [Option.bind_some];rw [V5,ER (by simp<;>omega) (by omega),List.nil_append]
   simp only [Option.bind_some];rw [ER (by omega) (by omega)]
   simp only [Option.bind_some];rw [QM (by rw [List.length_append];omega),V6]
   simp only [Option.bind_some,beq_self_eq_true,bne_self_eq_false,Bool.not_true,cond_false,cond_true];rw [p0 (x:=(l.length:Int)-(bF.length:Int)) (by omega),Vx (show ((GM l (bF ++ out):Nat):Int)=(l.length:Int)-(bF.length:Int) by omega)]
   have h4:(bif ok then some (decide (n<(GM l (bF ++ out):Int))) else some false)=some false:=by
    cases ok
    ·rfl
    ·rw [wW (h3 rfl)];rfl
   simp only [cond_false];rw [h4];simp only [Option.bind_some,cond_false];rw [qh (by omega)]
  have fin:HY a b=some true:=by
   rcases Ou (l:=l) (o:=o) hl (by omega) with ⟨_,lx,h1,h2⟩|⟨h1,h2⟩
   ·exact main _ true h1 h2 (fun _=>by have:=most o lx;omega)
   ·exact main 0 false h1 h2 (fun h=>by simp at h)
  have J7:=fin;unfold HY at J7;rw [p0 (by omega),wW hs,e3] at J7
  simp only [cond_false,Option.bind_some] at J7;unfold JL JN JO JP at J7;rw [Ly hl,MB hl,hg] at J7;exact J7
end Go.Hr
