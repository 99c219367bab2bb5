/-
  The plain law and all that it needs.
-/
import Derived.Test.YtmmomohapflagaaVeF
import Derived.Test.YtmmomohapflagaaVaF
open Go Go.VS
namespace Go.Hd
def Gy (n a b:Int):Bool:=decide (a≤n)&&decide (n≤b)
theorem Ot (n a b:Int):H_ n a b=some (Gy n a b):=by
 unfold H_ Gy;cases decide (a≤n)<;>rfl
theorem Ou (n a b:Int):IV n a b=some (Gy n a b):=by
 unfold IV Gy;cases decide (a≤n)<;>rfl
theorem HV {n a b:Int}:Gy n a b=true↔a≤n∧n≤b:=by simp [Gy]
def FI (n:Nat→Int):List Nat→Nat→Int
 |[],_=>0
 |x::r,k=>if x=k then n x else n x+FI n r k
def Fz (n:Nat→Int):List Nat→Int
 |[]=>0
 |x::r=>n x+Fz n r
theorem Lk (n:Nat→Int): ∀(l:List Nat) (x:Nat),x∈l→Fz n l=n x+Fz n (l.erase x)
 |y::l,x,h=>by
  by_cases xO:y=x
  ·subst xO;simp [Fz]
  ·have hx:x∈l:=by
    rcases List.mem_cons.1 h with h|h
    ·exact absurd h.symm xO
    ·exact h
   rw [List.erase_cons_tail (by simpa using xO)]
   simp only [Fz];rw [Lk n l x hx];omega
theorem Mr (n:Nat→Int) (hn: ∀x,0≤n x): ∀(o P:List Nat),o.Nodup→P.Nodup→P≠[]→(∀x∈P,x∈o)→ ∃j∈P,Fz n P≤FI n o j
 |[],P,_,_,aI,hs=>by
  obtain ⟨x,r,rfl⟩:=List.exists_cons_of_ne_nil aI;exact absurd (hs x (by simp)) (by simp)
 |x::o,P,ho,hP,aI,hs=>by
  obtain ⟨hx,sm⟩:=List.nodup_cons.1 ho;by_cases Kd:x∈P
  ·by_cases he:P.erase x=[]
   ·refine ⟨x,Kd,?_⟩;rw [Lk n P x Kd,he];simp [Fz,FI]
   ·obtain ⟨j,hj,h⟩:=Mr n hn o (P.erase x) sm (hP.erase x) he (fun y hy=>by
     have eF:=(hP.mem_erase_iff).1 hy
     rcases List.mem_cons.1 (hs y eF.2) with h|h
     ·exact absurd h eF.1
     ·exact h)
    have Ab:=(hP.mem_erase_iff).1 hj
    refine ⟨j,Ab.2,?_⟩;rw [Lk n P x Kd];simp only [FI];rw [if_neg (fun e=>Ab.1 e.symm)];omega
  ·obtain ⟨j,hj,h⟩:=Mr n hn o P sm hP aI (fun y hy=>by
    rcases List.mem_cons.1 (hs y hy) with h|h
    ·subst h;exact absurd hy Kd
    ·exact h)
   refine ⟨j,hj,?_⟩;simp only [FI];rw [if_neg (fun e=>by subst e;exact Kd hj)]
   have:=hn x;omega
theorem upto (n d:Nat→Int): ∀(e:List Nat) (k:Nat),k∈e→e.Nodup→e.Pairwise (fun x y=>d x≤d y)→ ∃P:List Nat,P≠[]∧P.Nodup∧(∀x∈P,x∈e∧d x≤d k)∧FI n e k=Fz n P
 |x::e,k,hk,qV,hs=>by
  obtain ⟨hx,vj⟩:=List.nodup_cons.1 qV;obtain ⟨h1,h2⟩:=List.pairwise_cons.1 hs;by_cases Ms:x=k
  ·subst Ms;exact ⟨[x],by simp,by simp,by simp,by simp [FI,Fz]⟩
  ·have bJ:k∈e:=by
    rcases List.mem_cons.1 hk with h|h
    ·exact absurd h.symm Ms
    ·exact h
   obtain ⟨P,p1,p2,p3,p4⟩:=upto n d e k bJ vj h2
   refine ⟨x::P,by simp,List.nodup_cons.2 ⟨fun h=>hx (p3 x h).1,p2⟩,fun y hy=> ?_,?_⟩
   ·rcases List.mem_cons.1 hy with rfl|h
    ·exact ⟨by simp,h1 k bJ⟩
    ·exact ⟨List.mem_cons_of_mem _ (p3 y h).1,(p3 y h).2⟩
   ·simp only [FI,Fz];rw [if_neg Ms,p4]
theorem Tc (n d:Nat→Int) (hn: ∀x,0≤n x) {e o:List Nat} (he:e.Nodup) (ho:o.Nodup) (hs:e.Pairwise fun x y=>d x≤d y) (hm: ∀x∈e,x∈o) {k:Nat} (hk:k∈e): ∃j∈o,FI n e k-d k≤FI n o j-d j:=by
 obtain ⟨P,p1,p2,p3,p4⟩:=upto n d e k hk he hs;obtain ⟨j,hj,h⟩:=Mr n hn o P ho p2 p1 (fun x hx=>hm x (p3 x hx).1);refine ⟨j,hm j (p3 j hj).1,?_⟩;have:=(p3 j hj).2;omega
theorem Ll {α :Type} [DecidableEq α]: ∀(P o:List α),P.Nodup→(∀x∈P,x∈o)→P.length≤o.length
 |[],o,_,_=>by simp
 |x::P,o,hP,hs=>by
  obtain ⟨hx,Td⟩:=List.nodup_cons.1 hP;have h1:=Ll P (o.erase x) Td (fun y hy=>(List.mem_erase_of_ne (fun e=>by subst e;exact hx hy)).2 (hs y (by simp [hy])))
  have h2:x∈o:=hs x (by simp)
  have h3:=List.length_erase_of_mem h2;have h4:=List.length_pos_of_mem h2;simp only [List.length_cons];omega
theorem Ov {α :Type} [DecidableEq α]: ∀(o:List α),¬o.Nodup→ ∃x,x∈o∧x∈o.erase x
 |[],h=>absurd List.nodup_nil h
 |y::o,h=>by
  by_cases hy:y∈o
  ·exact ⟨y,by simp,by simpa using hy⟩
  ·have h' : ¬o.Nodup:=fun hn=>h (List.nodup_cons.2 ⟨hy,hn⟩)
   obtain ⟨x,h1,h2⟩:=Ov o h';have aI:x≠y:=fun e=>by subst e;exact hy h1
   refine ⟨x,by simp [h1],?_⟩
   rw [List.erase_cons_tail (by simpa using fun e=>aI e.symm)]
   exact List.mem_cons_of_mem _ h2
def Fq (n:Nat):List Int:=(List.range n).map fun (k:Nat)=>(k:Int)
theorem Hc (n:Nat):(Fq n).length=n:=by simp [Fq]
theorem Ox (n:Nat):(Fq n).Nodup:=by
 have key: ∀n:Nat,(Fq n).Pairwise (· < ·):=fun n=>by
  induction n with
  |zero=>simp [Fq]
  |succ n ih=>
   have e:Fq (n+1)=Fq n ++ [(n:Int)]:=by simp [Fq,List.range_succ]
   rw [e,List.pairwise_append];refine ⟨ih,by simp,fun x hx y hy=> ?_⟩
   simp only [List.mem_singleton] at hy;subst hy;simp only [Fq,List.mem_map,List.mem_range] at hx;obtain ⟨k,hk,rfl⟩:=hx;omega
 exact (key n).imp fun h=>by omega
theorem HC {n:Nat} {x:Int}:x∈Fq n↔0≤x∧x<n:=by
 simp only [Fq,List.mem_map,List.mem_range];constructor
 ·rintro ⟨k,hk,rfl⟩;omega
 ·rintro ⟨h0,h1⟩;exact ⟨x.toNat,by omega,by omega⟩
structure F8 (o:List Int) (n:Nat):Prop where
 len:o.length=n
 nd:o.Nodup
 bF: ∀x∈o,0≤x∧x<n
 all: ∀x:Int,0≤x→x<n→x∈o
theorem Oy {o:List Int} {n:Nat} (hl:o.length=n) (h: ∀x:Int,0≤x→x<n→x∈o):F8 o n:=by
 have hn:o.Nodup:=by
  cases hd:decide o.Nodup
  ·obtain ⟨x,h1,h2⟩:=Ov o (by simpa using hd)
   have:=Ll (Fq n) (o.erase x) (Ox n) (fun y hy=>by
    obtain ⟨h0,Te⟩:=HC.1 hy;by_cases e:y=x
    ·subst e;exact h2
    ·exact (List.mem_erase_of_ne e).2 (h y h0 Te))
   have h3:=List.length_erase_of_mem h1;have h4:=List.length_pos_of_mem h1;rw [Hc] at this;omega
  ·simpa using hd
 refine ⟨hl,hn,fun x hx=> ?_,h⟩;cases hd:decide (0≤x∧x<(n:Int))
 ·have gj:x∉Fq n:=fun hm=>by simp at hd;have:=HC.1 hm;omega
  have:=Ll (x::Fq n) o (List.nodup_cons.2 ⟨gj,Ox n⟩) (fun y hy=>by
   rcases List.mem_cons.1 hy with rfl|hy
   ·exact hx
   ·obtain ⟨h0,h1⟩:=HC.1 hy;exact h y h0 h1)
  simp only [List.length_cons,Hc] at this;omega
 ·simpa using hd
theorem Tf {o:List Int} {n:Nat} (hl:o.length=n) (hn:o.Nodup) (hi: ∀x∈o,0≤x∧x<n):F8 o n:=by
 refine ⟨hl,hn,hi,fun x h0 h1=> ?_⟩;cases hd:decide (x∈o)
 ·have hx:x∉o:=by simpa using hd
  have:=Ll (x::o) (Fq n) (List.nodup_cons.2 ⟨hx,hn⟩) (fun y hy=>by
   rcases List.mem_cons.1 hy with rfl|hy
   ·exact HC.2 ⟨h0,h1⟩
   ·exact HC.2 (hi y hy))
  simp only [List.length_cons,Hc] at this;omega
 ·simpa using hd
theorem Tg {l:List Int} (hl:l.length≤1048576) (x:Int): ∃b,Jy l x=some b∧(b=true↔x∈l):=by
 unfold Jy Kt;have key:cA (dP (Ks l x) 0) fun y=>match y with| .next ()=>x∉l| .done i=>0≤i∧x∈l:=by
  refine cA.dP (fun i:Int=>l.length-i.toNat) (fun i=>0≤i∧i≤l.length∧ ∀y∈l.take i.toNat,y≠x) ?_ ⟨by omega,by omega,by simp⟩
  rintro i ⟨i0,i1,i2⟩;simp only [Ks];by_cases hi:i<l.length
  ·have ax:i.toNat<l.length:=by omega
   rw [qh hi,EZ i0 hi];simp only [cond_true,Option.bind_some];by_cases he:x=l[i.toNat]
   ·rw [show (x==l[i.toNat])=true by simpa using he]
    exact ⟨_,rfl,i0,by rw [he];exact List.getElem_mem _⟩
   ·rw [show (x==l[i.toNat])=false by simpa using he,cond_false,p0 (by omega)]
    refine ⟨_,rfl,⟨by omega,by omega,fun y hy=> ?_⟩,by omega⟩
    rw [show (i+1).toNat=i.toNat+1 by omega,List.take_succ_eq_append_getElem ax] at hy
    rcases List.mem_append.1 hy with h' |h'
    ·exact i2 y h'
    ·simp at h';rw [h'];exact fun h=>he h.symm
  ·rw [wW hi];refine ⟨_,rfl,fun hx=> ?_⟩;rw [List.take_of_length_le (by omega)] at i2
   exact i2 x hx rfl
 obtain ⟨y,e1,e2⟩:=key;rw [e1,Option.bind_some];rcases y with ⟨⟩|i
 ·exact ⟨_,rfl,by simpa using e2⟩
 ·exact ⟨_,rfl,by simp [e2.1,e2.2]⟩
theorem Th {o:List Int} (ho:o.length≤1048576) {n:Nat} (hn:n≤1048576): ∃b,Jz o (n:Int)=some b∧(b=true↔F8 o n):=by
 unfold Jz;have key:cA (dP (Ku o (n:Int)) 0) fun y=>match y with| .next ()=> ∀x:Int,0≤x→x<n→x∈o| .done b=>b=false∧ ¬F8 o n:=by
  refine cA.dP (fun i:Int=>n-i.toNat) (fun i=>0≤i∧i≤n∧ ∀x:Int,0≤x→x<i→x∈o) ?_ ⟨by omega,by omega,fun x h0 h1=>by omega⟩
  rintro i ⟨i0,i1,i2⟩;simp only [Ku];by_cases hi:i<n
  ·rw [qh hi];obtain ⟨b,e1,e2⟩:=Tg ho i;simp only [cond_true,e1,Option.bind_some];cases b
   ·exact ⟨_,rfl,rfl,fun h=>by have:=e2.2 (h.all i i0 hi);simp at this⟩
   ·simp only [Bool.not_true,cond_false];rw [p0 (by omega)]
    refine ⟨_,rfl,⟨by omega,by omega,fun x h0 h1=> ?_⟩,by omega⟩
    by_cases hx:x<i
    ·exact i2 x h0 hx
    ·rw [show x=i by omega];exact e2.1 rfl
  ·rw [wW hi];exact ⟨_,rfl,fun x h0 h1=>i2 x h0 (by omega)⟩
 obtain ⟨y,e1,e2⟩:=key;rw [e1,Option.bind_some];rcases y with ⟨⟩|b
 ·refine ⟨_,rfl,?_⟩;rw [beq_iff_eq];constructor
  ·intro h;exact Oy (by omega) e2
  ·intro h;have:=h.len;omega
 ·exact ⟨_,rfl,by rw [e2.1];simpa using e2.2⟩
theorem Ti {l:List Int} (hl:l.length≤1048576) (x:Int): ∃b,JB l x=some b∧(b=true↔x∈l):=by
 unfold JB;have key:cA (dP (KA l x) 0) fun y=>match y with| .next ()=>x∉l| .done b=>b=true∧x∈l:=by
  refine cA.dP (fun i:Int=>l.length-i.toNat) (fun i=>0≤i∧i≤l.length∧ ∀y∈l.take i.toNat,y≠x) ?_ ⟨by omega,by omega,by simp⟩
  rintro i ⟨i0,i1,i2⟩;simp only [KA];by_cases hi:i<l.length
  ·have ax:i.toNat<l.length:=by omega
   rw [qh hi,EZ i0 hi];simp only [cond_true,Option.bind_some];by_cases he:l[i.toNat]=x
   ·rw [show (l[i.toNat]==x)=true by simpa using he]
    exact ⟨_,rfl,rfl,by rw [←he];exact List.getElem_mem _⟩
   ·rw [show (l[i.toNat]==x)=false by simpa using he,cond_false,p0 (by omega)]
    refine ⟨_,rfl,⟨by omega,by omega,fun y hy=> ?_⟩,by omega⟩
    rw [show (i+1).toNat=i.toNat+1 by omega,List.take_succ_eq_append_getElem ax] at hy
    rcases List.mem_append.1 hy with h' |h'
    ·exact i2 y h'
    ·simp at h';rw [h'];exact he
  ·rw [wW hi];refine ⟨_,rfl,fun hx=> ?_⟩;rw [List.take_of_length_le (by omega)] at i2
   exact i2 x hx rfl
 obtain ⟨y,e1,e2⟩:=key;rw [e1,Option.bind_some];rcases y with ⟨⟩|b
 ·exact ⟨_,rfl,by simpa using e2⟩
 ·exact ⟨_,rfl,by simp [e2.1,e2.2]⟩
theorem Mt {o:List Int} (ho:o.length≤1048576) {n:Nat} (_hn:n≤1048576): ∃b,JC o (n:Int)=some b∧(b=true↔F8 o n):=by
 unfold JC;by_cases hl:o.length=n
 ·rw [show ((o.length:Int) !=(n:Int))=false by simp [hl],cond_false]
  have key:cA (dP (KB o (n:Int)) 0) fun y=>match y with| .next ()=>o.Nodup∧ ∀x∈o,0≤x∧x<n| .done b=>b=false∧ ¬F8 o n:=by
   refine cA.dP (fun i:Int=>o.length-i.toNat) (fun i=>0≤i∧i≤o.length∧(o.take i.toNat).Nodup∧ ∀x∈o.take i.toNat,0≤x∧x<n) ?_ ⟨by omega,by omega,by simp,by simp⟩
   rintro i ⟨i0,i1,i2,i3⟩;simp only [KB];by_cases hi:i<o.length
   ·have ax:i.toNat<o.length:=by omega
    have ht:=List.take_succ_eq_append_getElem ax;rw [qh hi,EZ i0 hi,p0 (x:=(n:Int)-1) (by omega)]
    simp only [cond_true,Option.bind_some,Ot];cases hb:Gy o[i.toNat] 0 ((n:Int)-1)
    ·refine ⟨_,rfl,rfl,fun h=> ?_⟩;have:=h.bF _ (List.getElem_mem ax);have h' :Gy o[i.toNat] 0 ((n:Int)-1)=true:=HV.2 ⟨by omega,by omega⟩
     rw [hb] at h';simp at h'
    ·have ay:=HV.1 hb
     have ka:cy o 0 i=some (o.take i.toNat):=by simp [cy];omega
     obtain ⟨b,e1,e2⟩:=Ti (l:=o.take i.toNat) (by rw [List.length_take];omega) o[i.toNat]
     simp only [Bool.not_true,cond_false,ka,e1,Option.bind_some];cases b
     ·rw [p0 (by omega)]
      have fq:o[i.toNat]∉o.take i.toNat:=fun h=>by have:=e2.2 h;simp at this
      refine ⟨_,rfl,⟨by omega,by omega,?_,fun x hx=> ?_⟩,by omega⟩
      ·rw [show (i+1).toNat=i.toNat+1 by omega,ht,List.nodup_append]
       exact ⟨i2,by simp,fun x hx y hy=>by simp at hy;subst hy;exact fun e=>fq (e▸hx)⟩
      ·rw [show (i+1).toNat=i.toNat+1 by omega,ht] at hx
       rcases List.mem_append.1 hx with h' |h'
       ·exact i3 x h'
       ·simp at h';subst h';omega
     ·refine ⟨_,rfl,rfl,fun h=> ?_⟩;have cp:=e2.1 rfl;have h2:(o.take (i.toNat+1)).Nodup:=h.nd.sublist (List.take_sublist _ _);rw [ht,List.nodup_append] at h2;exact h2.2.2 _ cp _ (by simp) rfl
   ·rw [wW hi];rw [List.take_of_length_le (by omega)] at i2 i3
    exact ⟨_,rfl,i2,i3⟩
  obtain ⟨y,e1,e2⟩:=key;rw [e1,Option.bind_some];rcases y with ⟨⟩|b
  ·exact ⟨_,rfl,by simp only [true_iff];exact Tf hl e2.1 e2.2⟩
  ·exact ⟨_,rfl,by rw [e2.1];simpa using e2.2⟩
 ·rw [show ((o.length:Int) !=(n:Int))=true from bne_iff_ne.2 (by omega),cond_true]
  exact ⟨_,rfl,by simp only [Bool.false_eq_true,false_iff];exact fun h=>hl h.len⟩
def FP (l:List Task) (k:Nat):Int:=match l[k]? with|some x=>x.Fv|none=>0
def FT (x:Task):Bool:=Gy x.Fv 1 20&&Gy x.End 0 200
theorem Ln (n:Nat→Int): ∀(a b:List Nat) (k:Nat),(k∈a→FI n (a ++ b) k=FI n a k)∧(k∉a→FI n (a ++ b) k=Fz n a+FI n b k)
 |[],b,k=>⟨fun h=>by simp at h,fun _=>by simp [Fz]⟩
 |x::a,b,k=>by
  obtain ⟨h1,h2⟩:=Ln n a b k;simp only [List.cons_append,FI,Fz,List.mem_cons,not_or];by_cases hx:x=k
  ·simp only [if_pos hx];exact ⟨fun _=>trivial,fun h=>absurd hx.symm h.1⟩
  ·simp only [if_neg hx];refine ⟨fun h=>by rw [h1 (h.resolve_left fun e=>hx e.symm)],fun h=>by rw [h2 h.2];omega⟩
theorem Lo (n:Nat→Int): ∀a b:List Nat,Fz n (a ++ b)=Fz n a+Fz n b
 |[],b=>by simp [Fz]
 |x::a,b=>by simp only [List.cons_append,Fz,Lo n a b];omega
theorem Oz (n:Nat→Int) (h: ∀k,0≤n k∧n k≤20): ∀a:List Nat,0≤Fz n a∧Fz n a≤20*a.length
 |[]=>by simp [Fz]
 |x::a=>by
  have h1:=h x;have h2:=Oz n h a;simp only [Fz,List.length_cons];omega
theorem OA {l:List Task} (hl:l.length≤10) (ht: ∀x∈l,FT x=true) {o:List Int} (ho:F8 o l.length) {f:List Int×Int×Int→Option (LR (List Int×Int×Int) (List Int))} (hf:f=Kv l o):
 ∃c:List Int,dP f (List.replicate l.length 0,0,0)=some c∧c.length=l.length∧ ∀k:Nat,k<l.length→c[k]? =some (FI (FP l) (o.map Int.toNat) k):=by
 subst hf;have hn: ∀k,0≤FP l k∧FP l k≤20:=fun k=>by
  unfold FP;cases hk:l[k]? with
  |none=>simp
  |some x=>
   have:=ht x (List.mem_of_getElem? hk);simp only [FT,Bool.and_eq_true,HV] at this;simp only;omega
 have Bo:=ho.len;refine wR (fun x:List Int×Int×Int=>o.length-x.2.2.toNat) (fun x:List Int×Int×Int=>0≤x.2.2∧x.2.2≤o.length∧x.1.length=l.length∧x.2.1=Fz (FP l) ((o.take x.2.2.toNat).map Int.toNat)∧ ∀k:Nat,(k:Int)∈o.take x.2.2.toNat→x.1[k]? =some (FI (FP l) ((o.take x.2.2.toNat).map Int.toNat) k))
  (fun c:List Int=>c.length=l.length∧ ∀k:Nat,k<l.length→c[k]? =some (FI (FP l) (o.map Int.toNat) k)) ?_ _ ⟨by simp,by simp,by simp,by simp [Fz],by simp⟩
 rintro ⟨c,t,i⟩ ⟨i0,i1,i2,i3,i4⟩;simp only at i0 i1 i2 i3 i4;subst i3;simp only [Kv];by_cases hi:i<o.length
 ·have ax:i.toNat<o.length:=by omega
  have Mu:=List.take_succ_eq_append_getElem ax;obtain ⟨OB,q1⟩:=ho.bF _ (List.getElem_mem ax);obtain ⟨m,hm⟩:=Int.eq_ofNat_of_zero_le OB;have g9:m<l.length:=by omega
  have bH:o[i.toNat]∉o.take i.toNat:=fun h=>by
   have h2:(o.take (i.toNat+1)).Nodup:=ho.nd.sublist (List.take_sublist _ _);rw [Mu,List.nodup_append] at h2;exact h2.2.2 _ h _ (by simp) rfl
  have hb:=Oz (FP l) hn ((o.take i.toNat).map Int.toNat);rw [List.length_map,List.length_take] at hb;have OC:FP l m=l[m].Fv:=by unfold FP;rw [List.getElem?_eq_getElem g9]
  have nT:=hn m;rw [qh hi,EZ i0 hi,Option.bind_some];have e1:idx l o[i.toNat]=some l[m]:=by rw [hm];exact qf g9
  have e2:idx c o[i.toNat]=some (c[m]'(by omega)):=by rw [hm];exact qf (by omega)
  rw [e1,Option.bind_some,e2,Option.bind_some,p0 (x:=i+1) (by omega),p0 (by omega)]
  have OD:(i+1).toNat=i.toNat+1:=by omega
  refine ⟨_,rfl,⟨by simp only;omega,by simp only;omega,by simpa using i2,?_,fun k hk=> ?_⟩,by simp only;omega⟩
  ·simp only [OD,Mu,List.map_append,Lo];simp [Fz,hm,OC]
  ·simp only [OD,Mu,List.map_append] at hk⊢;rw [hm];simp only [Int.toNat_natCast];rw [List.getElem?_set];by_cases lB:m=k
   ·subst lB;rw [if_pos rfl,if_pos (by omega)]
    have:m∉(o.take i.toNat).map Int.toNat:=fun h=>by
     obtain ⟨z,hz,ED⟩:=List.mem_map.1 h;have:=ho.bF z (List.mem_of_mem_take hz)
     exact bH (by rw [hm];have:z=(m:Int):=by omega
                  rw [←this];exact hz)
    rw [(Ln _ _ _ _).2 this];simp [FI,OC]
   ·rw [if_neg lB];have bJ:(k:Int)∈o.take i.toNat:=by
     rcases List.mem_append.1 hk with h|h
     ·exact h
     ·simp at h;omega
    rw [i4 k bJ,(Ln _ _ _ _).1 (List.mem_map.2 ⟨(k:Int),bJ,by simp⟩)]
 ·rw [wW hi];rw [List.take_of_length_le (by omega)] at i4
  exact ⟨_,rfl,i2,fun k hk=>i4 k (ho.all k (by omega) (by omega))⟩
theorem Tj {l:List Task} (hl:l.length<2^60) {g:Task→Option Bool} (p:Task→Bool) (hg: ∀x∈l,g x=some (p x)):Jw l g=some (cB p l):=by
 unfold Jw;rw [E7 p (f:=Lw l g) (fun _=>rfl) hl hg];have:=nJ p l;by_cases h:cB p l<0
 ·rw [if_pos h];simp;omega
 ·rw [if_neg h];rfl
theorem Tk {l:List Task} (hl:l.length<2^60) {g:Task→Option Bool} (p:Task→Bool) (hg: ∀x∈l,g x=some (p x)):Jx l g=some (l.any p):=by
 unfold Jx;rw [Tj hl p hg,Option.bind_some,wX]
def Gh (l:List Task):Bool:=decide (l.length≤10)&&l.all FT
theorem OE {l:List Task} (hl:l.length≤1048576):IW l=some (Gh l):=by
 unfold IW Gh;by_cases h:l.length≤10
 ·rw [qh (by omega),qh h,cond_true,Tk (by omega) (fun x=> !FT x) (fun x _=>by
   unfold Kr FT;rw [Ou,Ou];cases Gy x.Fv 1 20<;>rfl),Option.bind_some,Bool.true_and,List.all_eq_not_any_not]
 ·rw [wW (by omega),wW h];rfl
theorem Lp {l:List Task} (hl:l.length≤1048576):IX l=some (Gh l):=by
 unfold IX Gh;rw [wV l (JA l) (fun k (_:Unit)=>k) (fun _ x s=>if FT x then .next s else .done (.done false)) (fun _=> .next ()) (fun k hk s=>by
  simp only [JA];rw [qh (by omega),qf hk,p0 (by omega)]
  simp only [cond_true,Option.bind_some,Ot];have e:(bif !Gy l[k].Fv 1 20 then some true else some !Gy l[k].End 0 200)=some (!FT l[k]):=by
   unfold FT;cases Gy l[k].Fv 1 20<;>rfl
  rw [e];cases h:FT l[k]<;>simp [LR.nI]) (fun s=>by simp [JA]) (),EU _ _ (fun _ _ _=>rfl)]
 cases l.all FT
 ·simp
 ·simp only [if_true,Option.bind_some,Bool.and_true];congr 1;by_cases h:l.length≤10
  ·rw [qh (by omega),qh h]
  ·rw [wW (by omega),wW h]
theorem IF {l:List Task}:Gh l=true↔l.length≤10∧ ∀x∈l,FT x=true:=by
 simp [Gh]
theorem OF {l:List Task} {o:List Int} (hl:l.length≤1048576) (ho:o.length≤1048576):
 (∃c:List Int,HK l o=some (c,true)∧HM l o=some (c,true)∧Gh l=true∧F8 o l.length∧c.length=l.length∧ ∀k:Nat,k<l.length→c[k]? =some (FI (FP l) (o.map Int.toNat) k))∨
 (HK l o=some ([],false)∧HM l o=some ([],false)∧ ¬(Gh l=true∧F8 o l.length)):=by
 unfold HK HM Hr;rw [OE hl,Lp hl];cases hg:Gh l
 ·exact .inr ⟨rfl,rfl,by simp⟩
 obtain ⟨g1,g2⟩:=IF.1 hg;obtain ⟨b,e1,e2⟩:=Th ho (n:=l.length) (by omega)
 obtain ⟨b',e3,e4⟩:=Mt ho (n:=l.length) (by omega)
 have hb:b' =b:=by rw [Bool.eq_iff_iff];exact e4.trans e2.symm
 subst hb;simp only [Bool.not_true,cond_false,cond_true,e1,e3,Option.bind_some];cases b'
 ·exact .inr ⟨rfl,rfl,fun h=>by have:=e2.2 h.2;simp at this⟩
 ·have lx:=e2.1 rfl;obtain ⟨c,c1,c2,c3⟩:=OA g1 g2 lx rfl;obtain ⟨c',d1,_,_⟩:=OA g1 g2 lx (f:=Lz l o) rfl;have:c' =c:=by
   have:some c' =some c:=d1.symm.trans c1
   exact Option.some.inj this
  subst this;refine .inl ⟨c',?_,?_,trivial,lx,c2,c3⟩
  ·unfold Kx;rw [EQ (by omega) (by omega)]
   simp only [Bool.not_true,cond_false,Option.bind_some,c1]
  ·unfold Ia;rw [EQ (by omega) (by omega)]
   simp only [Bool.not_true,cond_false,Option.bind_some,d1]
def OG (l:List Task) (c:List Int) (m:Int):Prop:=(∀(k:Nat) (x:Task) (t:Int),l[k]? =some x→c[k]? =some t→t-x.End≤m)∧ ∃(k:Nat) (x:Task) (t:Int),l[k]? =some x∧c[k]? =some t∧m=t-x.End
theorem Tl {l:List Task} {c:List Int} (hl:l.length≤10) (hc:c.length=l.length) (h0:0<l.length) (ht: ∀x∈l,FT x=true) (hr: ∀t∈c,0≤t∧t≤1000):
 ∃m,dP (Kz l c) (c[0]'(by omega)-(l[0]'(by omega)).End,0)=some m∧dP (KD l c) (c[0]'(by omega)-(l[0]'(by omega)).End,0)=some m∧OG l c m:=by
 have hx: ∀(k:Nat) (hk:k<l.length),0≤(l[k]).End∧(l[k]).End≤200∧0≤c[k]'(by omega)∧c[k]'(by omega)≤1000:=fun k hk=>by
  have h1:=ht _ (List.getElem_mem hk);have h2:=hr _ (List.getElem_mem (l:=c) (n:=k) (by omega))
  simp only [FT,Bool.and_eq_true,HV] at h1;omega
 refine EP (fun x:Int×Int=>l.length-x.2.toNat) (fun x:Int×Int=>0≤x.2∧x.2≤l.length∧(∀(k:Nat) (x' :Task) (t:Int),(k:Int)<x.2→l[k]? =some x' →c[k]? =some t→t-x'.End≤x.1)∧ ∃(k:Nat) (x' :Task) (t:Int),l[k]? =some x' ∧c[k]? =some t∧x.1=t-x'.End) (OG l c) ?_ _
  ⟨by simp,by simp,fun k x' t h=>by simp only at h;omega,0,_,_,List.getElem?_eq_getElem h0,List.getElem?_eq_getElem (by omega),rfl⟩
 rintro ⟨m,i⟩ ⟨i0,i1,i2,k',x',t',i3,i4,i5⟩;simp only at i0 i1 i2 i5;subst i5;simp only [Kz,KD];by_cases hi:i<l.length
 ·have ax:i.toNat<l.length:=by omega
  obtain ⟨b1,b2,b3,Ft⟩:=hx i.toNat ax;have gl:l[i.toNat]? =some l[i.toNat]:=List.getElem?_eq_getElem ax;have gc:c[i.toNat]? =some (c[i.toNat]'(by omega)):=List.getElem?_eq_getElem (by omega)
  rw [qh hi,EZ i0 hi,EZ i0 (show i<c.length by omega)]
  simp only [cond_true,Option.bind_some,KC];rw [p0 (x:=c[i.toNat]'(by omega)-(l[i.toNat]).End) (by omega),p0 (x:=i+1) (by omega)]
  have step: ∀(m2:Int),(t' - x'.End≤m2)→(c[i.toNat]'(by omega)-(l[i.toNat]).End≤m2)→(∀(k:Nat) (I_:Task) (t:Int),(k:Int)<i+1→l[k]? =some I_→c[k]? =some t→t-I_.End≤m2):=fun m2 h1 h2 k I_ t hk e1 e2=>by
   by_cases bX:(k:Int)<i
   ·have:=i2 k I_ t bX e1 e2;omega
   ·have:k=i.toNat:=by omega
    subst this;rw [gl] at e1;rw [gc] at e2;simp only [Option.some.injEq] at e1 e2;subst e1;subst e2;exact h2
  by_cases oK:c[i.toNat]'(by omega)-(l[i.toNat]).End>t' - x'.End
  ·rw [if_pos oK,wW (show¬c[i.toNat]'(by omega)-(l[i.toNat]).End<t' - x'.End by omega)]
   exact ⟨_,rfl,rfl,⟨by simp only;omega,by simp only;omega,step _ (by omega) (Int.le_refl _),i.toNat,_,_,gl,gc,rfl⟩,by simp only;omega⟩
  ·rw [if_neg oK];by_cases OH:c[i.toNat]'(by omega)-(l[i.toNat]).End<t' - x'.End
   ·rw [qh OH];exact ⟨_,rfl,rfl,⟨by simp only;omega,by simp only;omega,step _ (Int.le_refl _) (by omega),k',x',t',i3,i4,rfl⟩,by simp only;omega⟩
   ·rw [wW OH,show t' - x'.End=c[i.toNat]'(by omega)-(l[i.toNat]).End by omega]
    exact ⟨_,rfl,rfl,⟨by simp only;omega,by simp only;omega,step _ (by omega) (Int.le_refl _),i.toNat,_,_,gl,gc,rfl⟩,by simp only;omega⟩
 ·rw [wW hi];refine ⟨_,rfl,rfl,fun k I_ t e1 e2=>i2 k I_ t ?_ e1 e2,k',x',t',i3,i4,rfl⟩
  have:=(List.getElem?_eq_some_iff.1 e1).1;omega
theorem OI (n:Nat→Int) (h: ∀k,0≤n k∧n k≤20): ∀(o:List Nat) (k:Nat),0≤FI n o k∧FI n o k≤20*o.length
 |[],k=>by simp [FI]
 |x::o,k=>by
  have h1:=h x;have h2:=OI n h o k;simp only [FI,List.length_cons];split<;>omega
theorem OJ {l:List Task} (ht: ∀x∈l,FT x=true) (k:Nat):0≤FP l k∧FP l k≤20:=by
 unfold FP;cases hk:l[k]? with
 |none=>simp
 |some x=>
  have:=ht x (List.mem_of_getElem? hk);simp only [FT,Bool.and_eq_true,HV] at this;simp only;omega
def Ke (l:List Task) (o:List Int) (m:Int):Prop:=
 (∀(k:Nat) (x:Task),l[k]? =some x→FI (FP l) (o.map Int.toNat) k-x.End≤m)∧ ∃(k:Nat) (x:Task),l[k]? =some x∧m=FI (FP l) (o.map Int.toNat) k-x.End
theorem OK {l:List Task} {o:List Int} (hl:l.length≤1048576) (ho:o.length≤1048576):
 (∃m,G4 l o=some (m,true)∧Hs l o=some (m,true)∧Gh l=true∧F8 o l.length∧(l=[]∧m=0∨Ke l o m))∨
 (G4 l o=some (0,false)∧Hs l o=some (0,false)∧ ¬(Gh l=true∧F8 o l.length)):=by
 rcases OF hl ho with ⟨c,c1,c2,hg,lx,c3,c4⟩|⟨c1,c2,fq⟩
 ·obtain ⟨g1,g2⟩:=IF.1 hg;have Lq:Hr l o=some true:=by
   unfold Hr;rw [Lp hl,hg];obtain ⟨b,e1,e2⟩:=Mt ho (n:=l.length) (by omega)
   rw [Option.bind_some,cond_true,e1,e2.2 lx];rfl
  have Tm:Ia l o=some c:=by
   have:=c2;unfold HM at this;rw [Lq] at this;simp only [Option.bind_some,Bool.not_true,cond_false] at this;cases hd:Ia l o with
   |none=>rw [hd] at this;simp at this
   |some d=>rw [hd] at this;simp at this;rw [this]
  unfold G4 Hs;rw [c1,Lq,Option.bind_some,Option.bind_some];simp only [Bool.not_true,cond_false,Option.bind_some];by_cases h0:l.length=0
  ·have gu:l=[]:=List.eq_nil_of_length_eq_zero h0;rw [show ((l.length:Int)==0)=true by simp [h0]]
   exact .inl ⟨0,rfl,rfl,hg,lx,.inl ⟨gu,rfl⟩⟩
  ·rw [show ((l.length:Int)==0)=false by simpa using h0]
   have Tn:=OJ g2;have hr: ∀t∈c,0≤t∧t≤1000:=fun t ht=>by
    obtain ⟨k,hk⟩:=List.mem_iff_getElem?.1 ht;have jz:=(List.getElem?_eq_some_iff.1 hk).1;rw [c4 k (by omega)] at hk
    simp only [Option.some.injEq] at hk;have:=OI (FP l) Tn (o.map Int.toNat) k;rw [List.length_map,lx.len] at this;omega
   obtain ⟨m,m1,m2,m3,k,x,t,m4,OL,XF⟩:=Tl g1 c3 (by omega) g2 hr
   have To:=g2 _ (List.getElem_mem (l:=l) (n:=0) (by omega))
   have XG:=hr _ (List.getElem_mem (l:=c) (n:=0) (by omega))
   simp only [FT,Bool.and_eq_true,HV] at To;have z1:idx c (0:Int)=some (c[0]'(by omega)):=qf (k:=0) (by omega)
   have z2:idx l (0:Int)=some (l[0]'(by omega)):=qf (k:=0) (by omega)
   simp only [cond_false,Tm,z1,z2,Option.bind_some];rw [p0 (by omega),m1,m2]
   refine .inl ⟨m,rfl,rfl,hg,lx,.inr ⟨fun k x e=>m3 k x _ e (c4 k (List.getElem?_eq_some_iff.1 e).1),k,x,m4,?_⟩⟩;rw [c4 k (List.getElem?_eq_some_iff.1 m4).1] at OL;simp only [Option.some.injEq] at OL;omega
 ·have Lq:Hr l o=some false:=by
   unfold Hr;rw [Lp hl];cases hg:Gh l
   ·rfl
   ·obtain ⟨g1,_⟩:=IF.1 hg;obtain ⟨b,e1,e2⟩:=Mt ho (n:=l.length) (by omega)
    rw [Option.bind_some,cond_true,e1];cases b
    ·rfl
    ·exact absurd ⟨hg,e2.1 rfl⟩ fq
  unfold G4 Hs;rw [c1,Lq];exact .inr ⟨rfl,rfl,fq⟩
def Ja (d:Int→Int) (x:Int):List Int→List Int→List Int
 |[],b=>x::b
 |y::Fm,b=>if d x<d y then Ja d x Fm (y::b) else (y::Fm).reverse ++ x::b
def Gc (d:Int→Int) (x:Int) (a:List Int):List Int:=a.takeWhile (fun y=>decide (d y≤d x)) ++ x::a.dropWhile (fun y=>decide (d y≤d x))
theorem OM {d:Int→Int} {g:Int→Int→Option Int} {x:Int}: ∀(Fm b:List Int),(Fm.length+b.length≤1000)→(∀y∈Fm,g x y=some (d x-d y))→
 dP (JE 0 g) (Fm.reverse ++ x::b,(Fm.length:Int))=some (Ja d x Fm b)
 |[],b,_,_=>by
  rw [lO];simp only [JE];rw [wW (by simp)]
  rfl
 |y::Fm,b,hl,hg=>by
  simp only [List.length_cons] at hl;have e:(y::Fm).reverse ++ x::b=Fm.reverse ++ y::x::b:=by simp
  have i1:idx (Fm.reverse ++ y::x::b) ((Fm.length+1:Nat):Int)=some x:=by
   rw [A7,List.getElem?_append_right (by simp)];simp
  have i0:idx (Fm.reverse ++ y::x::b) (Fm.length:Int)=some y:=by
   rw [A7,List.getElem?_append_right (by simp)];simp
  have s1:(Fm.reverse ++ y::x::b).set (Fm.length+1) y=Fm.reverse ++ y::y::b:=by
   rw [List.set_append_right _ _ (by simp)];simp
  have s0:(Fm.reverse ++ y::y::b).set Fm.length x=Fm.reverse ++ x::y::b:=by
   rw [List.set_append_right _ _ (by simp)];simp
  have i2:idx (Fm.reverse ++ y::y::b) (Fm.length:Int)=some y:=by
   rw [A7,List.getElem?_append_right (by simp)];simp
  rw [lO,e];simp only [JE,List.length_cons];rw [qh (by omega),i1,p0 (x:=((Fm.length+1:Nat):Int)-1) (by omega),show ((Fm.length+1:Nat):Int)-1=(Fm.length:Int) by omega]
  simp only [cond_true,Option.bind_some,i0,hg y (by simp),Int.toNat_natCast,s1,i2,s0]
  unfold Ja;by_cases h:d x<d y
  ·rw [qh (show d x-d y<0 by omega),if_pos h]
   simp only [cond_true,Option.bind_some];exact OM Fm (y::b) (by simp only [List.length_cons];omega) (fun z hz=>hg z (by simp [hz]))
  ·rw [wW (show¬d x-d y<0 by omega),if_neg h]
   simp
theorem ON {α :Type} {p: α →Bool}: ∀l:List α,(∀z∈l,p z=true)→l.dropWhile p=[]
 |[],_=>rfl
 |x::l,h=>by
  rw [List.dropWhile_cons,h x (by simp),if_pos rfl]
  exact ON l fun z hz=>h z (by simp [hz])
theorem OO {d:Int→Int} {x:Int}: ∀(Fm b:List Int),Fm.reverse.Pairwise (fun y z=>d y≤d z)→Ja d x Fm b=Gc d x Fm.reverse ++ b
 |[],b,_=>by simp [Ja,Gc]
 |y::Fm,b,h=>by
  have e:(y::Fm).reverse=Fm.reverse ++ [y]:=by simp
  rw [e,List.pairwise_append] at h;unfold Ja;by_cases hy:d x<d y
  ·rw [if_pos hy,OO Fm (y::b) h.1,e];have Tp:decide (d y≤d x)=false:=decide_eq_false (by omega)
   unfold Gc;rw [List.takeWhile_append,List.dropWhile_append];by_cases qQ:(Fm.reverse.takeWhile fun z=>decide (d z≤d x)).length=Fm.reverse.length
   ·rw [if_pos qQ];have hd:Fm.reverse.dropWhile (fun z=>decide (d z≤d x))=[]:=by
     have:=List.takeWhile_append_dropWhile (p:=fun z=>decide (d z≤d x)) (l:=Fm.reverse);have h2:=congrArg List.length this;rw [List.length_append,qQ] at h2;exact List.eq_nil_of_length_eq_zero (by omega)
    have ht:Fm.reverse.takeWhile (fun z=>decide (d z≤d x))=Fm.reverse:=by
     have:=List.takeWhile_append_dropWhile (p:=fun z=>decide (d z≤d x)) (l:=Fm.reverse);rw [hd,List.append_nil] at this;exact this
    rw [hd,ht];simp [List.takeWhile,List.dropWhile,Tp]
   ·rw [if_neg qQ];have hd:(Fm.reverse.dropWhile fun z=>decide (d z≤d x)).isEmpty=false:=by
     cases Tq:Fm.reverse.dropWhile (fun z=>decide (d z≤d x)) with
     |nil=>
      exfalso;have:=List.takeWhile_append_dropWhile (p:=fun z=>decide (d z≤d x)) (l:=Fm.reverse);rw [Tq,List.append_nil] at this;exact qQ (by rw [this])
     |cons z zs=>rfl
    rw [hd];simp
  ·rw [if_neg hy,e];have qQ: ∀z∈Fm.reverse ++ [y],decide (d z≤d x)=true:=fun z hz=>by
    rcases List.mem_append.1 hz with h' |h'
    ·have:=h.2.2 z h' y (by simp)
     exact decide_eq_true (by omega)
    ·simp at h';subst h';exact decide_eq_true (by omega)
   unfold Gc;have hd:=ON (p:=fun z=>decide (d z≤d x)) _ qQ;have hw:=List.takeWhile_append_dropWhile (p:=fun z=>decide (d z≤d x)) (l:=Fm.reverse ++ [y]);rw [hd,List.append_nil] at hw;rw [hw,hd];simp
theorem Mw (d:Int→Int) (x y:Int) (a:List Int):Gc d x (y::a)=if d y≤d x then y::Gc d x a else x::y::a:=by
 unfold Gc;by_cases h:d y≤d x
 ·rw [if_pos h,List.takeWhile_cons,List.dropWhile_cons,decide_eq_true h];rfl
 ·rw [if_neg h,List.takeWhile_cons,List.dropWhile_cons,decide_eq_false h];rfl
theorem Mx {d:Int→Int} {x z:Int}: ∀{a:List Int},z∈Gc d x a↔z=x∨z∈a
 |[]=>by simp [Gc]
 |y::a=>by
  rw [Mw];split
  ·rw [List.mem_cons,Mx,List.mem_cons];constructor
   ·rintro (h|h|h)
    ·exact .inr (.inl h)
    ·exact .inl h
    ·exact .inr (.inr h)
   ·rintro (h|h|h)
    ·exact .inr (.inl h)
    ·exact .inl h
    ·exact .inr (.inr h)
  ·simp
theorem OP (d:Int→Int) (x:Int): ∀a:List Int,(Gc d x a).length=a.length+1
 |[]=>by simp [Gc]
 |y::a=>by
  rw [Mw];split
  ·simp [OP d x a]
  ·simp
theorem OQ {d:Int→Int} {x:Int}: ∀{a:List Int},a.Pairwise (fun y z=>d y≤d z)→(Gc d x a).Pairwise (fun y z=>d y≤d z)
 |[],_=>by simp [Gc]
 |y::a,h=>by
  obtain ⟨h1,h2⟩:=List.pairwise_cons.1 h;rw [Mw];split
  ·rename_i hy;refine List.pairwise_cons.2 ⟨fun z hz=> ?_,OQ h2⟩;rcases Mx.1 hz with rfl|hz
   ·exact hy
   ·exact h1 z hz
  ·rename_i hy;refine List.pairwise_cons.2 ⟨fun z hz=> ?_,h⟩;rcases List.mem_cons.1 hz with rfl|hz
   ·omega
   ·have:=h1 z hz;omega
def FM (d:Int→Int) (o:List Int):List Int:=o.foldl (fun a x=>Gc d x a) []
theorem My (d:Int→Int) (o:List Int) (x:Int):FM d (o ++ [x])=Gc d x (FM d o):=by simp [FM]
theorem IG (d:Int→Int): ∀(n:Nat) (o:List Int),o.length=n→(FM d o).Pairwise (fun y z=>d y≤d z)∧(FM d o).length=n∧ ∀z,z∈FM d o↔z∈o
 |0,o,h=>by
  have:o=[]:=List.eq_nil_of_length_eq_zero h;subst this;simp [FM]
 |n+1,o,h=>by
  obtain ⟨o',x,rfl⟩: ∃o' x,o=o' ++ [x]:=⟨o.dropLast,o.getLast (fun e=>by subst e;simp at h),(List.dropLast_concat_getLast _).symm⟩
  obtain ⟨h1,h2,h3⟩:=IG d n o' (by simpa using h)
  rw [My];refine ⟨OQ h1,by rw [OP,h2],fun z=> ?_⟩
  rw [Mx,h3,List.mem_append,List.mem_singleton];exact ⟨fun h=>h.symm,fun h=>h.symm⟩
theorem Ts {d:Int→Int} {g:Int→Int→Option Int} {o:List Int} (hl:o.length≤18) (h0:0<o.length) (hg: ∀x∈o,∀y∈o,g x y=some (d x-d y)):
 Ig o g=some (FM d o):=by
 have one:HL o 0 (o.length:Int) g=some (FM d o):=by
  unfold HL;rw [p0 (by omega)]
  have key:dP (KG 0 (o.length:Int) g) (o,0+1)=some (FM d o):=by
   refine wS (fun x:List Int×Int=>o.length-x.2.toNat) (fun x=>1≤x.2∧x.2≤o.length∧x.1=FM d (o.take x.2.toNat) ++ o.drop x.2.toNat) _ ?_ _ ⟨by simp,by simp only;omega,?_⟩
   ·rintro ⟨c,i⟩ ⟨i0,i1,i2⟩;simp only at i0 i1 i2;subst i2;simp only [KG];by_cases hi:i<o.length
    ·have ax:i.toNat<o.length:=by omega
     obtain ⟨s1,s2,s3⟩:=IG d i.toNat (o.take i.toNat) (by rw [List.length_take];omega)
     have e1:=OM (d:=d) (g:=g) (x:=o[i.toNat]) (FM d (o.take i.toNat)).reverse (o.drop (i.toNat+1)) (by simp [s2];omega) (fun y hy=>by
      rw [List.mem_reverse,s3] at hy;exact hg _ (List.getElem_mem ax) y (List.mem_of_mem_take hy))
     rw [List.reverse_reverse,List.length_reverse,s2,←List.drop_eq_getElem_cons ax,show ((i.toNat:Nat):Int)=i by omega,OO _ _ (by rw [List.reverse_reverse];exact s1),List.reverse_reverse] at e1
     rw [qh hi,cond_true,e1,Option.bind_some,p0 (by omega)]
     refine ⟨_,rfl,⟨by simp only;omega,by simp only;omega,?_⟩,by simp only;omega⟩
     simp only;rw [show (i+1).toNat=i.toNat+1 by omega,List.take_succ_eq_append_getElem ax,My]
    ·rw [wW hi];refine ⟨_,rfl,?_⟩;simp only;rw [List.take_of_length_le (by omega),List.drop_eq_nil_of_le (by omega),List.append_nil]
   ·simp only;obtain ⟨x,r,rfl⟩:=List.exists_cons_of_ne_nil (List.length_pos_iff.1 h0);simp [FM,Gc]
  rw [key];rfl
 unfold Ig JI;have e0:dP (JG (o.length:Int) g) (o,0,20)=some (o,0):=by
  rw [lO];simp only [JG];rw [wW (by omega)]
  rfl
 have e2:dP (JH (o.length:Int)) 20=some ():=by
  rw [lO];simp only [JH];rw [wW (by omega)]
  rfl
 rw [e0,Option.bind_some];simp only;rw [one,Option.bind_some,e2];rfl
def Fj (l:List Task) (x:Int):Int:=match l[x.toNat]? with|some t=>t.End|none=>0
theorem OR (n:Nat):Fq (n+1)=Fq n ++ [(n:Int)]:=by simp [Fq,List.range_succ]
theorem OS {l:List Task} (hl:l.length≤1048576):dP (KH l) ([],0)=some (Fq l.length):=by
 refine wS (fun x:List Int×Int=>l.length-x.2.toNat) (fun x=>0≤x.2∧x.2≤l.length∧x.1=Fq x.2.toNat) _ ?_ _ ⟨by simp,by simp,by simp [Fq]⟩
 rintro ⟨c,i⟩ ⟨i0,i1,i2⟩;simp only at i0 i1 i2;subst i2;simp only [KH];by_cases hi:i<l.length
 ·rw [qh hi,cond_true,ER (by rw [Hc];simp;omega) (by omega),Option.bind_some,p0 (by omega)]
  refine ⟨_,rfl,⟨by simp only;omega,by simp only;omega,?_⟩,by simp only;omega⟩
  simp only;rw [show (i+1).toNat=i.toNat+1 by omega,OR,show ((i.toNat:Nat):Int)=i by omega]
 ·rw [wW hi];refine ⟨_,rfl,?_⟩;simp only;rw [show i.toNat=l.length by omega]
theorem Tt {l:List Task} (hl:l.length≤10) (h0:0<l.length) (ht: ∀x∈l,FT x=true):Ih l=some (FM (Fj l) (Fq l.length)):=by
 unfold Ih;rw [OS (by omega),Option.bind_some,Ts (d:=Fj l) (by rw [Hc];omega) (by rw [Hc];exact h0) (fun x hx y hy=> ?_)]
 ·rfl
 ·obtain ⟨x0,Ho⟩:=HC.1 hx;obtain ⟨JJ,JK⟩:=HC.1 hy;have Tu:=ht _ (List.getElem_mem (l:=l) (n:=x.toNat) (by omega))
  have Tv:=ht _ (List.getElem_mem (l:=l) (n:=y.toNat) (by omega))
  simp only [FT,Bool.and_eq_true,HV] at Tu Tv;unfold KE Fj;rw [EZ x0 Ho,EZ JJ JK,List.getElem?_eq_getElem (show x.toNat<l.length by omega),List.getElem?_eq_getElem (show y.toNat<l.length by omega)]
  simp only [Option.bind_some];rw [p0 (by omega)]
theorem Tw {l:List Task} {a:List Int} (ha:a.length≤1048576) (cp: ∀y∈a,0≤y∧y<l.length) {x:Task} {i:Int} (hx:x.End=Fj l i):dP (KI l a x) 0=some ((a.takeWhile fun y=>decide (Fj l y≤Fj l i)).length:Int):=by
 refine wS (fun k:Int=>a.length-k.toNat) (fun k=>0≤k∧k≤a.length∧(k:Int)+(((a.drop k.toNat).takeWhile fun y=>decide (Fj l y≤Fj l i)).length:Int)=((a.takeWhile fun y=>decide (Fj l y≤Fj l i)).length:Int)) _ ?_ _ ⟨by omega,by omega,by simp⟩
 rintro k ⟨k0,k1,k2⟩;simp only [KI];by_cases hk:k<a.length
 ·have ax:k.toNat<a.length:=by omega
  obtain ⟨JJ,JK⟩:=cp _ (List.getElem_mem ax);have hd:=List.drop_eq_getElem_cons ax;rw [hd,List.takeWhile_cons] at k2;rw [qh hk,EZ k0 hk];simp only [cond_true,Option.bind_some];rw [EZ JJ JK,Option.bind_some];have he:(l[(a[k.toNat]).toNat]'(by omega)).End=Fj l a[k.toNat]:=by
   unfold Fj;rw [List.getElem?_eq_getElem (by omega)]
  simp only [he,hx,Option.bind_some];by_cases hle:Fj l a[k.toNat]≤Fj l i
  ·rw [qh hle,cond_true,p0 (by omega)]
   rw [qh hle] at k2;refine ⟨_,rfl,⟨by omega,by omega,?_⟩,by omega⟩
   rw [show (k+1).toNat=k.toNat+1 by omega]
   simp only [if_true,List.length_cons] at k2;omega
  ·rw [wW hle,cond_false];rw [wW hle] at k2;refine ⟨_,rfl,?_⟩;simp at k2⊢;exact k2
 ·rw [wW hk];rw [List.drop_eq_nil_of_le (by omega)] at k2
  refine ⟨_,rfl,?_⟩;simp at k2⊢;exact k2
theorem gF {α :Type} {l:List α} {i:Int} {x: α}:idx l i=some x↔0≤i∧i<l.length∧l[i.toNat]? =some x:=by
 unfold idx;constructor
 ·intro h;split at h
  ·rename_i h0;have:=(List.getElem?_eq_some_iff.1 h).1;exact ⟨h0,by omega,h⟩
  ·simp at h
 ·rintro ⟨h0,h1,h2⟩;rw [if_pos h0];exact h2
structure FE (c:Fl) (b:Int):Prop where
 len:c.Code.length≤1048576
 bytes: ∀x∈c.Code,0≤x∧x≤255
 lo:0≤c.Fo
 hi:c.Fo≤b
theorem FE.mono {c:Fl} {b d:Int} (h:FE c b) (hd:b≤d):FE c d:=⟨h.len,h.bytes,h.lo,by have:=h.hi;omega⟩
theorem Tx (k:Int):0≤zX .u64 k 255∧zX .u64 k 255≤255:=by
 have h:(BitVec.ofInt IntKind.u64.bits k&&&BitVec.ofInt IntKind.u64.bits 255).toNat≤255:=by
  rw [BitVec.toNat_and];exact Nat.and_le_right
 unfold zX;rw [IntWalk.u64_in _ (by omega)]
 omega
theorem OT {c:Fl} {b:Int} (h:FE c b) (hb:b≤4611686018427387904): ∃x d,IH c=some (x,d)∧(0≤x∧x≤255)∧FE d (b+1):=by
 obtain ⟨h1,h2,h3,h4⟩:=h;unfold IH;rw [p0 (x:=c.Fo+1) (by omega)]
 have e: ∃Fi,(bif (decide (c.Fo<(c.Code.length:Int))) then (idx c.Code c.Fo).bind fun F3=>some ((IntKind.i64.wrap F3)) else some (0))=some Fi∧0≤Fi∧Fi≤255:=by
  by_cases hc:c.Fo<c.Code.length
  ·rw [show decide (c.Fo<(c.Code.length:Int))=true by simpa using hc]
   obtain ⟨n,hn⟩:=Int.eq_ofNat_of_zero_le h3;rw [hn,qf (show n<c.Code.length by omega)]
   have:=h2 _ (List.getElem_mem (show n<c.Code.length by omega))
   simp only [cond_true,Option.bind_some];rw [p0 (by omega)]
   exact ⟨_,rfl,this⟩
  ·rw [show decide (c.Fo<(c.Code.length:Int))=false by simpa using hc]
   exact ⟨0,rfl,by omega,by omega⟩
 obtain ⟨Fi,e1,e2⟩:=e;rw [e1,Option.bind_some];cases decide (c.Fo+1≤(c.Code.length:Int))
 ·refine ⟨_,_,rfl,?_,⟨h1,h2,by simp only;omega,by simp only;omega⟩⟩
  have:=Tx (uO .u64 (IntKind.u64.wrap ((IntKind.u64.wrap ((IntKind.u64.wrap (c.Fw*6364136223846793005))+(IntKind.u64.wrap Fi)))+1442695040888963407)) 40);rw [p0 (by omega)]
  exact this
 ·exact ⟨_,_,rfl,e2,⟨h1,h2,by simp only;omega,by simp only;omega⟩⟩
theorem OU {x n:Int} (hx:0≤x) (hn:1<n): ∃r,md x n=some r∧0≤r∧r<n:=by
 unfold md;rw [if_neg (by omega)]
 refine ⟨_,rfl,?_,?_⟩
 ·rw [Int.tmod_eq_emod_of_nonneg hx];exact Int.emod_nonneg _ (by omega)
 ·rw [Int.tmod_eq_emod_of_nonneg hx];exact Int.emod_lt_of_pos _ (by omega)
theorem Mz {c:Fl} {b n:Int} (h:FE c b) (hb:b≤4000000000000000000): ∃x d,Gi c n=some (x,d)∧(0≤x∧(1≤n→x<n))∧FE d (b+2):=by
 unfold Gi;by_cases hn:n≤1
 ·rw [show decide (n≤1)=true by simpa using hn]
  exact ⟨0,c,rfl,⟨by omega,by omega⟩,h.mono (by omega)⟩
 ·rw [show decide (n≤1)=false by simpa using hn]
  obtain ⟨x,d,e1,e2,e3⟩:=OT h (by omega)
  simp only [cond_false];rw [e1,Option.bind_some];cases decide (200<n)
  ·simp only [cond_false,Option.bind_some];obtain ⟨r,r1,r2,r3⟩:=OU (x:=x) e2.1 (show 1<n by omega)
   rw [r1];exact ⟨r,_,rfl,⟨r2,fun _=>r3⟩,e3.mono (by omega)⟩
  ·simp only [cond_true];obtain ⟨y,d',f1,f2,f3⟩:=OT e3 (by omega)
   rw [f1];simp only [Option.bind_some];rw [p0 (x:=x*256) (by omega),p0 (by omega)]
   obtain ⟨r,r1,r2,r3⟩:=OU (x:=x*256+y) (by omega) (show 1<n by omega)
   rw [r1];exact ⟨r,_,rfl,⟨r2,fun _=>r3⟩,f3.mono (by omega)⟩
theorem Ty {c:Fl} {b n:Int} (h:FE c b) (hb:b≤4000000000000000000): ∃x d,HE c n=some (x,d)∧FE d (b+2):=by
 obtain ⟨x,d,e1,_,e3⟩:=Mz (n:=n) h hb;unfold HE;rw [e1];exact ⟨_,_,rfl,e3⟩
theorem Tz {c:Fl} {b:Int} {l:List Int} (h:FE c b) (hb:b≤4000000000000000000) (hl:l≠[]): ∃x d,HZ c l=some (x,d)∧x∈l∧FE d (b+2):=by
 obtain ⟨x,d,e1,e2,e3⟩:=Mz (n:=(l.length:Int)) h hb;have dr:1≤l.length:=by cases l with|nil=>exact absurd rfl hl|cons _ _=>simp
 unfold HZ;rw [e1];obtain ⟨n,rfl⟩:=Int.eq_ofNat_of_zero_le e2.1;have hn:n<l.length:=by have:=e2.2 (by omega);omega
 simp only [Option.bind_some];rw [qf hn];exact ⟨_,_,rfl,List.getElem_mem hn,e3⟩
theorem TA {l:List Int} (hl:l.length≤1048576) (hb: ∀x∈l,0≤x∧x≤255):FE ⟨l,0,0⟩ 0:=⟨hl,hb,by simp,by simp⟩
theorem TB {α :Type} {l:List α} {i:Int} (h0:0≤i) (h:i≤l.length):cy l 0 i=some (l.take i.toNat):=by
 simp [cy];omega
theorem TD {α :Type} {l:List α} {k:Nat} (h:k≤l.length):cy l (k:Int) (l.length:Int)=some (l.drop k):=by
 simp only [cy];rw [if_pos (by omega)]
 congr 1;simp only [Int.toNat_natCast];exact List.take_of_length_le (by simp)
theorem OV {α :Type} {a b c:List α} (h:a ++ b=c):c.take a.length=a∧c.drop a.length=b:=by subst h;simp
theorem TE {l:List Task} (hl:l.length≤10):JM l=some (FM (Fj l) (Fq l.length)):=by
 have key:dP (KK l) ([],0)=some (FM (Fj l) (Fq l.length)):=by
  refine wS (fun x:List Int×Int=>l.length-x.2.toNat) (fun x=>0≤x.2∧x.2≤l.length∧x.1=FM (Fj l) (Fq x.2.toNat)) _ ?_ _ ⟨by simp,by simp,by simp [Fq,FM]⟩
  rintro ⟨c,i⟩ ⟨i0,i1,i2⟩;simp only at i0 i1 i2;obtain ⟨s1,s2,s3⟩:=IG (Fj l) i.toNat (Fq i.toNat) (Hc _);rw [←i2] at s1 s2 s3;simp only [KK];by_cases hi:i<l.length
  ·have ax:i.toNat<l.length:=by omega
   have hf:=Tw (l:=l) (a:=c) (by omega) (fun y hy=>by
    have:=HC.1 ((s3 y).1 hy);omega) (x:=l[i.toNat]) (i:=i) (by unfold Fj;rw [List.getElem?_eq_getElem ax])
   have hw:(c.takeWhile fun y=>decide (Fj l y≤Fj l i)).length≤c.length:=by
    have:=congrArg List.length (List.takeWhile_append_dropWhile (p:=fun y=>decide (Fj l y≤Fj l i)) (l:=c));rw [List.length_append] at this;omega
   have MA:=List.takeWhile_append_dropWhile (p:=fun y=>decide (Fj l y≤Fj l i)) (l:=c);have e1:cy c 0 ((c.takeWhile fun y=>decide (Fj l y≤Fj l i)).length:Int)=some (c.takeWhile fun y=>decide (Fj l y≤Fj l i)):=by
    rw [TB (by omega) (by omega),Int.toNat_natCast]
    rw [(OV MA).1]
   have e2:cy c ((c.takeWhile fun y=>decide (Fj l y≤Fj l i)).length:Int) (c.length:Int)=some (c.dropWhile fun y=>decide (Fj l y≤Fj l i)):=by
    rw [TD hw,(OV MA).2]
   have XH:(c.dropWhile fun y=>decide (Fj l y≤Fj l i)).length≤c.length:=by
    have:=congrArg List.length MA;rw [List.length_append] at this;omega
   rw [qh hi,EZ i0 hi];simp only [cond_true,Option.bind_some,hf,e1];rw [ER (by simp<;>omega) (by omega),Option.bind_some,ER (by simp<;>omega) (by omega),Option.bind_some,e2,Option.bind_some,ER (by simp<;>omega) (by omega),Option.bind_some,p0 (by omega)]
   refine ⟨_,rfl,⟨by simp only;omega,by simp only;omega,?_⟩,by simp only;omega⟩
   simp only;rw [show (i+1).toNat=i.toNat+1 by omega,OR,My,←i2,show ((i.toNat:Nat):Int)=i by omega]
   simp [Gc]
  ·rw [wW hi];refine ⟨_,rfl,?_⟩;simp only;rw [i2,show i.toNat=l.length by omega]
 unfold JM;rw [key];rfl
theorem ua {c:Fl} {b n:Int} (h:FE c b) (hb:b≤4000000000000000000):cA (Gi c n) fun r=>0≤r.1∧(1≤n→r.1<n)∧FE r.2 (b+2):=by
 obtain ⟨x,d,e,⟨h1,h2⟩,h3⟩:=Mz (n:=n) h hb;exact ⟨_,e,h1,h2,h3⟩
theorem MB {c:Fl} {b n:Int} (h:FE c b) (hb:b≤4000000000000000000):cA (HE c n) fun r=>FE r.2 (b+2):=by
 obtain ⟨x,d,e,h3⟩:=Ty (n:=n) h hb;exact ⟨_,e,h3⟩
theorem OW {c:Fl} {b:Int} {l:List Int} (h:FE c b) (hb:b≤4000000000000000000) (hl:l≠[]):cA (HZ c l) fun r=>r.1∈l∧FE r.2 (b+2):=by
 obtain ⟨x,d,e,h2,h3⟩:=Tz h hb hl;exact ⟨_,e,h2,h3⟩
theorem TF {c:Fl} {b:Int} (h:FE c b) (hb:b≤1000000000000000000):cA (Jf c) fun r=>r.1.length≤11∧FE r.2 (b+200):=by
 unfold Jf;refine cA.then (ua (by assumption) (by omega)) ?_
 rintro ⟨x,OX⟩ ⟨MC,Kf,Jb⟩;dsimp only at MC Kf Jb⊢;have TG:=Kf (by omega)
 refine cA.then (MB (by assumption) (by omega)) ?_
 rintro ⟨y,XI⟩ OY;dsimp only at OY⊢;refine cA.then (P:=fun r=>(0≤r.1∧r.1≤11)∧FE ⟨r.2.1,r.2.2.1,r.2.2.2⟩ (b+10)) ?_ ?_
 ·refine cA.EV (fun hc=> ?_) (fun hc=> ?_)
  ·refine cA.then (ua (by assumption) (by omega)) ?_
   rintro ⟨z,OZ⟩ ⟨TJ,O0,HW⟩;dsimp only at TJ O0 HW⊢;have XJ:=O0 (by omega)
   rw [p0 (by omega)]
   exact .ret ⟨(by first|omega|(dsimp only;omega)),HW.mono (by omega)⟩
  ·exact .ret ⟨(by first|omega|(dsimp only;omega)),OY.mono (by omega)⟩
 ·rintro ⟨n,co,a,Jc⟩ ⟨hn,eH⟩;dsimp only at hn eH⊢;refine cA.then (P:=fun r=>r.1.length≤11∧FE ⟨r.2.1,r.2.2.1,r.2.2.2⟩ (b+120)) (cA.dP (fun s=>s.2.1.toNat) (fun s=>((0≤s.2.1∧s.2.1≤11)∧s.1.length+s.2.1.toNat≤11)∧FE ⟨s.2.2.1,s.2.2.2.1,s.2.2.2.2⟩ (b+10+10*(11-s.2.1))) ?_ ⟨⟨(by first|omega|(dsimp only;omega)),by simp only [List.length_nil];omega⟩,eH.mono (by first|omega|(dsimp only;omega))⟩) ?_
  ·rintro ⟨l,n,co,a,Jc⟩ ⟨⟨h1,h2⟩,eH⟩;dsimp only at h1 h2 eH⊢;unfold Lt;dsimp only;refine cA.EV (fun hc=> ?_) (fun hc=> ?_)
   ·simp only [decide_eq_true_eq] at hc;refine cA.then (ua (by assumption) (by omega)) ?_
    rintro ⟨u,MD⟩ ⟨Kg,Jd,HX⟩;dsimp only at Kg Jd HX⊢;refine cA.then (ua (by assumption) (by omega)) ?_
    rintro ⟨v,O1⟩ ⟨ME,Lr,HY⟩;dsimp only at ME Lr HY⊢;rw [ER (by simp<;>omega) (by omega),Option.bind_some,p0 (x:=n-1) (by omega)]
    exact .ret ⟨⟨⟨(by first|omega|(dsimp only;omega)),by simp only [List.length_append,List.length_singleton];omega⟩,HY.mono (by first|omega|(dsimp only;omega))⟩,(by first|omega|(dsimp only;omega))⟩
   ·simp only [decide_eq_false_iff_not,Int.not_lt] at hc;exact .ret ⟨(by first|omega|(dsimp only;omega)),eH.mono (by first|omega|(dsimp only;omega))⟩
  ·rintro ⟨l,co,a,Jc⟩ ⟨h1,eH⟩;dsimp only at h1 eH⊢;refine cA.then (P:=fun r=>(r.1=true→0<l.length)∧FE ⟨r.2.1,r.2.2.1,r.2.2.2⟩ (b+130)) ?_ ?_
   ·refine cA.EV (fun hc=> ?_) (fun hc=> ?_)
    ·simp only [decide_eq_true_eq] at hc;refine cA.then (MB (by assumption) (by omega)) ?_
     rintro ⟨z,OZ⟩ HW;dsimp only at HW⊢;exact .ret ⟨fun _=>by omega,HW.mono (by omega)⟩
    ·exact .ret ⟨fun h=>by simp at h,eH.mono (by omega)⟩
   ·rintro ⟨q,co,a,Jc⟩ ⟨hq,eH⟩;dsimp only at hq eH⊢;refine cA.then (P:=fun r=>r.1.length≤11∧FE ⟨r.2.1,r.2.2.1,r.2.2.2⟩ (b+200)) ?_ (fun r hr=> .ret hr);refine cA.EV (fun hc=> ?_) (fun hc=> ?_)
    ·have hq:=hq hc;refine cA.then (OW (by assumption) (by omega) (by simp)) ?_
     rintro ⟨u,MD⟩ ⟨TK,HX⟩;dsimp only at TK HX⊢;refine cA.then (OW (by assumption) (by omega) (by simp)) ?_
     rintro ⟨v,O1⟩ ⟨TL,HY⟩;dsimp only at TL HY⊢;rw [EZ (by omega) (by omega),Option.bind_some]
     exact .ret ⟨by simp only [List.length_set];omega,HY.mono (by omega)⟩
    ·exact .ret ⟨h1,eH.mono (by omega)⟩
theorem TM {c:Fl} {b:Int} {n:Nat} (hn:n≤11) (h:FE c b) (hb:b≤1000000000000000000):cA (Jp c (n:Int)) fun r=>r.1.length=n∧FE r.2 (b+200):=by
 unfold Jp;refine cA.then (P:=fun l=>l.length=n) (cA.dP (fun s=>n-s.2.toNat) (fun s=>(0≤s.2∧s.2≤n)∧s.1.length=s.2.toNat) ?_ ⟨⟨by simp,by simp⟩,by simp⟩) ?_
 ·rintro ⟨l,k⟩ ⟨h1,h2⟩;dsimp only at h1 h2⊢;unfold Lu;dsimp only;refine cA.EV (fun hc=> ?_) (fun hc=> ?_)
  ·simp only [decide_eq_true_eq] at hc;rw [ER (by simp<;>omega) (by omega),Option.bind_some,p0 (x:=k+1) (by omega)]
   exact .ret ⟨⟨⟨by dsimp only;omega,by dsimp only;omega⟩,by simp only [List.length_append,List.length_singleton];omega⟩,(by first|omega|(dsimp only;omega))⟩
  ·simp only [decide_eq_false_iff_not,Int.not_lt] at hc;exact .ret (by dsimp only;omega)
 ·intro l hl;refine cA.then (ua (by assumption) (by omega)) ?_
  rintro ⟨x,OX⟩ ⟨MC,Kf,Jb⟩;dsimp only at MC Kf Jb⊢;have TG:=Kf (by omega)
  refine cA.then (P:=fun r=>r.1.length=n∧FE ⟨r.2.1,r.2.2.1,r.2.2.2⟩ (b+100)) (cA.dP (fun s=>s.2.1.toNat) (fun s=>((0≤s.2.1∧s.2.1≤6)∧s.1.length=n)∧FE ⟨s.2.2.1,s.2.2.2.1,s.2.2.2.2⟩ (b+10+10*(6-s.2.1))) ?_ ⟨⟨(by first|omega|(dsimp only;omega)),hl⟩,Jb.mono (by first|omega|(dsimp only;omega))⟩) ?_
  ·rintro ⟨l,k,co,a,Jc⟩ ⟨⟨h1,h2⟩,eH⟩;dsimp only at h1 h2 eH⊢;unfold Lv;dsimp only;refine cA.then (P:=fun q=>q=true→0<k∧1<n) ?_ ?_
   ·refine cA.EV (fun hc=> ?_) (fun hc=> ?_)
    ·simp only [decide_eq_true_eq] at hc;exact .ret fun h=>by simp only [decide_eq_true_eq] at h;omega
    ·exact .ret fun h=>by simp at h
   ·intro q hq;refine cA.EV (fun hc=> ?_) (fun hc=> ?_)
    ·obtain ⟨q1,q2⟩:=hq hc;refine cA.then (ua (by assumption) (by omega)) ?_
     rintro ⟨u,MD⟩ ⟨Kg,Jd,HX⟩;dsimp only at Kg Jd HX⊢;have XK:=Jd (by omega)
     refine cA.then (ua (by assumption) (by omega)) ?_
     rintro ⟨v,O1⟩ ⟨ME,Lr,HY⟩;dsimp only at ME Lr HY⊢;have XL:=Lr (by omega)
     rw [EZ (by omega) (by omega),Option.bind_some,EZ (by omega) (by omega),Option.bind_some,Option.bind_some,EZ (by omega) (by simp only [List.length_set];omega),Option.bind_some,p0 (x:=k-1) (by omega)]
     exact .ret ⟨⟨⟨(by first|omega|(dsimp only;omega)),by simp only [List.length_set];omega⟩,HY.mono (by first|omega|(dsimp only;omega))⟩,(by first|omega|(dsimp only;omega))⟩
    ·exact .ret ⟨h2,eH.mono (by first|omega|(dsimp only;omega))⟩
  ·rintro ⟨l,co,a,Jc⟩ ⟨h1,eH⟩;dsimp only at h1 eH⊢;refine cA.then (P:=fun r=>(r.1=true→0<n)∧FE ⟨r.2.1,r.2.2.1,r.2.2.2⟩ (b+110)) ?_ ?_
   ·refine cA.EV (fun hc=> ?_) (fun hc=> ?_)
    ·simp only [decide_eq_true_eq] at hc;refine cA.then (MB (by assumption) (by omega)) ?_
     rintro ⟨z,OZ⟩ HW;dsimp only at HW⊢;exact .ret ⟨fun _=>by omega,HW.mono (by omega)⟩
    ·exact .ret ⟨fun h=>by simp at h,eH.mono (by omega)⟩
   ·rintro ⟨q,co,a,Jc⟩ ⟨hq,eH⟩;dsimp only at hq eH⊢;refine cA.then (P:=fun r=>r.1.length=n∧FE ⟨r.2.1,r.2.2.1,r.2.2.2⟩ (b+200)) ?_ (fun r hr=> .ret hr);refine cA.EV (fun hc=> ?_) (fun hc=> ?_)
    ·have hq:=hq hc;rw [p0 (by omega)]
     refine cA.then (ua (by assumption) (by omega)) ?_
     rintro ⟨u,MD⟩ ⟨Kg,Jd,HX⟩;dsimp only at Kg Jd HX⊢;rw [EZ (by omega) (by omega),Option.bind_some]
     exact .ret ⟨by simp only [List.length_set];omega,HX.mono (by omega)⟩
    ·exact .ret ⟨h1,eH.mono (by omega)⟩
theorem O2 {l:List Int} (hl:l.length≤1048576) (hb: ∀x∈l,0≤x∧x≤255):cA (IU l) fun r=>r.1.length≤11∧r.2.length=r.1.length:=by
 unfold IU;have h:=TA hl hb;refine cA.then (TF (by assumption) (by omega)) ?_
 rintro ⟨x,OX⟩ ⟨O3,Jb⟩;dsimp only at O3 Jb⊢;refine cA.then (TM (by omega) (by assumption) (by omega)) ?_
 rintro ⟨y,c⟩ ⟨h1,_⟩;exact .ret ⟨O3,h1⟩
theorem MF {l:List Int} (hl:l.length≤1048576):Ii l l=some true:=by
 unfold Ii;rw [E8 (l:=l) (fun k hk=>by
  simp only [KL];rw [qh (by omega),qf hk,p0 (by omega)]
  simp) (by simp [KL])]
 simp
theorem TN (g:Int→Int→Option Int):Ig [] g=some []:=by
 unfold Ig JI;have e0:dP (JG (([]:List Int).length:Int) g) ([],0,20)=some ([],0):=by
  rw [lO];rfl
 have e2:dP (JH (([]:List Int).length:Int)) 20=some ():=by
  rw [lO];rfl
 have one:HL [] 0 (([]:List Int).length:Int) g=some []:=by
  unfold HL;rw [p0 (by omega),lO];rfl
 rw [e0,Option.bind_some];simp only;rw [one,Option.bind_some,e2];rfl
theorem TO {l:List Task} (hl:l.length≤10) (ht: ∀x∈l,FT x=true):Ih l=some (FM (Fj l) (Fq l.length)):=by
 by_cases h0:0<l.length
 ·exact Tt hl h0 ht
 ·have:l=[]:=List.eq_nil_of_length_eq_zero (by omega)
  subst this;unfold Ih;rw [OS (by simp),Option.bind_some]
  have e:Fq ([]:List Task).length=[]:=rfl;rw [e,TN];rfl
def Je (l:List Task):List Int×Bool:=if Gh l then (FM (Fj l) (Fq l.length),true) else ([],false)
theorem TP {l:List Task} (hl:l.length≤1048576):JL l=some (Je l)∧JN l=some (Je l):=by
 unfold JL JN Je;rw [OE hl,Lp hl];cases hg:Gh l
 ·exact ⟨rfl,rfl⟩
 ·obtain ⟨g1,g2⟩:=IF.1 hg;simp only [Option.bind_some,Bool.not_true,cond_false,if_true];rw [TO g1 g2,TE g1];exact ⟨rfl,rfl⟩
theorem MH (d:Int→Int) (n:Nat):F8 (FM d (Fq n)) n:=by
 obtain ⟨_,s2,s3⟩:=IG d n (Fq n) (Hc n);exact Oy s2 fun x h0 h1=>(s3 x).2 (HC.2 ⟨h0,h1⟩)
theorem Ls {o:List Int} {n:Nat} (h:F8 o n):(o.map Int.toNat).Nodup:=by
 rw [List.nodup_iff_pairwise_ne,List.pairwise_map];exact (List.nodup_iff_pairwise_ne.1 h.nd).imp_of_mem fun {a b} ha hb MI e=>MI (by have:=h.bF a ha;have:=h.bF b hb;omega)
theorem Kh {o:List Int} {n:Nat} (h:F8 o n) (k:Nat):k∈o.map Int.toNat↔k<n:=by
 rw [List.mem_map];constructor
 ·rintro ⟨x,hx,rfl⟩;have:=h.bF x hx;omega
 ·intro hk;exact ⟨(k:Int),h.all _ (by omega) (by omega),by omega⟩
theorem TQ {α β :Type} {R: β → β →Prop} {f: α → β} {l:List α} (h:l.Pairwise fun x y=>R (f x) (f y)):(l.map f).Pairwise R:=List.pairwise_map.2 h
theorem TR {l:List Task} (ht: ∀x∈l,FT x=true) {o:List Int} (ho:F8 o l.length) {m n:Int} (h1:Ke l (FM (Fj l) (Fq l.length)) m) (h2:Ke l o n):m≤n:=by
 obtain ⟨_,k,x,e1,e2⟩:=h1;have he:=MH (Fj l) l.length;obtain ⟨s1,_,_⟩:=IG (Fj l) l.length (Fq l.length) (Hc _);have hk:=(List.getElem?_eq_some_iff.1 e1).1;obtain ⟨j,hj,hle⟩:=Tc (FP l) (fun k=>Fj l (k:Int)) (fun k=>(OJ ht k).1) (Ls he) (Ls ho)
  (TQ (R:=fun x y:Nat=>Fj l (x:Int)≤Fj l (y:Int)) (List.Pairwise.imp_of_mem (fun {a b} ha hb MI=>by
   have:=he.bF a ha;have:=he.bF b hb;rw [show ((a.toNat:Nat):Int)=a by omega,show ((b.toNat:Nat):Int)=b by omega];exact MI) s1))
  (fun x hx=>(Kh ho x).2 ((Kh he x).1 hx)) ((Kh he k).2 hk)
 have hj:=(Kh ho j).1 hj;have:=h2.1 j _ (List.getElem?_eq_getElem hj);have f1:Fj l (k:Int)=x.End:=by unfold Fj;rw [Int.toNat_natCast,e1]
 have f2:Fj l (j:Int)=(l[j]).End:=by unfold Fj;rw [Int.toNat_natCast,List.getElem?_eq_getElem hj]
 simp only [f1,f2] at hle;omega
theorem O4 (n:Nat→Int): ∀P o:List Nat,P.Nodup→o.Nodup→(∀x,x∈P↔x∈o)→Fz n P=Fz n o
 |[],o,_,_,h=>by
  cases o with
  |nil=>rfl
  |cons y r=>have:=(h y).2 (by simp);simp at this
 |x::P,o,hp,ho,h=>by
  obtain ⟨hx,hp⟩:=List.nodup_cons.1 hp;rw [Lk n o x ((h x).1 (by simp)),Fz,O4 n P (o.erase x) hp (ho.erase x) (fun y=>by
   rw [ho.mem_erase_iff];constructor
   ·intro hy;exact ⟨fun e=>hx (e▸hy),(h y).1 (List.mem_cons_of_mem _ hy)⟩
   ·rintro ⟨e,hy⟩;rcases List.mem_cons.1 ((h y).2 hy) with rfl|hy
    ·exact absurd rfl e
    ·exact hy)]
def HD (l:List Task):Int:=(l.map Task.Fv).sum
theorem O5 (l:List Task): ∀k,k≤l.length→Fz (FP l) (List.range k)=HD (l.take k)
 |0,_=>by simp [Fz,HD]
 |k+1,h=>by
  rw [List.range_succ,Lo,O5 l k (by omega),List.take_succ_eq_append_getElem (by omega)]
  simp only [Fz,HD,List.map_append,List.sum_append,List.map_cons,List.map_nil,List.sum_cons,List.sum_nil,FP,List.getElem?_eq_getElem (show k<l.length by omega)]
theorem TS {l:List Task} {o:List Int} (ho:F8 o l.length) (h0:0<o.length):FI (FP l) (o.map Int.toNat) (o[o.length-1]'(by omega)).toNat=HD l:=by
 obtain ⟨a,k,hk⟩: ∃a k,o=a ++ [k]:=⟨o.dropLast,o.getLast (List.length_pos_iff.1 h0),(List.dropLast_concat_getLast _).symm⟩;have e:o[o.length-1]'(by omega)=k:=by simp [hk]
 rw [e];have hs:Fz (FP l) (o.map Int.toNat)=HD l:=by
  rw [O4 (FP l) (o.map Int.toNat) (List.range l.length) (Ls ho) List.nodup_range (fun x=>by rw [Kh ho,List.mem_range]),O5 l _ (Nat.le_refl _),List.take_length]
 have hn:=Ls ho;rw [hk,List.map_append] at hn hs⊢;have oM:k.toNat∉a.map Int.toNat:=fun h=>by
  exact (List.nodup_append.1 hn).2.2 k.toNat h k.toNat (by simp) rfl
 rw [(Ln (FP l) (a.map Int.toNat) _ k.toNat).2 oM,←hs,Lo];simp [FI,Fz]
theorem TT {l:List Task} (hl:l.length≤10) (ht: ∀x∈l,FT x=true):dP (JP l) (0,0)=some (HD l):=by
 refine wS (fun x:Int×Int=>l.length-x.2.toNat) (fun x=>0≤x.2∧x.2≤l.length∧x.1=HD (l.take x.2.toNat)∧0≤x.1∧x.1≤20*x.2) _ ?_ _ ⟨by simp,by simp,by simp [HD],by simp,by simp⟩
 rintro ⟨c,i⟩ ⟨i0,i1,i2,i3,i4⟩;simp only at i0 i1 i2 i3 i4;simp only [JP];by_cases hi:i<l.length
 ·have ax:i.toNat<l.length:=by omega
  have hx:=ht _ (List.getElem_mem ax);simp only [FT,Bool.and_eq_true,HV] at hx;rw [qh hi,EZ i0 hi];simp only [cond_true,Option.bind_some];rw [p0 (by omega),p0 (by omega)]
  refine ⟨_,rfl,⟨by simp only;omega,by simp only;omega,?_,by simp only;omega,by simp only;omega⟩,by simp only;omega⟩
  simp only;rw [show (i+1).toNat=i.toNat+1 by omega,List.take_succ_eq_append_getElem ax,i2]
  simp only [HD,List.map_append,List.sum_append,List.map_cons,List.map_nil,List.sum_cons,List.sum_nil];omega
 ·rw [wW hi];refine ⟨_,rfl,?_⟩;simp only;rw [i2,List.take_of_length_le (by omega)]
theorem TU {l:List Task} (hl:l.length≤10):dP (KM l (FM (Fj l) (Fq l.length))) 1=some (.next ()):=by
 have ho:=MH (Fj l) l.length;obtain ⟨s1,s2,_⟩:=IG (Fj l) l.length (Fq l.length) (Hc _);revert ho s1 s2;generalize FM (Fj l) (Fq l.length)=e;intro ho s1 s2;refine wS (fun x:Int=>e.length-x.toNat) (fun x=>1≤x∧x≤20) _ ?_ _ ⟨by simp,by simp⟩
 rintro i ⟨i0,i1⟩;simp only [KM];by_cases hi:i<e.length
 ·have h1:(i-1).toNat<i.toNat:=by omega
  have ax:i.toNat<e.length:=by omega
  have a1:=ho.bF _ (List.getElem_mem (show (i-1).toNat<e.length by omega))
  have a2:=ho.bF _ (List.getElem_mem ax);have hr:=List.pairwise_iff_getElem.1 s1 (i-1).toNat i.toNat (by omega) ax h1
  rw [qh hi,p0 (by omega),EZ (i:=i-1) (by omega) (by omega)]
  simp only [cond_true,Option.bind_some];rw [EZ a1.1 a1.2,Option.bind_some,EZ (i:=i) (by omega) hi,Option.bind_some,EZ a2.1 a2.2,Option.bind_some]
  unfold Fj at hr;rw [List.getElem?_eq_getElem (show (e[(i-1).toNat]'(by omega)).toNat<l.length by omega),List.getElem?_eq_getElem (show (e[i.toNat]).toNat<l.length by omega)] at hr
  simp only at hr;rw [wW (by omega),p0 (by omega)]
  exact ⟨_,rfl,⟨by omega,by omega⟩,by omega⟩
 ·rw [wW hi];exact ⟨_,rfl,rfl⟩
theorem TW (a b:List Int) (ha:a.length<2^47) (hb:b.length<2^47) (Fm: ∀x∈a,0≤x∧x≤255) (TX: ∀x∈b,0≤x∧x≤255):Ik a b=some true:=by
 by_cases hs:(1048576:Int)<(a.length:Int)+(b.length:Int)
 ·unfold Ik;rw [p0 (by omega),qh hs];rfl
 ·obtain ⟨⟨l,o⟩,e1,l1,l2⟩:=O2 (l:=a) (by omega) Fm
  obtain ⟨⟨x,p⟩,e2,m1,m2⟩:=O2 (l:=b) (by omega) TX
  have e3:JO b=some (x,p):=by unfold JO;rw [e2];rfl
  simp only at l1 l2 m1 m2;obtain ⟨TY,TZ⟩:=TP (l:=l) (by omega)
  have second:((HK x p).bind fun (G6,Hu)=>(HM x p).bind fun (JQ,KO)=>((bif (!(Hu==KO)) then some (true) else (Ii G6 JQ).bind fun I2=>some ((!I2)))).bind fun Il=>(bif Il then some false else ((bif Hu then some ((decide (0<(p.length:Int)))) else some (false))).bind fun Im=>(bif Im then (dP (JP x) (0,0)).bind fun Io=>(idx p (IntKind.i64.wrap ((p.length:Int)-1))).bind fun KP=>(idx G6 KP).bind fun KQ=>some (KQ==Io) else some true)))=some true:=by
   rcases OF (l:=x) (o:=p) (by omega) (by omega) with ⟨c,c1,c2,hg,lx,c3,c4⟩|⟨c1,c2,_⟩
   ·obtain ⟨g1,g2⟩:=IF.1 hg;rw [c1,c2];simp only [Option.bind_some];rw [MF (by omega)]
    simp only [Option.bind_some,beq_self_eq_true,Bool.not_true,cond_false,cond_true];by_cases h0:0<p.length
    ·rw [qh (by omega),TT g1 g2,p0 (by omega),EZ (by omega) (by omega)]
     simp only [cond_true,Option.bind_some,show ((p.length:Int)-1).toNat=p.length-1 by omega]
     have cp:=lx.bF _ (List.getElem_mem (l:=p) (n:=p.length-1) (by omega))
     rw [EZ cp.1 (by omega)]
     have:=c4 (p[p.length-1]'(by omega)).toNat (by omega)
     rw [TS lx h0,List.getElem?_eq_getElem (by omega)] at this
     simp only [Option.some.injEq] at this;simp [this]
    ·rw [wW (by omega)];rfl
   ·rw [c1,c2];simp only [Option.bind_some];rw [MF (by simp)];rfl
  have T1:(Je l).1.length≤1048576:=by
   unfold Je;split
   ·rw [(IG (Fj l) l.length (Fq l.length) (Hc _)).2.1];omega
   ·simp
  have three: ∀(n:Int) (ok:Bool),(ok=true→F8 o l.length∧(l=[]∧n=0∨Ke l o n))→G4 l o=some (n,ok)→Hs l o=some (n,ok)→Gh l=true→
   ∃m,G4 l (FM (Fj l) (Fq l.length))=some (m,true)∧(ok=true→ ¬n<m):=by
   intro n ok af _ _ hg;have he:=MH (Fj l) l.length;rcases OK (l:=l) (o:=FM (Fj l) (Fq l.length)) (by omega) (by rw [he.len];omega) with ⟨m,m1,_,_,_,hm⟩|⟨_,_,fq⟩
   ·refine ⟨m,m1,fun h=> ?_⟩;obtain ⟨ho,hn⟩:=af h;rcases hn with ⟨rfl,rfl⟩|hn
    ·rcases hm with ⟨_,rfl⟩|⟨_,k,x,hk,_⟩
     ·omega
     ·simp at hk
    ·rcases hm with ⟨rfl,rfl⟩|hm
     ·obtain ⟨_,k,x,hk,_⟩:=hn;simp at hk
     ·have:=TR (IF.1 hg).2 ho hm hn;omega
   ·exact absurd ⟨hg,he⟩ fq
  have body: ∀(n:Int) (ok:Bool),(ok=true→F8 o l.length∧(l=[]∧n=0∨Ke l o n))→G4 l o=some (n,ok)→Hs l o=some (n,ok)→Ik a b=some true:=by
   intro n ok af h1 h2;unfold Ik;rw [p0 (by omega),wW hs,e1,e3]
   simp only [cond_false,Option.bind_some];rw [TY,TZ,h1,h2];simp only [Option.bind_some];rw [MF T1];simp only [beq_self_eq_true,bne_self_eq_false,Bool.not_true,cond_false,Option.bind_some];unfold Je;cases hg:Gh l
   ·simp only [Bool.false_eq_true,if_false,cond_false,Option.bind_some];exact second
   ·obtain ⟨m,m1,m2⟩:=three n ok af h1 h2 hg;simp only [if_true,cond_true];rw [m1,TU (IF.1 hg).1];have:(bif ok then some (decide (n<m)) else some false)=some false:=by
     cases ok
     ·rfl
     ·rw [wW (m2 rfl)];rfl
    simp only [Option.bind_some,Bool.not_true,cond_false];rw [this];simp only [Option.bind_some,cond_false];exact second
  rcases OK (l:=l) (o:=o) (by omega) (by omega) with ⟨n,MJ,n2,hg,lx,hn⟩|⟨MJ,n2,fq⟩
  ·exact body n true (fun _=>⟨lx,hn⟩) MJ n2
  ·exact body 0 false (fun h=>by simp at h) MJ n2
end Go.Hd
