/-
  The plain law and all that it needs.
-/
import Derived.Test.YtclgbpneokeaeaaGreatVeF
import Derived.Test.YtclgbpneokeaeaaGreatVaF
import Derived.Test.YtclgbpneokeaeaaGreatVaG
open Go Go.VS
namespace Go.GC
def GW (n a b:Int):Bool:=decide (a≤n)&&decide (n≤b)
theorem NE (n a b:Int):Jx n a b=some (GW n a b):=by
 unfold Jx GW;cases decide (a≤n)<;>rfl
theorem Rp (n a b:Int):Kj n a b=some (GW n a b):=by
 unfold Kj GW;cases decide (a≤n)<;>rfl
theorem Is {n a b:Int}:GW n a b=true↔a≤n∧n≤b:=by simp [GW]
theorem Z9 {l:List Int} (hl:l.length<2^60) {g:Int→Option Bool} (p:Int→Bool) (hg: ∀x∈l,g x=some (p x)):MI l g=some (dV p l):=by
 unfold MI;rw [D9 p (f:=PN l g) (fun _=>rfl) hl hg];have:=qg p l;by_cases h:dV p l<0
 ·rw [if_pos h];simp;omega
 ·rw [if_neg h];rfl
structure EV (c:ED) (b:Int):Prop where
 len:c.Code.length≤1048576
 bytes: ∀x∈c.Code,0≤x∧x≤255
 lo:0≤c.At
 hi:c.At≤b
theorem EV.mono {c:ED} {b d:Int} (h:EV c b) (hd:b≤d):EV c d:=⟨h.len,h.bytes,h.lo,by have:=h.hi;omega⟩
theorem Z_ (k:Int):0≤Aj .u64 k 255∧Aj .u64 k 255≤255:=by
 have h:(BitVec.ofInt IntKind.u64.bits k&&&BitVec.ofInt IntKind.u64.bits 255).toNat≤255:=by
  rw [BitVec.toNat_and];exact Nat.and_le_right
 unfold Aj;rw [IntWalk.u64_in _ (by omega)]
 omega
theorem T6 {c:ED} {b:Int} (h:EV c b) (hb:b≤4611686018427387904): ∃x d,KQ c=some (x,d)∧(0≤x∧x≤255)∧EV d (b+1):=by
 obtain ⟨h1,h2,h3,h4⟩:=h;unfold KQ;rw [Aw (x:=c.At+1) (by omega)]
 have e: ∃EF,(bif (decide (c.At<(c.Code.length:Int))) then (idx c.Code c.At).bind fun FI=>some ((IntKind.i64.wrap FI)) else some (0))=some EF∧0≤EF∧EF≤255:=by
  by_cases hc:c.At<c.Code.length
  ·rw [show decide (c.At<(c.Code.length:Int))=true by simpa using hc]
   obtain ⟨n,hn⟩:=Int.eq_ofNat_of_zero_le h3;rw [hn,wQ (show n<c.Code.length by omega)]
   have:=h2 _ (List.getElem_mem (show n<c.Code.length by omega))
   simp only [cond_true,Option.bind_some];rw [Aw (by omega)]
   exact ⟨_,rfl,this⟩
  ·rw [show decide (c.At<(c.Code.length:Int))=false by simpa using hc]
   exact ⟨0,rfl,by omega,by omega⟩
 obtain ⟨EF,e1,e2⟩:=e;rw [e1,Option.bind_some];cases decide (c.At+1≤(c.Code.length:Int))
 ·refine ⟨_,_,rfl,?_,⟨h1,h2,by simp only;omega,by simp only;omega⟩⟩
  have:=Z_ (uQ .u64 (IntKind.u64.wrap ((IntKind.u64.wrap ((IntKind.u64.wrap (c.ES*6364136223846793005))+(IntKind.u64.wrap EF)))+1442695040888963407)) 40);rw [Aw (by omega)]
  exact this
 ·exact ⟨_,_,rfl,e2,⟨h1,h2,by simp only;omega,by simp only;omega⟩⟩
theorem T7 {x n:Int} (hx:0≤x) (hn:1<n): ∃r,md x n=some r∧0≤r∧r<n:=by
 unfold md;rw [if_neg (by omega)]
 refine ⟨_,rfl,?_,?_⟩
 ·rw [Int.tmod_eq_emod_of_nonneg hx];exact Int.emod_nonneg _ (by omega)
 ·rw [Int.tmod_eq_emod_of_nonneg hx];exact Int.emod_lt_of_pos _ (by omega)
theorem Rq {c:ED} {b n:Int} (h:EV c b) (hb:b≤4000000000000000000): ∃x d,Gv c n=some (x,d)∧(0≤x∧(1≤n→x<n))∧EV d (b+2):=by
 unfold Gv;by_cases hn:n≤1
 ·rw [show decide (n≤1)=true by simpa using hn]
  exact ⟨0,c,rfl,⟨by omega,by omega⟩,h.mono (by omega)⟩
 ·rw [show decide (n≤1)=false by simpa using hn]
  obtain ⟨x,d,e1,e2,e3⟩:=T6 h (by omega)
  simp only [cond_false];rw [e1,Option.bind_some];cases decide (200<n)
  ·simp only [cond_false,Option.bind_some];obtain ⟨r,r1,r2,r3⟩:=T7 (x:=x) e2.1 (show 1<n by omega)
   rw [r1];exact ⟨r,_,rfl,⟨r2,fun _=>r3⟩,e3.mono (by omega)⟩
  ·simp only [cond_true];obtain ⟨y,d',f1,f2,f3⟩:=T6 e3 (by omega)
   rw [f1];simp only [Option.bind_some];rw [Aw (x:=x*256) (by omega),Aw (by omega)]
   obtain ⟨r,r1,r2,r3⟩:=T7 (x:=x*256+y) (by omega) (show 1<n by omega)
   rw [r1];exact ⟨r,_,rfl,⟨r2,fun _=>r3⟩,f3.mono (by omega)⟩
theorem aac {c:ED} {b n:Int} (h:EV c b) (hb:b≤4000000000000000000): ∃x d,Hb c n=some (x,d)∧EV d (b+2):=by
 obtain ⟨x,d,e1,_,e3⟩:=Rq (n:=n) h hb;unfold Hb;rw [e1];exact ⟨_,_,rfl,e3⟩
theorem aad {c:ED} {b:Int} {l:List Int} (h:EV c b) (hb:b≤4000000000000000000) (hl:l≠[]): ∃x d,J7 c l=some (x,d)∧x∈l∧EV d (b+2):=by
 obtain ⟨x,d,e1,e2,e3⟩:=Rq (n:=(l.length:Int)) h hb;have cZ:1≤l.length:=by cases l with|nil=>exact absurd rfl hl|cons _ _=>simp
 unfold J7;rw [e1];obtain ⟨n,rfl⟩:=Int.eq_ofNat_of_zero_le e2.1;have hn:n<l.length:=by have:=e2.2 (by omega);omega
 simp only [Option.bind_some];rw [wQ hn];exact ⟨_,_,rfl,List.getElem_mem hn,e3⟩
theorem Rr {l:List Int} (hl:l.length≤1048576) (hb: ∀x∈l,0≤x∧x≤255):EV ⟨l,0,0⟩ 0:=⟨hl,hb,by simp,by simp⟩
theorem EV.eta {c:ED} {b:Int} (h:EV c b):EV ⟨c.Code,c.At,c.ES⟩ b:=h
theorem ug {c:ED} {b n:Int} (h:EV c b) (hb:b≤4000000000000000000):dc (Gv c n) fun r=>0≤r.1∧(1≤n→r.1<n)∧EV r.2 (b+2):=by
 obtain ⟨x,d,e,⟨h1,h2⟩,h3⟩:=Rq (n:=n) h hb;exact ⟨_,e,h1,h2,h3⟩
theorem Ju {c:ED} {b n:Int} (h:EV c b) (hb:b≤4000000000000000000):dc (Hb c n) fun r=>EV r.2 (b+2):=by
 obtain ⟨x,d,e,h3⟩:=aac (n:=n) h hb;exact ⟨_,e,h3⟩
theorem T8 {c:ED} {b:Int} {l:List Int} (h:EV c b) (hb:b≤4000000000000000000) (hl:l≠[]):dc (J7 c l) fun r=>r.1∈l∧EV r.2 (b+2):=by
 obtain ⟨x,d,e,h2,h3⟩:=aad h hb hl;exact ⟨_,e,h2,h3⟩
def Iu {α :Type} (p:Nat→ α →Bool):Nat→List α →Bool
 |_,[]=>true
 |k,x::xs=>p k x&&Iu p (k+1) xs
theorem T9 {α σ ρ :Type} {g:Nat→ α → σ →LR σ ρ} {fin: σ → ρ} (p:Nat→ α →Bool) (r: ρ) (h: ∀k x s,g k x s=if p k x then .next s else .done r) (l:List α) (k:Nat) (s: σ):eA g fin k l s=if Iu p k l then fin s else r:=by
 induction l generalizing k with
 |nil=>simp [eA,Iu]
 |cons x xs ih=>
  rw [show Iu p k (x::xs)=(p k x&&Iu p (k+1) xs) from rfl];simp only [eA,h];by_cases hp:p k x=true
  ·rw [if_pos hp,hp,Bool.true_and];exact ih (k+1)
  ·have hp' :p k x=false:=by simpa using hp
   rw [if_neg hp,hp',Bool.false_and];rfl
theorem T_ {α :Type} {p:Nat→ α →Bool}: ∀{l:List α} {k:Nat},Iu p k l=true↔ ∀i x,l[i]? =some x→p (k+i) x=true
 |[],k=>by simp [Iu]
 |x::xs,k=>by
  simp only [Iu,Bool.and_eq_true,T_ (l:=xs)];constructor
  ·rintro ⟨h1,h2⟩ i y hy;cases i with
   |zero=>
    obtain rfl:x=y:=by simpa using hy
    exact h1
   |succ i=>
    have:=h2 i y (by simpa using hy)
    rwa [show k+1+i=k+(i+1) by omega] at this
  ·intro h;refine ⟨h 0 x rfl,fun i y hy=> ?_⟩;have:=h (i+1) y (by simpa using hy)
   rwa [show k+(i+1)=k+1+i by omega] at this
def J2 (x:Span):Bool:=decide (0≤x.En∧x.En<x.To∧x.To≤1000000)
theorem Ua (x:Span):Mw x=some (J2 x):=by
 unfold Mw J2;by_cases h1:0≤x.En
 ·rw [Bi h1,cond_true];by_cases h2:x.En<x.To
  ·rw [Bi h2,cond_true];simp only [h1,h2,true_and]
  ·rw [D8 h2,cond_false,D8 (fun h=>h2 h.2.1)]
 ·rw [D8 h1,cond_false,D8 (fun h=>h1 h.1)]
theorem aae (x:Span):NW x=some (J2 x):=Ua x
def HF (l:List Span) (k:Nat) (x:Span):Bool:=J2 x&&(decide (k=0)|| !decide (x.En≤(l.getD (k-1) ⟨0,0⟩).To))
def HY (l:List Span):Bool:=decide (l.length≤20)&&Iu (HF l) 0 l
theorem Ub {l:List Span} {k:Nat} (hk:k<l.length) (hl:l.length≤1048576):((some (J2 l[k])).bind fun GG=>(bif (!GG) then some true else (bif (decide (0<(k:Int))) then (idx l (IntKind.i64.wrap ((k:Int)-1))).bind fun G0=>some (decide (l[k].En≤G0.To)) else some false)))=some (!HF l k l[k]):=by
 unfold HF;rw [Option.bind_some];cases J2 l[k]
 ·rfl
 ·simp only [Bool.not_true,cond_false,Bool.true_and];by_cases h:k=0
  ·subst h;simp
  ·rw [Bi (by omega),cond_true,Aw (by omega),show (k:Int)-1=((k-1:Nat):Int) by omega,wQ (by omega),D8 h,List.getD_eq_getElem?_getD,List.getElem?_eq_getElem (by omega:k-1<l.length)]
   simp
theorem Pf {l:List Span} (hl:l.length≤1048576):JG l=some (HY l):=by
 unfold JG HY;by_cases h:l.length≤20
 ·rw [D8 (by omega),cond_false,Bi h,wS l (Mx l) (fun k (_:Unit)=>k) (fun k x s=>if HF l k x then .next s else .done (.done false)) (fun _=> .next ()) (fun k hk s=>by
   simp only [Mx];rw [Bi (by omega),wQ hk]
   simp only [cond_true,Option.bind_some,Ua];have:=Ub hk hl;simp only [Option.bind_some] at this;rw [this,Option.bind_some,Aw (by omega)]
   cases HF l k l[k]<;>rfl) (fun s=>by simp [Mx]) (),T9 _ _ (fun _ _ _=>rfl)]
  cases Iu (HF l) 0 l<;>rfl
 ·rw [Bi (by omega),D8 h];rfl
theorem aaf {l:List Span} (hl:l.length≤1048576):L4 l=some (HY l):=by
 unfold L4 HY;rw [wS l (L3 l) (fun k (_:Unit)=>k) (fun k x s=>if HF l k x then .next s else .done (.done false)) (fun _=> .next ()) (fun k hk s=>by
  simp only [L3];rw [Bi (by omega),wQ hk]
  simp only [cond_true,Option.bind_some,aae];have:=Ub hk hl;simp only [Option.bind_some] at this;rw [this,Option.bind_some,Aw (by omega)]
  cases HF l k l[k]<;>rfl) (fun s=>by simp [L3]) (),T9 _ _ (fun _ _ _=>rfl)]
 cases Iu (HF l) 0 l
 ·simp
 ·simp only [if_true,Option.bind_some,Bool.and_true];by_cases h:l.length≤20
  ·rw [Bi h,Bi (by omega)]
  ·rw [D8 h,D8 (by omega)]
structure Iv (l:List Span):Prop where
 len:l.length≤20
 sp: ∀x∈l,0≤x.En∧x.En<x.To∧x.To≤1000000
 J3:l.Pairwise fun x y=>x.To<y.En
theorem J4 {l:List Span}:HY l=true↔Iv l:=by
 unfold HY;rw [Bool.and_eq_true,decide_eq_true_eq,T_];have key:(∀(i:Nat) (x:Span),l[i]? =some x→HF l (0+i) x=true)↔(∀x∈l,0≤x.En∧x.En<x.To∧x.To≤1000000)∧l.Pairwise fun x y=>x.To<y.En:=by
  constructor
  ·intro h;have h1: ∀x∈l,0≤x.En∧x.En<x.To∧x.To≤1000000:=fun x hx=>by
    obtain ⟨i,hi⟩:=List.mem_iff_getElem?.1 hx;have:=h i x hi;simp only [HF,J2,Bool.and_eq_true,decide_eq_true_eq] at this;exact this.1
   have h2: ∀i (hi:i+1<l.length),l[i].To<l[i+1].En:=fun i hi=>by
    have:=h (i+1) l[i+1] (List.getElem?_eq_getElem hi);simp only [HF,Bool.and_eq_true,Bool.or_eq_true,decide_eq_true_eq,Bool.not_eq_true',decide_eq_false_iff_not,Nat.zero_add,Nat.add_sub_cancel] at this;rw [List.getD_eq_getElem?_getD,List.getElem?_eq_getElem (by omega:i<l.length)] at this
    have:=this.2;simp only [Option.getD_some] at this;omega
   refine ⟨h1,List.pairwise_iff_getElem.2 fun i j hi hj ju=> ?_⟩;have: ∀d,∀(hd:i+1+d<l.length),l[i].To<l[i+1+d].En:=fun d=>by
    induction d with
    |zero=>intro hd;exact h2 i hd
    |succ d ih=>
     intro hd;have a1:=ih (by omega)
     have a2:=h2 (i+1+d) (by omega)
     have a3:=h1 _ (List.getElem_mem (show i+1+d<l.length by omega))
     have:l[i+1+d+1]=l[i+1+(d+1)]:=rfl;rw [this] at a2;omega
   have:=this (j-(i+1)) (by omega)
   simp only [show i+1+(j-(i+1))=j by omega] at this
   exact this
  ·rintro ⟨h1,h2⟩ i x hi;obtain ⟨gX,e⟩:=List.getElem?_eq_some_iff.1 hi;simp only [HF,J2,Bool.and_eq_true,Bool.or_eq_true,decide_eq_true_eq,Bool.not_eq_true',decide_eq_false_iff_not,Nat.zero_add];refine ⟨h1 x (List.mem_of_getElem? hi),?_⟩;by_cases h0:i=0
   ·exact .inl h0
   ·right;rw [List.getD_eq_getElem?_getD,List.getElem?_eq_getElem (by omega:i-1<l.length)]
    have:=List.pairwise_iff_getElem.1 h2 (i-1) i (by omega) gX (by omega)
    rw [e] at this;simp only [Option.getD_some];omega
 rw [key];exact ⟨fun h=>⟨h.1,h.2.1,h.2.2⟩,fun h=>⟨h.1,h.2,h.3⟩⟩
def GA (l:List Span):Int:=l.foldl (fun n x=>IntKind.i64.wrap (n+IntKind.i64.wrap (x.To-x.En))) 0
theorem aag {l:List Span} (hl:l.length≤1048576):MY l=some (GA l):=by
 unfold MY GA;rw [wS l (MX l) (fun k (s:Int)=>(s,k)) (fun _ x s=> .next (IntKind.i64.wrap (s+IntKind.i64.wrap (x.To-x.En)))) id (fun k hk s=>by
  simp only [MX];rw [Bi (by omega),wQ hk,Aw (x:=(k:Int)+1) (by omega)]
  rfl) (fun s=>by simp [MX]) 0,Bh _ (fun _ _ _=>rfl)]
 rfl
theorem Uc {l:List Span} (hl:l.length≤1048576):JL l=some (if HY l then (GA l,true) else (0,false)):=by
 unfold JL;rw [Pf hl,aag hl];cases HY l<;>rfl
def ER (n:Int) (x:Span):Bool:=decide (x.En≤n)&&decide (n<x.To)
theorem aah {l:List Span} (hl:l.length<2^60) {g:Span→Option Bool} (p:Span→Bool) (hg: ∀x∈l,g x=some (p x)):My l g=some (dV p l):=by
 unfold My;rw [D9 p (f:=PJ l g) (fun _=>rfl) hl hg];have:=qg p l;by_cases h:dV p l<0
 ·rw [if_pos h];simp;omega
 ·rw [if_neg h];rfl
theorem aai {l:List Span} (hl:l.length<2^60) {g:Span→Option Bool} (p:Span→Bool) (hg: ∀x∈l,g x=some (p x)):Mz l g=some (l.any p):=by
 unfold Mz;rw [aah hl p hg,Option.bind_some,Bj]
theorem NF {l:List Span} (hl:l.length≤1048576) (n:Int):I6 l n=some (l.any (ER n)):=by
 unfold I6;rw [aai (by omega) (ER n) (fun x _=>by unfold N6 ER;cases decide (x.En≤n)<;>rfl)]
 rfl
theorem NG {l:List Span} (hl:l.length≤1048576) (n:Int):IY l n=some (l.any (ER n)):=by
 unfold IY;rw [wS l (L6 l n) (fun k (_:Unit)=>k) (fun _ x s=>if !ER n x then .next s else .done (.done true)) (fun _=> .next ()) (fun k hk s=>by
  have e:(bif decide (l[k].En≤n) then some (decide (n<l[k].To)) else some false)=some (ER n l[k]):=by
   unfold ER;cases decide (l[k].En≤n)<;>rfl
  simp only [L6];rw [Bi (by omega),wQ hk,Aw (by omega)]
  simp only [cond_true,Option.bind_some];rw [e];cases ER n l[k]<;>rfl) (fun s=>by simp [L6]) (),D4 _ _ (fun _ _ _=>rfl)]
 have:(l.all fun x=> !ER n x)= !l.any (ER n):=by
  induction l with
  |nil=>rfl
  |cons x xs ih=>simp only [List.all_cons,List.any_cons,ih (by simp only [List.length_cons] at hl;omega),Bool.not_or]
 rw [this];cases l.any (ER n)<;>rfl
def IV (out:List Span) (x:Span):List Span:=
 match out.getLast? with
 |some z=>if x.En≤z.To then out.set (out.length-1) ⟨z.En,if x.To>z.To then x.To else z.To⟩ else out ++ [x]
 |none=>out ++ [x]
theorem aaj (out:List Span) (x:Span):(IV out x).length≤out.length+1:=by
 unfold IV;split
 ·split
  ·simp
  ·simp
 ·simp
theorem aak {l:List Span} (hl:l.length≤100000) (hb: ∀x∈l,-2305843009213693952≤x.En∧x.En≤2305843009213693952): ∃r:List Span,r.Perm l∧(r.Pairwise fun x y=>x.En≤y.En)∧Lf l=some (r.foldl IV []):=by
 obtain ⟨r,h1,h2,h3⟩:=Ed (sz:=2) (z:=RS) (dec:=RT) (fun _=>rfl) (l:=l) (fun x hx=>⟨rfl,hb x hx⟩) (by omega)
 refine ⟨r,h2,h3,?_⟩;have hr:r.length=l.length:=h2.length_eq;unfold Lf ME PM;rw [D3 (by simp<;>omega) (by omega),Option.bind_some,List.nil_append,h1,Option.bind_some]
 rw [Bg r (MF r) (fun k (s:List Span)=>(s,k)) (fun _ x s=> .next (IV s x)) id (fun k s=>s.length≤k) (fun k hk s hs=>by
  refine ⟨?_,fun s' e=>by obtain rfl:=LR.next.inj e;have:=aaj s r[k];omega⟩
  simp only [MF];rw [Bi (by omega),wQ hk,Aw (x:=(k:Int)+1) (by omega),Aw (x:=(s.length:Int)-1) (by omega)]
  simp only [cond_true,Option.bind_some];unfold IV;by_cases h0:s.length=0
  ·have:s=[]:=List.length_eq_zero_iff.1 h0;subst this;rw [D8 (by simp),D3 (by simp) (by omega)]
   rfl
  ·rw [Bi (by omega),cond_true,D6 (by omega) (by omega),Option.bind_some]
   have e1:((s.length:Int)-1).toNat=s.length-1:=by omega
   simp only [e1,List.getLast?_eq_getElem?,List.getElem?_eq_getElem (show s.length-1<s.length by omega),Option.bind_some]
   by_cases h1:r[k].En≤s[s.length-1].To
   ·simp only [decide_eq_true h1,cond_true,if_pos h1,Option.bind_some];rfl
   ·simp only [decide_eq_false h1,cond_false,if_neg h1];rw [D3 (by simp<;>omega) (by omega)];rfl) (fun s _=>by simp [MF]) [] (by simp),Bh _ (fun _ _ _=>rfl)]
 rfl
theorem aal {l:List Span}:Lg l=some (if l.length≤20 then (l,true) else ([],false)):=by
 unfold Lg;by_cases h:l.length≤20
 ·rw [D8 (by omega),if_pos h];rfl
 ·rw [Bi (by omega),if_neg h];rfl
theorem aam {c:ED} {b:Int} (h:EV c b) (hb:b≤1000000000000000000):dc (Mr c) fun r=>r.1.length≤21∧EV r.2 (b+500):=by
 unfold Mr;refine dc.then (ug (by assumption) (by omega)) ?_
 rintro ⟨x,c_x⟩ ⟨x_0,Ud,x_c⟩;dsimp only at x_0 Ud x_c⊢;have x_2:=Ud (by omega)
 refine dc.then (Ju (by assumption) (by omega)) ?_
 rintro ⟨y,c_y⟩ NH;dsimp only at NH⊢;refine dc.then (P:=fun r=>(0≤r.1∧r.1≤21)∧EV ⟨r.2.1,r.2.2.1,r.2.2.2⟩ (b+10)) ?_ ?_
 ·refine dc.D5 (fun hc=> ?_) (fun hc=> ?_)
  ·refine dc.then (ug (by assumption) (by omega)) ?_
   rintro ⟨z,KK⟩ ⟨z_0,Ue,F5⟩;dsimp only at z_0 Ue F5⊢;have z_2:=Ue (by omega)
   rw [Aw (by omega)]
   exact .ret ⟨(by first|omega|(dsimp only;omega)),F5.mono (by omega)⟩
  ·exact .ret ⟨(by first|omega|(dsimp only;omega)),NH.mono (by omega)⟩
 ·rintro ⟨n,co,a,Rs⟩ ⟨hn,eu⟩;dsimp only at hn eu⊢;refine dc.then (ug (by assumption) (by omega)) ?_
  rintro ⟨t,c_t⟩ ⟨t_0,t_1,Uf⟩;dsimp only at t_0 t_1 Uf⊢;refine dc.then (P:=fun r=>r.1.length≤21∧EV ⟨r.2.1,r.2.2.1,r.2.2.2⟩ (b+300)) (dc.eM (fun s=>s.2.1.toNat) (fun s=>((0≤s.2.1∧s.2.1≤21)∧s.1.length+s.2.1.toNat≤21)∧EV ⟨s.2.2.2.1,s.2.2.2.2.1,s.2.2.2.2.2⟩ (b+20+10*(21-s.2.1))) ?_ ⟨⟨(by first|omega|(dsimp only;omega)),by simp only [List.length_nil];omega⟩,Uf.mono (by first|omega|(dsimp only;omega))⟩) ?_
  ·rintro ⟨l,n,w,co,a,Rs⟩ ⟨⟨h1,h2⟩,eu⟩;dsimp only at h1 h2 eu⊢;unfold PI;dsimp only;refine dc.D5 (fun hc=> ?_) (fun hc=> ?_)
   ·simp only [decide_eq_true_eq] at hc;refine dc.then (ug (by assumption) (by omega)) ?_
    rintro ⟨u,c_u⟩ ⟨u_0,u_1,u_c⟩;dsimp only at u_0 u_1 u_c⊢;rw [D3 (by simp<;>omega) (by omega),Option.bind_some,Aw (x:=n-1) (by omega)]
    refine dc.then (ug (by assumption) (by omega)) ?_
    rintro ⟨v,Ug⟩ ⟨v_0,v_1,IW⟩;dsimp only at v_0 v_1 IW⊢;exact .ret ⟨⟨⟨(by first|omega|(dsimp only;omega)),by simp only [List.length_append,List.length_singleton];omega⟩,IW.mono (by first|omega|(dsimp only;omega))⟩,(by first|omega|(dsimp only;omega))⟩
   ·simp only [decide_eq_false_iff_not,Int.not_lt] at hc;exact .ret ⟨(by first|omega|(dsimp only;omega)),eu.mono (by first|omega|(dsimp only;omega))⟩
  ·rintro ⟨l,co,a,Rs⟩ ⟨h1,eu⟩;dsimp only at h1 eu⊢;refine dc.then (P:=fun r=>(r.1=true→0<l.length)∧EV ⟨r.2.1,r.2.2.1,r.2.2.2⟩ (b+400)) ?_ ?_
   ·refine dc.D5 (fun hc=> ?_) (fun hc=> ?_)
    ·simp only [decide_eq_true_eq] at hc;refine dc.then (Ju (by assumption) (by omega)) ?_
     rintro ⟨z,KK⟩ F5;dsimp only at F5⊢;exact .ret ⟨fun _=>by omega,F5.mono (by omega)⟩
    ·exact .ret ⟨fun h=>by simp at h,eu.mono (by omega)⟩
   ·rintro ⟨q,co,a,Rs⟩ ⟨hq,eu⟩;dsimp only at hq eu⊢;refine dc.then (P:=fun r=>r.length≤21) ?_ (fun r hr=> .ret ⟨hr,eu.mono (by omega)⟩)
    refine dc.D5 (fun hc=> ?_) (fun hc=> ?_)
    ·have hq:=hq hc;rw [D6 (by omega) (by omega),Option.bind_some,Option.bind_some]
     exact .ret (by simp only [List.length_set];omega)
    ·exact .ret h1
def Fh:List Span→Prop
 |[]=>True
 |x::l=>x.En<x.To∧(∀y∈l,x.To<y.En)∧Fh l
def hs (l:List Span) (n:Int):Prop:= ∃x∈l,x.En≤n∧n<x.To
theorem J5 (n:Int): ¬hs [] n:=fun ⟨_,h,_⟩=>by simp at h
theorem FK {x:Span} {l:List Span} {n:Int}:hs (x::l) n↔(x.En≤n∧n<x.To)∨hs l n:=by
 constructor
 ·rintro ⟨y,hy,h⟩;rcases List.mem_cons.1 hy with rfl|hy
  ·exact .inl h
  ·exact .inr ⟨y,hy,h⟩
 ·rintro (h|⟨y,hy,h⟩)
  ·exact ⟨x,by simp,h⟩
  ·exact ⟨y,by simp [hy],h⟩
theorem Pg {a b:List Span} {n:Int}:hs (a ++ b) n↔hs a n∨hs b n:=by
 constructor
 ·rintro ⟨y,hy,h⟩;rcases List.mem_append.1 hy with hy|hy
  ·exact .inl ⟨y,hy,h⟩
  ·exact .inr ⟨y,hy,h⟩
 ·rintro (⟨y,hy,h⟩|⟨y,hy,h⟩)
  ·exact ⟨y,by simp [hy],h⟩
  ·exact ⟨y,by simp [hy],h⟩
theorem Uh {a b:List Span} (h:a.Perm b) {n:Int}:hs a n↔hs b n:=
 ⟨fun ⟨y,hy,k⟩=>⟨y,h.mem_iff.1 hy,k⟩,fun ⟨y,hy,k⟩=>⟨y,h.mem_iff.2 hy,k⟩⟩
theorem IX {l:List Span} {n:Int}:l.any (ER n)=true↔hs l n:=by
 simp only [List.any_eq_true,ER,Bool.and_eq_true,decide_eq_true_eq,hs]
theorem Fh.ne: ∀{l:List Span},Fh l→ ∀x∈l,x.En<x.To
 |y::l,h,x,hx=>by
  rcases List.mem_cons.1 hx with rfl|hx
  ·exact h.1
  ·exact Fh.ne h.2.2 x hx
theorem Fh.Ph: ∀{l:List Span},Fh l→l.Pairwise fun x y=>x.To<y.En
 |[],_=>List.Pairwise.nil
 |_::_,h=>List.Pairwise.cons h.2.1 (Fh.Ph h.2.2)
theorem Fh.of: ∀{l:List Span},(∀x∈l,x.En<x.To)→(l.Pairwise fun x y=>x.To<y.En)→Fh l
 |[],_,_=>trivial
 |x::l,h,p=>⟨h x (by simp),(List.pairwise_cons.1 p).1,Fh.of (fun y hy=>h y (by simp [hy])) (List.pairwise_cons.1 p).2⟩
theorem Iv.cn {l:List Span} (h:Iv l):Fh l:=Fh.of (fun x hx=>(h.sp x hx).2.1) h.J3
theorem J6 {x:Span} {l:List Span} (h: ∀y∈l,x.To<y.En) {n:Int} (hn:hs l n):x.To<n:=by
 obtain ⟨y,hy,h1,h2⟩:=hn;have:=h y hy;omega
theorem Fh.gG: ∀{l m:List Span},Fh l→Fh m→(∀n,hs l n↔hs m n)→l=m
 |[],[],_,_,_=>rfl
 |[],y::m,_,h,e=>absurd ((e y.En).2 (FK.2 (.inl ⟨Int.le_refl _,h.1⟩))) (J5 _)
 |x::l,[],h,_,e=>absurd ((e x.En).1 (FK.2 (.inl ⟨Int.le_refl _,h.1⟩))) (J5 _)
 |x::l,y::m,⟨h1,h2,h3⟩,⟨k1,k2,k3⟩,e=>by
  have a1:=FK.1 ((e x.En).1 (FK.2 (.inl ⟨Int.le_refl _,h1⟩)));have a2:=FK.1 ((e y.En).2 (FK.2 (.inl ⟨Int.le_refl _,k1⟩)));have Ui:x.En=y.En:=by
   rcases a1 with a1|a1
   ·rcases a2 with a2|a2
    ·omega
    ·have:=J6 h2 a2;omega
   ·have:=J6 k2 a1;rcases a2 with a2|a2
    ·omega
    ·have:=J6 h2 a2;omega
  have Uj:x.To=y.To:=by
   have b1: ¬x.To<y.To:=fun h=>by
    rcases FK.1 ((e x.To).2 (FK.2 (.inl ⟨by omega,h⟩))) with b|b
    ·omega
    ·have:=J6 h2 b;omega
   have b2: ¬y.To<x.To:=fun h=>by
    rcases FK.1 ((e y.To).1 (FK.2 (.inl ⟨by omega,h⟩))) with b|b
    ·omega
    ·have:=J6 k2 b;omega
   omega
  have exy:x=y:=by cases x;cases y;simp only at Ui Uj;rw [Ui,Uj]
  subst exy;congr 1;refine Fh.gG h3 k3 fun n=>⟨fun hn=> ?_,fun hn=> ?_⟩
  ·have:=J6 h2 hn;rcases FK.1 ((e n).1 (FK.2 (.inr hn))) with b|b
   ·omega
   ·exact b
  ·have:=J6 k2 hn;rcases FK.1 ((e n).2 (FK.2 (.inr hn))) with b|b
   ·omega
   ·exact b
theorem aan (x:Span):IV [] x=[x]:=rfl
theorem aao (i:List Span) (z x:Span):IV (i ++ [z]) x=if x.En≤z.To then i ++ [⟨z.En,if x.To>z.To then x.To else z.To⟩] else i ++ [z] ++ [x]:=by
 unfold IV;simp only [List.getLast?_concat];by_cases h:x.En≤z.To
 ·rw [if_pos h,if_pos h,show (i ++ [z]).length-1=i.length by simp,List.set_append_right _ _ (by omega)]
  simp
 ·rw [if_neg h,if_neg h]
theorem Rt: ∀(r i:List Span) (z:Span),(∀x∈r,x.En<x.To)→(r.Pairwise fun x y=>x.En≤y.En)→(∀x∈r,z.En≤x.En)→Fh (i ++ [z])→Fh (r.foldl IV (i ++ [z]))∧ ∀n,hs (r.foldl IV (i ++ [z])) n↔hs (i ++ [z]) n∨hs r n
 |[],i,z,_,_,_,hc=>⟨hc,fun n=>⟨.inl,fun h=>h.resolve_right (J5 n)⟩⟩
 |x::r,i,z,h1,h2,h3,hc=>by
  have hx:=h1 x (by simp)
  have hz:=h3 x (by simp)
  have hp:=List.pairwise_cons.1 h2;have Ru:=List.pairwise_append.1 hc.Ph;have hzn:=hc.ne z (by simp)
  rw [List.foldl_cons,aao];by_cases h:x.En≤z.To
  ·rw [if_pos h];have hm:z.To≤(if x.To>z.To then x.To else z.To)∧x.To≤(if x.To>z.To then x.To else z.To)∧((if x.To>z.To then x.To else z.To)=x.To∨(if x.To>z.To then x.To else z.To)=z.To):=by split<;>omega
   generalize (if x.To>z.To then x.To else z.To)=t at hm⊢;obtain ⟨c1,c2⟩:=Rt r i ⟨z.En,t⟩ (fun y hy=>h1 y (by simp [hy])) hp.2 (fun y hy=>h3 y (by simp [hy])) (Fh.of (fun y hy=>by
    rcases List.mem_append.1 hy with hy|hy
    ·exact hc.ne y (by simp [hy])
    ·obtain rfl:=List.mem_singleton.1 hy;show z.En<t;omega) (List.pairwise_append.2 ⟨Ru.1,List.pairwise_singleton _ _,fun y hy w hw=>by
      obtain rfl:=List.mem_singleton.1 hw;exact Ru.2.2 y hy z (by simp)⟩))
   refine ⟨c1,fun n=> ?_⟩;rw [c2,Pg,Pg,FK,FK,FK];constructor
   ·rintro ((k|k)|k)
    ·exact .inl (.inl k)
    ·rcases k with k|k
     ·dsimp only at k;by_cases aap:n<z.To
      ·exact .inl (.inr (.inl ⟨k.1,aap⟩))
      ·exact .inr (.inl ⟨by omega,by omega⟩)
     ·exact absurd k (J5 n)
    ·exact .inr (.inr k)
   ·rintro ((k|k|k)|k|k)
    ·exact .inl (.inl k)
    ·exact .inl (.inr (.inl ⟨k.1,by dsimp only;omega⟩))
    ·exact absurd k (J5 n)
    ·exact .inl (.inr (.inl ⟨by dsimp only;omega,by dsimp only;omega⟩))
    ·exact .inr k
  ·rw [if_neg h];obtain ⟨c1,c2⟩:=Rt r (i ++ [z]) x (fun y hy=>h1 y (by simp [hy])) hp.2 (fun y hy=>hp.1 y hy) (Fh.of (fun y hy=>by
    rcases List.mem_append.1 hy with hy|hy
    ·exact hc.ne y hy
    ·obtain rfl:=List.mem_singleton.1 hy;exact hx) (List.pairwise_append.2 ⟨hc.Ph,List.pairwise_singleton _ _,fun y hy w hw=>by
      obtain rfl:=List.mem_singleton.1 hw;rcases List.mem_append.1 hy with hy|hy
      ·have:=Ru.2.2 y hy z (by simp)
       omega
      ·obtain rfl:=List.mem_singleton.1 hy;omega⟩))
   refine ⟨c1,fun n=> ?_⟩;rw [c2,Pg,FK,FK];constructor
   ·rintro ((k|k|k)|k)
    ·exact .inl k
    ·exact .inr (.inl k)
    ·exact absurd k (J5 n)
    ·exact .inr (.inr k)
   ·rintro (k|k|k)
    ·exact .inl (.inl k)
    ·exact .inl (.inr (.inl k))
    ·exact .inr k
theorem aaq {l:List Span} (hl:l.length≤100000) (hb: ∀x∈l,0≤x.En∧x.En<x.To∧x.To≤1000000): ∃j,Lf l=some j∧Fh j∧ ∀n,hs j n↔hs l n:=by
 obtain ⟨r,h1,h2,h3⟩:=aak hl fun x hx=>by have:=hb x hx;omega
 refine ⟨_,h3,?_⟩;have hr: ∀x∈r,x.En<x.To:=fun x hx=>(hb x (h1.mem_iff.1 hx)).2.1;cases r with
 |nil=>exact ⟨trivial,fun n=>Uh h1⟩
 |cons x r=>
  obtain ⟨c1,c2⟩:=Rt r [] x (fun y hy=>hr y (by simp [hy])) (List.pairwise_cons.1 h2).2 (List.pairwise_cons.1 h2).1 ⟨hr x (by simp),fun y hy=>by simp at hy,trivial⟩
  rw [List.foldl_cons,aan];refine ⟨c1,fun n=> ?_⟩;rw [show [x]=[] ++ [x] from rfl,c2,←Uh h1,FK,List.nil_append,FK];exact ⟨fun h=>by
   rcases h with (h|h)|h
   ·exact .inl h
   ·exact absurd h (J5 n)
   ·exact .inr h,fun h=>by
   rcases h with h|h
   ·exact .inl (.inl h)
   ·exact .inr h⟩
theorem Fh.Pj {l:List Span} (h:Fh l) (hn: ∀n,hs l n→0≤n∧n<1000000): ∀x∈l,0≤x.En∧x.En<x.To∧x.To≤1000000:=fun x hx=>by
 have h1:=h.ne x hx;have h2:=hn x.En ⟨x,hx,Int.le_refl _,h1⟩;have h3:=hn (x.To-1) ⟨x,hx,by omega,by omega⟩
 omega
theorem Fh.sps {l:List Span} (h:Fh l) (hn: ∀n,hs l n→0≤n∧n<1000000) (hl:l.length≤20):Iv l:=⟨hl,h.Pj hn,h.Ph⟩
theorem Iv.bY {l:List Span} (h:Iv l) {n:Int} (hn:hs l n):0≤n∧n<1000000:=by
 obtain ⟨x,hx,h1,h2⟩:=hn;have:=h.sp x hx;omega
theorem Uk (a b:Int):KR a b=some (if a<b then a else b):=by
 unfold KR;by_cases h:a<b
 ·rw [Bi h,if_pos h];rfl
 ·rw [D8 h,if_neg h];rfl
theorem aar (a b:Int):L8 a b=some (if b<a then a else b):=by
 unfold L8;by_cases h:b<a
 ·rw [Bi h,if_pos h];rfl
 ·rw [D8 h,if_neg h];rfl
def mix (x y:Span):Span:=⟨if x.En<y.En then x.En else y.En,if y.To<x.To then x.To else y.To⟩
def GX:List Span→Span→List Span
 |[],x=>[x]
 |y::l,x=>if y.En≤x.To then GX l (mix x y) else x::y::l
def GK (x y:Span):Bool:=decide (y.To<x.En)
def FL (l:List Span) (x:Span):List Span:=l.takeWhile (GK x) ++ GX (l.drop (l.takeWhile (GK x)).length) x
theorem drop_cons {α :Type} {l:List α} {k:Nat} {y: α} {suf:List α} (h:l.drop k=y::suf):l.drop (k+1)=suf∧l[k]? =some y:=by
 constructor
 ·rw [←List.drop_drop,h];rfl
 ·have:=List.getElem?_drop (xs:=l) (i:=k) (j:=0);rw [h] at this;simpa using this.symm
theorem Ul (x:Span) (n:Nat): ∀(suf:List Span) (k:Nat) (s:List Span),k+suf.length=n→eA (fun k y (s:List Span)=>if GK x y then LR.next (s ++ [y]) else LR.done (s,(k:Int))) (fun s=>(s,(n:Int))) k suf s=(s ++ suf.takeWhile (GK x),((k+(suf.takeWhile (GK x)).length:Nat):Int))
 |[],k,s,h=>by simp only [List.length_nil] at h;simp [eA,←h]
 |y::suf,k,s,h=>by
  simp only [List.length_cons] at h;simp only [eA];cases hb:GK x y
  ·simp [hb]
  ·simp only [if_true];rw [Ul x n suf (k+1) _ (by omega)]
   simp [hb];omega
theorem Um (l:List Span): ∀(suf:List Span) (k:Nat) (x:Span),l.drop k=suf→k≤l.length→ ∃(k' :Nat) (z:Span),eA (fun k y (s:Span)=>if y.En≤s.To then LR.next (mix s y) else LR.done ((k:Int),s.En,s.To)) (fun s=>((l.length:Int),s.En,s.To)) k suf x=((k' :Int),z.En,z.To)∧k' ≤l.length∧GX suf x=z::l.drop k'
 |[],k,x,_,_=>⟨l.length,x,rfl,Nat.le_refl _,by simp [GX]⟩
 |y::suf,k,x,h,hk=>by
  obtain ⟨h1,h2⟩:=drop_cons h;have bG:k<l.length:=(List.getElem?_eq_some_iff.1 h2).1
  simp only [eA,GX];by_cases hc:y.En≤x.To
  ·rw [if_pos hc,if_pos hc];exact Um l suf (k+1) (mix x y) h1 (by omega)
  ·rw [if_neg hc,if_neg hc];exact ⟨k,x,rfl,hk,by rw [h]⟩
theorem Un {α :Type} (p: α →Bool) (l:List α):(l.takeWhile p).length≤l.length:=by
 induction l with
 |nil=>simp
 |cons x xs ih=>simp only [List.takeWhile_cons];split<;>simp<;>omega
theorem Uo {l:List Span} (hl:l.length≤1048576) (x:Span):KY l x=some (FL l x):=by
 unfold KY;have e0:=Bg l (L9 l x) (fun k (s:List Span)=>(s,k)) (fun k y (s:List Span)=>if GK x y then LR.next (s ++ [y]) else LR.done (s,(k:Int))) (fun s=>(s,(l.length:Int))) (fun k s=>s.length≤k) (fun k hk s hs=>by
  refine ⟨?_,fun s' e=>by
   split at e
   ·obtain rfl:=LR.next.inj e;simp;omega
   ·cases e⟩
  simp only [L9];rw [Bi (by omega),wQ hk,Aw (x:=(k:Int)+1) (by omega)]
  simp only [cond_true,Option.bind_some];unfold GK;by_cases h:l[k].To<x.En
  ·simp only [decide_eq_true h,cond_true,if_true];rw [D3 (by simp<;>omega) (by omega)];rfl
  ·simp only [decide_eq_false h,cond_false];rfl) (fun s _=>by simp [L9]) [] (by simp)
 rw [Ul x l.length l 0 [] (by omega)] at e0
 rw [e0,Option.bind_some];dsimp only;have hw:=Un (GK x) l;rw [Nat.zero_add,List.nil_append];obtain ⟨k',z,e1,bG,e2⟩:=Um l (l.drop (l.takeWhile (GK x)).length) (l.takeWhile (GK x)).length x rfl hw;have e3:=Bf l (Ma l) (fun k (s:Span)=>(k,s.En,s.To)) (fun k y (s:Span)=>if y.En≤s.To then LR.next (mix s y) else LR.done ((k:Int),s.En,s.To)) (fun s=>((l.length:Int),s.En,s.To)) (fun _ _=>True) (fun k hk s _=>by
  refine ⟨?_,fun _ _=>trivial⟩;simp only [Ma];rw [Bi (by omega),wQ hk,Aw (x:=(k:Int)+1) (by omega)]
  simp only [cond_true,Option.bind_some,Uk,aar];by_cases h:l[k].En≤s.To
  ·simp only [decide_eq_true h,cond_true,if_pos h];rfl
  ·simp only [decide_eq_false h,cond_false,if_neg h];rfl) (fun s _=>by simp [Ma]) (l.length-(l.takeWhile (GK x)).length) (l.takeWhile (GK x)).length (by omega) x trivial
 rw [e1] at e3;rw [e3,Option.bind_some];dsimp only;rw [D3 (by simp<;>omega) (by omega),Option.bind_some,D7 (by omega) (by omega) (by omega),Option.bind_some]
 have e4:List.take ((l.length:Int).toNat-(k' :Int).toNat) (List.drop (k' :Int).toNat l)=l.drop k' :=by
  rw [Int.toNat_natCast,Int.toNat_natCast,List.take_of_length_le (by simp)]
 rw [e4,D3 (by simp<;>omega) (by omega),Option.bind_some]
 unfold FL;rw [e2];simp
theorem Rv: ∀(l:List Span) (x:Span),Fh l→x.En<x.To→(∀y∈l,x.En≤y.To)→Fh (GX l x)∧(∀n,hs (GX l x) n↔(x.En≤n∧n<x.To)∨hs l n)∧(∀c,c<x.En→(∀y∈l,c<y.En)→ ∀w∈GX l x,c<w.En)∧(GX l x).length≤l.length+1
 |[],x,_,hx,_=>⟨⟨hx,fun y hy=>by simp at hy,trivial⟩,fun n=>by simp only [GX];exact FK,fun c hc _ w hw=>by obtain rfl:=List.mem_singleton.1 hw;exact hc,by simp [GX]⟩
 |y::l,x,⟨h1,h2,h3⟩,hx,hy=>by
  have xY:=hy y (by simp)
  simp only [GX];by_cases h:y.En≤x.To
  ·rw [if_pos h];have m1:(mix x y).En≤x.En∧(mix x y).En≤y.En∧((mix x y).En=x.En∨(mix x y).En=y.En):=by simp only [mix];split<;>omega
   have m2:x.To≤(mix x y).To∧y.To≤(mix x y).To∧((mix x y).To=x.To∨(mix x y).To=y.To):=by simp only [mix];split<;>omega
   obtain ⟨c1,c2,c3,c4⟩:=Rv l (mix x y) h3 (by omega) (fun w hw=>by
    have a1:=h2 w hw;have a2:=h3.ne w hw;omega)
   refine ⟨c1,fun n=> ?_,fun c hc hl w hw=>c3 c (by have:=hl y (by simp);omega) (fun v hv=>hl v (by simp [hv])) w hw,by simp only [List.length_cons];omega⟩
   rw [c2,FK];constructor
   ·rintro (k|k)
    ·by_cases k1:x.En≤n∧n<x.To
     ·exact .inl k1
     ·exact .inr (.inl (by omega))
    ·exact .inr (.inr k)
   ·rintro (k|k|k)
    ·exact .inl (by omega)
    ·exact .inl (by omega)
    ·exact .inr k
  ·rw [if_neg h];refine ⟨⟨hx,fun w hw=> ?_,h1,h2,h3⟩,fun n=>FK,fun c hc hl w hw=> ?_,by simp⟩
   ·rcases List.mem_cons.1 hw with rfl|hw
    ·omega
    ·have:=h2 w hw;omega
   ·rcases List.mem_cons.1 hw with rfl|hw
    ·exact hc
    ·exact hl w hw
theorem Rw: ∀(l:List Span) (x:Span),Fh l→x.En<x.To→Fh (FL l x)∧(∀n,hs (FL l x) n↔(x.En≤n∧n<x.To)∨hs l n)∧(∀c,c<x.En→(∀y∈l,c<y.En)→ ∀w∈FL l x,c<w.En)∧(FL l x).length≤l.length+1
 |[],x,h,hx=>Rv [] x h hx (fun y hy=>by simp at hy)
 |y::l,x,⟨h1,h2,h3⟩,hx=>by
  by_cases hb:y.To<x.En
  ·have e:FL (y::l) x=y::FL l x:=by simp [FL,GK,hb]
   obtain ⟨c1,c2,c3,c4⟩:=Rw l x h3 hx;rw [e];refine ⟨⟨h1,c3 _ hb h2,c1⟩,fun n=> ?_,fun c hc hl w hw=> ?_,by simp only [List.length_cons];omega⟩
   ·rw [FK,c2,FK];constructor
    ·rintro (k|k|k)
     ·exact .inr (.inl k)
     ·exact .inl k
     ·exact .inr (.inr k)
    ·rintro (k|k|k)
     ·exact .inr (.inl k)
     ·exact .inl k
     ·exact .inr (.inr k)
   ·rcases List.mem_cons.1 hw with rfl|hw
    ·exact hl w (by simp)
    ·exact c3 c hc (fun v hv=>hl v (by simp [hv])) w hw
  ·have e:FL (y::l) x=GX (y::l) x:=by simp [FL,GK,hb]
   rw [e];exact Rv (y::l) x ⟨h1,h2,h3⟩ hx fun w hw=>by
    rcases List.mem_cons.1 hw with rfl|hw
    ·omega
    ·have:=h2 w hw;have:=h3.ne w hw;omega
theorem fold_add: ∀(b a:List Span),Fh a→(∀x∈b,x.En<x.To)→Fh (b.foldl FL a)∧(∀n,hs (b.foldl FL a) n↔hs a n∨hs b n)
 |[],a,h,_=>⟨h,fun n=>⟨.inl,fun k=>k.resolve_right (J5 n)⟩⟩
 |x::b,a,h,hb=>by
  obtain ⟨c1,c2,_,_⟩:=Rw a x h (hb x (by simp))
  obtain ⟨d1,d2⟩:=fold_add b (FL a x) c1 fun y hy=>hb y (by simp [hy])
  refine ⟨d1,fun n=> ?_⟩;rw [List.foldl_cons,d2,c2,FK];constructor
  ·rintro ((k|k)|k)
   ·exact .inr (.inl k)
   ·exact .inl k
   ·exact .inr (.inr k)
  ·rintro (k|k|k)
   ·exact .inl (.inr k)
   ·exact .inl (.inl k)
   ·exact .inr k
theorem aas {a b:List Span} (ha:a.length≤100) (hb:b.length≤100) (aat:Fh a) (aau: ∀x∈b,x.En<x.To):Mc a b=some (b.foldl FL a):=by
 unfold Mc;rw [D3 (by simp<;>omega) (by omega),Option.bind_some,List.nil_append]
 rw [Bg b (Mb b) (fun k (s:List Span)=>(s,k)) (fun _ y (s:List Span)=>LR.next (FL s y)) id (fun k s=>Fh s∧s.length≤100+k) (fun k hk s hs=>by
  have hm:=aau b[k] (List.getElem_mem hk);obtain ⟨c1,_,_,c4⟩:=Rw s b[k] hs.1 hm;refine ⟨?_,fun s' e=>by obtain rfl:=LR.next.inj e;exact ⟨c1,by omega⟩⟩
  simp only [Mb];rw [Bi (by omega),wQ hk,Aw (x:=(k:Int)+1) (by omega)]
  simp only [cond_true,Option.bind_some];rw [Uo (by omega)];rfl) (fun s _=>by simp [Mb]) a ⟨aat,by omega⟩,Bh _ (fun _ _ _=>rfl)]
 rfl
theorem aav {n:Int} (h0:0≤n) (h1:n≤1000):MA n=some []:=by
 unfold MA;rw [D8 (by omega),cond_false,Option.bind_some,show IntKind.i64.wrap (0-0)=0 from rfl,Aw (by omega)]
 by_cases h:0<n-0
 ·rw [Bi h,cond_true,show n-0=((n.toNat:Nat):Int) by omega,D2 (by omega) (by omega),Option.bind_some,D7 (by omega) (by omega) (by omega)]
  rfl
 ·rw [D8 h];rfl
theorem aaw {a b:List Span} (ha:a.length≤100) (hb:b.length≤100):MD [a,b]=some (a ++ b):=by
 unfold MD;have hm: ∀(k:Nat) (hk:k<[a,b].length),([a,b][k]).length≤100:=fun k hk=>by
  have:=List.getElem_mem hk;simp only [List.mem_cons,List.not_mem_nil,or_false] at this;rcases this with h|h<;>rw [h]<;>assumption
 rw [Bg [a,b] (MB [a,b]) (fun k (s:Int)=>(s,k)) (fun _ y s=> .next (s+(y.length:Int))) id (fun k s=>0≤s∧s≤100*k) (fun k hk s hs=>by
  have:=hm k hk;refine ⟨?_,fun s' e=>by obtain rfl:=LR.next.inj e;omega⟩
  have BO:k<2:=hk;simp only [MB];rw [Bi (by simp<;>omega),wQ hk,Aw (x:=(k:Int)+1) (by omega)]
  simp only [cond_true,Option.bind_some];rw [Aw (by omega),D8 (by omega)];rfl) (fun s _=>by simp [MB]) 0 (by simp),Bh _ (fun _ _ _=>rfl)]
 simp only [id,List.foldl_cons,List.foldl_nil,Option.bind_some];rw [aav (by omega) (by omega),Option.bind_some]
 rw [Bg [a,b] (MC [a,b]) (fun k (s:List Span)=>(s,k)) (fun _ y s=> .next (s ++ y)) id (fun k s=>s.length≤100*k) (fun k hk s hs=>by
  have:=hm k hk;refine ⟨?_,fun s' e=>by obtain rfl:=LR.next.inj e;simp only [List.length_append];omega⟩
  have BO:k<2:=hk;simp only [MC];rw [Bi (by simp<;>omega),wQ hk,Aw (x:=(k:Int)+1) (by omega)]
  simp only [cond_true,Option.bind_some];rw [D3 (by omega) (by omega)];rfl) (fun s _=>by simp [MC]) [] (by simp),Bh _ (fun _ _ _=>rfl)]
 rfl
theorem aax {l:List Span} (hl:l.length≤1000):MV l l=some true:=by
 unfold MV;rw [bne_self_eq_false,cond_false,wS l (MU l l) (fun k (_:Unit)=>k) (fun _ _ s=> .next s) (fun _=> .next ()) (fun k hk s=>by
  simp only [MU];rw [Bi (by omega),wQ hk,Aw (by omega)]
  simp;rfl) (fun s=>by simp [MU]) (),Bh (fun s _=>s) (fun _ _ _=>rfl)]
 rfl
def GL (p:Int→Bool):Nat→Nat
 |0=>0
 |N+1=>GL p N+(p N).toNat
theorem Uq (p q:Int→Bool) (N:Nat):GL (fun n=>p n||q n) N+GL (fun n=>p n&&q n) N=GL p N+GL q N:=by
 induction N with
 |zero=>rfl
 |succ N ih=>
  simp only [GL];cases p N<;>cases q N<;>simp only [Bool.or_false,Bool.or_true,Bool.and_false,Bool.and_true,Bool.toNat_true,Bool.toNat_false]<;>omega
theorem Pk {p:Int→Bool} (h: ∀n,p n=false) (N:Nat):GL p N=0:=by
 induction N with
 |zero=>rfl
 |succ N ih=>simp only [GL,ih,h];rfl
theorem Ur (x:Span) (h0:0≤x.En) (h1:x.En<x.To) (N:Nat):(GL (fun n=>ER n x) N:Int)=if (N:Int)≤x.En then 0 else if (N:Int)≤x.To then N-x.En else x.To-x.En:=by
 induction N with
 |zero=>simp [GL,h0]
 |succ N ih=>
  simp only [GL];have e:ER (N:Int) x=decide (x.En≤(N:Int)∧(N:Int)<x.To):=by
   unfold ER;rw [Bool.decide_and]
  rw [e];by_cases h:x.En≤(N:Int)∧(N:Int)<x.To
  ·rw [Bi h,Bool.toNat_true]
   push_cast
   rw [ih];repeat' split
   all_goals omega
  ·rw [D8 h,Bool.toNat_false]
   push_cast
   rw [Int.add_zero,ih];repeat' split
   all_goals omega
def Iw (l:List Span):Int:=(l.map fun x=>x.To-x.En).sum
theorem Us (N:Nat): ∀(l:List Span),Fh l→(∀x∈l,0≤x.En∧x.To≤N)→Iw l=(GL (fun n=>l.any (ER n)) N:Int)
 |[],_,_=>by rw [Pk (p:=fun n=>([]:List Span).any (ER n)) (fun n=>rfl)];rfl
 |x::l,⟨h1,h2,h3⟩,hb=>by
  have hx:=hb x (by simp)
  have e1:=Uq (fun n=>ER n x) (fun n=>l.any (ER n)) N;have e2:=Pk (p:=fun n=>ER n x&&l.any (ER n)) (fun n=>by
   by_cases k:hs l n
   ·have:=J6 h2 k;unfold ER;rw [D8 (show¬n<x.To by omega)]
    simp
   ·have:l.any (ER n)=false:=by
     rw [Bool.eq_false_iff];exact fun q=>k (IX.1 q)
    simp [this]) N
  have e3:=Ur x hx.1 h1 N;have e4:=Us N l h3 fun y hy=>hb y (by simp [hy])
  have e5:(fun n=>(x::l).any (ER n))=fun n=>ER n x||l.any (ER n):=rfl;have e6:Iw (x::l)=(x.To-x.En)+Iw l:=by simp [Iw]
  rw [e5,e6,e4];rw [if_neg (by omega)] at e3
  have e7:(GL (fun n=>ER n x) N:Int)=x.To-x.En:=by
   rw [e3];split<;>omega
  omega
theorem Ut: ∀(l:List Span) (s:Int),(∀x∈l,0≤x.En∧x.En<x.To∧x.To≤1000000)→0≤s→s+1000000*(l.length:Int)≤4000000000000000000→l.foldl (fun n x=>IntKind.i64.wrap (n+IntKind.i64.wrap (x.To-x.En))) s=s+Iw l∧0≤Iw l∧Iw l≤1000000*(l.length:Int)
 |[],s,_,_,_=>by simp [Iw]
 |x::l,s,h,h0,h1=>by
  have hx:=h x (by simp)
  simp only [List.length_cons] at h1
  push_cast at h1
  have e6:Iw (x::l)=(x.To-x.En)+Iw l:=by simp [Iw]
  obtain ⟨a1,a2,a3⟩:=Ut l (s+(x.To-x.En)) (fun y hy=>h y (by simp [hy])) (by omega) (by omega)
  rw [List.foldl_cons,Aw (x:=x.To-x.En) (by omega),Aw (by omega),a1,e6]
  simp only [List.length_cons]
  push_cast
  omega
theorem Iv.GA {l:List Span} (h:Iv l):GA l=(GL (fun n=>l.any (ER n)) 1000000:Int)∧0≤Go.GC.GA l∧Go.GC.GA l≤20000000:=by
 obtain ⟨a1,a2,a3⟩:=Ut l 0 h.sp (by omega) (by have:=h.len;omega)
 have e:=Us 1000000 l h.cn fun x hx=>by have:=h.sp x hx;exact ⟨this.1,this.2.2⟩
 have hl:=h.len;unfold Go.GC.GA;rw [a1,Int.zero_add];exact ⟨e,a2,by omega⟩
def tell (l:List Span):List Span×Bool:=if l.length≤20 then (l,true) else ([],false)
theorem aay (l:List Span):Lg l=some (tell l):=aal
theorem aaz (l:List Span):Mp l=some (tell l):=by
 unfold Mp tell;by_cases h:l.length≤20
 ·rw [D8 (by omega),if_pos h];rfl
 ·rw [Bi (by omega),if_neg h];rfl
def Pl (a b:List Span):List Span×Bool:=if HY a&&HY b then tell (b.foldl FL a) else ([],false)
theorem aaA {α :Type} {A B:Bool} {k:Option α} {z: α} {v: α} (h:A=true→B=true→k=some v):((some A).bind fun E1=>(bif (!E1) then some true else (some B).bind fun FI=>some (!FI))).bind (fun Ey=>bif Ey then some z else k)=some (if A&&B then v else z):=by
 cases A
 ·rfl
 ·cases B
  ·rfl
  ·simp only [Option.bind_some,Bool.not_true,cond_false,Bool.and_self,if_true];exact h rfl rfl
theorem aaB {a b:List Span} (ha:a.length≤100) (hb:b.length≤100):MH a b=some (Pl a b):=by
 unfold MH Pl;rw [Pf (by omega),Pf (by omega)]
 refine aaA fun h1 h2=> ?_;have p1:=J4.1 h1;have p2:=J4.1 h2;obtain ⟨j,e,j1,j2⟩:=aaq (l:=a ++ b) (by simp<;>omega) (fun x hx=>by
  rcases List.mem_append.1 hx with hx|hx
  ·exact p1.sp x hx
  ·exact p2.sp x hx)
 obtain ⟨f1,f2⟩:=fold_add b a p1.cn fun x hx=>(p2.sp x hx).2.1;have KL:j=b.foldl FL a:=j1.gG f1 fun n=>by rw [j2,f2,Pg]
 rw [aaw ha hb,Option.bind_some,e,Option.bind_some,KL,aay];rfl
theorem Uu {α :Type} [DecidableEq α]: ∀(P o:List α),P.Nodup→(∀x∈P,x∈o)→P.length≤o.length
 |[],o,_,_=>by simp
 |x::P,o,hP,hs=>by
  obtain ⟨hx,hP'⟩:=List.nodup_cons.1 hP;have h1:=Uu P (o.erase x) hP' (fun y hy=>(List.mem_erase_of_ne (fun e=>by subst e;exact hx hy)).2 (hs y (by simp [hy])))
  have h2:x∈o:=hs x (by simp)
  have h3:=List.length_erase_of_mem h2;have h4:=List.length_pos_of_mem h2;simp only [List.length_cons];omega
def NI (n:Nat):List Int:=(List.range n).map fun (k:Nat)=>(k:Int)
theorem aaC (n:Nat):(NI n).length=n:=by simp [NI]
theorem aaD {n:Nat} {x:Int}:x∈NI n↔0≤x∧x<n:=by
 simp only [NI,List.mem_map,List.mem_range];constructor
 ·rintro ⟨k,hk,rfl⟩;omega
 ·rintro ⟨h0,h1⟩;exact ⟨x.toNat,by omega,by omega⟩
theorem Pm: ∀{a b:List Int},a.Pairwise (· < ·)→b.Pairwise (· < ·)→(∀x,x∈a↔x∈b)→a=b
 |[],[],_,_,_=>rfl
 |[],y::b,_,_,h=>by have:=(h y).2 (by simp);simp at this
 |x::a,[],_,_,h=>by have:=(h x).1 (by simp);simp at this
 |x::a,y::b,ha,hb,h=>by
  obtain ⟨a1,a2⟩:=List.pairwise_cons.1 ha;obtain ⟨b1,b2⟩:=List.pairwise_cons.1 hb;have e:x=y:=by
   have h1:=(h x).1 (by simp)
   have h2:=(h y).2 (by simp)
   rcases List.mem_cons.1 h1 with h1|h1
   ·exact h1
   ·rcases List.mem_cons.1 h2 with h2|h2
    ·exact h2.symm
    ·have:=b1 x h1;have:=a1 y h2;omega
  subst e;congr 1;refine Pm a2 b2 fun z=>⟨fun hz=> ?_,fun hz=> ?_⟩
  ·rcases List.mem_cons.1 ((h z).1 (List.mem_cons_of_mem _ hz)) with e|e
   ·have:=a1 z hz;omega
   ·exact e
  ·rcases List.mem_cons.1 ((h z).2 (List.mem_cons_of_mem _ hz)) with e|e
   ·have:=b1 z hz;omega
   ·exact e
theorem Pn {a:List Int} (h:a.Pairwise (· < ·)):a.Nodup:=h.imp fun {x y} xY e=>by omega
theorem aaE (zs:List Int):(gg zs).Pairwise (· ≤ ·):=by
 have:=List.pairwise_mergeSort (le:=fun x y:Int=>decide (x≤y)) (fun a b c h1 h2=>by simp at*;omega) (fun a b=>by simp<;>omega) zs
 exact this.imp fun h=>by simpa using h
def EG (l:List Int) (x:Int):Bool:=decide (x∈l)
theorem NJ {l:List Int} {x:Int}:EG l x=true↔x∈l:=by simp [EG]
theorem Uv {l:List Int} {x:Int} {i:Nat} (h:i<l.length):x∈l.drop i↔l[i]=x∨x∈l.drop (i+1):=by
 rw [List.drop_eq_getElem_cons h,List.mem_cons];exact or_congr_left eq_comm
theorem aaF {l:List Int} (hl:l.length≤1048576) (x:Int):MK l x=some (EG l x):=by
 unfold MK Oa;obtain ⟨y,e,hy⟩:=wP (f:=N_ l x) (fun i:Int=>l.length-i.toNat) (fun i=>0≤i∧i≤l.length∧(x∈l↔x∈l.drop i.toNat)) (fun y=>match y with| .next ()=>x∉l| .done k=>x∈l∧0≤k) (by
  rintro i ⟨i0,i1,i2⟩;simp only [N_];by_cases hi:i<l.length
  ·have ax:i.toNat<l.length:=by omega
   rw [Bi hi,D6 i0 hi];simp only [cond_true,Option.bind_some];rw [Uv ax] at i2;by_cases hx:x=l[i.toNat]
   ·rw [show (x==l[i.toNat])=true from beq_iff_eq.2 hx];exact ⟨_,rfl,i2.2 (.inl hx.symm),i0⟩
   ·rw [show (x==l[i.toNat])=false from beq_eq_false_iff_ne.2 hx,cond_false,Aw (by omega)]
    refine ⟨_,rfl,⟨by omega,by omega,?_⟩,by omega⟩
    rw [show (i+1).toNat=i.toNat+1 by omega,i2]
    exact or_iff_right (fun h=>hx h.symm)
  ·rw [D8 hi];rw [List.drop_eq_nil_of_le (by omega)] at i2
   exact ⟨_,rfl,fun h=>by simpa using i2.1 h⟩) 0 ⟨by omega,by omega,by simp⟩
 rw [e];cases y with
 |next u=>
  cases u
  have:EG l x=false:=by simpa [EG] using hy
  rw [this];rfl
 |done k=>
  have:EG l x=true:=by simpa [EG] using hy.1
  rw [this];simp only [Option.bind_some];rw [Bi hy.2]
theorem Rx {l:List Int} (hl:l.length≤1048576) (x:Int):J_ l x=some (EG l x):=by
 unfold J_;obtain ⟨y,e,hy⟩:=wP (f:=NZ l x) (fun i:Int=>l.length-i.toNat) (fun i=>0≤i∧i≤l.length∧(x∈l↔x∈l.drop i.toNat)) (fun y=>match y with| .next ()=>x∉l| .done k=>x∈l∧k=true) (by
  rintro i ⟨i0,i1,i2⟩;simp only [NZ];by_cases hi:i<l.length
  ·have ax:i.toNat<l.length:=by omega
   rw [Bi hi,D6 i0 hi];simp only [cond_true,Option.bind_some];rw [Uv ax] at i2;by_cases hx:l[i.toNat]=x
   ·rw [show (l[i.toNat]==x)=true from beq_iff_eq.2 hx];exact ⟨_,rfl,i2.2 (.inl hx),rfl⟩
   ·rw [show (l[i.toNat]==x)=false from beq_eq_false_iff_ne.2 hx,cond_false,Aw (by omega)]
    refine ⟨_,rfl,⟨by omega,by omega,?_⟩,by omega⟩
    rw [show (i+1).toNat=i.toNat+1 by omega,i2]
    exact or_iff_right hx
  ·rw [D8 hi];rw [List.drop_eq_nil_of_le (by omega)] at i2
   exact ⟨_,rfl,fun h=>by simpa using i2.1 h⟩) 0 ⟨by omega,by omega,by simp⟩
 rw [e];cases y with
 |next u=>
  cases u
  have:EG l x=false:=by simpa [EG] using hy
  rw [this];rfl
 |done k=>
  have:EG l x=true:=by simpa [EG] using hy.1
  rw [this,hy.2];rfl
def E0 (N:Int) (p:Int→Bool):List Int:=((List.range N.toNat).filter fun (k:Nat)=>p (k:Int)).map fun (k:Nat)=>(k:Int)
theorem KM (N:Int) (p:Int→Bool):(E0 N p).Pairwise (· < ·):=by
 unfold E0;rw [List.pairwise_map];exact (List.pairwise_lt_range.filter _).imp fun h=>by omega
theorem G9 {N:Int} {p:Int→Bool} {x:Int}:x∈E0 N p↔(0≤x∧x<N)∧p x=true:=by
 simp only [E0,List.mem_map,List.mem_filter,List.mem_range];constructor
 ·rintro ⟨k,⟨h1,h2⟩,rfl⟩;exact ⟨⟨by omega,by omega⟩,h2⟩
 ·rintro ⟨⟨h1,h2⟩,h3⟩;exact ⟨x.toNat,⟨by omega,by rw [show ((x.toNat:Nat):Int)=x by omega];exact h3⟩,by omega⟩
theorem Ix (N:Int) (p:Int→Bool):(E0 N p).length≤N.toNat:=by
 unfold E0;rw [List.length_map];exact Nat.le_trans (List.length_filter_le _ _) (by simp)
theorem Po {k:Nat} {p:Int→Bool}:E0 ((k:Int)+1) p=E0 (k:Int) p ++ (if p (k:Int) then [(k:Int)] else []):=by
 unfold E0;rw [show ((k:Int)+1).toNat=k+1 by omega,Int.toNat_natCast,List.range_succ,List.filter_append,List.map_append]
 cases h:p (k:Int)<;>simp [h]
theorem Pp {N:Int} (h0:0≤N) (h1:N≤1000) {p:Int→Bool} {f:List Int×Int→Option (LR (List Int×Int) (List Int))}
 (hf: ∀(x:List Int) (k:Int),0≤k→k<N→x.length≤1000→f (x,k)=some (.next (x ++ (if p k then [k] else []),k+1))) (hz: ∀x,f (x,N)=some (.done x)):eM f ([],0)=some (E0 N p):=by
 refine D1 (fun x:List Int×Int=>N.toNat-x.2.toNat) (fun x=>0≤x.2∧x.2≤N∧x.1=E0 x.2 p) _ ?_ _ ⟨by simp,h0,by simp [E0]⟩
 rintro ⟨x,k⟩ ⟨i0,i1,i2⟩;simp only at i0 i1 i2;obtain ⟨k,rfl⟩:=Int.eq_ofNat_of_zero_le i0;by_cases hk:(k:Int)<N
 ·have hl:=Ix (k:Int) p;refine ⟨_,hf x k i0 hk (by rw [i2];omega),⟨by simp only;omega,by simp only;omega,?_⟩,by simp only;omega⟩
  simp only;rw [i2,Po]
 ·obtain rfl:(k:Int)=N:=by omega
  refine ⟨_,hz x,?_⟩;simp only;rw [i2]
abbrev hb (l:List Span) (n:Int):Bool:=l.any (ER n)
structure Iy (l:List Span) (n:Int):Prop where
 sp:Iv l
 lt: ∀m,hs l m→m<n
def Gt (l:List Span):Span:=l.getD (l.length-1) ⟨0,0⟩
theorem Pq {l:List Span} (h:0<l.length):Gt l∈l:=by
 unfold Gt;rw [List.getD_eq_getElem?_getD,List.getElem?_eq_getElem (by omega)]
 exact List.getElem_mem _
theorem aaG {l:List Span} (h:Iv l) {x:Span} (hx:x∈l):x.To≤(Gt l).To:=by
 obtain ⟨i,hi,rfl⟩:=List.getElem_of_mem hx;unfold Gt;rw [List.getD_eq_getElem?_getD,List.getElem?_eq_getElem (by omega)]
 simp only [Option.getD_some];by_cases e:i=l.length-1
 ·subst e;exact Int.le_refl _
 ·have h1:=List.pairwise_iff_getElem.1 h.J3 i (l.length-1) hi (by omega) (by omega)
  have h2:=(h.sp _ (List.getElem_mem (l:=l) (n:=l.length-1) (by omega))).2.1
  omega
theorem aaH {l:List Span} (h:Iv l) {n:Int}:Iy l n↔(l.length=0∨(Gt l).To≤n):=by
 constructor
 ·rintro ⟨_,h2⟩;by_cases h0:l.length=0
  ·exact .inl h0
  ·right;have hm:=Pq (l:=l) (by omega)
   have:=(h.sp _ hm).2.1;have:=h2 ((Gt l).To-1) ⟨_,hm,by omega,by omega⟩
   omega
 ·intro h2;refine ⟨h,fun m ⟨x,hx,h3,h4⟩=> ?_⟩;have h5:=aaG h hx;rcases h2 with h2|h2
  ·rw [List.eq_nil_of_length_eq_zero h2] at hx;simp at hx
  ·omega
theorem Uw {l:List Span} (hl:l.length≤1048576) (n:Int) {g:List Span→Option Bool} (hg:g l=some (HY l)):
 ∃b,((g l).bind fun b3=>(bif b3 then (bif ((l.length:Int)==0) then some true else (idx l (IntKind.i64.wrap ((l.length:Int)-1))).bind fun F7=>some (decide (F7.To≤n))) else some false))=some b∧(b=true↔Iy l n):=by
 rw [hg,Option.bind_some];cases h:HY l
 ·exact ⟨false,rfl,by simp;intro hb;have:=J4.2 hb.sp;rw [h] at this;simp at this⟩
 ·have hs:=J4.1 h;rw [aaH hs,cond_true];by_cases h0:l.length=0
  ·refine ⟨true,?_,by simp [h0]⟩
   rw [h0];rfl
  ·refine ⟨decide ((Gt l).To≤n),?_,by simp [h0]⟩
   rw [show ((l.length:Int)==0)=false by rw [beq_eq_false_iff_ne];omega,cond_false,Aw (by omega),D6 (by omega) (by omega),Option.bind_some]
   unfold Gt;rw [List.getD_eq_getElem?_getD,List.getElem?_eq_getElem (by omega)]
   have e:((l.length:Int)-1).toNat=l.length-1:=by omega
   simp only [Option.getD_some,e]
theorem Ux {l:List Span} (hl:l.length≤1048576) (n:Int): ∃b,Le l n=some b∧(b=true↔Iy l n):=Uw hl n (Pf hl)
theorem Uy {l:List Span} (hl:l.length≤1048576) (n:Int): ∃b,KX l n=some b∧(b=true↔Iy l n):=Uw hl n (aaf hl)
structure GY (s:Et):Prop where
 GM:0≤s.Next∧s.Next≤60
 G_:Iy s.Em s.Next
 J3:s.Ek.Pairwise (· < ·)
 mem: ∀x∈s.Ek,(0≤x∧x<s.Next)∧ ¬hs s.Em x
theorem Ry: ∀{l:List Int},(∀i (h:i<l.length),0<i→l[i-1]'(by omega)<l[i])→l.Pairwise (· < ·)
 |[],_=> .nil
 |[x],_=>List.pairwise_singleton _ _
 |x::y::l,h=>by
  have ih:=Ry (l:=y::l) fun i hi h0=>by
   have:=h (i+1) (by simp only [List.length_cons] at hi⊢;omega) (by omega)
   obtain ⟨j,rfl⟩: ∃j,i=j+1:=⟨i-1,by omega⟩
   simpa using this
  have h1:x<y:=h 1 (by simp) (by omega)
  refine List.pairwise_cons.2 ⟨fun z hz=> ?_,ih⟩;rcases List.mem_cons.1 hz with rfl|hz
  ·exact h1
  ·have:=(List.pairwise_cons.1 ih).1 z hz;omega
theorem Uz {l:List Int} (h:l.Pairwise (· < ·)) {i:Nat} (hi:i<l.length) (h0:0<i):l[i-1]'(by omega)<l[i]:=
 List.pairwise_iff_getElem.1 h _ _ _ _ (by omega)
theorem aaI {s:Et} (h1:s.Em.length≤1048576) (h2:s.Ek.length≤1048576): ∃b,Hz s=some b∧(b=true↔GY s):=by
 unfold Hz;rw [Rp,Option.bind_some];cases e1:GW s.Next 0 60
 ·exact ⟨false,rfl,by simp;intro g;have:=Is.2 g.GM;rw [e1] at this;simp at this⟩
 ·have hn:=Is.1 e1;obtain ⟨b,e2,iG⟩:=Ux h1 s.Next;simp only [Bool.not_true,cond_false];rw [e2];simp only [Option.bind_some];cases b
  ·exact ⟨false,rfl,by simp;intro g;have:=iG.2 g.G_;simp at this⟩
  ·have KN:=iG.1 rfl;simp only [Bool.not_true,cond_false];obtain ⟨y,e,hy⟩:=wP (f:=N7 s) (fun i:Int=>s.Ek.length-i.toNat) (fun i=>0≤i∧i≤s.Ek.length∧ ∀j (h:j<s.Ek.length),(j:Int)<i→((0≤s.Ek[j]∧s.Ek[j]<s.Next)∧ ¬hs s.Em s.Ek[j])∧(0<j→s.Ek[j-1]'(by omega)<s.Ek[j]))
    (fun y=>match y with| .next ()=>GY s| .done k=>k=false∧ ¬GY s) (by
    rintro i ⟨i0,i1,i2⟩;simp only [N7];by_cases hi:i<s.Ek.length
    ·have ax:i.toNat<s.Ek.length:=by omega
     rw [Bi hi,D6 i0 hi];simp only [cond_true,Option.bind_some];rw [Aw (x:=s.Next-1) (by omega),Rp,NF h1]
     simp only [Option.bind_some];by_cases c1:GW s.Ek[i.toNat] 0 (s.Next-1)=true
     ·have Jv:=Is.1 c1
      rw [c1];simp only [Bool.not_true,cond_false];cases c2:s.Em.any (ER s.Ek[i.toNat])
      ·have Pr: ¬hs s.Em s.Ek[i.toNat]:=fun h=>by rw [IX.2 h] at c2;simp at c2
       simp only [cond_false];by_cases c3:0<i
       ·rw [Bi c3,cond_true,Aw (x:=i-1) (by omega),D6 (by omega) (by omega)]
        simp only [Option.bind_some];have e3:s.Ek[(i-1).toNat]'(by omega)=s.Ek[i.toNat-1]'(by omega):=by congr 1;omega
        rw [e3];by_cases c4:s.Ek[i.toNat]≤s.Ek[i.toNat-1]'(by omega)
        ·rw [Bi c4,cond_true];refine ⟨_,rfl,rfl,fun g=> ?_⟩;have:=Uz g.J3 ax (by omega);omega
        ·rw [D8 c4,cond_false,Aw (by omega)]
         refine ⟨_,rfl,⟨by omega,by omega,fun j hj Ps=> ?_⟩,by omega⟩
         by_cases KL:(j:Int)<i
         ·exact i2 j hj KL
         ·obtain rfl:j=i.toNat:=by omega
          exact ⟨⟨⟨Jv.1,by omega⟩,Pr⟩,fun _=>by omega⟩
       ·rw [D8 c3];simp only [cond_false,Option.bind_some];rw [Aw (by omega)]
        refine ⟨_,rfl,⟨by omega,by omega,fun j hj Ps=> ?_⟩,by omega⟩
        obtain rfl:j=i.toNat:=by omega
        exact ⟨⟨⟨Jv.1,by omega⟩,Pr⟩,fun h=>by omega⟩
      ·simp only [cond_true,Option.bind_some];exact ⟨_,rfl,rfl,fun g=>(g.mem _ (List.getElem_mem ax)).2 (IX.1 c2)⟩
     ·have Jv:GW s.Ek[i.toNat] 0 (s.Next-1)=false:=by simpa using c1
      rw [Jv];simp only [Bool.not_false,cond_true,Option.bind_some];refine ⟨_,rfl,rfl,fun g=>c1 (Is.2 ?_)⟩;have:=(g.mem _ (List.getElem_mem ax)).1;omega
    ·rw [D8 hi];refine ⟨_,rfl,⟨hn,KN,Ry fun j hj h0=>(i2 j hj (by omega)).2 h0,fun x hx=> ?_⟩⟩
     obtain ⟨j,hj,rfl⟩:=List.getElem_of_mem hx;exact (i2 j hj (by omega)).1) 0 ⟨by omega,by omega,fun j _ h=>by omega⟩
   rw [e];cases y with
   |next u=>cases u;exact ⟨true,rfl,by simpa using hy⟩
   |done k=>
    obtain ⟨rfl,hy⟩:=hy;exact ⟨false,rfl,by simpa using hy⟩
theorem aaJ {l:List Int} (hl:l.length≤1048576) {n:Int} (hn: -1000≤n∧n≤10000): ∃b,L5 l n=some b∧(b=true↔l.Pairwise (· < ·)∧ ∀x∈l,0≤x∧x<n):=by
 unfold L5;obtain ⟨y,e,hy⟩:=wP (f:=NX l n) (fun i:Int=>l.length-i.toNat) (fun i=>0≤i∧i≤l.length∧ ∀j (h:j<l.length),(j:Int)<i→(0≤l[j]∧l[j]<n)∧(0<j→l[j-1]'(by omega)<l[j]))
  (fun y=>match y with| .next ()=>l.Pairwise (· < ·)∧ ∀x∈l,0≤x∧x<n| .done k=>k=false∧ ¬(l.Pairwise (· < ·)∧ ∀x∈l,0≤x∧x<n)) (by
  rintro i ⟨i0,i1,i2⟩;simp only [NX];by_cases hi:i<l.length
  ·have ax:i.toNat<l.length:=by omega
   rw [Bi hi,D6 i0 hi];simp only [cond_true,Option.bind_some];rw [Aw (x:=n-1) (by omega),NE]
   simp only [Option.bind_some];by_cases c1:GW l[i.toNat] 0 (n-1)=true
   ·have Jv:=Is.1 c1
    rw [c1];simp only [Bool.not_true,cond_false];by_cases c3:0<i
    ·rw [Bi c3,cond_true,Aw (x:=i-1) (by omega),D6 (by omega) (by omega)]
     simp only [Option.bind_some];have e3:l[(i-1).toNat]'(by omega)=l[i.toNat-1]'(by omega):=by congr 1;omega
     rw [e3];by_cases c4:l[i.toNat]≤l[i.toNat-1]'(by omega)
     ·rw [Bi c4,cond_true];refine ⟨_,rfl,rfl,fun g=> ?_⟩;have:=Uz g.1 ax (by omega);omega
     ·rw [D8 c4,cond_false,Aw (by omega)]
      refine ⟨_,rfl,⟨by omega,by omega,fun j hj Ps=> ?_⟩,by omega⟩
      by_cases KL:(j:Int)<i
      ·exact i2 j hj KL
      ·obtain rfl:j=i.toNat:=by omega
       exact ⟨⟨Jv.1,by omega⟩,fun _=>by omega⟩
    ·rw [D8 c3];simp only [cond_false,Option.bind_some];rw [Aw (by omega)]
     refine ⟨_,rfl,⟨by omega,by omega,fun j hj Ps=> ?_⟩,by omega⟩
     obtain rfl:j=i.toNat:=by omega
     exact ⟨⟨Jv.1,by omega⟩,fun h=>by omega⟩
   ·have Jv:GW l[i.toNat] 0 (n-1)=false:=by simpa using c1
    rw [Jv];simp only [Bool.not_false,cond_true,Option.bind_some];refine ⟨_,rfl,rfl,fun g=>c1 (Is.2 ?_)⟩;have:=g.2 _ (List.getElem_mem ax);omega
  ·rw [D8 hi];refine ⟨_,rfl,⟨Ry fun j hj h0=>(i2 j hj (by omega)).2 h0,fun x hx=> ?_⟩⟩
   obtain ⟨j,hj,rfl⟩:=List.getElem_of_mem hx;exact (i2 j hj (by omega)).1) 0 ⟨by omega,by omega,fun j _ h=>by omega⟩
 rw [e];cases y with
 |next u=>cases u;exact ⟨true,rfl,by simpa using hy⟩
 |done k=>
  obtain ⟨rfl,hy⟩:=hy;exact ⟨false,rfl,by simpa using hy⟩
theorem aaK {s:Et} (h1:s.Em.length≤1048576) (h2:s.Ek.length≤1048576): ∃b,JD s=some b∧(b=true↔GY s):=by
 unfold JD;rw [NE,Option.bind_some];cases e1:GW s.Next 0 60
 ·exact ⟨false,rfl,by simp;intro g;have:=Is.2 g.GM;rw [e1] at this;simp at this⟩
 ·have hn:=Is.1 e1;obtain ⟨b,e2,iG⟩:=Uy h1 s.Next;obtain ⟨c,e3,lF⟩:=aaJ h2 (n:=s.Next) (by omega)
  simp only [Bool.not_true,cond_false];rw [e2];simp only [Option.bind_some];cases b
  ·exact ⟨false,rfl,by simp;intro g;have:=iG.2 g.G_;simp at this⟩
  ·have KN:=iG.1 rfl;simp only [Bool.not_true,cond_false];rw [e3];simp only [Option.bind_some];cases c
   ·exact ⟨false,rfl,by simp;intro g;have:=lF.2 ⟨g.J3,fun x hx=>(g.mem x hx).1⟩;simp at this⟩
   ·obtain ⟨q1,q2⟩:=lF.1 rfl;simp only [Bool.not_true,cond_false];obtain ⟨y,e,hy⟩:=wP (f:=NY s) (fun i:Int=>s.Ek.length-i.toNat) (fun i=>0≤i∧i≤s.Ek.length∧ ∀j (h:j<s.Ek.length),(j:Int)<i→ ¬hs s.Em s.Ek[j])
     (fun y=>match y with| .next ()=>GY s| .done k=>k=false∧ ¬GY s) (by
     rintro i ⟨i0,i1,i2⟩;simp only [NY];by_cases hi:i<s.Ek.length
     ·have ax:i.toNat<s.Ek.length:=by omega
      rw [Bi hi,D6 i0 hi];simp only [cond_true,Option.bind_some];rw [NG h1,Option.bind_some];cases c2:s.Em.any (ER s.Ek[i.toNat])
      ·have Pr: ¬hs s.Em s.Ek[i.toNat]:=fun h=>by rw [IX.2 h] at c2;simp at c2
       rw [cond_false,Aw (by omega)]
       refine ⟨_,rfl,⟨by omega,by omega,fun j hj Ps=> ?_⟩,by omega⟩
       by_cases KL:(j:Int)<i
       ·exact i2 j hj KL
       ·obtain rfl:j=i.toNat:=by omega
        exact Pr
      ·exact ⟨_,rfl,rfl,fun g=>(g.mem _ (List.getElem_mem ax)).2 (IX.1 c2)⟩
     ·rw [D8 hi];refine ⟨_,rfl,⟨hn,KN,q1,fun x hx=> ?_⟩⟩;have q3:=q2 x hx;obtain ⟨j,hj,rfl⟩:=List.getElem_of_mem hx;exact ⟨q3,i2 j hj (by omega)⟩) 0 ⟨by omega,by omega,fun j _ h=>by omega⟩
    rw [e];cases y with
    |next u=>cases u;exact ⟨true,rfl,by simpa using hy⟩
    |done k=>
     obtain ⟨rfl,hy⟩:=hy;exact ⟨false,rfl,by simpa using hy⟩
noncomputable def Gu (s:Et):Bool:= @decide (GY s) (Classical.propDecidable _)
theorem Hr {s:Et}:Gu s=true↔GY s:=by simp [Gu]
theorem LO {s:Et} (h1:s.Em.length≤1048576) (h2:s.Ek.length≤1048576):Hz s=some (Gu s):=by
 obtain ⟨b,e,h⟩:=aaI h1 h2;rw [e,show b=Gu s by rw [Bool.eq_iff_iff,h,Hr]]
theorem Rz {s:Et} (h1:s.Em.length≤1048576) (h2:s.Ek.length≤1048576):JD s=some (Gu s):=by
 obtain ⟨b,e,h⟩:=aaK h1 h2;rw [e,show b=Gu s by rw [Bool.eq_iff_iff,h,Hr]]
noncomputable def Jw (l:List Span) (n:Int):Bool:= @decide (Iy l n) (Classical.propDecidable _)
theorem LP {l:List Span} {n:Int}:Jw l n=true↔Iy l n:=by simp [Jw]
theorem aaL {l:List Span} (h1:l.length≤1048576) (n:Int):Le l n=some (Jw l n):=by
 obtain ⟨b,e,h⟩:=Ux h1 n;rw [e,show b=Jw l n by rw [Bool.eq_iff_iff,h,LP]]
theorem aaM {l:List Span} (h1:l.length≤1048576) (n:Int):KX l n=some (Jw l n):=by
 obtain ⟨b,e,h⟩:=Uy h1 n;rw [e,show b=Jw l n by rw [Bool.eq_iff_iff,h,LP]]
theorem GY.lens {s:Et} (g:GY s):s.Em.length≤20∧s.Ek.length≤60:=by
 refine ⟨g.G_.sp.len,?_⟩;have:=Uu _ (NI 60) (Pn g.J3) fun x hx=>aaD.2 (by have:=(g.mem x hx).1;have:=g.GM;omega)
 rwa [aaC] at this
noncomputable def Fw (s:Et):List Int:=E0 s.Next fun n=> !hb s.Em n&& !EG s.Ek n
theorem NK {x:List Int} {k:Int} (hx:x.length≤1000) (c:Bool):(bif c then (app 8 x ([k]:List Int)).bind fun Gy=>some Gy else some x)=some (x ++ (if c then [k] else [])):=by
 cases c
 ·simp
 ·rw [cond_true,D3 (by simp only [List.length_cons,List.length_nil];omega) (by omega)];rfl
theorem UA {s:Et} (F6:0≤s.Next∧s.Next≤60) (h1:s.Em.length≤1048576) (h2:s.Ek.length≤1048576):I8 s=some (Fw s):=by
 unfold I8;rw [Pp (p:=fun n=> !hb s.Em n&& !EG s.Ek n) F6.1 (by omega) (fun x k k0 k1 hx=>by
  simp only [ML];rw [Bi k1,NF h1,aaF h2];have e:((some (s.Em.any (ER k))).bind fun Fx=>(bif (!Fx) then (some (EG s.Ek k)).bind fun Hg=>some ((!Hg)) else some (false)))=some (!hb s.Em k&& !EG s.Ek k):=by
   cases h:s.Em.any (ER k)<;>simp [hb,h]
  rw [e];simp only [cond_true,Option.bind_some];rw [NK hx,Aw (by omega)]
  rfl) (fun x=>by simp only [ML];rw [D8 (by omega)];rfl)]
 rfl
theorem aaN {s:Et} (F6:0≤s.Next∧s.Next≤60) (h1:s.Em.length≤1048576) (h2:s.Ek.length≤1048576):MS s=some (Fw s):=by
 unfold MS;rw [Pp (p:=fun n=> !hb s.Em n&& !EG s.Ek n) F6.1 (by omega) (fun x k k0 k1 hx=>by
  simp only [Od];rw [Bi k1,NG h1,Rx h2];have e:((some (s.Em.any (ER k))).bind fun Fx=>(bif (!Fx) then (some (EG s.Ek k)).bind fun Hg=>some ((!Hg)) else some (false)))=some (!hb s.Em k&& !EG s.Ek k):=by
   cases h:s.Em.any (ER k)<;>simp [hb,h]
  rw [e];simp only [cond_true,Option.bind_some];rw [NK hx,Aw (by omega)]
  rfl) (fun x=>by simp only [Od];rw [D8 (by omega)];rfl)]
 rfl
theorem UB {p:Int→Bool}: ∀(l:List Int),(dV p l<0→l.filter (fun n=> !p n)=l)∧(0≤dV p l→l.take (dV p l).toNat=(l.take ((dV p l).toNat+1)).filter fun n=> !p n)
 |[]=>by simp
 |x::l=>by
  obtain ⟨ih1,ih2⟩:=UB (p:=p) l;have zB:=qg p l;unfold dV;by_cases hx:p x=true
  ·simp [hx]
  ·have bF:p x=false:=by simpa using hx
   simp only [bF,Bool.false_eq_true,if_false];by_cases KO:dV p l<0
   ·rw [if_pos KO];refine ⟨fun _=> ?_,fun h=>by omega⟩
    rw [List.filter_cons,bF,Bool.not_false,if_pos rfl,ih1 KO]
   ·rw [if_neg KO];refine ⟨fun h=>by omega,fun _=> ?_⟩
    have:=ih2 (by omega)
    rw [show (dV p l+1).toNat=(dV p l).toNat+1 by omega]
    simp only [List.take_succ_cons,List.filter_cons,bF,Bool.not_false,if_true];rw [←this]
theorem aaO {l:List Int} (hl:l.length≤1000) {h:List Span} (hh:h.length≤1048576):MJ l h=some (l.filter fun n=> !hb h n):=by
 have hg: ∀x,JI x h=some (hb h x):=fun x=>by unfold JI;rw [NF hh];rfl
 unfold MJ;rw [Z9 (by omega) (hb h) (fun x _=>hg x),Option.bind_some]
 have zB:=qg (hb h) l;obtain ⟨f1,f2⟩:=UB (p:=hb h) l;by_cases KO:dV (hb h) l<0
 ·rw [show (dV (hb h) l== -1)=true from beq_iff_eq.2 (by omega),cond_true,f1 KO]
 ·rw [show (dV (hb h) l== -1)=false from beq_eq_false_iff_ne.2 (by omega),cond_false]
  have f2:=f2 (by omega)
  revert f2 zB KO;generalize dV (hb h) l=i0;intro zB KO f2;obtain ⟨a,rfl⟩:=Int.eq_ofNat_of_zero_le (show 0≤i0 by omega)
  simp only [Int.toNat_natCast] at*;rw [Aw (by omega)]
  obtain ⟨⟨y,j⟩,e,Pt,RA,RB,O3⟩:=wP (f:=N9 h) (fun x:List Int×Int×Int=>l.length-x.2.2.toNat) (fun x=>0≤x.2.1∧x.2.1<x.2.2∧x.2.2≤l.length∧x.1.length=l.length∧x.1.take x.2.1.toNat=((l.take x.2.2.toNat).filter fun n=> !hb h n)∧x.1.drop x.2.2.toNat=l.drop x.2.2.toNat)
   (fun r=>0≤r.2∧r.2≤l.length∧r.1.length=l.length∧r.1.take r.2.toNat=l.filter fun n=> !hb h n) (by
   rintro ⟨x,i,j⟩ ⟨NL,q1,q2,q3,q4,q5⟩;simp only at NL q1 q2 q3 q4 q5;simp only [N9];by_cases hj:j<l.length
   ·have hjt:j.toNat<x.length:=by omega
    have dP:j.toNat<l.length:=by omega
    have e1:x[j.toNat]=l[j.toNat]:=by
     have:=congrArg (fun z=>z[0]?) q5;simp only [List.getElem?_drop,Nat.add_zero] at this;rw [List.getElem?_eq_getElem hjt,List.getElem?_eq_getElem dP] at this;exact Option.some.inj this
    have e2:x.drop (j+1).toNat=l.drop (j+1).toNat:=by
     have:=congrArg (List.drop 1) q5;rw [List.drop_drop,List.drop_drop] at this;rw [show (j+1).toNat=j.toNat+1 by omega];exact this
    have e3:l.take (j+1).toNat=l.take j.toNat ++ [l[j.toNat]]:=by
     rw [show (j+1).toNat=j.toNat+1 by omega,List.take_succ_eq_append_getElem dP]
    rw [Bi (by omega),D6 (by omega) (by omega),e1]
    simp only [cond_true,Option.bind_some];rw [hg];simp only [Option.bind_some];cases hp:hb h l[j.toNat]
    ·simp only [Bool.not_false,cond_true];rw [D6 NL (by omega)]
     simp only [Option.bind_some];rw [Aw (x:=i+1) (by omega),Aw (x:=j+1) (by omega)]
     refine ⟨_,rfl,⟨by simp only;omega,by simp only;omega,by simp only;omega,by simp only;rw [List.length_set];exact q3,?_,?_⟩,by simp only;omega⟩
     ·simp only;rw [e3,List.filter_append,←q4,show (i+1).toNat=i.toNat+1 by omega,List.take_succ_eq_append_getElem (by rw [List.length_set];omega),List.getElem_set_self,List.take_set_of_le (Nat.le_refl _)]
      simp [hp]
     ·simp only;rw [List.drop_set_of_lt (by omega)];exact e2
    ·simp only [Bool.not_true,cond_false,Option.bind_some];rw [Aw (x:=j+1) (by omega)]
     refine ⟨_,rfl,⟨NL,by simp only;omega,by simp only;omega,q3,?_,e2⟩,by simp only;omega⟩
     simp only;rw [e3,List.filter_append,←q4];simp [hp]
   ·rw [D8 (by omega)]
    refine ⟨_,rfl,NL,by simp only;omega,q3,?_⟩
    simp only;rw [q4,List.take_of_length_le (by omega)]) (l,(a:Int),(a:Int)+1) ⟨by simp only;omega,by simp only;omega,by simp only;omega,rfl,by simp only [Int.toNat_natCast];rw [show ((a:Int)+1).toNat=a+1 by omega];exact f2,rfl⟩
  simp only at Pt RA RB O3;rw [e];simp only [Option.bind_some];rw [D7 Pt (by omega) (by omega)]
  simp only [Option.bind_some];have ht:(y.take j.toNat).length=j.toNat:=by rw [List.length_take];omega
  rw [D7 (by omega) Pt (by simp only [iW,List.length_append,ht,List.length_replicate];omega)]
  simp only [Option.bind_some,iW,Int.toNat_zero,List.drop_zero,Nat.sub_zero];rw [List.append_assoc,List.take_left' ht,O3]
def Fl (h:List Span):Int:=if h.length=0 then -1 else (Gt h).To-1
theorem aaP {h:List Span} (hh:h.length≤1048576) (aw:0<h.length→ -1000≤(Gt h).To∧(Gt h).To≤1000000):((bif (decide (0<(h.length:Int))) then (idx h (IntKind.i64.wrap ((h.length:Int)-1))).bind fun GP=>some ((IntKind.i64.wrap (GP.To-1))) else some (-1)))=some (Fl h):=by
 unfold Fl;by_cases h0:0<h.length
 ·have e:((h.length:Int)-1).toNat=h.length-1:=by omega
  have e2:h[h.length-1]'(by omega)=Gt h:=by
   unfold Gt;rw [List.getD_eq_getElem?_getD,List.getElem?_eq_getElem (by omega)];rfl
  rw [Bi (by omega),cond_true,Aw (by omega),D6 (by omega) (by omega),Option.bind_some,if_neg (by omega)]
  simp only [e,e2];have:=aw h0
  rw [Aw (by omega)]
 ·rw [D8 (by omega),if_pos (by omega)];rfl
def Ew (s:Et) (l:List Span):List Span:=l.foldl FL s.Em
noncomputable def Pu (s:Et) (h:List Span):List Int:=E0 s.Next fun n=>hb h n&& !hb s.Em n
noncomputable def Ha (s:Et) (h:List Span):List Int:=E0 s.Next fun n=> !hb h n&&(!EG s.Ek n&&decide (n+3≤Fl h))
noncomputable def Gg (s:Et) (h:List Span):List Int:=E0 s.Next fun n=> !hb h n&&(EG s.Ek n||decide (n+3≤Fl h))
theorem Fh.aaQ {h:List Span} (hc:Fh h) (hn: ∀n,hs h n→0≤n∧n<60):0<h.length→ -1000≤(Gt h).To∧(Gt h).To≤1000000:=fun h0=>by
 have:=hc.Pj (fun n hh=>by have:=hn n hh;omega) _ (Pq h0)
 omega
theorem Pv {s:Et} {l:List Span} (g:GY s) (hl:Iy l s.Next):Fh (Ew s l)∧(∀n,hs (Ew s l) n↔hs s.Em n∨hs l n)∧(∀n,hs (Ew s l) n→0≤n∧n<s.Next):=by
 obtain ⟨f1,f2⟩:=fold_add l s.Em g.G_.sp.cn hl.sp.cn.ne;refine ⟨f1,f2,fun n h=> ?_⟩;rcases (f2 n).1 h with h|h
 ·exact ⟨(g.G_.sp.bY h).1,g.G_.lt n h⟩
 ·exact ⟨(hl.sp.bY h).1,hl.lt n h⟩
theorem aaR (l:List Span) (x:Span):(FL l x).length≤l.length+1:=by
 have hm: ∀(l:List Span) (x:Span),(GX l x).length≤l.length+1:=by
  intro l;induction l with
  |nil=>intro x;simp [GX]
  |cons y l ih=>
   intro x;unfold GX;split
   ·have:=ih (mix x y);simp only [List.length_cons];omega
   ·simp
 have h1:=hm (l.drop (l.takeWhile (GK x)).length) x;have h2:=Un (GK x) l;unfold FL;rw [List.length_append];rw [List.length_drop] at h1;omega
theorem RC: ∀(b a:List Span),(b.foldl FL a).length≤a.length+b.length
 |[],a=>by simp
 |x::b,a=>by
  have h1:=RC b (FL a x);have h2:=aaR a x;simp only [List.foldl_cons,List.length_cons];omega
theorem aaS {s:Et} {l:List Span} (g:GY s) (hl:Iy l s.Next):Mh s l=some ((⟨s.Next,Ew s l,Gg s (Ew s l)⟩:Et),Pu s (Ew s l),Ha s (Ew s l),decide ((Ew s l).length≤20)):=by
 obtain ⟨g1,g2⟩:=g.lens;have aaT:=hl.sp.len;obtain ⟨j1,j2,j3⟩:=Pv g hl;have hlen:(Ew s l).length≤40:=by have:=RC l s.Em;unfold Ew;omega
 have F6:=g.GM;unfold Mh;rw [aas (by omega) (by omega) g.G_.sp.cn hl.sp.cn.ne]
 have hj:List.foldl FL s.Em l=Ew s l:=rfl;rw [hj];simp only [Option.bind_some];revert j1 j2 j3 hlen;generalize Ew s l=h;intro j1 j2 j3 hlen;rw [Pp (p:=fun n=>hb h n&& !hb s.Em n) F6.1 (by omega) (fun x k k0 k1 hx=>by
  simp only [N0];rw [Bi k1,NG (by omega),NG (l:=s.Em) (by omega)]
  have e:((some (h.any (ER k))).bind fun Hh=>(bif Hh then (some (s.Em.any (ER k))).bind fun Lj=>some ((!Lj)) else some (false)))=some (hb h k&& !hb s.Em k):=by
   cases h' :h.any (ER k)<;>simp [hb,h']
  rw [e];simp only [cond_true,Option.bind_some];rw [NK hx,Aw (by omega)]
  rfl) (fun x=>by simp only [N0];rw [D8 (by omega)];rfl)]
 simp only [Option.bind_some];rw [aaP (by omega) (j1.aaQ fun n hn=>by have:=j3 n hn;omega)]
 simp only [Option.bind_some];have aaU: -1≤Fl h∧Fl h≤1000000:=by
  unfold Fl;split
  ·omega
  ·have h0:0<h.length:=by omega
   have:=j1.Pj (fun n hn=>by have:=j3 n hn;omega) _ (Pq h0)
   omega
 have key:eM (N1 s h (Fl h)) ([],0,[])=some (Ha s h,Gg s h):=by
  refine D1 (fun x:List Int×Int×List Int=>s.Next.toNat-x.2.1.toNat) (fun x=>0≤x.2.1∧x.2.1≤s.Next∧x.1=E0 x.2.1 (fun n=> !hb h n&&(!EG s.Ek n&&decide (n+3≤Fl h)))∧x.2.2=E0 x.2.1 (fun n=> !hb h n&&(EG s.Ek n||decide (n+3≤Fl h)))) _ ?_ _ ⟨by simp,F6.1,by simp [E0],by simp [E0]⟩
  rintro ⟨x,k,y⟩ ⟨i0,i1,i2,i3⟩;simp only at i0 i1 i2 i3;obtain ⟨k,rfl⟩:=Int.eq_ofNat_of_zero_le i0;simp only [N1] at*;by_cases hk:(k:Int)<s.Next
  ·have hx:x.length≤1000:=by rw [i2];have:=Ix (k:Int) (fun n=> !hb h n&&(!EG s.Ek n&&decide (n+3≤Fl h)));omega
   have hy:y.length≤1000:=by rw [i3];have:=Ix (k:Int) (fun n=> !hb h n&&(EG s.Ek n||decide (n+3≤Fl h)));omega
   rw [Bi hk,cond_true,NG (by omega),Rx (by omega)]
   simp only [Option.bind_some];rw [Aw (x:=(k:Int)+3) (by omega),Aw (x:=(k:Int)+1) (by omega)]
   have r1:=Po (k:=k) (p:=fun n=> !hb h n&&(!EG s.Ek n&&decide (n+3≤Fl h)));have r2:=Po (k:=k) (p:=fun n=> !hb h n&&(EG s.Ek n||decide (n+3≤Fl h)));rw [←i2] at r1;rw [←i3] at r2;refine ⟨.next (E0 ((k:Int)+1) (fun n=> !hb h n&&(!EG s.Ek n&&decide (n+3≤Fl h))),(k:Int)+1,E0 ((k:Int)+1) (fun n=> !hb h n&&(EG s.Ek n||decide (n+3≤Fl h)))),?_,⟨by simp only;omega,by simp only;omega,rfl,rfl⟩,by simp only;omega⟩
   rw [r1,r2];have aaV:h.any (ER (k:Int))=hb h k:=rfl;rw [aaV];have aaW:app 8 x ([(k:Int)]:List Int)=some (x ++ [(k:Int)]):=D3 (by simp only [List.length_cons,List.length_nil];omega) (by omega)
   have aaX:app 8 y ([(k:Int)]:List Int)=some (y ++ [(k:Int)]):=D3 (by simp only [List.length_cons,List.length_nil];omega) (by omega)
   cases hb h k<;>cases EG s.Ek k<;>cases decide ((k:Int)+3≤Fl h)<;>simp [aaW,aaX]
  ·have e:(k:Int)=s.Next:=by omega
   rw [D8 (by omega)]
   exact ⟨_,rfl,by rw [i2,i3,e];rfl⟩
 rw [key];simp only [Option.bind_some];rw [show decide ((h.length:Int)≤20)=decide (h.length≤20) by rw [Bool.eq_iff_iff,decide_eq_true_eq,decide_eq_true_eq];omega]
 rfl
noncomputable def HG (s:Et) (l:List Span):Et×List Int×List Int×Bool:=
 if Gu s&&(Jw l s.Next&&decide ((Ew s l).length≤20)) then (⟨s.Next,Ew s l,Gg s (Ew s l)⟩,Pu s (Ew s l),Ha s (Ew s l),true) else (⟨0,[],[]⟩,[],[],false)
theorem UC (s:Et) (h:List Span):(Gg s h).length≤s.Next.toNat:=Ix _ _
theorem UE {s:Et} {l:List Span} (h1:s.Em.length≤1048576) (h2:s.Ek.length≤1048576) (h3:l.length≤1048576):K_ s l=some (HG s l):=by
 unfold K_ HG;rw [Rz h1 h2];cases e1:Gu s
 ·rfl
 ·have g:=Hr.1 e1;simp only [Option.bind_some,Bool.not_true,cond_false];rw [aaM h3];cases e2:Jw l s.Next
  ·rfl
  ·have hl:=LP.1 e2;simp only [Option.bind_some,Bool.not_true,cond_false];rw [aaS g hl];simp only [Option.bind_some];by_cases HZ:(Ew s l).length≤20
   ·have:=UC s (Ew s l);have F6:=g.GM;rw [Bi HZ];simp only [Bool.not_true,cond_false];unfold KZ;simp only;rw [D3 (by simp only [List.length_nil];omega) (by omega)]
    simp only [Option.bind_some];rw [D3 (by simp only [List.length_nil];omega) (by omega)]
    rfl
   ·rw [D8 HZ];rfl
theorem UF {s:Et} {l:List Span} (h1:s.Em.length≤1048576) (h2:s.Ek.length≤1048576) (h3:l.length≤1048576):Kk s l=some (HG s l):=by
 unfold Kk HG;rw [LO h1 h2];cases e1:Gu s
 ·rfl
 ·have g:=Hr.1 e1;simp only [Option.bind_some,Bool.not_true,cond_false];rw [aaL h3];cases e2:Jw l s.Next
  ·rfl
  ·have hl:=LP.1 e2;obtain ⟨g1,g2⟩:=g.lens;have aaT:=hl.sp.len;obtain ⟨j1,j2,j3⟩:=Pv g hl;have F6:=g.GM;simp only [Option.bind_some,Bool.not_true,cond_false];rw [aaB (by omega) (by omega)]
   have hjv:Pl s.Em l=tell (Ew s l):=by
    unfold Pl;rw [J4.2 g.G_.sp,J4.2 hl.sp];rfl
   rw [hjv];unfold tell;by_cases HZ:(Ew s l).length≤20
   ·rw [if_pos HZ];simp only [Option.bind_some,Bool.not_true,cond_false,HZ,decide_true,Bool.and_self,if_true];revert j1 j2 j3 HZ;generalize Ew s l=h;intro j1 j2 j3 HZ;have aaU: -1≤Fl h∧Fl h≤1000000:=by
     unfold Fl;split
     ·omega
     ·have h0:0<h.length:=by omega
      have:=j1.Pj (fun n hn=>by have:=j3 n hn;omega) _ (Pq h0)
      omega
    rw [Pp (p:=fun n=>hb h n&& !hb s.Em n) F6.1 (by omega) (fun x k k0 k1 hx=>by
     simp only [Ob];rw [Bi k1,NF (by omega),NF (l:=s.Em) (by omega)]
     have e:((some (h.any (ER k))).bind fun Hh=>(bif Hh then (some (s.Em.any (ER k))).bind fun Lj=>some ((!Lj)) else some (false)))=some (hb h k&& !hb s.Em k):=by
      cases h' :h.any (ER k)<;>simp [hb,h']
     rw [e];simp only [cond_true,Option.bind_some];rw [NK hx,Aw (by omega)]
     rfl) (fun x=>by simp only [Ob];rw [D8 (by omega)];rfl)]
    simp only [Option.bind_some];have jZ:Lh s.Ek=some s.Ek:=by
     unfold Lh;rw [D3 (by simp only [List.length_nil];omega) (by omega)];rfl
    rw [jZ];simp only [Option.bind_some];rw [aaO (by omega) (by omega)]
    simp only [Option.bind_some];have hfl:(s.Ek.filter fun n=> !hb h n).length≤60:=Nat.le_trans (List.length_filter_le _ _) g2;have aaY:((bif (decide (0<(h.length:Int))) then (idx h (IntKind.i64.wrap ((h.length:Int)-1))).bind fun F8=>(I8 (⟨s.Next,h,s.Ek.filter fun n=> !hb h n⟩:Et)).bind fun J9=>(eM (MO F8 J9) ([],0)).bind fun aaZ=>some (aaZ) else some ([])))=some (Ha s h):=by
     by_cases h0:0<h.length
     ·have e:((h.length:Int)-1).toNat=h.length-1:=by omega
      have e2:h[h.length-1]'(by omega)=Gt h:=by
       unfold Gt;rw [List.getD_eq_getElem?_getD,List.getElem?_eq_getElem (by omega)];rfl
      rw [Bi (by omega),cond_true,Aw (by omega),D6 (by omega) (by omega),Option.bind_some]
      simp only [e,e2];rw [UA (s:=⟨s.Next,h,s.Ek.filter fun n=> !hb h n⟩) F6 (by simp only;omega) (by simp only;omega),Option.bind_some]
      have fS:(Gt h).To-1=Fl h:=by unfold Fl;rw [if_neg (by omega)]
      have bh:(Fw ⟨s.Next,h,s.Ek.filter fun n=> !hb h n⟩).length≤60:=Nat.le_trans (Ix _ _) (by simp only;omega)
      have aa0: ∀x∈Fw ⟨s.Next,h,s.Ek.filter fun n=> !hb h n⟩,0≤x∧x<s.Next:=fun x hx=>(G9.1 hx).1;have key: ∀(b:List Int),b.length≤60→(∀x∈b,0≤x∧x<s.Next)→eM (MO (Gt h) b) ([],0)=some (b.filter fun n=>decide (n+3≤Fl h)):=fun b aec hbm=>by
       refine D1 (fun x:List Int×Int=>b.length-x.2.toNat) (fun x=>0≤x.2∧x.2≤b.length∧x.1=(b.take x.2.toNat).filter fun n=>decide (n+3≤Fl h)) _ ?_ _ ⟨by simp,by simp,by simp⟩
       rintro ⟨x,k⟩ ⟨i0,i1,i2⟩;simp only at i0 i1 i2;simp only [MO];by_cases hk:k<b.length
       ·have ax:k.toNat<b.length:=by omega
        have hm:=hbm _ (List.getElem_mem ax);have cq:x.length≤1000:=by
         rw [i2];exact Nat.le_trans (List.length_filter_le _ _) (by rw [List.length_take];omega)
        rw [Bi hk,D6 i0 hk];simp only [cond_true,Option.bind_some];rw [Aw (x:=b[k.toNat]+3) (by omega),fS,Aw (x:=Fl h) (by omega),NK cq]
        simp only [Option.bind_some];rw [Aw (by omega)]
        refine ⟨_,rfl,⟨by simp only;omega,by simp only;omega,?_⟩,by simp only;omega⟩
        simp only;rw [show (k+1).toNat=k.toNat+1 by omega,List.take_succ_eq_append_getElem ax,List.filter_append,←i2]
        refine congrArg (x ++ ·) ?_;by_cases hc:b[k.toNat]+3≤Fl h<;>simp [hc]
       ·rw [D8 hk];refine ⟨_,rfl,?_⟩;simp only;rw [i2,List.take_of_length_le (by omega)]
      rw [key _ bh aa0,Option.bind_some];refine congrArg some ?_;refine Pm ((KM _ _).filter _) (KM _ _) fun x=> ?_;rw [List.mem_filter];unfold Fw Ha;rw [G9,G9];simp only [Bool.and_eq_true,Bool.not_eq_true',decide_eq_true_eq,EG,decide_eq_false_iff_not,List.mem_filter];constructor
      ·rintro ⟨⟨q1,q2,q3⟩,q4⟩;exact ⟨q1,q2,fun hm=>q3 ⟨hm,q2⟩,q4⟩
      ·rintro ⟨q1,q2,q3,q4⟩;exact ⟨⟨q1,q2,fun hm=>q3 hm.1⟩,q4⟩
     ·rw [D8 (by omega)]
      show some ([]:List Int)=_;refine congrArg some ?_;refine Pm .nil (KM _ _) fun x=> ?_;unfold Ha;rw [G9];have:Fl h= -1:=by unfold Fl;rw [if_pos (by omega)]
      simp only [List.not_mem_nil,Bool.and_eq_true,decide_eq_true_eq,this,false_iff];rintro ⟨q1,_,_,q4⟩;omega
    rw [aaY];simp only [Option.bind_some];have hll:(Ha s h).length≤60:=Nat.le_trans (Ix _ _) (by omega)
    rw [D3 (by omega) (by omega)]
    simp only [Option.bind_some];have aa1:slices_Sort_int ((s.Ek.filter fun n=> !hb h n) ++ Ha s h)=some (Gg s h):=by
     unfold slices_Sort_int xd;rw [if_pos (by rw [List.length_append];omega)]
     refine congrArg some ?_;have qW:((s.Ek.filter fun n=> !hb h n) ++ Ha s h).Nodup:=by
      refine List.nodup_append.2 ⟨(Pn g.J3).filter _,Pn (KM _ _),fun x hx y hy e=> ?_⟩;subst e;have h1:=(List.mem_filter.1 hx).1;have h2:=(G9.1 hy).2;simp only [Bool.and_eq_true,Bool.not_eq_true',EG,decide_eq_false_iff_not] at h2;exact h2.2.1 h1
     have hsr:(gg ((s.Ek.filter fun n=> !hb h n) ++ Ha s h)).Pairwise (· < ·):=by
      have p1:=aaE ((s.Ek.filter fun n=> !hb h n) ++ Ha s h);have p2:=(Bt ((s.Ek.filter fun n=> !hb h n) ++ Ha s h)).nodup_iff.2 qW;exact (p1.and p2).imp fun h=>by omega
     refine Pm hsr (KM _ _) fun x=> ?_;rw [(Bt _).mem_iff,List.mem_append,List.mem_filter];unfold Ha Gg;rw [G9,G9];simp only [Bool.and_eq_true,Bool.or_eq_true,Bool.not_eq_true',decide_eq_true_eq,EG,decide_eq_false_iff_not];constructor
     ·rintro (⟨q1,q2⟩|⟨q1,q2,q3,q4⟩)
      ·exact ⟨(g.mem x q1).1,q2,.inl q1⟩
      ·exact ⟨q1,q2,.inr q4⟩
     ·rintro ⟨q1,q2,q3⟩;by_cases hm:x∈s.Ek
      ·exact .inl ⟨hm,q2⟩
      ·exact .inr ⟨q1,q2,hm,q3.resolve_left hm⟩
    rw [aa1];rfl
   ·rw [if_neg HZ];simp only [Option.bind_some,Bool.not_false,cond_true,HZ,decide_false,Bool.and_false];rfl
structure NM (l:List Int) (N:Int):Prop where
 mem: ∀x∈l,0≤x∧x<N
 nd:l.Nodup
theorem aa2: ∀{l:List Int},(∀i (h:i<l.length),l[i]∉l.take i)→l.Nodup:=by
 intro l h;rw [List.Nodup,List.pairwise_iff_getElem];intro i j hi hj ju e;apply h j hj;rw [←e];exact List.mem_take_iff_getElem.2 ⟨i,by omega,rfl⟩
theorem aa3 {l:List Int} (h:l.Nodup) {i:Nat} (hi:i<l.length):l[i]∉l.take i:=fun hm=>by
 obtain ⟨j,hj,e⟩:=List.mem_take_iff_getElem.1 hm;have:=List.pairwise_iff_getElem.1 h j i (by omega) hi (by omega)
 exact this e
theorem aa4 {l:List Int} {N:Int} {f:Int→Option (LR Int (LR Unit Bool))}
 (hf: ∀(i:Nat) (h:i<l.length),f (i:Int)=some (if GW l[i] 0 (N-1)&& !EG (l.take i) l[i] then .next ((i:Int)+1) else .done (.done false))) (hz:f (l.length:Int)=some (.done (.next ()))):
 ∃b,((eM f 0).bind fun y=>match y with|LR.next ()=>some true|LR.done z=>some z)=some b∧(b=true↔NM l N):=by
 obtain ⟨y,e,hy⟩:=wP (f:=f) (fun i:Int=>l.length-i.toNat) (fun i=>0≤i∧i≤l.length∧ ∀j (h:j<l.length),(j:Int)<i→(0≤l[j]∧l[j]<N)∧l[j]∉l.take j)
  (fun y=>match y with| .next ()=>NM l N| .done k=>k=false∧ ¬NM l N) (by
  rintro i ⟨i0,i1,i2⟩;obtain ⟨i,rfl⟩:=Int.eq_ofNat_of_zero_le i0;by_cases hi:i<l.length
  ·refine ⟨_,hf i hi,?_⟩;by_cases c:(GW l[i] 0 (N-1)&& !EG (l.take i) l[i])=true
   ·rw [if_pos c];simp only [Bool.and_eq_true,Bool.not_eq_true',Is,EG,decide_eq_false_iff_not] at c;refine ⟨⟨by omega,by omega,fun j hj ax=> ?_⟩,by omega⟩
    by_cases e:j<i
    ·exact i2 j hj (by omega)
    ·obtain rfl:j=i:=by omega
     exact ⟨⟨c.1.1,by omega⟩,c.2⟩
   ·rw [if_neg c];refine ⟨rfl,fun g=>c ?_⟩;simp only [Bool.and_eq_true,Bool.not_eq_true',Is,EG,decide_eq_false_iff_not];have:=g.mem _ (List.getElem_mem hi);exact ⟨by omega,aa3 g.nd hi⟩
  ·obtain rfl:i=l.length:=by omega
   refine ⟨_,hz,⟨fun x hx=> ?_,aa2 fun j hj=>(i2 j hj (by omega)).2⟩⟩
   obtain ⟨j,hj,rfl⟩:=List.getElem_of_mem hx;exact (i2 j hj (by omega)).1) 0 ⟨by omega,by omega,fun j _ h=>by omega⟩
 rw [e];cases y with
 |next u=>cases u;exact ⟨true,rfl,by simpa using hy⟩
 |done k=>
  obtain ⟨rfl,hy⟩:=hy;exact ⟨false,rfl,by simpa using hy⟩
noncomputable def NN (l:List Int) (N:Int):Bool:= @decide (NM l N) (Classical.propDecidable _)
theorem UG {l:List Int} {N:Int}:NN l N=true↔NM l N:=by simp [NN]
theorem aa5 {l:List Int} (hl:l.length≤1048576) {N:Int} (F6: -1000≤N∧N≤10000):Mo l N=some (NN l N):=by
 unfold Mo;obtain ⟨b,e,h⟩:=aa4 (l:=l) (N:=N) (f:=Mn l N) (fun i hi=>by
  simp only [Mn];rw [Bi (by omega),wQ hi]
  simp only [cond_true,Option.bind_some];rw [Aw (x:=N-1) (by omega),NE]
  simp only [Option.bind_some];cases c:GW l[i] 0 (N-1)
  ·rfl
  ·simp only [Bool.not_true,cond_false];rw [D7 (by omega) (by omega) (by omega)]
   simp only [Option.bind_some,Int.toNat_zero,List.drop_zero,Nat.sub_zero,Int.toNat_natCast];rw [Rx (by rw [List.length_take];omega),Option.bind_some,Option.bind_some,Aw (by omega)]
   cases EG (l.take i) l[i]<;>rfl) (by simp only [Mn];rw [D8 (by omega)];rfl)
 exact e.trans (congrArg some (by rw [Bool.eq_iff_iff,h,UG]))
structure SP (n d w:Nat):Prop where
 d1:1≤d
 d12:d≤12
 aa6:n=d*w
 le:n≤120
theorem SP.w {n d w:Nat} (S:SP n d w):n/d=w∧((n:Int)/d=w):=by
 have h1:=S.d1;have h2:n/d=w:=by rw [S.aa6];exact Nat.mul_div_cancel_left w h1
 exact ⟨h2,by rw [←Int.natCast_ediv,h2]⟩
theorem aa7 {l:List Int} (hl:l.length≤1048576) (x:Int):MZ l x=some (l.any (· ==x)):=by
 unfold MZ;have key:eM (Oe l x) 0=some (if l.any (· ==x) then .done true else .next ()):=by
  refine D1 (fun i:Int=>l.length-i.toNat) (fun i=>0≤i∧i≤l.length∧l.any (· ==x)=(l.drop i.toNat).any (· ==x)) _ ?_ _ ⟨by omega,by omega,by simp⟩
  rintro i ⟨i0,i1,i2⟩;simp only [Oe];by_cases hi:i<l.length
  ·rw [Bi hi,D6 i0 hi];rw [List.drop_eq_getElem_cons (show i.toNat<l.length by omega),List.any_cons] at i2
   simp only [cond_true,Option.bind_some];cases hx:(l[i.toNat]'(by omega)==x)
   ·rw [hx,Bool.false_or] at i2;rw [cond_false,Aw (by omega)]
    refine ⟨_,rfl,⟨by omega,by omega,?_⟩,by omega⟩
    rw [show (i+1).toNat=i.toNat+1 by omega];exact i2
   ·rw [hx,Bool.true_or] at i2;rw [i2];exact ⟨_,rfl,rfl⟩
  ·rw [D8 hi];rw [List.drop_eq_nil_of_le (by omega)] at i2
   rw [i2];exact ⟨_,rfl,rfl⟩
 rw [key];cases l.any (· ==x)<;>rfl
theorem Pw {l:List Int} (hl:l.length≤1048576):JK l l=some true:=by
 unfold JK;rw [bne_self_eq_false,cond_false];have key:eM (MW l l) 0=some (.next ()):=by
  refine D_ (l:=l) (fun k hk=> ?_) (by simp [MW])
  simp only [MW];rw [Bi (by omega),wQ hk]
  simp only [cond_true,Option.bind_some,bne_self_eq_false,cond_false];rw [Aw (by omega)]
 rw [key];rfl
def HH (l:List Int):List Span:=l.map fun n=>⟨n,n+1⟩
noncomputable def NO (l:List Int):List Span×Bool:=if NN l 60 then tell ((HH l).foldl FL []) else ([],false)
theorem aa8 (a:List Int) (n:Int):HH (a ++ [n])=HH a ++ [⟨n,n+1⟩]:=by simp only [HH,List.map_append,List.map_cons,List.map_nil]
theorem aa9 {l:List Int} (hl:l.length≤60):Mq l=some (NO l):=by
 unfold Mq NO;rw [aa5 (by omega) (by omega)]
 cases c:NN l 60
 ·rfl
 ·have g:=UG.1 c;simp only [Option.bind_some,Bool.not_true,cond_false,if_true];have hb: ∀x∈HH l,0≤x.En∧x.En<x.To∧x.To≤1000000:=fun x hx=>by
   obtain ⟨m,hm,rfl⟩:=List.mem_map.1 hx;have:=g.mem m hm;simp only;omega
  have hlen:(HH l).length=l.length:=by simp [HH]
  obtain ⟨f1,f2⟩:=fold_add (HH l) [] (by simp [Fh]) (fun x hx=>(hb x hx).2.1)
  have key:eM (N2 l) ([],0)=some ((HH l).foldl FL []):=by
   refine D1 (fun x:List Span×Int=>l.length-x.2.toNat) (fun x=>0≤x.2∧x.2≤l.length∧x.1=(HH (l.take x.2.toNat)).foldl FL []) _ ?_ _ ⟨by simp,by simp,by simp [HH]⟩
   rintro ⟨x,i⟩ ⟨i0,i1,i2⟩;simp only at i0 i1 i2;simp only [N2];by_cases hi:i<l.length
   ·have ax:i.toNat<l.length:=by omega
    have hn:=g.mem _ (List.getElem_mem ax);have cq:x.length≤60:=by
     rw [i2];have:=RC (HH (l.take i.toNat)) [];simp only [HH,List.length_map,List.length_take,List.length_nil] at this⊢;omega
    rw [Bi hi,D6 i0 hi];simp only [cond_true,Option.bind_some];rw [Aw (x:=l[i.toNat]+1) (by omega),Uo (by omega),Option.bind_some,Aw (by omega)]
    refine ⟨_,rfl,⟨by simp only;omega,by simp only;omega,?_⟩,by simp only;omega⟩
    simp only;rw [show (i+1).toNat=i.toNat+1 by omega,List.take_succ_eq_append_getElem ax,i2,aa8,List.foldl_append];rfl
   ·rw [D8 hi];rw [List.take_of_length_le (by omega)] at i2
    exact ⟨_,rfl,i2⟩
  rw [key,Option.bind_some,aaz];rfl
theorem UH: ∀{l:List Int} {N:Nat},l.Nodup→(∀x∈l,0≤x∧x<N)→GL (fun n=>EG l n) N=l.length
 |[],N,_,_=>by rw [Pk (fun n=>by simp [EG])];rfl
 |a::l,N,hn,hm=>by
  obtain ⟨h1,h2⟩:=List.nodup_cons.1 hn;have ih:=UH (l:=l) (N:=N) h2 fun x hx=>hm x (by simp [hx])
  have ha:=hm a (by simp)
  have e1:(fun n=>EG (a::l) n)=fun n=>ER n ⟨a,a+1⟩||EG l n:=by
   funext n
   rw [Bool.eq_iff_iff,Bool.or_eq_true,NJ,NJ,List.mem_cons];simp only [ER,Bool.and_eq_true,decide_eq_true_eq];constructor
   ·rintro (h|h)
    ·left;omega
    ·exact .inr h
   ·rintro (h|h)
    ·left;omega
    ·exact .inr h
  have e2:=Uq (fun n=>ER n ⟨a,a+1⟩) (fun n=>EG l n) N;have e3:GL (fun n=>ER n ⟨a,a+1⟩&&EG l n) N=0:=Pk (fun n=>by
   rw [Bool.eq_false_iff];intro h;simp only [ER,Bool.and_eq_true,decide_eq_true_eq,NJ] at h;have:n=a:=by omega
   subst this;exact h1 h.2) N
  have e4:=Ur ⟨a,a+1⟩ ha.1 (by simp only;omega) N
  simp only at e4;rw [e1];have e5:GL (fun n=>ER n ⟨a,a+1⟩) N=1:=by
   split at e4
   ·omega
   ·split at e4
    ·omega
    ·omega
  rw [List.length_cons];omega
theorem UI {c:ED} {b n:Int} (h:EV c b) (hb:b≤1000000000000000000) (hn:0≤n∧n≤60):dc (KS c n) fun r=>(r.1.length:Int)≤n∧EV r.2 (b+400):=by
 unfold KS;refine dc.then (P:=fun r=>(r.1.length:Int)≤n∧EV ⟨r.2.1,r.2.2.1,r.2.2.2⟩ (b+200)) ?_ ?_
 ·refine dc.eM (fun x=>n.toNat-x.2.1.toNat) (fun x=>0≤x.2.1∧x.2.1≤n∧(x.1.length:Int)≤x.2.1∧EV ⟨x.2.2.1,x.2.2.2.1,x.2.2.2.2⟩ (b+2*x.2.1)) ?_ ⟨by simp,by simp only;omega,by simp,h.mono (by simp)⟩
  rintro ⟨l,i,C,A,S⟩ ⟨i0,i1,i2,i3⟩;dsimp only at i0 i1 i2 i3;unfold PB;dsimp only;refine dc.D5 (fun hc=> ?_) (fun hc=> ?_)
  ·have hm:i<n:=by simpa using hc
   refine dc.then (P:=fun r=>(r.1.length:Int)≤i+1∧EV ⟨r.2.1,r.2.2.1,r.2.2.2⟩ (b+2*i+2)) ?_ ?_
   ·refine dc.then (Ju i3 (by omega)) ?_
    rintro ⟨v,Ug⟩ IW;dsimp only at IW⊢;refine dc.then (P:=fun r=>(r.length:Int)≤i+1) ?_ (fun r hr=> .ret ⟨hr,IW.eta⟩);cases v
    ·simp only [Bool.not_false,cond_true];rw [D3 (by simp only [List.length_cons,List.length_nil];omega) (by omega),Option.bind_some]
     exact .ret (by simp only [List.length_append,List.length_cons,List.length_nil];omega)
    ·exact .ret (by omega)
   rintro ⟨l',C,A,S⟩ ⟨q1,q2⟩;dsimp only at q1 q2⊢;rw [Aw (x:=i+1) (by omega)]
   exact .ret ⟨⟨(by first|omega|(dsimp only;omega)),(by first|omega|(dsimp only;omega)),q1,q2.mono (by dsimp only;omega)⟩,(by first|omega|(dsimp only;omega))⟩
  ·exact .ret ⟨(by first|omega|(dsimp only;omega)),i3.mono (by first|omega|(dsimp only;omega))⟩
 rintro ⟨l,C,A,S⟩ ⟨l1,GB⟩;dsimp only at l1 GB⊢;refine dc.then (ug (by assumption) (by omega)) ?_
 rintro ⟨y,c_y⟩ ⟨UJ,UK,NH⟩;dsimp only at UJ UK NH⊢;have hy:=UK (by omega)
 refine dc.then (P:=fun r=>(r.1.length:Int)≤n∧EV ⟨r.2.1,r.2.2.1,r.2.2.2⟩ (b+300)) ?_ ?_
 ·refine dc.eM (fun x=>x.2.1.toNat) (fun x=>0≤x.2.1∧x.2.1≤8∧(x.1.length:Int)≤n∧EV ⟨x.2.2.1,x.2.2.2.1,x.2.2.2.2⟩ (b+202+4*(8-x.2.1))) ?_ ⟨UJ,by simp only;omega,l1,NH.eta.mono (by simp only;omega)⟩
  rintro ⟨l,i,C,A,S⟩ ⟨i0,i1,i2,i3⟩;dsimp only at i0 i1 i2 i3;unfold PC;dsimp only;refine dc.then (P:=fun r=>r=true→0<i∧1<(l.length:Int)) ?_ ?_
  ·refine dc.D5 (fun hc=> ?_) (fun hc=> ?_)
   ·exact .ret fun h=>⟨by simpa using hc,by simpa using h⟩
   ·exact .ret fun h=>by simp at h
  intro t ht;refine dc.D5 (fun hc=> ?_) (fun hc=> ?_)
  ·obtain ⟨t1,t2⟩:=ht hc;rw [Aw (x:=(l.length:Int)-1) (by omega)]
   refine dc.then (ug i3 (by omega)) ?_
   rintro ⟨p,c_p⟩ ⟨UL,UM,UN⟩;dsimp only at UL UM UN⊢;have hp:=UM (by omega)
   refine dc.then (ug UN (by omega)) ?_
   rintro ⟨q,UO⟩ ⟨NP,KP,q_c⟩;dsimp only at NP KP q_c⊢;have hq:=KP (by omega)
   rw [Aw (x:=p+1) (by omega),Aw (x:=p+1+q) (by omega),Uk,Option.bind_some]
   have hj:0≤(if (l.length:Int)-1<p+1+q then (l.length:Int)-1 else p+1+q)∧(if (l.length:Int)-1<p+1+q then (l.length:Int)-1 else p+1+q)<l.length:=by split<;>omega
   revert hj;generalize (if (l.length:Int)-1<p+1+q then (l.length:Int)-1 else p+1+q)=j;intro hj;rw [D6 UL (by omega),Option.bind_some,D6 hj.1 hj.2,Option.bind_some,Option.bind_some,D6 (l:=l.set _ _) hj.1 (by rw [List.length_set];exact hj.2),Option.bind_some,Aw (x:=i-1) (by omega)]
   exact .ret ⟨⟨(by first|omega|(dsimp only;omega)),(by first|omega|(dsimp only;omega)),by dsimp only;rw [List.length_set,List.length_set];exact i2,q_c.eta.mono (by dsimp only;omega)⟩,(by first|omega|(dsimp only;omega))⟩
  ·exact .ret ⟨i2,i3.mono (by first|omega|(dsimp only;omega))⟩
 rintro ⟨l,C,A,S⟩ ⟨l1,GB⟩;dsimp only at l1 GB⊢;refine dc.then (P:=fun r=>(r.1=true→0<l.length)∧EV ⟨r.2.1,r.2.2.1,r.2.2.2⟩ (b+302)) ?_ ?_
 ·refine dc.D5 (fun hc=> ?_) (fun hc=> ?_)
  ·refine dc.then (Ju (by assumption) (by omega)) ?_
   rintro ⟨z,KK⟩ F5;dsimp only at F5⊢;exact .ret ⟨fun _=>by simpa using hc,F5.eta.mono (by omega)⟩
  ·exact .ret ⟨fun h=>by simp at h,GB.mono (by omega)⟩
 rintro ⟨t,C,A,S⟩ ⟨ht,GB⟩;dsimp only at ht GB⊢;refine dc.then (P:=fun r=>(r.1.length:Int)≤n∧EV ⟨r.2.1,r.2.2.1,r.2.2.2⟩ (b+304)) ?_ ?_
 ·refine dc.D5 (fun hc=> ?_) (fun hc=> ?_)
  ·have h0:=ht hc;rw [Aw (by omega),D6 (by omega) (by omega),Option.bind_some]
   refine dc.then (T8 (by assumption) (by omega) (by simp)) ?_
   rintro ⟨z,KK⟩ ⟨z_m,F5⟩;dsimp only at z_m F5⊢;rw [D6 (by omega) (by omega),Option.bind_some]
   exact .ret ⟨by dsimp only;rw [List.length_set];exact l1,F5.eta.mono (by omega)⟩
  ·exact .ret ⟨l1,GB.mono (by omega)⟩
 rintro ⟨l,C,A,S⟩ ⟨l1,GB⟩;exact .ret ⟨l1,GB.mono (by omega)⟩
theorem UP {c:ED} {b:Int} (h:EV c b) (hb:b≤100000000000000000):dc (Lb c) fun r=>(0≤r.1.Next∧r.1.Next≤60)∧r.1.Em.length≤20∧r.1.Ek.length≤61∧EV r.2 (b+700):=by
 unfold Lb;refine dc.then (ug (by assumption) (by omega)) ?_
 rintro ⟨n,c_n⟩ ⟨RD,UQ,UR⟩;dsimp only at RD UQ UR⊢;have hn:=UQ (by omega)
 have e:Jy n=some (⟨n,[],[]⟩,true):=by
  unfold Jy;rw [NE,Is.2 (by omega)];rfl
 rw [e,Option.bind_some];dsimp only;refine dc.then (UI UR (by omega) ⟨RD,by omega⟩) ?_
 rintro ⟨o,c⟩ ⟨o1,NQ⟩;dsimp only at o1 NQ⊢;refine dc.then (P:=fun r=>EV ⟨r.1,r.2.1,r.2.2.1⟩ (b+500)∧(0≤r.2.2.2.1∧r.2.2.2.1≤60)∧r.2.2.2.2.1.length≤20∧r.2.2.2.2.2.length≤60) ?_ ?_
 ·refine dc.eM (fun x=>o.length-x.1.toNat) (fun x=>0≤x.1∧x.1≤o.length∧EV ⟨x.2.1,x.2.2.1,x.2.2.2.1⟩ (b+402+2*x.1)∧(0≤x.2.2.2.2.1∧x.2.2.2.2.1≤60)∧x.2.2.2.2.2.1.length≤20∧x.2.2.2.2.2.2.length≤60) ?_ ⟨by simp,by simp only;omega,NQ.eta.mono (by simp only;omega),⟨RD,by simp only;omega⟩,by simp,by simp⟩
  rintro ⟨i,C,A,S,GM,hd,ls⟩ ⟨i0,i1,i2,i3,i4,i5⟩;dsimp only at i0 i1 i2 i3 i4 i5;unfold PH;dsimp only;refine dc.D5 (fun hc=> ?_) (fun hc=> ?_)
  ·have hi:i<o.length:=by simpa using hc
   refine dc.then (P:=fun r=>EV ⟨r.1,r.2.1,r.2.2.1⟩ (b+404+2*i)∧(0≤r.2.2.2.1∧r.2.2.2.1≤60)∧r.2.2.2.2.1.length≤20∧r.2.2.2.2.2.length≤60) ?_ ?_
   ·rw [D6 i0 hi,Option.bind_some];refine dc.then (P:=fun r=>(r.1=false→0≤o[i.toNat]'(by omega)∧o[i.toNat]'(by omega)<n)∧EV ⟨r.2.1,r.2.2.1,r.2.2.2⟩ (b+404+2*i)) ?_ ?_
    ·refine dc.then (Ju i2 (by omega)) ?_
     rintro ⟨v,Ug⟩ IW;dsimp only at IW⊢;refine dc.D5 (fun hv=> ?_) (fun hv=> ?_)
     ·exact .ret ⟨fun h=>by simp at h,IW.eta.mono (by omega)⟩
     ·refine dc.D5 (fun hw=> ?_) (fun hw=> ?_)
      ·exact .ret ⟨fun h=>by simp at h,IW.eta.mono (by omega)⟩
      ·have: ¬o[i.toNat]'(by omega)<0:=by simpa using hw
       exact .ret ⟨fun h=>by have:=of_decide_eq_false h;omega,IW.eta.mono (by omega)⟩
    rintro ⟨t,C,A,S⟩ ⟨t1,GB⟩;dsimp only at t1 GB⊢;refine dc.D5 (fun ht=> ?_) (fun ht=> ?_)
    ·exact .ret ⟨GB,i3,i4,i5⟩
    ·have hk:=t1 ht;rw [Aw (by omega),UE (by simp only;omega) (by simp only;omega) (by simp),Option.bind_some]
     try dsimp only
     refine dc.then (P:=fun r=>(0≤r.1∧r.1≤60)∧r.2.1.length≤20∧r.2.2.length≤60) ?_ ?_
     ·refine dc.D5 (fun af=> ?_) (fun _=> .ret ⟨i3,i4,i5⟩);unfold HG at af⊢;split at af
      ·rename_i An;rw [if_pos An];simp only [Bool.and_eq_true,decide_eq_true_eq] at An;exact .ret ⟨i3,An.2.2,Nat.le_trans (UC _ _) (by dsimp only;omega)⟩
      ·simp at af
     rintro ⟨a1,a2,a3⟩ ⟨p1,p2,p3⟩;exact .ret ⟨GB,p1,p2,p3⟩
   rintro ⟨C,A,S,GM,hd,ls⟩ ⟨p1,p2,p3,p4⟩;dsimp only at p1 p2 p3 p4⊢;rw [Aw (by omega)]
   exact .ret ⟨⟨(by first|omega|(dsimp only;omega)),(by first|omega|(dsimp only;omega)),p1.mono (by dsimp only;omega),p2,p3,p4⟩,(by first|omega|(dsimp only;omega))⟩
  ·exact .ret ⟨i2.mono (by first|omega|(dsimp only;omega)),i3,i4,i5⟩
 rintro ⟨C,A,S,GM,hd,ls⟩ ⟨p1,p2,p3,p4⟩;dsimp only at p1 p2 p3 p4⊢;refine dc.then (Ju (by assumption) (by omega)) ?_
 rintro ⟨z,KK⟩ F5;dsimp only at F5⊢;refine dc.then (P:=fun r=>EV ⟨r.1,r.2.1,r.2.2.1⟩ (b+600)∧r.2.2.2.length≤61) ?_ ?_
 ·refine dc.D5 (fun hc=> ?_) (fun hc=> ?_)
  ·refine dc.then (ug (by assumption) (by omega)) ?_
   rintro ⟨q,UO⟩ ⟨NP,KP,q_c⟩;dsimp only at NP KP q_c⊢;rw [D3 (by simp only [List.length_cons,List.length_nil];omega) (by omega),Option.bind_some]
   exact .ret ⟨q_c.eta.mono (by omega),by simp only [List.length_append,List.length_cons,List.length_nil];omega⟩
  ·exact .ret ⟨F5.eta.mono (by omega),by dsimp only;omega⟩
 rintro ⟨C,A,S,ls⟩ ⟨q1,q2⟩;exact .ret ⟨p2,p3,q2,q1.mono (by omega)⟩
theorem aa_ {a:List Int} (hl:a.length≤1048576) (hb: ∀x∈a,0≤x∧x≤255):dc (Mu a) fun r=>(r.1.Em.length≤20∧r.1.Ek.length≤61)∧r.2.length≤21:=by
 unfold Mu;refine dc.then (UP (Rr hl hb) (by omega)) ?_
 rintro ⟨s,c⟩ ⟨s1,s2,s3,sc⟩;dsimp only at s1 s2 s3 sc⊢;refine dc.then (UI sc (by omega) s1) ?_
 rintro ⟨o,c⟩ ⟨o1,NQ⟩;dsimp only at o1 NQ⊢;rw [aa9 (by omega),Option.bind_some]
 have hv:(NO o).1.length≤20:=by
  unfold NO;split
  ·unfold tell;split
   ·assumption
   ·simp
  ·simp
 revert hv;rcases NO o with ⟨v,k⟩;intro hv;dsimp only at hv⊢;refine dc.then (P:=fun r=>(r.1=true→2<v.length)∧EV ⟨r.2.1,r.2.2.1,r.2.2.2⟩ 1200) ?_ ?_
 ·refine dc.D5 (fun hc=> ?_) (fun hc=> ?_)
  ·refine dc.then (Ju (by assumption) (by omega)) ?_
   rintro ⟨z,KK⟩ F5;dsimp only at F5⊢;have gU:2<(v.length:Int):=by simpa using hc
   exact .ret ⟨fun _=>by omega,F5.eta.mono (by omega)⟩
  ·exact .ret ⟨fun h=>by simp at h,NQ.eta.mono (by omega)⟩
 rintro ⟨t,C,A,S⟩ ⟨t1,GB⟩;dsimp only at t1 GB⊢;refine dc.then (P:=fun r=>r.1.length≤20∧EV ⟨r.2.1,r.2.2.1,r.2.2.2⟩ 1300) ?_ ?_
 ·refine dc.D5 (fun hc=> ?_) (fun hc=> ?_)
  ·have h2:=t1 hc;refine dc.then (ug (by assumption) (by omega)) ?_
   rintro ⟨q,UO⟩ ⟨NP,KP,q_c⟩;dsimp only at NP KP q_c⊢;have hq:=KP (by omega)
   rw [Aw (by omega),D7 (by omega) (by omega) (by omega),Option.bind_some]
   exact .ret ⟨by dsimp only;rw [List.length_take,List.length_drop];omega,q_c.eta.mono (by omega)⟩
  ·exact .ret ⟨hv,GB.mono (by omega)⟩
 rintro ⟨v,C,A,S⟩ ⟨v1,GB⟩;dsimp only at v1 GB⊢;refine dc.then (Ju (by assumption) (by omega)) ?_
 rintro ⟨z,KK⟩ F5;dsimp only at F5⊢;refine dc.then (P:=fun r=>r.length≤21) ?_ ?_
 ·refine dc.D5 (fun hc=> ?_) (fun hc=> ?_)
  ·refine dc.then (aam F5 (by omega)) ?_
   rintro ⟨w,c⟩ ⟨w1,_⟩;exact .ret w1
  ·exact .ret (by omega)
 intro w hw;exact .ret ⟨⟨s2,s3⟩,hw⟩
theorem abb {a:List Int} (hl:a.length≤1048576) (hb: ∀x∈a,0≤x∧x≤255):dc (M0 a) fun r=>(0≤r.Next∧r.Next≤60)∧r.Em.length≤20∧r.Ek.length≤61:=by
 unfold M0;refine dc.then (UP (Rr hl hb) (by omega)) ?_
 rintro ⟨s,c⟩ ⟨s1,s2,s3,sc⟩;dsimp only at s1 s2 s3 sc⊢;refine dc.then (Ju (by assumption) (by omega)) ?_
 rintro ⟨z,KK⟩ F5;dsimp only at F5⊢;refine dc.then (P:=fun r=>0≤r∧r≤60) ?_ ?_
 ·refine dc.D5 (fun hc=> ?_) (fun hc=> ?_)
  ·exact .ret (by omega)
  ·exact .ret s1
 intro n hn;exact .ret ⟨hn,s2,s3⟩
theorem abd {a:List Int} (hl:a.length≤1048576) (hb: ∀x∈a,0≤x∧x≤255):dc (M3 a) fun _=>True:=by
 unfold M3;refine dc.then (T8 (Rr hl hb) (by omega) (by simp)) ?_
 rintro ⟨z,c⟩ _;exact .ret trivial
theorem Px (p q:Int→Bool): ∀N:Nat,(E0 (N:Int) p).length+(E0 (N:Int) q).length=(E0 (N:Int) fun n=>p n||q n).length+(E0 (N:Int) fun n=>p n&&q n).length
 |0=>by simp [E0]
 |N+1=>by
  have ih:=Px p q N;rw [show ((N+1:Nat):Int)=(N:Int)+1 by omega]
  simp only [Po,List.length_append];cases p (N:Int)<;>cases q (N:Int)<;>simp<;>omega
theorem RE {N:Int} {p q:Int→Bool} (h: ∀n,0≤n→n<N→p n=q n):E0 N p=E0 N q:=by
 unfold E0;congr 1;refine List.filter_congr fun k hk=> ?_;have:=List.mem_range.1 hk;exact h _ (by omega) (by omega)
theorem NR {N:Int} {p:Int→Bool} (h: ∀n,0≤n→n<N→p n=false):E0 N p=[]:=by
 rw [List.eq_nil_iff_forall_not_mem];intro x hx;have:=G9.1 hx;rw [h x this.1.1 this.1.2] at this;simp at this
theorem abe (N:Nat):(E0 (N:Int) fun _=>true).length=N:=by
 unfold E0;rw [List.length_map,List.filter_eq_self.2 (by simp)];simp
theorem RF {h:List Span} {N:Int} (b:Iy h N) (h0:0≤N) (h1:N≤60):GA h=((E0 N (hb h)).length:Int):=by
 rw [b.sp.GA.1];have e:(fun n=>h.any (ER n))=fun n=>EG (E0 N (hb h)) n:=by
  funext n
  rw [Bool.eq_iff_iff,NJ,G9];exact ⟨fun hn=>⟨⟨(b.sp.bY (IX.1 hn)).1,b.lt n (IX.1 hn)⟩,hn⟩,fun hn=>hn.2⟩
 rw [e,UH (Pn (KM _ _)) (fun x hx=>by have:=(G9.1 hx).1;omega)]
structure HL (s:Et) (l:List Span) (x:Et) (fresh lost:List Int):Prop where
 gs:GY s
 Iz:GY x
 lens:lost.length≤60∧fresh.length≤60
 len:GA x.Em=GA s.Em+fresh.length∧GA x.Em+x.Ek.length+(Fw x).length=x.Next
 sub: ∀k,k∈lost ++ Fw x→k∈Fw s
 again:HG x l=(x,[],[],true)
theorem RG {s x:Et} {l:List Span} {fresh lost:List Int} (e:HG s l=(x,fresh,lost,true)):HL s l x fresh lost:=by
 unfold HG at e;split at e
 ·rename_i hc;simp only [Bool.and_eq_true,decide_eq_true_eq] at hc;have g:=Hr.1 hc.1;have hl:=LP.1 hc.2.1;have HZ:=hc.2.2;obtain ⟨j1,j2,j3⟩:=Pv g hl;have F6:=g.GM;simp only [Prod.mk.injEq,and_true] at e;obtain ⟨rfl,rfl,rfl⟩:=e;have KN:Iy (Ew s l) s.Next:=⟨j1.sps (fun m hm=>by have:=j3 m hm;omega) HZ,fun m hm=>(j3 m hm).2⟩
  have eY: ∀n,hb (Ew s l) n=false→hb s.Em n=false:=fun n h=>by
   rw [Bool.eq_false_iff] at h⊢;exact fun hh=>h (IX.2 ((j2 n).2 (.inl (IX.1 hh))))
  have Iz:GY ⟨s.Next,Ew s l,Gg s (Ew s l)⟩:=⟨F6,KN,(show (Gg s (Ew s l)).Pairwise (· < ·) from KM _ _),fun y hy=>by
   simp only at hy⊢;unfold Gg at hy;rw [G9] at hy;simp only [Bool.and_eq_true,Bool.not_eq_true'] at hy;refine ⟨hy.1,fun hh=> ?_⟩;have h5:hb (Ew s l) y=true:=IX.2 hh;rw [hy.2.1] at h5;simp at h5⟩
  have bI: ∀n,0≤n→n<s.Next→EG (Gg s (Ew s l)) n=(!hb (Ew s l) n&&(EG s.Ek n||decide (n+3≤Fl (Ew s l)))):=fun n h0 h1=>by
   rw [Bool.eq_iff_iff,NJ];unfold Gg;rw [G9];exact ⟨fun h=>h.2,fun h=>⟨⟨h0,h1⟩,h⟩⟩
  obtain ⟨N,Py⟩:=Int.eq_ofNat_of_zero_le F6.1;refine ⟨g,Iz,⟨Nat.le_trans (Ix _ _) (by omega),Nat.le_trans (Ix _ _) (by omega)⟩,⟨?_,?_⟩,fun k hk=> ?_,?_⟩
  ·simp only;rw [RF KN F6.1 F6.2,RF g.G_ F6.1 F6.2];have q:=Px (hb s.Em) (fun n=>hb (Ew s l) n&& !hb s.Em n) N;rw [←Py] at q;have q1:E0 s.Next (fun n=>hb s.Em n||(hb (Ew s l) n&& !hb s.Em n))=E0 s.Next (hb (Ew s l)):=RE fun n _ _=>by
    have:=eY n;cases h1:hb (Ew s l) n
    ·rw [this h1];rfl
    ·cases hb s.Em n<;>rfl
   have q2:E0 s.Next (fun n=>hb s.Em n&&(hb (Ew s l) n&& !hb s.Em n))=[]:=NR fun n _ _=>by
    cases hb s.Em n<;>simp
   rw [q1,q2] at q;unfold Pu;simp only [List.length_nil] at q;omega
  ·simp only;rw [RF KN F6.1 F6.2];have q:=Px (hb (Ew s l)) (fun n=> !hb (Ew s l) n&&(EG s.Ek n||decide (n+3≤Fl (Ew s l)))) N;rw [←Py] at q;have q2:E0 s.Next (fun n=>hb (Ew s l) n&&(!hb (Ew s l) n&&(EG s.Ek n||decide (n+3≤Fl (Ew s l)))))=[]:=NR fun n _ _=>by
    cases hb (Ew s l) n<;>simp
   have r:=Px (fun n=>hb (Ew s l) n||(!hb (Ew s l) n&&(EG s.Ek n||decide (n+3≤Fl (Ew s l))))) (fun n=> !hb (Ew s l) n&& !EG (Gg s (Ew s l)) n) N;rw [←Py] at r;have r1:E0 s.Next (fun n=>(hb (Ew s l) n||(!hb (Ew s l) n&&(EG s.Ek n||decide (n+3≤Fl (Ew s l)))))||(!hb (Ew s l) n&& !EG (Gg s (Ew s l)) n))=E0 s.Next (fun _=>true):=RE fun n h0 h1=>by
    rw [bI n h0 h1];cases hb (Ew s l) n<;>cases (EG s.Ek n||decide (n+3≤Fl (Ew s l)))<;>rfl
   have r2:E0 s.Next (fun n=>(hb (Ew s l) n||(!hb (Ew s l) n&&(EG s.Ek n||decide (n+3≤Fl (Ew s l)))))&&(!hb (Ew s l) n&& !EG (Gg s (Ew s l)) n))=[]:=NR fun n h0 h1=>by
    rw [bI n h0 h1];cases hb (Ew s l) n<;>cases (EG s.Ek n||decide (n+3≤Fl (Ew s l)))<;>rfl
   have r3:=abe N;rw [←Py] at r3;rw [q2] at q;rw [r1,r2,r3] at r;simp only [List.length_nil] at q r;unfold Fw;simp only;unfold Gg at r⊢;omega
  ·unfold Fw;rw [G9];simp only [Bool.and_eq_true,Bool.not_eq_true'];rcases List.mem_append.1 hk with hk|hk
   ·unfold Ha at hk;rw [G9] at hk;simp only [Bool.and_eq_true,Bool.not_eq_true'] at hk;exact ⟨hk.1,eY k hk.2.1,hk.2.2.1⟩
   ·unfold Fw at hk;simp only at hk;rw [G9] at hk;simp only [Bool.and_eq_true,Bool.not_eq_true'] at hk;refine ⟨hk.1,eY k hk.2.1,?_⟩;have:=bI k hk.1.1 hk.1.2;rw [hk.2.2,hk.2.1] at this;cases h:EG s.Ek k
    ·rfl
    ·rw [h] at this;simp at this
  ·have hj:Ew ⟨s.Next,Ew s l,Gg s (Ew s l)⟩ l=Ew s l:=by
    obtain ⟨k1,k2,_⟩:=Pv Iz (l:=l) hl;refine Fh.gG k1 j1 fun n=> ?_;rw [k2];simp only;rw [j2];exact ⟨fun h=>h.elim id .inr,.inl⟩
   unfold HG;rw [hj,if_pos (by
    simp only [Bool.and_eq_true,decide_eq_true_eq];exact ⟨Hr.2 Iz,LP.2 hl,HZ⟩)]
   have a1:Gg ⟨s.Next,Ew s l,Gg s (Ew s l)⟩ (Ew s l)=Gg s (Ew s l):=by
    show E0 s.Next _=E0 s.Next _;refine RE fun n h0 h1=> ?_;simp only;rw [bI n h0 h1];cases hb (Ew s l) n<;>cases EG s.Ek n<;>cases decide (n+3≤Fl (Ew s l))<;>rfl
   have a2:Pu ⟨s.Next,Ew s l,Gg s (Ew s l)⟩ (Ew s l)=[]:=NR fun n _ _=>by
    simp only;cases hb (Ew s l) n<;>rfl
   have a3:Ha ⟨s.Next,Ew s l,Gg s (Ew s l)⟩ (Ew s l)=[]:=NR fun n h0 h1=>by
    simp only;rw [bI n h0 h1];cases hb (Ew s l) n<;>cases EG s.Ek n<;>cases decide (n+3≤Fl (Ew s l))<;>rfl
   rw [a1,a2,a3]
 ·simp at e
theorem RH {s:Et} (h1:s.Em.length≤1048576) (h2:s.Ek.length≤1048576):Kl s=some (if Gu s then (Fw s,true) else ([],false))∧MT s=some (if Gu s then (Fw s,true) else ([],false)):=by
 unfold Kl MT;rw [LO h1 h2,Rz h1 h2];cases e:Gu s
 ·exact ⟨rfl,rfl⟩
 ·have g:=Hr.1 e;simp only [Option.bind_some,Bool.not_true,cond_false,if_true];rw [UA g.GM h1 h2,aaN g.GM h1 h2];exact ⟨rfl,rfl⟩
noncomputable def IA (s:Et):Et×Int×Bool:=if Gu s&& !(s.Next==60) then (⟨s.Next+1,s.Em,s.Ek⟩,s.Next,true) else (⟨0,[],[]⟩,0,false)
theorem US {s:Et} (h1:s.Em.length≤1000) (h2:s.Ek.length≤1000):M1 s=some (IA s)∧M2 s=some (IA s):=by
 unfold M1 M2 IA;rw [LO (by omega) (by omega),Rz (by omega) (by omega)]
 cases e:Gu s
 ·exact ⟨rfl,rfl⟩
 ·have g:=Hr.1 e;have F6:=g.GM;simp only [Option.bind_some,Bool.not_true,cond_false,Bool.true_and];cases e2:s.Next==60
  ·simp only [cond_false,Bool.not_false,if_true];constructor
   ·unfold ME Lh;rw [D3 (by simp only [List.length_nil];omega) (by omega)]
    simp only [Option.bind_some];rw [D3 (by simp only [List.length_nil];omega) (by omega),Aw (by omega)]
    rfl
   ·unfold KZ;rw [D3 (by simp only [List.length_nil];omega) (by omega)]
    simp only [Option.bind_some];rw [D3 (by simp only [List.length_nil];omega) (by omega)]
    simp only [Option.bind_some];rw [Aw (by omega)]
    rfl
  ·exact ⟨rfl,rfl⟩
theorem abf {s:Et} (h:(IA s).2.2=true):GY (IA s).1∧(IA s).2.1=s.Next:=by
 unfold IA at h⊢;split at h
 ·rename_i hc;rw [if_pos hc];simp only [Bool.and_eq_true,Bool.not_eq_true',beq_eq_false_iff_ne] at hc;have g:=Hr.1 hc.1;have F6:=g.GM;exact ⟨⟨by simp only;omega,⟨g.G_.sp,fun m hm=>by have:=g.G_.lt m hm;simp only;omega⟩,g.J3,fun x hx=>⟨by have:=(g.mem x hx).1;simp only;omega,(g.mem x hx).2⟩⟩,rfl⟩
 ·simp at h
theorem abg (n:Int): ∃r,M4 n=some r∧Jy n=some r∧r.1.Em=[]∧r.1.Ek=[]:=by
 unfold M4 Jy;rw [Rp,NE];cases GW n 0 60
 ·exact ⟨_,rfl,rfl,rfl,rfl⟩
 ·exact ⟨_,rfl,rfl,rfl,rfl⟩
theorem Pz {s:Et} (h1:s.Em.length≤1000) (h2:s.Ek.length≤1000):If s s=some true:=by
 unfold If;rw [beq_self_eq_true,cond_true,aax h1,Option.bind_some,cond_true,Pw (by omega)];rfl
theorem abh {s x:Et} {l:List Span} {fresh lost:List Int} (cI:s.Em.length≤20) (hl:l.length≤21) (e:HG s l=(x,fresh,lost,true)):
 ((Kl x).bind fun (JM,Og)=>(JL x.Em).bind fun (Ja,Kc)=>(JL s.Em).bind fun (I4,Lk)=>((Hz x).bind fun Oh=>(bif (!Oh) then some (true) else (bif (!Og) then some (true) else (bif (!Kc) then some (true) else (bif (!Lk) then some (true) else (bif (Ja !=(IntKind.i64.wrap (I4+(fresh.length:Int)))) then some (true) else some (((IntKind.i64.wrap ((IntKind.i64.wrap (Ja+(x.Ek.length:Int)))+(JM.length:Int))) !=x.Next)))))))).bind fun Km=>(bif Km then some (LR.done false) else (app 8 ([]:List Int) lost).bind fun M7=>(app 8 M7 JM).bind fun I_=>(eM (M5 (Fw s) I_) (0)).bind fun y=>match y with|LR.next ()=>(Kk x l).bind fun (Hf,I3,M8,Oi)=>((bif (!Oi) then some (true) else (If Hf x).bind fun Oj=>(bif (!Oj) then some (true) else (bif (decide (0<(I3.length:Int))) then some (true) else some ((decide (0<(M8.length:Int)))))))).bind fun Kn=>(bif Kn then some (LR.done false) else some (LR.next ()))|LR.done z=>some z))=some (LR.next ():LR Unit Bool):=by
 have L:=RG e;obtain ⟨aed,aee⟩:=L.Iz.lens;have hx:=L.Iz.GM;have ho:(Fw x).length≤60:=Nat.le_trans (Ix _ _) (by omega)
 have yh:(Fw s).length≤60:=Nat.le_trans (Ix _ _) (by have:=L.gs.GM;omega)
 have hw:=L.Iz.G_.sp.GA.2;have hv:=L.gs.G_.sp.GA.2;rw [(RH (by omega) (by omega)).1,Hr.2 L.Iz,if_pos rfl,Uc (by omega),J4.2 L.Iz.G_.sp,Uc (by omega),J4.2 L.gs.G_.sp,LO (by omega) (by omega),Hr.2 L.Iz]
 simp only [if_true,Option.bind_some,Bool.not_true,cond_false];have h1:=L.len.1;have h2:=L.len.2;have h3:=L.lens;rw [Aw (x:=GA s.Em+(fresh.length:Int)) (by omega),Aw (x:=GA x.Em+(x.Ek.length:Int)) (by omega),Aw (x:=GA x.Em+(x.Ek.length:Int)+((Fw x).length:Int)) (by omega),h1,bne_self_eq_false]
 rw [←h1,h2,bne_self_eq_false];simp only [cond_false,Option.bind_some];rw [D3 (by simp only [List.length_nil];omega) (by omega)]
 simp only [Option.bind_some,List.nil_append];rw [D3 (by omega) (by omega)]
 simp only [Option.bind_some];have key:eM (M5 (Fw s) (lost ++ Fw x)) 0=some (.next ()):=by
  refine D1 (fun i:Int=>(lost ++ Fw x).length-i.toNat) (fun i=>0≤i∧i≤(lost ++ Fw x).length) _ ?_ _ ⟨by omega,by omega⟩
  rintro i ⟨i0,i1⟩;simp only [M5];have hlen:(lost ++ Fw x).length≤120:=by rw [List.length_append];omega
  by_cases hi:i<(lost ++ Fw x).length
  ·have ax:i.toNat<(lost ++ Fw x).length:=by omega
   have hm:=L.sub _ (List.getElem_mem ax);rw [Bi hi,D6 i0 hi];simp only [cond_true,Option.bind_some];rw [aa7 (by omega),show (Fw s).any (· ==(lost ++ Fw x)[i.toNat])=true from List.any_eq_true.2 ⟨_,hm,beq_self_eq_true _⟩,Aw (by omega)]
   exact ⟨_,rfl,⟨by omega,by omega⟩,by omega⟩
  ·rw [D8 hi];exact ⟨_,rfl,rfl⟩
 rw [key];simp only [Option.bind_some];rw [UF (by omega) (by omega) (by omega),L.again]
 simp only [Option.bind_some,Bool.not_true,cond_false];rw [Pz (by omega) (by omega)]
 rfl
theorem abi {s x:Et} {l:List Span} {fresh lost:List Int} {c:Bool} (e:HG s l=(x,fresh,lost,c)):x.Em.length≤60∧x.Ek.length≤60∧fresh.length≤60∧lost.length≤60:=by
 cases c
 ·unfold HG at e;split at e
  ·simp at e
  ·simp only [Prod.mk.injEq,and_true] at e;obtain ⟨rfl,rfl,rfl⟩:=e;simp
 ·have L:=RG e;have:=L.Iz.lens;have:=L.lens;omega
theorem abj (a b:List Int) (ha:a.length<2^47) (mF:b.length<2^47) (abk: ∀x∈a,0≤x∧x≤255) (UT: ∀x∈b,0≤x∧x≤255):M6 a b=some true:=by
 unfold M6;rw [Aw (by omega)]
 by_cases hlen:1048576<(a.length:Int)+b.length
 ·rw [Bi hlen];rfl
 ·rw [D8 hlen,cond_false];obtain ⟨⟨s,l⟩,e1,⟨s1,s2⟩,l1⟩:=aa_ (a:=a) (by omega) abk
  obtain ⟨y,e2,Pt,RA,RB⟩:=abb (a:=b) (by omega) UT
  obtain ⟨w,e3,_⟩:=abd (a:=b) (by omega) UT
  obtain ⟨v,abl,n2,UU,UW⟩:=abg w;simp only at s1 s2 l1;rw [e1,e2,e3];simp only [Option.bind_some];rw [UF (by omega) (by omega) (by omega),UE (by omega) (by omega) (by omega),(RH (by omega) (by omega)).1,(RH (by omega) (by omega)).2,LO (by omega) (by omega),(US (by omega) (by omega)).1,(US (by omega) (by omega)).2,abl,n2]
  have PA:=fun h=>abf (s:=y) h;have j0:(IA y).1.Em.length≤20∧(IA y).1.Ek.length≤61:=by
   unfold IA;split
   ·exact ⟨RA,RB⟩
   ·simp
  revert PA j0;rcases IA y with ⟨z,k,c2⟩;intro PA j0;obtain ⟨v,c3⟩:=v;simp only at UU UW PA j0;have tail:(bif (c2==c2) then (bif (k==k) then (If z z).bind fun M9=>(bif M9 then (bif (c3==c3) then (If v v).bind fun M_=>(bif M_ then (bif (!c2) then some true else (Hz z).bind fun Na=>(bif Na then some (k==y.Next) else some false)) else some false) else some false) else some false) else some false) else some false)=some true:=by
   rw [Pz (s:=z) (by omega) (by omega),Pz (s:=v) (by rw [UU];simp) (by rw [UW];simp),LO (by omega) (by omega)]
   simp only [beq_self_eq_true,cond_true,Option.bind_some];cases c2
   ·rfl
   ·obtain ⟨g1,g2⟩:=PA rfl;rw [Hr.2 g1,g2];simp
  rcases hE:HG s l with ⟨x,fresh,lost,c⟩;obtain ⟨q1,q2,q3,q4⟩:=abi hE;simp only [beq_self_eq_true,Bool.not_true,cond_false,Option.bind_some];rw [Pz (s:=x) (by omega) (by omega),Pw (l:=fresh) (by omega),Pw (l:=lost) (by omega)]
  simp only [Option.bind_some,Bool.not_true,cond_false];have aef:(if Gu s=true then (Fw s,true) else ([],false)).1.length≤60:=by
   split
   ·rename_i h;have h2:=Ix s.Next fun n=> !hb s.Em n&& !EG s.Ek n;have h3:=(Hr.1 h).GM;show (Fw s).length≤60;unfold Fw;omega
   ·simp
  rw [Pw (l:=(if Gu s=true then (Fw s,true) else ([],false)).1) (by omega)]
  have abm:(if Gu s=true then (Fw s,true) else (([]:List Int),false)).2=Gu s:=by
   cases Gu s<;>rfl
  rw [abm];simp only [Option.bind_some,Bool.not_true,cond_false,beq_self_eq_true];cases c
  ·simp only [cond_false,Option.bind_some];simp only [beq_self_eq_true,cond_true] at tail;exact tail
  ·have L:=RG hE;rw [Hr.2 L.gs];simp only [if_true,cond_true];simp only [beq_self_eq_true,cond_true] at tail;exact (congrArg (fun o=>Option.bind o _) (abh s1 l1 hE)).trans tail
end Go.GC
