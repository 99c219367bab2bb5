/-
  The plain law and all that it needs.
-/
import Derived.Test.YtmmomohapflagaaVkF
import Derived.Test.YtmmomohapflagaaVaF
import Derived.Test.YtmmomohapflagaaVaG
open Go Go.VS
namespace Go.Fc
def HX (n a b:Int):Bool:=decide (a≤n)&&decide (n≤b)
theorem Tn (n a b:Int):JB n a b=some (HX n a b):=by
 unfold JB HX;cases decide (a≤n)<;>rfl
theorem Tp (n a b:Int):Jx n a b=some (HX n a b):=by
 unfold Jx HX;cases decide (a≤n)<;>rfl
theorem Tq {n a b:Int}:HX n a b=true↔a≤n∧n≤b:=by simp [HX]
structure Ec (c:DM) (b:Int):Prop where
 len:c.Code.length≤1048576
 bytes: ∀x∈c.Code,0≤x∧x≤255
 lo:0≤c.At
 hi:c.At≤b
theorem Ec.mono {c:DM} {b d:Int} (h:Ec c b) (hd:b≤d):Ec c d:=⟨h.len,h.bytes,h.lo,by have:=h.hi;omega⟩
theorem Ts (k:Int):0≤zU .u64 k 255∧zU .u64 k 255≤255:=by
 have h:(BitVec.ofInt IntKind.u64.bits k&&&BitVec.ofInt IntKind.u64.bits 255).toNat≤255:=by
  rw [BitVec.toNat_and];exact Nat.and_le_right
 unfold zU;rw [IntWalk.u64_in _ (by omega)]
 omega
theorem OE {c:DM} {b:Int} (h:Ec c b) (hb:b≤4611686018427387904): ∃x d,HZ c=some (x,d)∧(0≤x∧x≤255)∧Ec d (b+1):=by
 obtain ⟨h1,h2,h3,h4⟩:=h;unfold HZ;rw [Ae (x:=c.At+1) (by omega)]
 have e: ∃DE,(bif (decide (c.At<(c.Code.length:Int))) then (idx c.Code c.At).bind fun Ef=>some ((IntKind.i64.wrap Ef)) else some (0))=some DE∧0≤DE∧DE≤255:=by
  by_cases hc:c.At<c.Code.length
  ·rw [show decide (c.At<(c.Code.length:Int))=true by simpa using hc]
   obtain ⟨n,hn⟩:=Int.eq_ofNat_of_zero_le h3;rw [hn,wF (show n<c.Code.length by omega)]
   have:=h2 _ (List.getElem_mem (show n<c.Code.length by omega))
   simp only [cond_true,Option.bind_some];rw [Ae (by omega)]
   exact ⟨_,rfl,this⟩
  ·rw [show decide (c.At<(c.Code.length:Int))=false by simpa using hc]
   exact ⟨0,rfl,by omega,by omega⟩
 obtain ⟨DE,e1,e2⟩:=e;rw [e1,Option.bind_some];cases decide (c.At+1≤(c.Code.length:Int))
 ·refine ⟨_,_,rfl,?_,⟨h1,h2,by simp only;omega,by simp only;omega⟩⟩
  have:=Ts (uE .u64 (IntKind.u64.wrap ((IntKind.u64.wrap ((IntKind.u64.wrap (c.D4*6364136223846793005))+(IntKind.u64.wrap DE)))+1442695040888963407)) 40);rw [Ae (by omega)]
  exact this
 ·exact ⟨_,_,rfl,e2,⟨h1,h2,by simp only;omega,by simp only;omega⟩⟩
theorem OF {x n:Int} (hx:0≤x) (hn:1<n): ∃r,md x n=some r∧0≤r∧r<n:=by
 unfold md;rw [if_neg (by omega)]
 refine ⟨_,rfl,?_,?_⟩
 ·rw [Int.tmod_eq_emod_of_nonneg hx];exact Int.emod_nonneg _ (by omega)
 ·rw [Int.tmod_eq_emod_of_nonneg hx];exact Int.emod_lt_of_pos _ (by omega)
theorem ME {c:DM} {b n:Int} (h:Ec c b) (hb:b≤4000000000000000000): ∃x d,Fo c n=some (x,d)∧(0≤x∧(1≤n→x<n))∧Ec d (b+2):=by
 unfold Fo;by_cases hn:n≤1
 ·rw [show decide (n≤1)=true by simpa using hn]
  exact ⟨0,c,rfl,⟨by omega,by omega⟩,h.mono (by omega)⟩
 ·rw [show decide (n≤1)=false by simpa using hn]
  obtain ⟨x,d,e1,e2,e3⟩:=OE h (by omega)
  simp only [cond_false];rw [e1,Option.bind_some];cases decide (200<n)
  ·simp only [cond_false,Option.bind_some];obtain ⟨r,r1,r2,r3⟩:=OF (x:=x) e2.1 (show 1<n by omega)
   rw [r1];exact ⟨r,_,rfl,⟨r2,fun _=>r3⟩,e3.mono (by omega)⟩
  ·simp only [cond_true];obtain ⟨y,d',f1,f2,f3⟩:=OE e3 (by omega)
   rw [f1];simp only [Option.bind_some];rw [Ae (x:=x*256) (by omega),Ae (by omega)]
   obtain ⟨r,r1,r2,r3⟩:=OF (x:=x*256+y) (by omega) (show 1<n by omega)
   rw [r1];exact ⟨r,_,rfl,⟨r2,fun _=>r3⟩,f3.mono (by omega)⟩
theorem Tt {c:DM} {b n:Int} (h:Ec c b) (hb:b≤4000000000000000000): ∃x d,G0 c n=some (x,d)∧Ec d (b+2):=by
 obtain ⟨x,d,e1,_,e3⟩:=ME (n:=n) h hb;unfold G0;rw [e1];exact ⟨_,_,rfl,e3⟩
theorem Tu {c:DM} {b:Int} {l:List Int} (h:Ec c b) (hb:b≤4000000000000000000) (hl:l≠[]): ∃x d,Ha c l=some (x,d)∧x∈l∧Ec d (b+2):=by
 obtain ⟨x,d,e1,e2,e3⟩:=ME (n:=(l.length:Int)) h hb;have cX:1≤l.length:=by cases l with|nil=>exact absurd rfl hl|cons _ _=>simp
 unfold Ha;rw [e1];obtain ⟨n,rfl⟩:=Int.eq_ofNat_of_zero_le e2.1;have hn:n<l.length:=by have:=e2.2 (by omega);omega
 simp only [Option.bind_some];rw [wF hn];exact ⟨_,_,rfl,List.getElem_mem hn,e3⟩
theorem OG {l:List Int} (hl:l.length≤1048576) (hb: ∀x∈l,0≤x∧x≤255):Ec ⟨l,0,0⟩ 0:=⟨hl,hb,by simp,by simp⟩
theorem tU {c:DM} {b n:Int} (h:Ec c b) (hb:b≤4000000000000000000):da (Fo c n) fun r=>0≤r.1∧(1≤n→r.1<n)∧Ec r.2 (b+2):=by
 obtain ⟨x,d,e,⟨h1,h2⟩,h3⟩:=ME (n:=n) h hb;exact ⟨_,e,h1,h2,h3⟩
theorem MF {c:DM} {b n:Int} (h:Ec c b) (hb:b≤4000000000000000000):da (G0 c n) fun r=>Ec r.2 (b+2):=by
 obtain ⟨x,d,e,h3⟩:=Tt (n:=n) h hb;exact ⟨_,e,h3⟩
theorem MH {c:DM} {b:Int} {l:List Int} (h:Ec c b) (hb:b≤4000000000000000000) (hl:l≠[]):da (Ha c l) fun r=>r.1∈l∧Ec r.2 (b+2):=by
 obtain ⟨x,d,e,h2,h3⟩:=Tu h hb hl;exact ⟨_,e,h2,h3⟩
def Gb {α :Type} (p:Nat→ α →Bool):Nat→List α →Bool
 |_,[]=>true
 |k,x::xs=>p k x&&Gb p (k+1) xs
theorem OH {α σ ρ :Type} {g:Nat→ α → σ →LR σ ρ} {fin: σ → ρ} (p:Nat→ α →Bool) (r: ρ) (h: ∀k x s,g k x s=if p k x then .next s else .done r) (l:List α) (k:Nat) (s: σ):fu g fin k l s=if Gb p k l then fin s else r:=by
 induction l generalizing k with
 |nil=>simp [fu,Gb]
 |cons x xs ih=>
  rw [show Gb p k (x::xs)=(p k x&&Gb p (k+1) xs) from rfl];simp only [fu,h];by_cases hp:p k x=true
  ·rw [if_pos hp,hp,Bool.true_and];exact ih (k+1)
  ·have Tv:p k x=false:=by simpa using hp
   rw [if_neg hp,Tv,Bool.false_and];rfl
theorem OI {α :Type} {p:Nat→ α →Bool}: ∀{l:List α} {k:Nat},Gb p k l=true↔ ∀i x,l[i]? =some x→p (k+i) x=true
 |[],k=>by simp [Gb]
 |x::xs,k=>by
  simp only [Gb,Bool.and_eq_true,OI (l:=xs)];constructor
  ·rintro ⟨h1,h2⟩ i y hy;cases i with
   |zero=>
    obtain rfl:x=y:=by simpa using hy
    exact h1
   |succ i=>
    have:=h2 i y (by simpa using hy)
    rwa [show k+1+i=k+(i+1) by omega] at this
  ·intro h;refine ⟨h 0 x rfl,fun i y hy=> ?_⟩;have:=h (i+1) y (by simpa using hy)
   rwa [show k+(i+1)=k+1+i by omega] at this
def Fw (x:Span):Bool:=decide (0≤x.Dz∧x.Dz<x.To∧x.To≤1000000)
theorem K_ (x:Span):Hq x=some (Fw x):=by
 unfold Hq Fw;by_cases h1:0≤x.Dz
 ·rw [AR h1,cond_true];by_cases h2:x.Dz<x.To
  ·rw [AR h2,cond_true];simp only [h1,h2,true_and]
  ·rw [Dm h2,cond_false,Dm (fun h=>h2 h.2.1)]
 ·rw [Dm h1,cond_false,Dm (fun h=>h1 h.1)]
theorem MI (x:Span):Ic x=some (Fw x):=K_ x
def FK (l:List Span) (k:Nat) (x:Span):Bool:=Fw x&&(decide (k=0)|| !decide (x.Dz≤(l.getD (k-1) ⟨0,0⟩).To))
def Ei (l:List Span):Bool:=decide (l.length≤20)&&Gb (FK l) 0 l
theorem OJ {l:List Span} {k:Nat} (hk:k<l.length) (hl:l.length≤1048576):((some (Fw l[k])).bind fun G6=>(bif (!G6) then some true else (bif (decide (0<(k:Int))) then (idx l (IntKind.i64.wrap ((k:Int)-1))).bind fun Gg=>some (decide (l[k].Dz≤Gg.To)) else some false)))=some (!FK l k l[k]):=by
 unfold FK;rw [Option.bind_some];cases Fw l[k]
 ·rfl
 ·simp only [Bool.not_true,cond_false,Bool.true_and];by_cases h:k=0
  ·subst h;simp
  ·rw [AR (by omega),cond_true,Ae (by omega),show (k:Int)-1=((k-1:Nat):Int) by omega,wF (by omega),Dm h,List.getD_eq_getElem?_getD,List.getElem?_eq_getElem (by omega:k-1<l.length)]
   simp
theorem Gx {l:List Span} (hl:l.length≤1048576):Fp l=some (Ei l):=by
 unfold Fp Ei;by_cases h:l.length≤20
 ·rw [Dm (by omega),cond_false,AR h,AQ l (I4 l) (fun k (_:Unit)=>k) (fun k x s=>if FK l k x then .next s else .done (.done false)) (fun _=> .next ()) (fun k hk s=>by
   simp only [I4];rw [AR (by omega),wF hk]
   simp only [cond_true,Option.bind_some,K_];have:=OJ hk hl;simp only [Option.bind_some] at this;rw [this,Option.bind_some,Ae (by omega)]
   cases FK l k l[k]<;>rfl) (fun s=>by simp [I4]) (),OH _ _ (fun _ _ _=>rfl)]
  cases Gb (FK l) 0 l<;>rfl
 ·rw [AR (by omega),Dm h];rfl
theorem IQ {l:List Span} (hl:l.length≤1048576):Gj l=some (Ei l):=by
 unfold Gj Ei;rw [AQ l (Jb l) (fun k (_:Unit)=>k) (fun k x s=>if FK l k x then .next s else .done (.done false)) (fun _=> .next ()) (fun k hk s=>by
  simp only [Jb];rw [AR (by omega),wF hk]
  simp only [cond_true,Option.bind_some,MI];have:=OJ hk hl;simp only [Option.bind_some] at this;rw [this,Option.bind_some,Ae (by omega)]
  cases FK l k l[k]<;>rfl) (fun s=>by simp [Jb]) (),OH _ _ (fun _ _ _=>rfl)]
 cases Gb (FK l) 0 l
 ·simp
 ·simp only [if_true,Option.bind_some,Bool.and_true];by_cases h:l.length≤20
  ·rw [AR h,AR (by omega)]
  ·rw [Dm h,Dm (by omega)]
structure Ej (l:List Span):Prop where
 len:l.length≤20
 sp: ∀x∈l,0≤x.Dz∧x.Dz<x.To∧x.To≤1000000
 Tw:l.Pairwise fun x y=>x.To<y.Dz
theorem EB {l:List Span}:Ei l=true↔Ej l:=by
 unfold Ei;rw [Bool.and_eq_true,decide_eq_true_eq,OI];have key:(∀(i:Nat) (x:Span),l[i]? =some x→FK l (0+i) x=true)↔(∀x∈l,0≤x.Dz∧x.Dz<x.To∧x.To≤1000000)∧l.Pairwise fun x y=>x.To<y.Dz:=by
  constructor
  ·intro h;have h1: ∀x∈l,0≤x.Dz∧x.Dz<x.To∧x.To≤1000000:=fun x hx=>by
    obtain ⟨i,hi⟩:=List.mem_iff_getElem?.1 hx;have:=h i x hi;simp only [FK,Fw,Bool.and_eq_true,decide_eq_true_eq] at this;exact this.1
   have h2: ∀i (hi:i+1<l.length),l[i].To<l[i+1].Dz:=fun i hi=>by
    have:=h (i+1) l[i+1] (List.getElem?_eq_getElem hi);simp only [FK,Bool.and_eq_true,Bool.or_eq_true,decide_eq_true_eq,Bool.not_eq_true',decide_eq_false_iff_not,Nat.zero_add,Nat.add_sub_cancel] at this;rw [List.getD_eq_getElem?_getD,List.getElem?_eq_getElem (by omega:i<l.length)] at this
    have:=this.2;simp only [Option.getD_some] at this;omega
   refine ⟨h1,List.pairwise_iff_getElem.2 fun i j hi hj jq=> ?_⟩;have: ∀d,∀(hd:i+1+d<l.length),l[i].To<l[i+1+d].Dz:=fun d=>by
    induction d with
    |zero=>intro hd;exact h2 i hd
    |succ d ih=>
     intro hd;have a1:=ih (by omega)
     have a2:=h2 (i+1+d) (by omega)
     have a3:=h1 _ (List.getElem_mem (show i+1+d<l.length by omega))
     have:l[i+1+d+1]=l[i+1+(d+1)]:=rfl;rw [this] at a2;omega
   have:=this (j-(i+1)) (by omega)
   simp only [show i+1+(j-(i+1))=j by omega] at this
   exact this
  ·rintro ⟨h1,h2⟩ i x hi;obtain ⟨gP,e⟩:=List.getElem?_eq_some_iff.1 hi;simp only [FK,Fw,Bool.and_eq_true,Bool.or_eq_true,decide_eq_true_eq,Bool.not_eq_true',decide_eq_false_iff_not,Nat.zero_add];refine ⟨h1 x (List.mem_of_getElem? hi),?_⟩;by_cases h0:i=0
   ·exact .inl h0
   ·right;rw [List.getD_eq_getElem?_getD,List.getElem?_eq_getElem (by omega:i-1<l.length)]
    have:=List.pairwise_iff_getElem.1 h2 (i-1) i (by omega) gP (by omega)
    rw [e] at this;simp only [Option.getD_some];omega
 rw [key];exact ⟨fun h=>⟨h.1,h.2.1,h.2.2⟩,fun h=>⟨h.1,h.2,h.3⟩⟩
def EJ (l:List Span):Int:=l.foldl (fun n x=>IntKind.i64.wrap (n+IntKind.i64.wrap (x.To-x.Dz))) 0
theorem La {l:List Span} (hl:l.length≤1048576):Hy l=some (EJ l):=by
 unfold Hy EJ;rw [AQ l (Js l) (fun k (s:Int)=>(s,k)) (fun _ x s=> .next (IntKind.i64.wrap (s+IntKind.i64.wrap (x.To-x.Dz)))) id (fun k hk s=>by
  simp only [Js];rw [AR (by omega),wF hk,Ae (x:=(k:Int)+1) (by omega)]
  rfl) (fun s=>by simp [Js]) 0,Di _ (fun _ _ _=>rfl)]
 rfl
theorem sLen {l:List Span} (hl:l.length≤1048576):JI l=some (EJ l):=La hl
theorem Tx {l:List Span} (hl:l.length≤1048576):FA l=some (if Ei l then (EJ l,true) else (0,false)):=by
 unfold FA;rw [Gx hl,La hl];cases Ei l<;>rfl
def DS (n:Int) (x:Span):Bool:=decide (x.Dz≤n)&&decide (n<x.To)
theorem Ty {l:List Span} (hl:l.length<2^60) {g:Span→Option Bool} (p:Span→Bool) (hg: ∀x∈l,g x=some (p x)):Jt l g=some (dR p l):=by
 unfold Jt;rw [Dn p (f:=Lq l g) (fun _=>rfl) hl hg];have:=p8 p l;by_cases h:dR p l<0
 ·rw [if_pos h];simp;omega
 ·rw [if_neg h];rfl
theorem Tz {l:List Span} (hl:l.length<2^60) {g:Span→Option Bool} (p:Span→Bool) (hg: ∀x∈l,g x=some (p x)):Ju l g=some (l.any p):=by
 unfold Ju;rw [Ty hl p hg,Option.bind_some,AS]
theorem TA {l:List Span} (hl:l.length≤1048576) (n:Int):Jv l n=some (l.any (DS n)):=by
 unfold Jv;rw [Tz (by omega) (DS n) (fun x _=>by unfold Kn DS;cases decide (x.Dz≤n)<;>rfl)]
 rfl
theorem TB {l:List Span} (hl:l.length≤1048576) (n:Int):E0 l n=some (if Ei l then (l.any (DS n),true) else (false,false)):=by
 unfold E0;rw [Gx hl,TA hl];cases Ei l<;>rfl
def Gy (out:List Span) (x:Span):List Span:=
 match out.getLast? with
 |some z=>if x.Dz≤z.To then out.set (out.length-1) ⟨z.Dz,if x.To>z.To then x.To else z.To⟩ else out ++ [x]
 |none=>out ++ [x]
theorem TD (out:List Span) (x:Span):(Gy out x).length≤out.length+1:=by
 unfold Gy;split
 ·split
  ·simp
  ·simp
 ·simp
theorem TE {l:List Span} (hl:l.length≤100000) (hb: ∀x∈l,-2305843009213693952≤x.Dz∧x.Dz≤2305843009213693952): ∃r:List Span,r.Perm l∧(r.Pairwise fun x y=>x.Dz≤y.Dz)∧Gh l=some (r.foldl Gy []):=by
 obtain ⟨r,h1,h2,h3⟩:=Ds (sz:=2) (z:=M5) (dec:=M6) (fun _=>rfl) (l:=l) (fun x hx=>⟨rfl,hb x hx⟩) (by omega)
 refine ⟨r,h2,h3,?_⟩;have hr:r.length=l.length:=h2.length_eq;unfold Gh Hs Lo;rw [Dh (by simp<;>omega) (by omega),Option.bind_some,List.nil_append,h1,Option.bind_some]
 rw [AP r (I_ r) (fun k (s:List Span)=>(s,k)) (fun _ x s=> .next (Gy s x)) id (fun k s=>s.length≤k) (fun k hk s hs=>by
  refine ⟨?_,fun s' e=>by obtain rfl:=LR.next.inj e;have:=TD s r[k];omega⟩
  simp only [I_];rw [AR (by omega),wF hk,Ae (x:=(k:Int)+1) (by omega),Ae (x:=(s.length:Int)-1) (by omega)]
  simp only [cond_true,Option.bind_some];unfold Gy;by_cases h0:s.length=0
  ·have:s=[]:=List.length_eq_zero_iff.1 h0;subst this;rw [Dm (by simp),Dh (by simp) (by omega)]
   rfl
  ·rw [AR (by omega),cond_true,Dk (by omega) (by omega),Option.bind_some]
   have e1:((s.length:Int)-1).toNat=s.length-1:=by omega
   simp only [e1,List.getLast?_eq_getElem?,List.getElem?_eq_getElem (show s.length-1<s.length by omega),Option.bind_some]
   by_cases h1:r[k].Dz≤s[s.length-1].To
   ·simp only [decide_eq_true h1,cond_true,if_pos h1,Option.bind_some];rfl
   ·simp only [decide_eq_false h1,cond_false,if_neg h1];rw [Dh (by simp<;>omega) (by omega)];rfl) (fun s _=>by simp [I_]) [] (by simp),Di _ (fun _ _ _=>rfl)]
 rfl
def El (x y:Span):Span:=⟨if y.Dz>x.Dz then y.Dz else x.Dz,if y.To<x.To then y.To else x.To⟩
def EK (x y:Span):List Span:=if (El x y).Dz<(El x y).To then [El x y] else []
def FT (a b:List Span):List Span:=a.flatMap fun x=>b.flatMap (EK x)
theorem Kc (x y:Span):(EK x y).length≤1:=by unfold EK;split<;>simp
theorem Lb {α β :Type} (f: α →List β) (l:List α) (s:List β):l.foldl (fun s x=>s ++ f x) s=s ++ l.flatMap f:=by
 induction l generalizing s with
 |nil=>simp
 |cons x xs ih=>simp [ih]
theorem Lc {α β :Type} (f: α →List β) (c:Nat) (l:List α) (h: ∀x∈l,(f x).length≤c):(l.flatMap f).length≤c*l.length:=by
 induction l with
 |nil=>simp
 |cons x xs ih=>
  have h1:=h x (by simp)
  have h2:=ih fun y hy=>h y (by simp [hy])
  simp only [List.flatMap_cons,List.length_append,List.length_cons,Nat.mul_add,Nat.mul_one];omega
theorem TF {b:List Span} (x:Span) (hb:b.length≤1000) {s0:List Span} (hs:s0.length≤1000000):fq (Ii b x) (s0,0)=some (s0 ++ b.flatMap (EK x)):=by
 have:=AP b (Ii b x) (fun k (s:List Span)=>(s,k)) (fun _ y s=> .next (s ++ EK x y)) id (fun k s=>s.length≤1000000+k) (fun k hk s hs=>by
  refine ⟨?_,fun s' e=>by obtain rfl:=LR.next.inj e;have:=Kc x b[k];simp only [List.length_append];omega⟩
  simp only [Ii];rw [AR (by omega),wF hk,Ae (x:=(k:Int)+1) (by omega)]
  simp only [cond_true,Option.bind_some];unfold EK;by_cases h:(El x b[k]).Dz<(El x b[k]).To
  ·have h' :=h
   simp only [El] at h';rw [AR h',if_pos h,Dh (by simp<;>omega) (by omega)];rfl
  ·have h' :=h
   simp only [El] at h';rw [Dm h',if_neg h,List.append_nil];rfl) (fun s _=>by simp [Ii]) s0 (by omega)
 rw [this,Di _ (fun _ _ _=>rfl),Lb];rfl
theorem TG {a b:List Span} (ha:a.length≤100) (hb:b.length≤100):Hv a b=Gh (FT a b):=by
 unfold Hv;rw [AP a (Jm a b) (fun k (s:List Span)=>(s,k)) (fun _ x s=> .next (s ++ b.flatMap (EK x))) id (fun k s=>s.length≤100*k) (fun k hk s hs=>by
  refine ⟨?_,fun s' e=>by
   obtain rfl:=LR.next.inj e
   have:=Lc (EK a[k]) 1 b fun y _=>Kc a[k] y;simp only [List.length_append];omega⟩
  simp only [Jm];rw [AR (by omega),wF hk,Ae (x:=(k:Int)+1) (by omega)]
  simp only [cond_true,Option.bind_some];rw [TF _ (by omega) (by omega)]
  rfl) (fun s _=>by simp [Jm]) [] (by simp),Di _ (fun _ _ _=>rfl),Lb]
 simp only [id,List.nil_append,Option.bind_some,FT];cases Gh (a.flatMap fun x=>b.flatMap (EK x))<;>rfl
theorem TJ {l:List Span}:Gi l=some (if l.length≤20 then (l,true) else ([],false)):=by
 unfold Gi;by_cases h:l.length≤20
 ·rw [Dm (by omega),if_pos h];rfl
 ·rw [AR (by omega),if_neg h];rfl
theorem TK {c:DM} {b:Int} (h:Ec c b) (hb:b≤2000000000000000000):da (JF c) fun r=>True∧Ec r.2 (b+10):=by
 unfold JF;refine da.then (MF (by assumption) (by omega)) ?_
 rintro ⟨y,TL⟩ Ld;dsimp only at Ld⊢;refine da.Dj (fun hc=> ?_) (fun hc=> ?_)
 ·refine da.then (MH (by assumption) (by omega) (by simp)) ?_
  rintro ⟨u,OK⟩ ⟨TM,u_c⟩;dsimp only at TM u_c⊢;refine da.then (MH (by assumption) (by omega) (by simp)) ?_
  rintro ⟨v,OL⟩ ⟨TN,Hk⟩;dsimp only at TN Hk⊢;exact .ret ⟨trivial,Hk.mono (by omega)⟩
 ·refine da.then (tU (by assumption) (by omega)) ?_
  rintro ⟨u,OK⟩ ⟨MJ,MK,u_c⟩;dsimp only at MJ MK u_c⊢;refine da.then (tU (by assumption) (by omega)) ?_
  rintro ⟨v,OL⟩ ⟨ML,MN,Hk⟩;dsimp only at ML MN Hk⊢;exact .ret ⟨trivial,Hk.mono (by omega)⟩
theorem OM {c:DM} {b:Int} (h:Ec c b) (hb:b≤1000000000000000000):da (G4 c) fun r=>r.1.length≤21∧Ec r.2 (b+500):=by
 unfold G4;refine da.then (tU (by assumption) (by omega)) ?_
 rintro ⟨x,Wu⟩ ⟨TO,ON,TP⟩;dsimp only at TO ON TP⊢;have Wv:=ON (by omega)
 refine da.then (MF (by assumption) (by omega)) ?_
 rintro ⟨y,TL⟩ Ld;dsimp only at Ld⊢;refine da.then (P:=fun r=>(0≤r.1∧r.1≤21)∧Ec ⟨r.2.1,r.2.2.1,r.2.2.2⟩ (b+10)) ?_ ?_
 ·refine da.Dj (fun hc=> ?_) (fun hc=> ?_)
  ·refine da.then (tU (by assumption) (by omega)) ?_
   rintro ⟨z,TQ⟩ ⟨TR,OO,Kd⟩;dsimp only at TR OO Kd⊢;have Ww:=OO (by omega)
   rw [Ae (by omega)]
   exact .ret ⟨(by first|omega|(dsimp only;omega)),Kd.mono (by omega)⟩
  ·exact .ret ⟨(by first|omega|(dsimp only;omega)),Ld.mono (by omega)⟩
 ·rintro ⟨n,co,a,MO⟩ ⟨hn,er⟩;dsimp only at hn er⊢;refine da.then (tU (by assumption) (by omega)) ?_
  rintro ⟨t,Wx⟩ ⟨TS,TT,OP⟩;dsimp only at TS TT OP⊢;refine da.then (P:=fun r=>r.1.length≤21∧Ec ⟨r.2.1,r.2.2.1,r.2.2.2⟩ (b+300)) (da.fq (fun s=>s.2.1.toNat) (fun s=>((0≤s.2.1∧s.2.1≤21)∧s.1.length+s.2.1.toNat≤21)∧Ec ⟨s.2.2.2.1,s.2.2.2.2.1,s.2.2.2.2.2⟩ (b+20+10*(21-s.2.1))) ?_ ⟨⟨(by first|omega|(dsimp only;omega)),by simp only [List.length_nil];omega⟩,OP.mono (by first|omega|(dsimp only;omega))⟩) ?_
  ·rintro ⟨l,n,w,co,a,MO⟩ ⟨⟨h1,h2⟩,er⟩;dsimp only at h1 h2 er⊢;unfold Ln;dsimp only;refine da.Dj (fun hc=> ?_) (fun hc=> ?_)
   ·simp only [decide_eq_true_eq] at hc;refine da.then (tU (by assumption) (by omega)) ?_
    rintro ⟨u,OK⟩ ⟨MJ,MK,u_c⟩;dsimp only at MJ MK u_c⊢;rw [Dh (by simp<;>omega) (by omega),Option.bind_some,Ae (x:=n-1) (by omega)]
    refine da.then (tU (by assumption) (by omega)) ?_
    rintro ⟨v,OL⟩ ⟨ML,MN,Hk⟩;dsimp only at ML MN Hk⊢;exact .ret ⟨⟨⟨(by first|omega|(dsimp only;omega)),by simp only [List.length_append,List.length_singleton];omega⟩,Hk.mono (by first|omega|(dsimp only;omega))⟩,(by first|omega|(dsimp only;omega))⟩
   ·simp only [decide_eq_false_iff_not,Int.not_lt] at hc;exact .ret ⟨(by first|omega|(dsimp only;omega)),er.mono (by first|omega|(dsimp only;omega))⟩
  ·rintro ⟨l,co,a,MO⟩ ⟨h1,er⟩;dsimp only at h1 er⊢;refine da.then (P:=fun r=>(r.1=true→0<l.length)∧Ec ⟨r.2.1,r.2.2.1,r.2.2.2⟩ (b+400)) ?_ ?_
   ·refine da.Dj (fun hc=> ?_) (fun hc=> ?_)
    ·simp only [decide_eq_true_eq] at hc;refine da.then (MF (by assumption) (by omega)) ?_
     rintro ⟨z,TQ⟩ Kd;dsimp only at Kd⊢;exact .ret ⟨fun _=>by omega,Kd.mono (by omega)⟩
    ·exact .ret ⟨fun h=>by simp at h,er.mono (by omega)⟩
   ·rintro ⟨q,co,a,MO⟩ ⟨hq,er⟩;dsimp only at hq er⊢;refine da.then (P:=fun r=>r.length≤21) ?_ (fun r hr=> .ret ⟨hr,er.mono (by omega)⟩)
    refine da.Dj (fun hc=> ?_) (fun hc=> ?_)
    ·have hq:=hq hc;rw [Dk (by omega) (by omega),Option.bind_some,Option.bind_some]
     exact .ret (by simp only [List.length_set];omega)
    ·exact .ret h1
def DQ:List Span→Prop
 |[]=>True
 |x::l=>x.Dz<x.To∧(∀y∈l,x.To<y.Dz)∧DQ l
def hs (l:List Span) (n:Int):Prop:= ∃x∈l,x.Dz≤n∧n<x.To
theorem FU (n:Int): ¬hs [] n:=fun ⟨_,h,_⟩=>by simp at h
theorem D2 {x:Span} {l:List Span} {n:Int}:hs (x::l) n↔(x.Dz≤n∧n<x.To)∨hs l n:=by
 constructor
 ·rintro ⟨y,hy,h⟩;rcases List.mem_cons.1 hy with rfl|hy
  ·exact .inl h
  ·exact .inr ⟨y,hy,h⟩
 ·rintro (h|⟨y,hy,h⟩)
  ·exact ⟨x,by simp,h⟩
  ·exact ⟨y,by simp [hy],h⟩
theorem IS {a b:List Span} {n:Int}:hs (a ++ b) n↔hs a n∨hs b n:=by
 constructor
 ·rintro ⟨y,hy,h⟩;rcases List.mem_append.1 hy with hy|hy
  ·exact .inl ⟨y,hy,h⟩
  ·exact .inr ⟨y,hy,h⟩
 ·rintro (⟨y,hy,h⟩|⟨y,hy,h⟩)
  ·exact ⟨y,by simp [hy],h⟩
  ·exact ⟨y,by simp [hy],h⟩
theorem OQ {a b:List Span} (h:a.Perm b) {n:Int}:hs a n↔hs b n:=
 ⟨fun ⟨y,hy,k⟩=>⟨y,h.mem_iff.1 hy,k⟩,fun ⟨y,hy,k⟩=>⟨y,h.mem_iff.2 hy,k⟩⟩
theorem Fk {l:List Span} {n:Int}:l.any (DS n)=true↔hs l n:=by
 simp only [List.any_eq_true,DS,Bool.and_eq_true,decide_eq_true_eq,hs]
theorem DQ.ne: ∀{l:List Span},DQ l→ ∀x∈l,x.Dz<x.To
 |y::l,h,x,hx=>by
  rcases List.mem_cons.1 hx with rfl|hx
  ·exact h.1
  ·exact DQ.ne h.2.2 x hx
theorem DQ.HY: ∀{l:List Span},DQ l→l.Pairwise fun x y=>x.To<y.Dz
 |[],_=>List.Pairwise.nil
 |_::_,h=>List.Pairwise.cons h.2.1 (DQ.HY h.2.2)
theorem DQ.of: ∀{l:List Span},(∀x∈l,x.Dz<x.To)→(l.Pairwise fun x y=>x.To<y.Dz)→DQ l
 |[],_,_=>trivial
 |x::l,h,p=>⟨h x (by simp),(List.pairwise_cons.1 p).1,DQ.of (fun y hy=>h y (by simp [hy])) (List.pairwise_cons.1 p).2⟩
theorem Ej.cn {l:List Span} (h:Ej l):DQ l:=DQ.of (fun x hx=>(h.sp x hx).2.1) h.Tw
theorem Gz {x:Span} {l:List Span} (h: ∀y∈l,x.To<y.Dz) {n:Int} (hn:hs l n):x.To<n:=by
 obtain ⟨y,hy,h1,h2⟩:=hn;have:=h y hy;omega
theorem DQ.gw: ∀{l m:List Span},DQ l→DQ m→(∀n,hs l n↔hs m n)→l=m
 |[],[],_,_,_=>rfl
 |[],y::m,_,h,e=>absurd ((e y.Dz).2 (D2.2 (.inl ⟨Int.le_refl _,h.1⟩))) (FU _)
 |x::l,[],h,_,e=>absurd ((e x.Dz).1 (D2.2 (.inl ⟨Int.le_refl _,h.1⟩))) (FU _)
 |x::l,y::m,⟨h1,h2,h3⟩,⟨k1,k2,k3⟩,e=>by
  have a1:=D2.1 ((e x.Dz).1 (D2.2 (.inl ⟨Int.le_refl _,h1⟩)));have a2:=D2.1 ((e y.Dz).2 (D2.2 (.inl ⟨Int.le_refl _,k1⟩)));have Le:x.Dz=y.Dz:=by
   rcases a1 with a1|a1
   ·rcases a2 with a2|a2
    ·omega
    ·have:=Gz h2 a2;omega
   ·have:=Gz k2 a1;rcases a2 with a2|a2
    ·omega
    ·have:=Gz h2 a2;omega
  have Lf:x.To=y.To:=by
   have b1: ¬x.To<y.To:=fun h=>by
    rcases D2.1 ((e x.To).2 (D2.2 (.inl ⟨by omega,h⟩))) with b|b
    ·omega
    ·have:=Gz h2 b;omega
   have b2: ¬y.To<x.To:=fun h=>by
    rcases D2.1 ((e y.To).1 (D2.2 (.inl ⟨by omega,h⟩))) with b|b
    ·omega
    ·have:=Gz k2 b;omega
   omega
  have TU:x=y:=by cases x;cases y;simp only at Le Lf;rw [Le,Lf]
  subst TU;congr 1;refine DQ.gw h3 k3 fun n=>⟨fun hn=> ?_,fun hn=> ?_⟩
  ·have:=Gz h2 hn;rcases D2.1 ((e n).1 (D2.2 (.inr hn))) with b|b
   ·omega
   ·exact b
  ·have:=Gz k2 hn;rcases D2.1 ((e n).2 (D2.2 (.inr hn))) with b|b
   ·omega
   ·exact b
theorem TW (x:Span):Gy [] x=[x]:=rfl
theorem TX (i:List Span) (z x:Span):Gy (i ++ [z]) x=if x.Dz≤z.To then i ++ [⟨z.Dz,if x.To>z.To then x.To else z.To⟩] else i ++ [z] ++ [x]:=by
 unfold Gy;simp only [List.getLast?_concat];by_cases h:x.Dz≤z.To
 ·rw [if_pos h,if_pos h,show (i ++ [z]).length-1=i.length by simp,List.set_append_right _ _ (by omega)]
  simp
 ·rw [if_neg h,if_neg h]
theorem MP: ∀(r i:List Span) (z:Span),(∀x∈r,x.Dz<x.To)→(r.Pairwise fun x y=>x.Dz≤y.Dz)→(∀x∈r,z.Dz≤x.Dz)→DQ (i ++ [z])→DQ (r.foldl Gy (i ++ [z]))∧ ∀n,hs (r.foldl Gy (i ++ [z])) n↔hs (i ++ [z]) n∨hs r n
 |[],i,z,_,_,_,hc=>⟨hc,fun n=>⟨.inl,fun h=>h.resolve_right (FU n)⟩⟩
 |x::r,i,z,h1,h2,h3,hc=>by
  have hx:=h1 x (by simp)
  have hz:=h3 x (by simp)
  have hp:=List.pairwise_cons.1 h2;have MQ:=List.pairwise_append.1 hc.HY;have Wy:=hc.ne z (by simp)
  rw [List.foldl_cons,TX];by_cases h:x.Dz≤z.To
  ·rw [if_pos h];have hm:z.To≤(if x.To>z.To then x.To else z.To)∧x.To≤(if x.To>z.To then x.To else z.To)∧((if x.To>z.To then x.To else z.To)=x.To∨(if x.To>z.To then x.To else z.To)=z.To):=by split<;>omega
   generalize (if x.To>z.To then x.To else z.To)=t at hm⊢;obtain ⟨c1,c2⟩:=MP r i ⟨z.Dz,t⟩ (fun y hy=>h1 y (by simp [hy])) hp.2 (fun y hy=>h3 y (by simp [hy])) (DQ.of (fun y hy=>by
    rcases List.mem_append.1 hy with hy|hy
    ·exact hc.ne y (by simp [hy])
    ·obtain rfl:=List.mem_singleton.1 hy;show z.Dz<t;omega) (List.pairwise_append.2 ⟨MQ.1,List.pairwise_singleton _ _,fun y hy w hw=>by
      obtain rfl:=List.mem_singleton.1 hw;exact MQ.2.2 y hy z (by simp)⟩))
   refine ⟨c1,fun n=> ?_⟩;rw [c2,IS,IS,D2,D2,D2];constructor
   ·rintro ((k|k)|k)
    ·exact .inl (.inl k)
    ·rcases k with k|k
     ·dsimp only at k;by_cases TY:n<z.To
      ·exact .inl (.inr (.inl ⟨k.1,TY⟩))
      ·exact .inr (.inl ⟨by omega,by omega⟩)
     ·exact absurd k (FU n)
    ·exact .inr (.inr k)
   ·rintro ((k|k|k)|k|k)
    ·exact .inl (.inl k)
    ·exact .inl (.inr (.inl ⟨k.1,by dsimp only;omega⟩))
    ·exact absurd k (FU n)
    ·exact .inl (.inr (.inl ⟨by dsimp only;omega,by dsimp only;omega⟩))
    ·exact .inr k
  ·rw [if_neg h];obtain ⟨c1,c2⟩:=MP r (i ++ [z]) x (fun y hy=>h1 y (by simp [hy])) hp.2 (fun y hy=>hp.1 y hy) (DQ.of (fun y hy=>by
    rcases List.mem_append.1 hy with hy|hy
    ·exact hc.ne y hy
    ·obtain rfl:=List.mem_singleton.1 hy;exact hx) (List.pairwise_append.2 ⟨hc.HY,List.pairwise_singleton _ _,fun y hy w hw=>by
      obtain rfl:=List.mem_singleton.1 hw;rcases List.mem_append.1 hy with hy|hy
      ·have:=MQ.2.2 y hy z (by simp)
       omega
      ·obtain rfl:=List.mem_singleton.1 hy;omega⟩))
   refine ⟨c1,fun n=> ?_⟩;rw [c2,IS,D2,D2];constructor
   ·rintro ((k|k|k)|k)
    ·exact .inl k
    ·exact .inr (.inl k)
    ·exact absurd k (FU n)
    ·exact .inr (.inr k)
   ·rintro (k|k|k)
    ·exact .inl (.inl k)
    ·exact .inl (.inr (.inl k))
    ·exact .inr k
theorem MR {l:List Span} (hl:l.length≤100000) (hb: ∀x∈l,0≤x.Dz∧x.Dz<x.To∧x.To≤1000000): ∃j,Gh l=some j∧DQ j∧ ∀n,hs j n↔hs l n:=by
 obtain ⟨r,h1,h2,h3⟩:=TE hl fun x hx=>by have:=hb x hx;omega
 refine ⟨_,h3,?_⟩;have hr: ∀x∈r,x.Dz<x.To:=fun x hx=>(hb x (h1.mem_iff.1 hx)).2.1;cases r with
 |nil=>exact ⟨trivial,fun n=>OQ h1⟩
 |cons x r=>
  obtain ⟨c1,c2⟩:=MP r [] x (fun y hy=>hr y (by simp [hy])) (List.pairwise_cons.1 h2).2 (List.pairwise_cons.1 h2).1 ⟨hr x (by simp),fun y hy=>by simp at hy,trivial⟩
  rw [List.foldl_cons,TW];refine ⟨c1,fun n=> ?_⟩;rw [show [x]=[] ++ [x] from rfl,c2,←OQ h1,D2,List.nil_append,D2];exact ⟨fun h=>by
   rcases h with (h|h)|h
   ·exact .inl h
   ·exact absurd h (FU n)
   ·exact .inr h,fun h=>by
   rcases h with h|h
   ·exact .inl (.inl h)
   ·exact .inr h⟩
theorem DQ.OR {l:List Span} (h:DQ l) (hn: ∀n,hs l n→0≤n∧n<1000000): ∀x∈l,0≤x.Dz∧x.Dz<x.To∧x.To≤1000000:=fun x hx=>by
 have h1:=h.ne x hx;have h2:=hn x.Dz ⟨x,hx,Int.le_refl _,h1⟩;have h3:=hn (x.To-1) ⟨x,hx,by omega,by omega⟩
 omega
theorem DQ.Lg {l:List Span} (h:DQ l) (hn: ∀n,hs l n→0≤n∧n<1000000) (hl:l.length≤20):Ej l:=⟨hl,h.OR hn,h.HY⟩
theorem Ej.bW {l:List Span} (h:Ej l) {n:Int} (hn:hs l n):0≤n∧n<1000000:=by
 obtain ⟨x,hx,h1,h2⟩:=hn;have:=h.sp x hx;omega
theorem OS (a b:Int):If a b=some (if a<b then a else b):=by
 unfold If;by_cases h:a<b
 ·rw [AR h,if_pos h];rfl
 ·rw [Dm h,if_neg h];rfl
theorem OT (a b:Int):Ig a b=some (if b<a then a else b):=by
 unfold Ig;by_cases h:b<a
 ·rw [AR h,if_pos h];rfl
 ·rw [Dm h,if_neg h];rfl
def mix (x y:Span):Span:=⟨if x.Dz<y.Dz then x.Dz else y.Dz,if y.To<x.To then x.To else y.To⟩
def FL:List Span→Span→List Span
 |[],x=>[x]
 |y::l,x=>if y.Dz≤x.To then FL l (mix x y) else x::y::l
def Fl (x y:Span):Bool:=decide (y.To<x.Dz)
def Em (l:List Span) (x:Span):List Span:=l.takeWhile (Fl x) ++ FL (l.drop (l.takeWhile (Fl x)).length) x
theorem drop_cons {α :Type} {l:List α} {k:Nat} {y: α} {suf:List α} (h:l.drop k=y::suf):l.drop (k+1)=suf∧l[k]? =some y:=by
 constructor
 ·rw [←List.drop_drop,h];rfl
 ·have:=List.getElem?_drop (xs:=l) (i:=k) (j:=0);rw [h] at this;simpa using this.symm
theorem OU (x:Span) (n:Nat): ∀(suf:List Span) (k:Nat) (s:List Span),k+suf.length=n→fu (fun k y (s:List Span)=>if Fl x y then LR.next (s ++ [y]) else LR.done (s,(k:Int))) (fun s=>(s,(n:Int))) k suf s=(s ++ suf.takeWhile (Fl x),((k+(suf.takeWhile (Fl x)).length:Nat):Int))
 |[],k,s,h=>by simp only [List.length_nil] at h;simp [fu,←h]
 |y::suf,k,s,h=>by
  simp only [List.length_cons] at h;simp only [fu];cases hb:Fl x y
  ·simp [hb]
  ·simp only [if_true];rw [OU x n suf (k+1) _ (by omega)]
   simp [hb];omega
theorem OV (l:List Span): ∀(suf:List Span) (k:Nat) (x:Span),l.drop k=suf→k≤l.length→ ∃(k' :Nat) (z:Span),fu (fun k y (s:Span)=>if y.Dz≤s.To then LR.next (mix s y) else LR.done ((k:Int),s.Dz,s.To)) (fun s=>((l.length:Int),s.Dz,s.To)) k suf x=((k' :Int),z.Dz,z.To)∧k' ≤l.length∧FL suf x=z::l.drop k'
 |[],k,x,_,_=>⟨l.length,x,rfl,Nat.le_refl _,by simp [FL]⟩
 |y::suf,k,x,h,hk=>by
  obtain ⟨h1,h2⟩:=drop_cons h;have bE:k<l.length:=(List.getElem?_eq_some_iff.1 h2).1
  simp only [fu,FL];by_cases hc:y.Dz≤x.To
  ·rw [if_pos hc,if_pos hc];exact OV l suf (k+1) (mix x y) h1 (by omega)
  ·rw [if_neg hc,if_neg hc];exact ⟨k,x,rfl,hk,by rw [h]⟩
theorem TZ {α :Type} (p: α →Bool) (l:List α):(l.takeWhile p).length≤l.length:=by
 induction l with
 |nil=>simp
 |cons x xs ih=>simp only [List.takeWhile_cons];split<;>simp<;>omega
theorem OW {l:List Span} (hl:l.length≤1048576) (x:Span):Ih l x=some (Em l x):=by
 unfold Ih;have e0:=AP l (Jd l x) (fun k (s:List Span)=>(s,k)) (fun k y (s:List Span)=>if Fl x y then LR.next (s ++ [y]) else LR.done (s,(k:Int))) (fun s=>(s,(l.length:Int))) (fun k s=>s.length≤k) (fun k hk s hs=>by
  refine ⟨?_,fun s' e=>by
   split at e
   ·obtain rfl:=LR.next.inj e;simp;omega
   ·cases e⟩
  simp only [Jd];rw [AR (by omega),wF hk,Ae (x:=(k:Int)+1) (by omega)]
  simp only [cond_true,Option.bind_some];unfold Fl;by_cases h:l[k].To<x.Dz
  ·simp only [decide_eq_true h,cond_true,if_true];rw [Dh (by simp<;>omega) (by omega)];rfl
  ·simp only [decide_eq_false h,cond_false];rfl) (fun s _=>by simp [Jd]) [] (by simp)
 rw [OU x l.length l 0 [] (by omega)] at e0
 rw [e0,Option.bind_some];dsimp only;have hw:=TZ (Fl x) l;rw [Nat.zero_add,List.nil_append];obtain ⟨k',z,e1,bE,e2⟩:=OV l (l.drop (l.takeWhile (Fl x)).length) (l.takeWhile (Fl x)).length x rfl hw;have e3:=AO l (Jf l) (fun k (s:Span)=>(k,s.Dz,s.To)) (fun k y (s:Span)=>if y.Dz≤s.To then LR.next (mix s y) else LR.done ((k:Int),s.Dz,s.To)) (fun s=>((l.length:Int),s.Dz,s.To)) (fun _ _=>True) (fun k hk s _=>by
  refine ⟨?_,fun _ _=>trivial⟩;simp only [Jf];rw [AR (by omega),wF hk,Ae (x:=(k:Int)+1) (by omega)]
  simp only [cond_true,Option.bind_some,OS,OT];by_cases h:l[k].Dz≤s.To
  ·simp only [decide_eq_true h,cond_true,if_pos h];rfl
  ·simp only [decide_eq_false h,cond_false,if_neg h];rfl) (fun s _=>by simp [Jf]) (l.length-(l.takeWhile (Fl x)).length) (l.takeWhile (Fl x)).length (by omega) x trivial
 rw [e1] at e3;rw [e3,Option.bind_some];dsimp only;rw [Dh (by simp<;>omega) (by omega),Option.bind_some,Dl (by omega) (by omega) (by omega),Option.bind_some]
 have e4:List.take ((l.length:Int).toNat-(k' :Int).toNat) (List.drop (k' :Int).toNat l)=l.drop k' :=by
  rw [Int.toNat_natCast,Int.toNat_natCast,List.take_of_length_le (by simp)]
 rw [e4,Dh (by simp<;>omega) (by omega),Option.bind_some]
 unfold Em;rw [e2];simp
theorem MS: ∀(l:List Span) (x:Span),DQ l→x.Dz<x.To→(∀y∈l,x.Dz≤y.To)→DQ (FL l x)∧(∀n,hs (FL l x) n↔(x.Dz≤n∧n<x.To)∨hs l n)∧(∀c,c<x.Dz→(∀y∈l,c<y.Dz)→ ∀w∈FL l x,c<w.Dz)∧(FL l x).length≤l.length+1
 |[],x,_,hx,_=>⟨⟨hx,fun y hy=>by simp at hy,trivial⟩,fun n=>by simp only [FL];exact D2,fun c hc _ w hw=>by obtain rfl:=List.mem_singleton.1 hw;exact hc,by simp [FL]⟩
 |y::l,x,⟨h1,h2,h3⟩,hx,hy=>by
  have xH:=hy y (by simp)
  simp only [FL];by_cases h:y.Dz≤x.To
  ·rw [if_pos h];have m1:(mix x y).Dz≤x.Dz∧(mix x y).Dz≤y.Dz∧((mix x y).Dz=x.Dz∨(mix x y).Dz=y.Dz):=by simp only [mix];split<;>omega
   have m2:x.To≤(mix x y).To∧y.To≤(mix x y).To∧((mix x y).To=x.To∨(mix x y).To=y.To):=by simp only [mix];split<;>omega
   obtain ⟨c1,c2,c3,c4⟩:=MS l (mix x y) h3 (by omega) (fun w hw=>by
    have a1:=h2 w hw;have a2:=h3.ne w hw;omega)
   refine ⟨c1,fun n=> ?_,fun c hc hl w hw=>c3 c (by have:=hl y (by simp);omega) (fun v hv=>hl v (by simp [hv])) w hw,by simp only [List.length_cons];omega⟩
   rw [c2,D2];constructor
   ·rintro (k|k)
    ·by_cases k1:x.Dz≤n∧n<x.To
     ·exact .inl k1
     ·exact .inr (.inl (by omega))
    ·exact .inr (.inr k)
   ·rintro (k|k|k)
    ·exact .inl (by omega)
    ·exact .inl (by omega)
    ·exact .inr k
  ·rw [if_neg h];refine ⟨⟨hx,fun w hw=> ?_,h1,h2,h3⟩,fun n=>D2,fun c hc hl w hw=> ?_,by simp⟩
   ·rcases List.mem_cons.1 hw with rfl|hw
    ·omega
    ·have:=h2 w hw;omega
   ·rcases List.mem_cons.1 hw with rfl|hw
    ·exact hc
    ·exact hl w hw
theorem Ke: ∀(l:List Span) (x:Span),DQ l→x.Dz<x.To→DQ (Em l x)∧(∀n,hs (Em l x) n↔(x.Dz≤n∧n<x.To)∨hs l n)∧(∀c,c<x.Dz→(∀y∈l,c<y.Dz)→ ∀w∈Em l x,c<w.Dz)∧(Em l x).length≤l.length+1
 |[],x,h,hx=>MS [] x h hx (fun y hy=>by simp at hy)
 |y::l,x,⟨h1,h2,h3⟩,hx=>by
  by_cases hb:y.To<x.Dz
  ·have e:Em (y::l) x=y::Em l x:=by simp [Em,Fl,hb]
   obtain ⟨c1,c2,c3,c4⟩:=Ke l x h3 hx;rw [e];refine ⟨⟨h1,c3 _ hb h2,c1⟩,fun n=> ?_,fun c hc hl w hw=> ?_,by simp only [List.length_cons];omega⟩
   ·rw [D2,c2,D2];constructor
    ·rintro (k|k|k)
     ·exact .inr (.inl k)
     ·exact .inl k
     ·exact .inr (.inr k)
    ·rintro (k|k|k)
     ·exact .inr (.inl k)
     ·exact .inl k
     ·exact .inr (.inr k)
   ·rcases List.mem_cons.1 hw with rfl|hw
    ·exact hl w (by simp)
    ·exact c3 c hc (fun v hv=>hl v (by simp [hv])) w hw
  ·have e:Em (y::l) x=FL (y::l) x:=by simp [Em,Fl,hb]
   rw [e];exact MS (y::l) x ⟨h1,h2,h3⟩ hx fun w hw=>by
    rcases List.mem_cons.1 hw with rfl|hw
    ·omega
    ·have:=h2 w hw;have:=h3.ne w hw;omega
theorem fold_add: ∀(b a:List Span),DQ a→(∀x∈b,x.Dz<x.To)→DQ (b.foldl Em a)∧(∀n,hs (b.foldl Em a) n↔hs a n∨hs b n)
 |[],a,h,_=>⟨h,fun n=>⟨.inl,fun k=>k.resolve_right (FU n)⟩⟩
 |x::b,a,h,hb=>by
  obtain ⟨c1,c2,_,_⟩:=Ke a x h (hb x (by simp))
  obtain ⟨d1,d2⟩:=fold_add b (Em a x) c1 fun y hy=>hb y (by simp [hy])
  refine ⟨d1,fun n=> ?_⟩;rw [List.foldl_cons,d2,c2,D2];constructor
  ·rintro ((k|k)|k)
   ·exact .inr (.inl k)
   ·exact .inl k
   ·exact .inr (.inr k)
  ·rintro (k|k|k)
   ·exact .inl (.inr k)
   ·exact .inl (.inl k)
   ·exact .inr k
theorem T1 {a b:List Span} (ha:a.length≤100) (hb:b.length≤100) (MT:DQ a) (MU: ∀x∈b,x.Dz<x.To):Jj a b=some (b.foldl Em a):=by
 unfold Jj;rw [Dh (by simp<;>omega) (by omega),Option.bind_some,List.nil_append]
 rw [AP b (Ji b) (fun k (s:List Span)=>(s,k)) (fun _ y (s:List Span)=>LR.next (Em s y)) id (fun k s=>DQ s∧s.length≤100+k) (fun k hk s hs=>by
  have hm:=MU b[k] (List.getElem_mem hk);obtain ⟨c1,_,_,c4⟩:=Ke s b[k] hs.1 hm;refine ⟨?_,fun s' e=>by obtain rfl:=LR.next.inj e;exact ⟨c1,by omega⟩⟩
  simp only [Ji];rw [AR (by omega),wF hk,Ae (x:=(k:Int)+1) (by omega)]
  simp only [cond_true,Option.bind_some];rw [OW (by omega)];rfl) (fun s _=>by simp [Ji]) a ⟨MT,by omega⟩,Di _ (fun _ _ _=>rfl)]
 rfl
theorem IT {x y w:Span} (h:w∈EK x y):w=El x y∧w.Dz<w.To:=by
 unfold EK at h;split at h
 ·obtain rfl:=List.mem_singleton.1 h;exact ⟨rfl,by assumption⟩
 ·simp at h
theorem IU (x y:Span):(x.Dz≤(El x y).Dz∧y.Dz≤(El x y).Dz∧((El x y).Dz=x.Dz∨(El x y).Dz=y.Dz))∧(El x y).To≤x.To∧(El x y).To≤y.To∧((El x y).To=x.To∨(El x y).To=y.To):=by
 simp only [El];refine ⟨?_,?_⟩
 ·split<;>omega
 ·split<;>omega
theorem Lh {a b:List Span} (ha:DQ a) (hb:DQ b):DQ (FT a b):=by
 refine DQ.of (fun w hw=> ?_) ?_
 ·obtain ⟨x,_,hw⟩:=List.mem_flatMap.1 hw;obtain ⟨y,_,hw⟩:=List.mem_flatMap.1 hw;exact (IT hw).2
 ·unfold FT;rw [List.pairwise_flatMap];refine ⟨fun x _=> ?_,ha.HY.imp fun {x x'} hx w hw v hv=> ?_⟩
  ·rw [List.pairwise_flatMap];refine ⟨fun y _=> ?_,hb.HY.imp fun {y y'} hy w hw v hv=> ?_⟩
   ·unfold EK;split
    ·exact List.pairwise_singleton _ _
    ·exact List.Pairwise.nil
   ·obtain ⟨rfl,_⟩:=IT hw;obtain ⟨rfl,_⟩:=IT hv;have:=IU x y;have:=IU x y';omega
  ·obtain ⟨y,_,hw⟩:=List.mem_flatMap.1 hw;obtain ⟨y',_,hv⟩:=List.mem_flatMap.1 hv;obtain ⟨rfl,_⟩:=IT hw;obtain ⟨rfl,_⟩:=IT hv;have:=IU x y;have:=IU x' y'
   omega
theorem Kf {a b:List Span} {n:Int}:hs (FT a b) n↔hs a n∧hs b n:=by
 constructor
 ·rintro ⟨w,hw,h1,h2⟩;obtain ⟨x,hx,hw⟩:=List.mem_flatMap.1 hw;obtain ⟨y,hy,hw⟩:=List.mem_flatMap.1 hw;obtain ⟨rfl,_⟩:=IT hw;have:=IU x y;exact ⟨⟨x,hx,by omega,by omega⟩,⟨y,hy,by omega,by omega⟩⟩
 ·rintro ⟨⟨x,hx,h1,h2⟩,⟨y,hy,h3,h4⟩⟩;have hb:=IU x y;refine ⟨El x y,List.mem_flatMap.2 ⟨x,hx,List.mem_flatMap.2 ⟨y,hy,?_⟩⟩,by omega,by omega⟩
  unfold EK;rw [if_pos (by omega)]
  simp
theorem T2 {b:List Span} (x:Span) (hb:b.length≤1000) {s0:List Span} (hs:s0.length≤1000000):fq (Ij b x) (s0,0)=some (s0 ++ b.flatMap (EK x)):=by
 have:=AP b (Ij b x) (fun k (s:List Span)=>(s,k)) (fun _ y s=> .next (s ++ EK x y)) id (fun k s=>s.length≤1000000+k) (fun k hk s hs=>by
  refine ⟨?_,fun s' e=>by obtain rfl:=LR.next.inj e;have:=Kc x b[k];simp only [List.length_append];omega⟩
  simp only [Ij];rw [AR (by omega),wF hk,Ae (x:=(k:Int)+1) (by omega)]
  simp only [cond_true,Option.bind_some,OS,OT];have Le:(if b[k].Dz<x.Dz then x.Dz else b[k].Dz)=(El x b[k]).Dz:=by simp only [El];split<;>split<;>omega
  have Lf:(if x.To<b[k].To then x.To else b[k].To)=(El x b[k]).To:=by simp only [El];split<;>split<;>omega
  rw [Le,Lf];unfold EK;by_cases h:(El x b[k]).Dz<(El x b[k]).To
  ·rw [AR h,if_pos h,Dh (by simp<;>omega) (by omega)];rfl
  ·rw [Dm h,if_neg h,List.append_nil];rfl) (fun s _=>by simp [Ij]) s0 (by omega)
 rw [this,Di _ (fun _ _ _=>rfl),Lb];rfl
theorem OX {a b:List Span} (ha:a.length≤100) (hb:b.length≤100):Ik a b=some (FT a b):=by
 unfold Ik;rw [AP a (Jp a b) (fun k (s:List Span)=>(s,k)) (fun _ x s=> .next (s ++ b.flatMap (EK x))) id (fun k s=>s.length≤100*k) (fun k hk s hs=>by
  refine ⟨?_,fun s' e=>by
   obtain rfl:=LR.next.inj e
   have:=Lc (EK a[k]) 1 b fun y _=>Kc a[k] y;simp only [List.length_append];omega⟩
  simp only [Jp];rw [AR (by omega),wF hk,Ae (x:=(k:Int)+1) (by omega)]
  simp only [cond_true,Option.bind_some];rw [T2 _ (by omega) (by omega)]
  rfl) (fun s _=>by simp [Jp]) [] (by simp),Di _ (fun _ _ _=>rfl),Lb]
 rfl
theorem T3 {a b:List Span} (ha:a.length≤100) (hb:b.length≤100):(FT a b).length≤10000:=by
 have:=Lc (fun x=>b.flatMap (EK x)) 100 a fun x _=>by
  have:=Lc (EK x) 1 b fun y _=>Kc x y;omega
 unfold FT;omega
theorem OY {a b:List Span} (ha:a.length≤100) (hb:b.length≤100) (MT:DQ a) (MU:DQ b) (T4: ∀n,hs a n→0≤n∧n<1000000):Hv a b=some (FT a b):=by
 have hc:=Lh MT MU;obtain ⟨j,e,j1,j2⟩:=MR (l:=FT a b) (by have:=T3 ha hb;omega) (hc.OR fun n hn=>T4 n (Kf.1 hn).1)
 rw [TG ha hb,e,DQ.gw j1 hc j2]
def Ee (a b:Int):List Span:=if a<b then [⟨a,b⟩] else []
theorem Kg {a b:Int} {w:Span} (h:w∈Ee a b):w=⟨a,b⟩∧a<b:=by
 unfold Ee at h;split at h
 ·exact ⟨List.mem_singleton.1 h,by assumption⟩
 ·simp at h
theorem MV {a b n:Int}:hs (Ee a b) n↔a≤n∧n<b:=by
 unfold Ee;split
 ·rw [D2];exact ⟨fun h=>h.resolve_right (FU n),.inl⟩
 ·exact ⟨fun h=>absurd h (FU n),fun h=>by omega⟩
theorem IV (a b:Int):(Ee a b).length≤1:=by unfold Ee;split<;>simp
theorem T5 {a b:Int} (h:b≤a):Ee a b=[]:=by unfold Ee;rw [if_neg (by omega)]
def Fb:List Span→Int→Int→List Span
 |[],u,a=>Ee a u
 |x::l,u,a=>if u≤x.Dz then Ee a u else Ee a x.Dz ++ Fb l u x.To
theorem Kh: ∀(l:List Span) (u a:Int),DQ l→(∀y∈l,a≤y.Dz)→DQ (Fb l u a)∧(∀n,hs (Fb l u a) n↔(a≤n∧n<u)∧ ¬hs l n)∧(∀w∈Fb l u a,a≤w.Dz)∧(Fb l u a).length≤l.length+1
 |[],u,a,_,_=>by
  simp only [Fb];refine ⟨?_,fun n=> ?_,fun w hw=> ?_,by have:=IV a u;simp;omega⟩
  ·unfold Ee;split
   ·exact ⟨by assumption,fun y hy=>by simp at hy,trivial⟩
   ·trivial
  ·rw [MV];exact ⟨fun h=>⟨h,FU n⟩,fun h=>h.1⟩
  ·obtain ⟨rfl,_⟩:=Kg hw;exact Int.le_refl _
 |x::l,u,a,⟨h1,h2,h3⟩,ha=>by
  have Wz:=ha x (by simp)
  simp only [Fb];by_cases h:u≤x.Dz
  ·rw [if_pos h];refine ⟨?_,fun n=> ?_,fun w hw=> ?_,by have:=IV a u;simp;omega⟩
   ·unfold Ee;split
    ·exact ⟨by assumption,fun y hy=>by simp at hy,trivial⟩
    ·trivial
   ·rw [MV,D2];refine ⟨fun k=>⟨k,fun q=> ?_⟩,fun k=>k.1⟩;rcases q with q|q
    ·omega
    ·have:=Gz h2 q;omega
   ·obtain ⟨rfl,_⟩:=Kg hw;exact Int.le_refl _
  ·rw [if_neg h];obtain ⟨c1,c2,c3,c4⟩:=Kh l u x.To h3 fun y hy=>by have:=h2 y hy;omega
   refine ⟨?_,fun n=> ?_,fun w hw=> ?_,by have:=IV a x.Dz;simp only [List.length_append,List.length_cons];omega⟩
   ·refine DQ.of (fun w hw=> ?_) (List.pairwise_append.2 ⟨?_,c1.HY,fun w hw v hv=> ?_⟩)
    ·rcases List.mem_append.1 hw with hw|hw
     ·obtain ⟨rfl,k⟩:=Kg hw;exact k
     ·exact c1.ne w hw
    ·unfold Ee;split
     ·exact List.pairwise_singleton _ _
     ·exact List.Pairwise.nil
    ·obtain ⟨rfl,k⟩:=Kg hw;have:=c3 v hv;dsimp only;omega
   ·rw [IS,MV,c2,D2];constructor
    ·rintro (k|⟨k,k'⟩)
     ·refine ⟨by omega,fun q=> ?_⟩
      rcases q with q|q
      ·omega
      ·have:=Gz h2 q;omega
     ·refine ⟨by omega,fun q=> ?_⟩
      rcases q with q|q
      ·omega
      ·exact k' q
    ·rintro ⟨k,k'⟩;by_cases hn:n<x.Dz
     ·exact .inl ⟨k.1,hn⟩
     ·refine .inr ⟨⟨?_,k.2⟩,fun q=>k' (.inr q)⟩
      have: ¬(x.Dz≤n∧n<x.To):=fun q=>k' (.inl q)
      omega
   ·rcases List.mem_append.1 hw with hw|hw
    ·obtain ⟨rfl,_⟩:=Kg hw;exact Int.le_refl _
    ·have:=c3 w hw;omega
theorem OZ (u:Int): ∀(suf:List Span) (k:Nat) (s:List Span) (a:Int),(fu (fun _ y (s:List Span×Int)=>if u≤y.Dz then LR.done s else LR.next (s.1 ++ Ee s.2 y.Dz,y.To)) id k suf (s,a)).1 ++ Ee (fu (fun _ y (s:List Span×Int)=>if u≤y.Dz then LR.done s else LR.next (s.1 ++ Ee s.2 y.Dz,y.To)) id k suf (s,a)).2 u=s ++ Fb suf u a
 |[],_,s,a=>rfl
 |y::suf,k,s,a=>by
  simp only [fu,Fb];by_cases h:u≤y.Dz
  ·rw [if_pos h,if_pos h]
  ·rw [if_neg h,if_neg h];dsimp only;rw [OZ u suf (k+1),List.append_assoc]
theorem O0 (u:Int): ∀(suf:List Span) (k:Nat) (s:List Span) (a:Int),(fu (fun _ y (s:List Span×Int)=>if u≤y.Dz then LR.done s else LR.next (s.1 ++ Ee s.2 y.Dz,y.To)) id k suf (s,a)).1.length≤s.length+suf.length
 |[],_,s,a=>by simp [fu]
 |y::suf,k,s,a=>by
  simp only [fu];by_cases h:u≤y.Dz
  ·rw [if_pos h];simp
  ·rw [if_neg h];dsimp only;have:=O0 u suf (k+1) (s ++ Ee a y.Dz) y.To;have:=IV a y.Dz;simp only [List.length_append,List.length_cons] at*;omega
theorem MW {s:List Span} (hs:s.length≤1000000) (a b:Int):(bif decide (a<b) then (app 16 s ([(⟨a,b⟩:Span)]:List Span)).bind fun x=>some x else some s)=some (s ++ Ee a b):=by
 unfold Ee;by_cases h:a<b
 ·rw [AR h,if_pos h,cond_true,Dh (by simp<;>omega) (by omega)];rfl
 ·rw [Dm h,if_neg h,cond_false,List.append_nil]
theorem O1 {l:List Span} (hl:l.length≤1000) (u:Int):Io l u=some (Fb l u 0):=by
 unfold Io;rw [AP l (JC l u) (fun k (s:List Span×Int)=>(s.1,s.2,k)) (fun _ y (s:List Span×Int)=>if u≤y.Dz then LR.done s else LR.next (s.1 ++ Ee s.2 y.Dz,y.To)) id (fun k s=>s.1.length≤k) (fun k hk s hs=>by
  refine ⟨?_,fun s' e=>by
   split at e
   ·cases e
   ·obtain rfl:=LR.next.inj e
    have:=IV s.2 l[k].Dz;simp only [List.length_append];omega⟩
  simp only [JC];rw [AR (by omega),wF hk,Ae (x:=(k:Int)+1) (by omega)]
  simp only [cond_true,Option.bind_some];by_cases h:u≤l[k].Dz
  ·rw [AR h,if_pos h];rfl
  ·rw [Dm h,if_neg h,cond_false,MW (by omega)];rfl) (fun s _=>by simp [JC]) ([],0) (by simp)]
 rw [Option.bind_some];have h1:=OZ u l 0 [] 0;have h2:=O0 u l 0 [] 0;generalize fu (fun _ y (s:List Span×Int)=>if u≤y.Dz then LR.done s else LR.next (s.1 ++ Ee s.2 y.Dz,y.To)) id 0 l ([],0)=r at h1 h2⊢
 obtain ⟨s,a⟩:=r;dsimp only at h1 h2⊢;simp only [List.length_nil] at h2;rw [MW (by omega),Option.bind_some,h1]
 rfl
def FV (u:Int) (s:List Span×Int) (y:Span):List Span×Int:=(s.1 ++ Ee s.2 (if u<y.Dz then u else y.Dz),if y.To>s.2 then y.To else s.2)
theorem O2 (u:Int): ∀(l:List Span) (s:List Span) (a:Int),u≤a→(l.foldl (FV u) (s,a)).1=s
 |[],_,_,_=>rfl
 |y::l,s,a,h=>by
  have e:FV u (s,a) y=(s,if y.To>a then y.To else a):=by
   simp only [FV];rw [T5 (by split<;>omega),List.append_nil]
  rw [List.foldl_cons,e];exact O2 u l s _ (by split<;>omega)
theorem O3 (u:Int): ∀(l:List Span) (s:List Span) (a:Int),DQ l→(∀y∈l,a≤y.Dz)→((l ++ [(⟨u,u⟩:Span)]).foldl (FV u) (s,a)).1=s ++ Fb l u a
 |[],s,a,_,_=>by simp [FV,Fb]
 |y::l,s,a,⟨h1,h2,h3⟩,ha=>by
  have hy:=ha y (by simp)
  simp only [List.cons_append,List.foldl_cons,Fb];have e2:(if y.To>a then y.To else a)=y.To:=if_pos (by omega)
  by_cases h:u≤y.Dz
  ·have e:FV u (s,a) y=(s ++ Ee a u,y.To):=by
    simp only [FV,e2];congr 2;by_cases hu:u<y.Dz
    ·rw [if_pos hu]
    ·rw [if_neg hu,show y.Dz=u by omega]
   rw [if_pos h,e,O2 u _ _ _ (by omega)]
  ·have e:FV u (s,a) y=(s ++ Ee a y.Dz,y.To):=by
    simp only [FV,e2];rw [if_neg (show¬u<y.Dz by omega)]
   rw [if_neg h,e,O3 u l _ _ h3 (fun w hw=>by have:=h2 w hw;omega),List.append_assoc]
theorem T6 (u:Int) (s:List Span×Int) (y:Span):(FV u s y).1.length≤s.1.length+1:=by
 have:=IV s.2 (if u<y.Dz then u else y.Dz);simp only [FV,List.length_append];omega
theorem O4 {l:List Span} (hl:l.length≤1000) (hc:DQ l) (h0: ∀y∈l,0≤y.Dz) (u:Int):Im l u=some (Fb l u 0):=by
 unfold Im Hs;rw [Dh (by simp<;>omega) (by omega),Option.bind_some,List.nil_append,Dh (by simp<;>omega) (by omega),Option.bind_some]
 rw [AP (l ++ [(⟨u,u⟩:Span)]) (Jy u (l ++ [(⟨u,u⟩:Span)])) (fun k (s:List Span×Int)=>(s.1,s.2,k)) (fun _ y s=> .next (FV u s y)) (fun s=>s.1) (fun k s=>s.1.length≤k) (fun k hk s hs=>by
  have Bo:k<l.length+1:=by simpa using hk
  refine ⟨?_,fun s' e=>by obtain rfl:=LR.next.inj e;have:=T6 u s (l ++ [(⟨u,u⟩:Span)])[k];omega⟩
  simp only [Jy];rw [AR (by simp<;>omega),wF hk,Ae (x:=(k:Int)+1) (by omega)]
  simp only [cond_true,Option.bind_some];rw [MW (by omega)];rfl) (fun s _=>by simp [Jy]) ([],0) (by simp),Di _ (fun _ _ _=>rfl)]
 rw [O3 u l [] 0 hc h0];rfl
theorem T7 {n:Int} (h0:0≤n) (h1:n≤1000):I6 n=some []:=by
 unfold I6;rw [Dm (by omega),cond_false,Option.bind_some,show IntKind.i64.wrap (0-0)=0 from rfl,Ae (by omega)]
 by_cases h:0<n-0
 ·rw [AR h,cond_true,show n-0=((n.toNat:Nat):Int) by omega,Dg (by omega) (by omega),Option.bind_some,Dl (by omega) (by omega) (by omega)]
  rfl
 ·rw [Dm h];rfl
theorem T8 {a b:List Span} (ha:a.length≤100) (hb:b.length≤100):I9 [a,b]=some (a ++ b):=by
 unfold I9;have hm: ∀(k:Nat) (hk:k<[a,b].length),([a,b][k]).length≤100:=fun k hk=>by
  have:=List.getElem_mem hk;simp only [List.mem_cons,List.not_mem_nil,or_false] at this;rcases this with h|h<;>rw [h]<;>assumption
 rw [AP [a,b] (I7 [a,b]) (fun k (s:Int)=>(s,k)) (fun _ y s=> .next (s+(y.length:Int))) id (fun k s=>0≤s∧s≤100*k) (fun k hk s hs=>by
  have:=hm k hk;refine ⟨?_,fun s' e=>by obtain rfl:=LR.next.inj e;omega⟩
  have Bo:k<2:=hk;simp only [I7];rw [AR (by simp<;>omega),wF hk,Ae (x:=(k:Int)+1) (by omega)]
  simp only [cond_true,Option.bind_some];rw [Ae (by omega),Dm (by omega)];rfl) (fun s _=>by simp [I7]) 0 (by simp),Di _ (fun _ _ _=>rfl)]
 simp only [id,List.foldl_cons,List.foldl_nil,Option.bind_some];rw [T7 (by omega) (by omega),Option.bind_some]
 rw [AP [a,b] (I8 [a,b]) (fun k (s:List Span)=>(s,k)) (fun _ y s=> .next (s ++ y)) id (fun k s=>s.length≤100*k) (fun k hk s hs=>by
  have:=hm k hk;refine ⟨?_,fun s' e=>by obtain rfl:=LR.next.inj e;simp only [List.length_append];omega⟩
  have Bo:k<2:=hk;simp only [I8];rw [AR (by simp<;>omega),wF hk,Ae (x:=(k:Int)+1) (by omega)]
  simp only [cond_true,Option.bind_some];rw [Dh (by omega) (by omega)];rfl) (fun s _=>by simp [I8]) [] (by simp),Di _ (fun _ _ _=>rfl)]
 rfl
theorem IW {l:List Span} (hl:l.length≤1000):F0 l l=some true:=by
 unfold F0;rw [bne_self_eq_false,cond_false,AQ l (Jr l l) (fun k (_:Unit)=>k) (fun _ _ s=> .next s) (fun _=> .next ()) (fun k hk s=>by
  simp only [Jr];rw [AR (by omega),wF hk,Ae (by omega)]
  simp;rfl) (fun s=>by simp [Jr]) (),Di (fun s _=>s) (fun _ _ _=>rfl)]
 rfl
def Fx (p:Int→Bool):Nat→Nat
 |0=>0
 |N+1=>Fx p N+(p N).toNat
theorem O5 (p q:Int→Bool) (N:Nat):Fx (fun n=>p n||q n) N+Fx (fun n=>p n&&q n) N=Fx p N+Fx q N:=by
 induction N with
 |zero=>rfl
 |succ N ih=>
  simp only [Fx];cases p N<;>cases q N<;>simp only [Bool.or_false,Bool.or_true,Bool.and_false,Bool.and_true,Bool.toNat_true,Bool.toNat_false]<;>omega
theorem O6 {p:Int→Bool} (h: ∀n,p n=false) (N:Nat):Fx p N=0:=by
 induction N with
 |zero=>rfl
 |succ N ih=>simp only [Fx,ih,h];rfl
theorem T9 (x:Span) (h0:0≤x.Dz) (h1:x.Dz<x.To) (N:Nat):(Fx (fun n=>DS n x) N:Int)=if (N:Int)≤x.Dz then 0 else if (N:Int)≤x.To then N-x.Dz else x.To-x.Dz:=by
 induction N with
 |zero=>simp [Fx,h0]
 |succ N ih=>
  simp only [Fx];have e:DS (N:Int) x=decide (x.Dz≤(N:Int)∧(N:Int)<x.To):=by
   unfold DS;rw [Bool.decide_and]
  rw [e];by_cases h:x.Dz≤(N:Int)∧(N:Int)<x.To
  ·rw [AR h,Bool.toNat_true]
   push_cast
   rw [ih];repeat' split
   all_goals omega
  ·rw [Dm h,Bool.toNat_false]
   push_cast
   rw [Int.add_zero,ih];repeat' split
   all_goals omega
def Gc (l:List Span):Int:=(l.map fun x=>x.To-x.Dz).sum
theorem O7 (N:Nat): ∀(l:List Span),DQ l→(∀x∈l,0≤x.Dz∧x.To≤N)→Gc l=(Fx (fun n=>l.any (DS n)) N:Int)
 |[],_,_=>by rw [O6 (p:=fun n=>([]:List Span).any (DS n)) (fun n=>rfl)];rfl
 |x::l,⟨h1,h2,h3⟩,hb=>by
  have hx:=hb x (by simp)
  have e1:=O5 (fun n=>DS n x) (fun n=>l.any (DS n)) N;have e2:=O6 (p:=fun n=>DS n x&&l.any (DS n)) (fun n=>by
   by_cases k:hs l n
   ·have:=Gz h2 k;unfold DS;rw [Dm (show¬n<x.To by omega)]
    simp
   ·have:l.any (DS n)=false:=by
     rw [Bool.eq_false_iff];exact fun q=>k (Fk.1 q)
    simp [this]) N
  have e3:=T9 x hx.1 h1 N;have e4:=O7 N l h3 fun y hy=>hb y (by simp [hy])
  have e5:(fun n=>(x::l).any (DS n))=fun n=>DS n x||l.any (DS n):=rfl;have e6:Gc (x::l)=(x.To-x.Dz)+Gc l:=by simp [Gc]
  rw [e5,e6,e4];rw [if_neg (by omega)] at e3
  have e7:(Fx (fun n=>DS n x) N:Int)=x.To-x.Dz:=by
   rw [e3];split<;>omega
  omega
theorem O8: ∀(l:List Span) (s:Int),(∀x∈l,0≤x.Dz∧x.Dz<x.To∧x.To≤1000000)→0≤s→s+1000000*(l.length:Int)≤4000000000000000000→l.foldl (fun n x=>IntKind.i64.wrap (n+IntKind.i64.wrap (x.To-x.Dz))) s=s+Gc l∧0≤Gc l∧Gc l≤1000000*(l.length:Int)
 |[],s,_,_,_=>by simp [Gc]
 |x::l,s,h,h0,h1=>by
  have hx:=h x (by simp)
  simp only [List.length_cons] at h1
  push_cast at h1
  have e6:Gc (x::l)=(x.To-x.Dz)+Gc l:=by simp [Gc]
  obtain ⟨a1,a2,a3⟩:=O8 l (s+(x.To-x.Dz)) (fun y hy=>h y (by simp [hy])) (by omega) (by omega)
  rw [List.foldl_cons,Ae (x:=x.To-x.Dz) (by omega),Ae (by omega),a1,e6]
  simp only [List.length_cons]
  push_cast
  omega
theorem Ej.EJ {l:List Span} (h:Ej l):EJ l=(Fx (fun n=>l.any (DS n)) 1000000:Int)∧0≤Go.Fc.EJ l∧Go.Fc.EJ l≤20000000:=by
 obtain ⟨a1,a2,a3⟩:=O8 l 0 h.sp (by omega) (by have:=h.len;omega)
 have e:=O7 1000000 l h.cn fun x hx=>by have:=h.sp x hx;exact ⟨this.1,this.2.2⟩
 have hl:=h.len;unfold Go.Fc.EJ;rw [a1,Int.zero_add];exact ⟨e,a2,by omega⟩
theorem T_ {a b j m:List Span} (ha:Ej a) (hb:Ej b) (hj:Ej j) (hm:Ej m) (e1: ∀n,hs j n↔hs a n∨hs b n) (e2: ∀n,hs m n↔hs a n∧hs b n):IntKind.i64.wrap (EJ j+EJ m)=IntKind.i64.wrap (EJ a+EJ b):=by
 have h1:=ha.EJ;have h2:=hb.EJ;have h3:=hj.EJ;have h4:=hm.EJ;have k1:(fun n=>j.any (DS n))=fun n=>a.any (DS n)||b.any (DS n):=funext fun n=>by
  rw [Bool.eq_iff_iff,Bool.or_eq_true,Fk,Fk,Fk];exact e1 n
 have k2:(fun n=>m.any (DS n))=fun n=>a.any (DS n)&&b.any (DS n):=funext fun n=>by
  rw [Bool.eq_iff_iff,Bool.and_eq_true,Fk,Fk,Fk];exact e2 n
 rw [k1] at h3;rw [k2] at h4;have:=O5 (fun n=>a.any (DS n)) (fun n=>b.any (DS n)) 1000000;congr 1;omega
theorem Li {x:Span}:Fw x=true↔0≤x.Dz∧x.Dz<x.To∧x.To≤1000000:=by
 unfold Fw;rw [decide_eq_true_eq]
def Gd (l:List Span):List Span×Bool:=if l.length≤20 then (l,true) else ([],false)
theorem Ki (l:List Span):Gi l=some (Gd l):=TJ
theorem Kj (l:List Span):GD l=some (Gd l):=by
 unfold GD Gd;by_cases h:l.length≤20
 ·rw [Dm (by omega),if_pos h];rfl
 ·rw [AR (by omega),if_neg h];rfl
theorem IX {l m:List Span} {c:Bool} (h:Gd l=(m,c)):m.length≤20∧(c=true→m=l):=by
 unfold Gd at h;split at h
 ·obtain ⟨rfl,rfl⟩:=Prod.mk.inj h;exact ⟨by assumption,fun _=>rfl⟩
 ·obtain ⟨rfl,rfl⟩:=Prod.mk.inj h;exact ⟨by simp,fun h=>by simp at h⟩
def GX (a b:List Span):List Span×Bool:=if Ei a&&Ei b then Gd (b.foldl Em a) else ([],false)
def GY (a b:List Span):List Span×Bool:=if Ei a&&Ei b then Gd (FT a b) else ([],false)
def GZ (l:List Span) (u:Int):List Span×Bool:=if Ei l&&HX u 0 1000000 then Gd (Fb l u 0) else ([],false)
def Fm (l:List Span) (x:Span):List Span×Bool:=if Ei l&&Fw x then Gd (FT l (Fb [x] 1000000 0)) else ([],false)
def Fy (l:List Span) (x:Span):List Span×Int×Bool:=if Ei l&&Fw x then (if (Em l x).length≤20 then (Em l x,IntKind.i64.wrap (EJ (Em l x)-EJ l),true) else ([],0,false)) else ([],0,false)
theorem Hl {α :Type} {A B:Bool} {k:Option α} {z: α} {v: α} (h:A=true→B=true→k=some v):((some A).bind fun EV=>(bif (!EV) then some true else (some B).bind fun Ef=>some (!Ef))).bind (fun DP=>bif DP then some z else k)=some (if A&&B then v else z):=by
 cases A
 ·rfl
 ·cases B
  ·rfl
  ·simp only [Option.bind_some,Bool.not_true,cond_false,Bool.and_self,if_true];exact h rfl rfl
theorem Ua {a b:List Span} (ha:a.length≤100) (hb:b.length≤100):Ja a b=some (GX a b):=by
 unfold Ja GX;rw [Gx (by omega),Gx (by omega)]
 refine Hl fun h1 h2=> ?_;have p1:=EB.1 h1;have p2:=EB.1 h2;obtain ⟨j,e,j1,j2⟩:=MR (l:=a ++ b) (by simp<;>omega) (fun x hx=>by
  rcases List.mem_append.1 hx with hx|hx
  ·exact p1.sp x hx
  ·exact p2.sp x hx)
 obtain ⟨f1,f2⟩:=fold_add b a p1.cn fun x hx=>(p2.sp x hx).2.1;have MX:j=b.foldl Em a:=j1.gw f1 fun n=>by rw [j2,f2,IS]
 rw [T8 ha hb,Option.bind_some,e,Option.bind_some,MX,Ki];rfl
theorem O9 {a b:List Span} (ha:a.length≤100) (hb:b.length≤100):Ie a b=some (Ei a&&Ei b):=by
 unfold Ie;rw [IQ (by omega),IQ (by omega)]
 cases Ei a<;>rfl
theorem Ub {a b:List Span} (ha:a.length≤100) (hb:b.length≤100):Jk a b=some (GX a b):=by
 unfold Jk GX;rw [O9 ha hb,Option.bind_some];cases h:Ei a&&Ei b
 ·rfl
 ·simp only [Bool.not_true,cond_false,if_true];rw [Bool.and_eq_true] at h;have p1:=EB.1 h.1;have p2:=EB.1 h.2;rw [T1 ha hb p1.cn fun x hx=>(p2.sp x hx).2.1,Option.bind_some,Kj];rfl
theorem Uc {a b:List Span} (ha:a.length≤100) (hb:b.length≤100):Jo a b=some (GY a b):=by
 unfold Jo GY;rw [Gx (by omega),Gx (by omega)]
 refine Hl fun h1 h2=> ?_;have p1:=EB.1 h1;have p2:=EB.1 h2;rw [OY ha hb p1.cn p2.cn fun n hn=>p1.bW hn,Option.bind_some,Ki];rfl
theorem Ud {a b:List Span} (ha:a.length≤100) (hb:b.length≤100):Jq a b=some (GY a b):=by
 unfold Jq GY;rw [O9 ha hb,Option.bind_some];cases h:Ei a&&Ei b
 ·rfl
 ·simp only [Bool.not_true,cond_false,if_true];rw [OX ha hb,Option.bind_some,Kj];rfl
theorem Ej.IY {l:List Span} (h:Ej l): ∀y∈l,0≤y.Dz:=fun y hy=>(h.sp y hy).1
theorem Ue {l:List Span} (hl:l.length≤100) (u:Int):JA l u=some (GZ l u):=by
 unfold JA GZ;rw [Gx (by omega),Tp]
 refine Hl fun h1 h2=> ?_;have p1:=EB.1 h1;rw [O4 (by omega) p1.cn p1.IY,Option.bind_some,Ki]
 rfl
theorem Uf {l:List Span} (hl:l.length≤100) (u:Int):JE l u=some (GZ l u):=by
 unfold JE GZ;rw [IQ (by omega),Tn]
 refine Hl fun h1 h2=> ?_;rw [O1 (by omega),Option.bind_some,Kj]
 rfl
theorem MY {x:Span} (h:Fw x=true):Ej [x]:=by
 have:=Li.1 h;exact ⟨by simp,fun y hy=>by obtain rfl:=List.mem_singleton.1 hy;exact this,List.pairwise_singleton _ _⟩
theorem O_ {l:List Span} (hl:l.length≤100) (x:Span):HA l x=some (Fm l x):=by
 unfold HA Fm;rw [Gx (by omega),K_]
 refine Hl fun h1 h2=> ?_;have p1:=EB.1 h1;have p2:=MY h2;obtain ⟨m1,m2,m3,m4⟩:=Kh [x] 1000000 0 p2.cn p2.IY;rw [O4 (by simp) p2.cn p2.IY,Option.bind_some,OY hl (by simp at m4;omega) p1.cn m1 (fun n hn=>p1.bW hn),Option.bind_some,Ki]
 rfl
theorem Ug {l:List Span} (hl:l.length≤100) (x:Span):JK l x=some (Fm l x):=by
 unfold JK Fm;rw [IQ (by omega),MI]
 refine Hl fun h1 h2=> ?_;have p2:=MY h2;obtain ⟨m1,m2,m3,m4⟩:=Kh [x] 1000000 0 p2.cn p2.IY;rw [O1 (by simp),Option.bind_some,OX hl (by simp at m4;omega),Option.bind_some,Kj]
 rfl
theorem Uh {l:List Span} (hl:l.length≤100) (x:Span):JH l x=some (Fy l x):=by
 unfold JH Fy;rw [Gx (by omega),K_]
 refine Hl fun h1 h2=> ?_;have p1:=EB.1 h1;have hx:=Li.1 h2;obtain ⟨a1,a2,a3,a4⟩:=Ke l x p1.cn hx.2.1;obtain ⟨j,e,j1,j2⟩:=MR (l:=l ++ [x]) (by simp<;>omega) (fun y hy=>by
  rcases List.mem_append.1 hy with hy|hy
  ·exact p1.sp y hy
  ·obtain rfl:=List.mem_singleton.1 hy;exact hx)
 have MX:j=Em l x:=j1.gw a1 fun n=>by
  rw [j2,a2,IS,D2];exact ⟨fun h=>by
   rcases h with h|h|h
   ·exact .inr h
   ·exact .inl h
   ·exact absurd h (FU n),fun h=>by
   rcases h with h|h
   ·exact .inr (.inl h)
   ·exact .inl h⟩
 unfold Hs;rw [Dh (by simp<;>omega) (by omega),Option.bind_some,List.nil_append,Dh (by simp<;>omega) (by omega),Option.bind_some,e,Option.bind_some,MX,Ki,Option.bind_some]
 unfold Gd;by_cases h:(Em l x).length≤20
 ·rw [if_pos h,if_pos h];simp only [Bool.not_true,cond_false];rw [La (by omega),La (by omega)]
  rfl
 ·rw [if_neg h,if_neg h];rfl
theorem Ui {l:List Span} (hl:l.length≤100) (x:Span):JJ l x=some (Fy l x):=by
 unfold JJ Fy;rw [IQ (by omega),MI]
 refine Hl fun h1 h2=> ?_;have p1:=EB.1 h1;have hx:=Li.1 h2;rw [OW (by omega),Option.bind_some,Kj,Option.bind_some]
 unfold Gd;by_cases h:(Em l x).length≤20
 ·rw [if_pos h,if_pos h];simp only [Bool.not_true,cond_false];rw [sLen (by omega),sLen (by omega)]
  rfl
 ·rw [if_neg h,if_neg h];rfl
theorem IZ {l:List Span} (h:Ej l) (n:Int):E0 l n=some (l.any (DS n),true):=by
 rw [TB (by have:=h.len;omega),if_pos (EB.2 h)]
theorem Lj {l:List Span} (h:Ej l):FA l=some (EJ l,true):=by
 rw [Tx (by have:=h.len;omega),if_pos (EB.2 h)]
theorem Uj {a b j:List Span} {c:Bool} (h:GX a b=(j,c)):j.length≤20∧(c=true→Ej a∧Ej b∧Ej j∧ ∀n,hs j n↔hs a n∨hs b n):=by
 unfold GX at h;split at h
 ·rename_i Bh;rw [Bool.and_eq_true] at Bh;have p1:=EB.1 Bh.1;have p2:=EB.1 Bh.2;obtain ⟨t1,t2⟩:=IX h;refine ⟨t1,fun hc=> ?_⟩;obtain ⟨f1,f2⟩:=fold_add b a p1.cn fun x hx=>(p2.sp x hx).2.1;have e:=t2 hc;subst e;refine ⟨p1,p2,f1.Lg (fun n hn=> ?_) t1,f2⟩;rcases (f2 n).1 hn with k|k
  ·exact p1.bW k
  ·exact p2.bW k
 ·obtain ⟨rfl,rfl⟩:=Prod.mk.inj h;exact ⟨by simp,fun h=>by simp at h⟩
theorem Uk {a b j:List Span} {c:Bool} (h:GY a b=(j,c)):j.length≤20∧(c=true→Ej j∧ ∀n,hs j n↔hs a n∧hs b n):=by
 unfold GY at h;split at h
 ·rename_i Bh;rw [Bool.and_eq_true] at Bh;have p1:=EB.1 Bh.1;have p2:=EB.1 Bh.2;obtain ⟨t1,t2⟩:=IX h;refine ⟨t1,fun hc=> ?_⟩;have e:=t2 hc;subst e;exact ⟨(Lh p1.cn p2.cn).Lg (fun n hn=>p1.bW (Kf.1 hn).1) t1,fun n=>Kf⟩
 ·obtain ⟨rfl,rfl⟩:=Prod.mk.inj h;exact ⟨by simp,fun h=>by simp at h⟩
theorem Ul {l x:List Span} {u:Int} {c:Bool} (h:GZ l u=(x,c)):x.length≤20∧(c=true→Ej l∧Ej x∧ ∀n,hs x n↔(0≤n∧n<u)∧ ¬hs l n):=by
 unfold GZ at h;split at h
 ·rename_i Bh;rw [Bool.and_eq_true] at Bh;have p1:=EB.1 Bh.1;have p2:=Tq.1 Bh.2;obtain ⟨t1,t2⟩:=IX h;refine ⟨t1,fun hc=> ?_⟩;have e:=t2 hc;subst e;obtain ⟨m1,m2,m3,m4⟩:=Kh l u 0 p1.cn p1.IY;exact ⟨p1,m1.Lg (fun n hn=>by have:=((m2 n).1 hn).1;omega) t1,m2⟩
 ·obtain ⟨rfl,rfl⟩:=Prod.mk.inj h;exact ⟨by simp,fun h=>by simp at h⟩
theorem Um {l z:List Span} {x:Span} {c:Bool} (h:Fm l x=(z,c)):z.length≤20:=by
 unfold Fm at h;split at h
 ·exact (IX h).1
 ·obtain ⟨rfl,rfl⟩:=Prod.mk.inj h;simp
theorem Pa {l y:List Span} {x:Span} {m:Int} {c:Bool} (h:Fy l x=(y,m,c)):y.length≤20∧(c=true→Ej l∧Fw x=true∧Ej y∧ ∀n,hs y n↔(x.Dz≤n∧n<x.To)∨hs l n):=by
 unfold Fy at h;split at h
 ·rename_i Bh;rw [Bool.and_eq_true] at Bh;have p1:=EB.1 Bh.1;have hx:=Li.1 Bh.2;split at h
  ·rename_i hl;obtain ⟨rfl,h2⟩:=Prod.mk.inj h;obtain ⟨a1,a2,a3,a4⟩:=Ke l x p1.cn hx.2.1;refine ⟨hl,fun _=>⟨p1,Bh.2,a1.Lg (fun n hn=> ?_) hl,a2⟩⟩;rcases (a2 n).1 hn with k|k
   ·omega
   ·exact p1.bW k
  ·obtain ⟨rfl,h2⟩:=Prod.mk.inj h;obtain ⟨_,rfl⟩:=Prod.mk.inj h2;exact ⟨by simp,fun h=>by simp at h⟩
 ·obtain ⟨rfl,h2⟩:=Prod.mk.inj h;obtain ⟨_,rfl⟩:=Prod.mk.inj h2;exact ⟨by simp,fun h=>by simp at h⟩
theorem Un {l y z w:List Span} {x:Span} {m:Int} {c:Bool} (h1:Fy l x=(y,m,true)) (h2:Fm l x=(z,true)) (h3:Fm y x=(w,c)) (hc:c=true):w=z:=by
 obtain ⟨_,k⟩:=Pa h1;obtain ⟨p1,hx,p3,e1⟩:=k rfl;have hp:=MY hx;obtain ⟨m1,m2,_,_⟩:=Kh [x] 1000000 0 hp.cn hp.IY;unfold Fm at h2 h3;rw [EB.2 p1,hx] at h2;rw [EB.2 p3,hx] at h3;have a2:=(IX h2).2 rfl;have a3:=(IX h3).2 hc;rw [a2,a3];refine (Lh p3.cn m1).gw (Lh p1.cn m1) fun n=> ?_;rw [Kf,Kf,e1,m2,D2];constructor
 ·rintro ⟨k|k,q1,q2⟩
  ·exact absurd (.inl k) q2
  ·exact ⟨k,q1,q2⟩
 ·rintro ⟨k,q1,q2⟩;exact ⟨.inr k,q1,q2⟩
theorem Pb {l:List Int} (hl:l.length≤1048576) (hb: ∀x∈l,0≤x∧x≤255):da (Il l) fun r=>0≤r:=by
 unfold Il;have key:da (fq (Km l) (0,0)) fun r=>0≤r:=by
  refine da.fq (fun x=>l.length-x.2.toNat) (fun x=>0≤x.1∧x.1≤1000003∧0≤x.2∧x.2≤l.length) ?_ ⟨by simp,by simp,by simp,by simp⟩
  rintro ⟨m,i⟩ ⟨i1,i2,i3,i4⟩;simp only at i1 i2 i3 i4;simp only [Km];by_cases hi:i<l.length
  ·rw [AR hi,Dk i3 hi];have:=hb _ (List.getElem_mem (l:=l) (n:=i.toNat) (by omega))
   simp only [cond_true,Option.bind_some];rw [Ae (x:=31*m) (by omega),Ae (x:=l[i.toNat]) (by omega),Ae (x:=31*m+l[i.toNat]) (by omega),Ae (x:=i+1) (by omega)]
   refine ⟨_,rfl,⟨?_,?_,by simp only;omega,by simp only;omega⟩,by simp only;omega⟩
   ·simp only;rw [Int.tmod_eq_emod_of_nonneg (by omega)];omega
   ·simp only;rw [Int.tmod_eq_emod_of_nonneg (by omega)];omega
  ·rw [Dm hi];exact ⟨_,rfl,i1⟩
 refine da.then key fun x hx=>⟨_,rfl,hx⟩
theorem MZ {l:List Span} (hl:l.length≤1048576):Fz l=some (Ei l):=by
 unfold Fz;rw [Gx hl];rfl
theorem Pc {a:List Int} (h:Ec ⟨a,0,0⟩ 0):(∃l m,I3 a=some (l,m)∧l.length≤21∧m.length≤21)∧(∃l u,Jw a=some (l,u)∧l.length≤21)∧ ∃l x,JG a=some (l,x)∧l.length≤21:=by
 obtain ⟨⟨l,c⟩,e1,hl,hc⟩:=OM h (by omega)
 dsimp only at hl hc;obtain ⟨⟨m,c1⟩,e2,hm,_⟩:=OM hc (by omega)
 obtain ⟨⟨u,c2⟩,e3,_⟩:=MH hc (by omega) (l:=[-1,0,5,20,40,1000000,1000001]) (by simp)
 obtain ⟨⟨x,c3⟩,e4,_⟩:=TK hc (by omega)
 refine ⟨⟨l,m,?_,hl,hm⟩,⟨l,u,?_,hl⟩,⟨l,x,?_,hl⟩⟩
 ·unfold I3;rw [e1,Option.bind_some];dsimp only;rw [e2];rfl
 ·unfold Jw;rw [e1,Option.bind_some];dsimp only;rw [e3];rfl
 ·unfold JG;rw [e1,Option.bind_some];dsimp only;rw [e4];rfl
theorem Uo {a b j:List Span} {n:Int} (h:hs j n↔hs a n∨hs b n):j.any (DS n)=(a.any (DS n)||b.any (DS n)):=by
 rw [Bool.eq_iff_iff,Bool.or_eq_true,Fk,Fk,Fk];exact h
theorem Uq {a b j:List Span} {n:Int} (h:hs j n↔hs a n∧hs b n):j.any (DS n)=(a.any (DS n)&&b.any (DS n)):=by
 rw [Bool.eq_iff_iff,Bool.and_eq_true,Fk,Fk,Fk];exact h
theorem Ur {l x:List Span} {n u:Int} (h0:0≤n) (h:hs x n↔(0≤n∧n<u)∧ ¬hs l n):x.any (DS n)=(decide (n<u)&& !l.any (DS n)):=by
 rw [Bool.eq_iff_iff,Bool.and_eq_true,Fk,Bool.not_eq_true',←Bool.not_eq_true,Fk,decide_eq_true_eq,h];exact ⟨fun k=>⟨k.1.2,k.2⟩,fun k=>⟨⟨h0,k.1⟩,k.2⟩⟩
theorem Us (a0 a1:List Int) (l0:a0.length<2^47) (l1:a1.length<2^47) (r0: ∀x∈a0,0≤x∧x≤255) (r1: ∀x∈a1,0≤x∧x≤255):JL a0 a1=some true:=by
 unfold JL;rw [Ae (by omega)]
 by_cases hs:1048576<(a0.length:Int)+(a1.length:Int)
 ·rw [AR hs];rfl
 rw [Dm hs,cond_false];have k0:=OG (by omega) r0
 have k1:=OG (by omega) r1
 obtain ⟨⟨a,b,d1,ha,hb⟩,_,_⟩:=Pc k0;obtain ⟨_,⟨l,u,d2,hl⟩,⟨t,s,d3,ht⟩⟩:=Pc k1;obtain ⟨v0,Ut,fF⟩:=Pb (by omega) r0
 obtain ⟨v1,Uu,Pd⟩:=Pb (by omega) r1
 rw [d1,d2,d3,Ut,Uu];simp only [Option.bind_some];rw [Ua (by omega) (by omega),Ub (by omega) (by omega),Uc (by omega) (by omega),Ud (by omega) (by omega),MZ (by omega),IQ (by omega),Ue (by omega),Uf (by omega),Uh (by omega),Ui (by omega),O_ (by omega),Ug (by omega)]
 have M0:=Uj (a:=a) (b:=b) (j:=(GX a b).1) (c:=(GX a b).2) rfl;have M1:=Uk (a:=a) (b:=b) (j:=(GY a b).1) (c:=(GY a b).2) rfl;have M2:=Ul (l:=l) (u:=u) (x:=(GZ l u).1) (c:=(GZ l u).2) rfl;have Pe:=Pa (l:=t) (x:=s) (y:=(Fy t s).1) (m:=(Fy t s).2.1) (c:=(Fy t s).2.2) rfl;have Pf:=Um (l:=t) (x:=s) (z:=(Fm t s).1) (c:=(Fm t s).2) rfl;have Lk:=fun (h:(Fy t s).2.2=true) (h' :(Fm t s).2=true) (w:List Span) (c:Bool) (h1:Fm (Fy t s).1 s=(w,c)) (hc:c=true)=>Un (m:=(Fy t s).2.1) (by rw [←h]) (by rw [←h']) h1 hc
 generalize GX a b=Uv at M0⊢;generalize GY a b=M at M1⊢;generalize GZ l u=X at M2⊢;generalize Fy t s=Y at Pe Lk⊢;generalize Fm t s=Z at Pf Lk⊢;obtain ⟨j,Kk⟩:=Uv;obtain ⟨m,Ll⟩:=M;obtain ⟨x,Pg⟩:=X;obtain ⟨y,WA,Ph⟩:=Y;obtain ⟨z,Pj⟩:=Z;dsimp only at M0 M1 M2 Pe Pf Lk⊢;simp only [Option.bind_some];rw [IW (by omega:j.length≤1000),IW (by omega:m.length≤1000),IW (by omega:x.length≤1000),IW (by omega:y.length≤1000),IW (by omega:z.length≤1000)]
 simp only [Option.bind_some,beq_self_eq_true,bne_self_eq_false,Bool.not_true,cond_false];have hk:0≤Int.tmod v0 50:=Int.tmod_nonneg _ fF;generalize Int.tmod v0 50=k at hk⊢;generalize Int.tmod v1 40=n;have third:((bif Ph then some Pj else some false).bind fun HF=>(bif HF then (HA y s).bind fun (JR,Kx)=>(bif (!Kx) then some true else (F0 JR z).bind fun JS=>some JS) else some true))=some true:=by
  cases Ph
  ·rfl
  cases Pj
  ·rfl
  simp only [cond_true,Option.bind_some];rw [O_ (by omega),Option.bind_some]
  have q:=Lk rfl rfl;generalize Fm y s=W at q;obtain ⟨w,c⟩:=W;dsimp only;cases c
  ·rfl
  ·obtain rfl:=q w true rfl rfl;rw [IW (by omega)];rfl
 have second:(((bif Pg then (E0 l k).bind fun (JQ,Kv)=>(E0 x k).bind fun (Hb,Kw)=>((bif (!Kv) then some (true) else (bif (!Kw) then some (true) else (bif (decide (k<u)) then some ((!(Hb==(!JQ)))) else some ((!(Hb==false))))))).bind fun HE=>(bif HE then some (LR.done false) else some (LR.next ())) else some (LR.next ()):Option (LR Unit Bool)))=some (LR.next ())):=by
  cases Pg
  ·rfl
  obtain ⟨e1,e2,e3⟩:=M2.2 rfl;rw [IZ e1,IZ e2,Ur hk (e3 k)];simp only [cond_true,Option.bind_some,Bool.not_true,cond_false];cases decide (k<u)<;>cases l.any (DS k)<;>rfl
 have first:(((bif Kk then some Ll else some false).bind fun HB=>(bif HB then (FA a).bind fun (Hr,Ko)=>(FA b).bind fun (Ip,Ho)=>(FA j).bind fun (G9,Gk)=>(FA m).bind fun (Kp,Kq)=>(E0 a n).bind fun (Kr,Iq)=>(E0 b n).bind fun (Ir,Ks)=>(E0 j n).bind fun (Is,GA)=>(E0 m n).bind fun (Iu,Kt)=>((bif (!Ko) then some (true) else (bif (!Ho) then some (true) else (bif (!Gk) then some (true) else (bif (!Kq) then some (true) else (bif ((IntKind.i64.wrap (G9+Kp)) !=(IntKind.i64.wrap (Hr+Ip))) then some (true) else (bif (!Iq) then some (true) else (bif (!Ks) then some (true) else (bif (!GA) then some (true) else (bif (!Kt) then some (true) else (bif Kr then (bif (!(Is==true)) then some (true) else (bif (!(Iu==Ir)) then some (true) else (Fz j).bind fun JM=>(bif (!JM) then some (true) else (Fz m).bind fun Iv=>some ((!Iv))))) else (bif (!(Is==Ir)) then some (true) else (bif (!(Iu==false)) then some (true) else (Fz j).bind fun JN=>(bif (!JN) then some (true) else (Fz m).bind fun Iw=>some ((!Iw)))))))))))))))).bind fun HD=>(bif HD then some (LR.done false) else some (LR.next ())) else some (LR.next ()):Option (LR Unit Bool)))=some (LR.next ())):=by
  cases Kk
  ·rfl
  cases Ll
  ·rfl
  obtain ⟨e1,e2,e3,e4⟩:=M0.2 rfl;obtain ⟨f1,f2⟩:=M1.2 rfl;simp only [cond_true,Option.bind_some];rw [Lj e1,Lj e2,Lj e3,Lj f1,IZ e1,IZ e2,IZ e3,IZ f1,Uo (e4 n),Uq (f2 n),MZ (by omega),MZ (by omega),EB.2 e3,EB.2 f1]
  simp only [Option.bind_some,Bool.not_true,cond_false];rw [T_ e1 e2 e3 f1 e4 f2];simp only [bne_self_eq_false,cond_false];cases a.any (DS n)<;>cases b.any (DS n)<;>rfl
 have Pk:(bif Kk then some Ll else some false)=some (Kk&&Ll):=by cases Kk<;>rfl
 rw [Pk,Option.bind_some] at first
 rw [Pk,Option.bind_some,first]
 simp only [Option.bind_some];rw [second];exact third
end Go.Fc
