/-
  The plain law and all that it needs.
-/
import Derived.Test.YtclgbpneokeaeaaVfF
import Derived.Test.YtclgbpneokeaeaaVaF
import Derived.Test.YtclgbpneokeaeaaVaG
open Go Go.VS
namespace Go.Hm
def HD (n a b:Int):Bool:=decide (a≤n)&&decide (n≤b)
theorem Nv (n a b:Int):I8 n a b=some (HD n a b):=by
 unfold I8 HD;cases decide (a≤n)<;>rfl
theorem Nw (n a b:Int):I5 n a b=some (HD n a b):=by
 unfold I5 HD;cases decide (a≤n)<;>rfl
theorem OV {n a b:Int}:HD n a b=true↔a≤n∧n≤b:=by simp [HD]
structure Gc (c:FK) (b:Int):Prop where
 len:c.Code.length≤1048576
 bytes: ∀x∈c.Code,0≤x∧x≤255
 lo:0≤c.At
 hi:c.At≤b
theorem Gc.mono {c:FK} {b d:Int} (h:Gc c b) (hd:b≤d):Gc c d:=⟨h.len,h.bytes,h.lo,by have:=h.hi;omega⟩
theorem V7 (k:Int):0≤Bw .u64 k 255∧Bw .u64 k 255≤255:=by
 have h:(BitVec.ofInt IntKind.u64.bits k&&&BitVec.ofInt IntKind.u64.bits 255).toNat≤255:=by
  rw [BitVec.toNat_and];exact Nat.and_le_right
 unfold Bw;rw [IntWalk.u64_in _ (by omega)]
 omega
theorem z7 {c:FK} {b:Int} (h:Gc c b) (hb:b≤4611686018427387904): ∃x d,J3 c=some (x,d)∧(0≤x∧x≤255)∧Gc d (b+1):=by
 obtain ⟨h1,h2,h3,h4⟩:=h;unfold J3;rw [BF (x:=c.At+1) (by omega)]
 have e: ∃FQ,(bif (decide (c.At<(c.Code.length:Int))) then (idx c.Code c.At).bind fun Gm=>some ((IntKind.i64.wrap Gm)) else some (0))=some FQ∧0≤FQ∧FQ≤255:=by
  by_cases hc:c.At<c.Code.length
  ·rw [show decide (c.At<(c.Code.length:Int))=true by simpa using hc]
   obtain ⟨n,hn⟩:=Int.eq_ofNat_of_zero_le h3;rw [hn,xH (show n<c.Code.length by omega)]
   have:=h2 _ (List.getElem_mem (show n<c.Code.length by omega))
   simp only [cond_true,Option.bind_some];rw [BF (by omega)]
   exact ⟨_,rfl,this⟩
  ·rw [show decide (c.At<(c.Code.length:Int))=false by simpa using hc]
   exact ⟨0,rfl,by omega,by omega⟩
 obtain ⟨FQ,e1,e2⟩:=e;rw [e1,Option.bind_some];cases decide (c.At+1≤(c.Code.length:Int))
 ·refine ⟨_,_,rfl,?_,⟨h1,h2,by simp only;omega,by simp only;omega⟩⟩
  have:=V7 (vD .u64 (IntKind.u64.wrap ((IntKind.u64.wrap ((IntKind.u64.wrap (c.F2*6364136223846793005))+(IntKind.u64.wrap FQ)))+1442695040888963407)) 40);rw [BF (by omega)]
  exact this
 ·exact ⟨_,_,rfl,e2,⟨h1,h2,by simp only;omega,by simp only;omega⟩⟩
theorem QS {x n:Int} (hx:0≤x) (hn:1<n): ∃r,md x n=some r∧0≤r∧r<n:=by
 unfold md;rw [if_neg (by omega)]
 refine ⟨_,rfl,?_,?_⟩
 ·rw [Int.tmod_eq_emod_of_nonneg hx];exact Int.emod_nonneg _ (by omega)
 ·rw [Int.tmod_eq_emod_of_nonneg hx];exact Int.emod_lt_of_pos _ (by omega)
theorem OW {c:FK} {b n:Int} (h:Gc c b) (hb:b≤4000000000000000000): ∃x d,Ij c n=some (x,d)∧(0≤x∧(1≤n→x<n))∧Gc d (b+2):=by
 unfold Ij;by_cases hn:n≤1
 ·rw [show decide (n≤1)=true by simpa using hn]
  exact ⟨0,c,rfl,⟨by omega,by omega⟩,h.mono (by omega)⟩
 ·rw [show decide (n≤1)=false by simpa using hn]
  obtain ⟨x,d,e1,e2,e3⟩:=z7 h (by omega)
  simp only [cond_false];rw [e1,Option.bind_some];cases decide (200<n)
  ·simp only [cond_false,Option.bind_some];obtain ⟨r,r1,r2,r3⟩:=QS (x:=x) e2.1 (show 1<n by omega)
   rw [r1];exact ⟨r,_,rfl,⟨r2,fun _=>r3⟩,e3.mono (by omega)⟩
  ·simp only [cond_true];obtain ⟨y,d',f1,f2,f3⟩:=z7 e3 (by omega)
   rw [f1];simp only [Option.bind_some];rw [BF (x:=x*256) (by omega),BF (by omega)]
   obtain ⟨r,r1,r2,r3⟩:=QS (x:=x*256+y) (by omega) (show 1<n by omega)
   rw [r1];exact ⟨r,_,rfl,⟨r2,fun _=>r3⟩,f3.mono (by omega)⟩
theorem V8 {c:FK} {b n:Int} (h:Gc c b) (hb:b≤4000000000000000000): ∃x d,Ix c n=some (x,d)∧Gc d (b+2):=by
 obtain ⟨x,d,e1,_,e3⟩:=OW (n:=n) h hb;unfold Ix;rw [e1];exact ⟨_,_,rfl,e3⟩
theorem V9 {c:FK} {b:Int} {l:List Int} (h:Gc c b) (hb:b≤4000000000000000000) (hl:l≠[]): ∃x d,Iw c l=some (x,d)∧x∈l∧Gc d (b+2):=by
 obtain ⟨x,d,e1,e2,e3⟩:=OW (n:=(l.length:Int)) h hb;have c9:1≤l.length:=by cases l with|nil=>exact absurd rfl hl|cons _ _=>simp
 unfold Iw;rw [e1];obtain ⟨n,rfl⟩:=Int.eq_ofNat_of_zero_le e2.1;have hn:n<l.length:=by have:=e2.2 (by omega);omega
 simp only [Option.bind_some];rw [xH hn];exact ⟨_,_,rfl,List.getElem_mem hn,e3⟩
theorem Nx {l:List Int} (hl:l.length≤1048576) (hb: ∀x∈l,0≤x∧x≤255):Gc ⟨l,0,0⟩ 0:=⟨hl,hb,by simp,by simp⟩
theorem Gc.eta {c:FK} {b:Int} (h:Gc c b):Gc ⟨c.Code,c.At,c.F2⟩ b:=h
theorem u5 {c:FK} {b n:Int} (h:Gc c b) (hb:b≤4000000000000000000):dj (Ij c n) fun r=>0≤r.1∧(1≤n→r.1<n)∧Gc r.2 (b+2):=by
 obtain ⟨x,d,e,⟨h1,h2⟩,h3⟩:=OW (n:=n) h hb;exact ⟨_,e,h1,h2,h3⟩
theorem Ny {c:FK} {b n:Int} (h:Gc c b) (hb:b≤4000000000000000000):dj (Ix c n) fun r=>Gc r.2 (b+2):=by
 obtain ⟨x,d,e,h3⟩:=V8 (n:=n) h hb;exact ⟨_,e,h3⟩
theorem Nz {c:FK} {b:Int} {l:List Int} (h:Gc c b) (hb:b≤4000000000000000000) (hl:l≠[]):dj (Iw c l) fun r=>r.1∈l∧Gc r.2 (b+2):=by
 obtain ⟨x,d,e,h2,h3⟩:=V9 h hb hl;exact ⟨_,e,h2,h3⟩
def HW {α :Type} (p:Nat→ α →Bool):Nat→List α →Bool
 |_,[]=>true
 |k,x::xs=>p k x&&HW p (k+1) xs
theorem NA {α σ ρ :Type} {g:Nat→ α → σ →LR σ ρ} {fin: σ → ρ} (p:Nat→ α →Bool) (r: ρ) (h: ∀k x s,g k x s=if p k x then .next s else .done r) (l:List α) (k:Nat) (s: σ):eN g fin k l s=if HW p k l then fin s else r:=by
 induction l generalizing k with
 |nil=>simp [eN,HW]
 |cons x xs ih=>
  rw [show HW p k (x::xs)=(p k x&&HW p (k+1) xs) from rfl];simp only [eN,h];by_cases hp:p k x=true
  ·rw [if_pos hp,hp,Bool.true_and];exact ih (k+1)
  ·have BY:p k x=false:=by simpa using hp
   rw [if_neg hp,BY,Bool.false_and];rfl
theorem OX {α :Type} {p:Nat→ α →Bool}: ∀{l:List α} {k:Nat},HW p k l=true↔ ∀i x,l[i]? =some x→p (k+i) x=true
 |[],k=>by simp [HW]
 |x::xs,k=>by
  simp only [HW,Bool.and_eq_true,OX (l:=xs)];constructor
  ·rintro ⟨h1,h2⟩ i y hy;cases i with
   |zero=>
    obtain rfl:x=y:=by simpa using hy
    exact h1
   |succ i=>
    have:=h2 i y (by simpa using hy)
    rwa [show k+1+i=k+(i+1) by omega] at this
  ·intro h;refine ⟨h 0 x rfl,fun i y hy=> ?_⟩;have:=h (i+1) y (by simpa using hy)
   rwa [show k+(i+1)=k+1+i by omega] at this
def HX (x:Span):Bool:=decide (0≤x.Fz∧x.Fz<x.To∧x.To≤1000000)
theorem OY (x:Span):J8 x=some (HX x):=by
 unfold J8 HX;by_cases h1:0≤x.Fz
 ·rw [Cc h1,cond_true];by_cases h2:x.Fz<x.To
  ·rw [Cc h2,cond_true];simp only [h1,h2,true_and]
  ·rw [Fh h2,cond_false,Fh (fun h=>h2 h.2.1)]
 ·rw [Fh h1,cond_false,Fh (fun h=>h1 h.1)]
theorem V_ (x:Span):MC x=some (HX x):=OY x
def HG (l:List Span) (k:Nat) (x:Span):Bool:=HX x&&(decide (k=0)|| !decide (x.Fz≤(l.getD (k-1) ⟨0,0⟩).To))
def IX (l:List Span):Bool:=decide (l.length≤20)&&HW (HG l) 0 l
theorem QT {l:List Span} {k:Nat} (hk:k<l.length) (hl:l.length≤1048576):((some (HX l[k])).bind fun Iy=>(bif (!Iy) then some true else (bif (decide (0<(k:Int))) then (idx l (IntKind.i64.wrap ((k:Int)-1))).bind fun I_=>some (decide (l[k].Fz≤I_.To)) else some false)))=some (!HG l k l[k]):=by
 unfold HG;rw [Option.bind_some];cases HX l[k]
 ·rfl
 ·simp only [Bool.not_true,cond_false,Bool.true_and];by_cases h:k=0
  ·subst h;simp
  ·rw [Cc (by omega),cond_true,BF (by omega),show (k:Int)-1=((k-1:Nat):Int) by omega,xH (by omega),Fh h,List.getD_eq_getElem?_getD,List.getElem?_eq_getElem (by omega:k-1<l.length)]
   simp
theorem QU {l:List Span} (hl:l.length≤1048576):J9 l=some (IX l):=by
 unfold J9 IX;by_cases h:l.length≤20
 ·rw [Fh (by omega),cond_false,Cc h,Cb l (KK l) (fun k (_:Unit)=>k) (fun k x s=>if HG l k x then .next s else .done (.done false)) (fun _=> .next ()) (fun k hk s=>by
   simp only [KK];rw [Cc (by omega),xH hk]
   simp only [cond_true,Option.bind_some,OY];have:=QT hk hl;simp only [Option.bind_some] at this;rw [this,Option.bind_some,BF (by omega)]
   cases HG l k l[k]<;>rfl) (fun s=>by simp [KK]) (),NA _ _ (fun _ _ _=>rfl)]
  cases HW (HG l) 0 l<;>rfl
 ·rw [Cc (by omega),Fh h];rfl
theorem Wa {l:List Span} (hl:l.length≤1048576):La l=some (IX l):=by
 unfold La IX;rw [Cb l (K_ l) (fun k (_:Unit)=>k) (fun k x s=>if HG l k x then .next s else .done (.done false)) (fun _=> .next ()) (fun k hk s=>by
  simp only [K_];rw [Cc (by omega),xH hk]
  simp only [cond_true,Option.bind_some,V_];have:=QT hk hl;simp only [Option.bind_some] at this;rw [this,Option.bind_some,BF (by omega)]
  cases HG l k l[k]<;>rfl) (fun s=>by simp [K_]) (),NA _ _ (fun _ _ _=>rfl)]
 cases HW (HG l) 0 l
 ·simp
 ·simp only [if_true,Option.bind_some,Bool.and_true];by_cases h:l.length≤20
  ·rw [Cc h,Cc (by omega)]
  ·rw [Fh h,Fh (by omega)]
structure HH (l:List Span):Prop where
 len:l.length≤20
 sp: ∀x∈l,0≤x.Fz∧x.Fz<x.To∧x.To≤1000000
 QV:l.Pairwise fun x y=>x.To<y.Fz
theorem NB {l:List Span}:IX l=true↔HH l:=by
 unfold IX;rw [Bool.and_eq_true,decide_eq_true_eq,OX];have key:(∀(i:Nat) (x:Span),l[i]? =some x→HG l (0+i) x=true)↔(∀x∈l,0≤x.Fz∧x.Fz<x.To∧x.To≤1000000)∧l.Pairwise fun x y=>x.To<y.Fz:=by
  constructor
  ·intro h;have h1: ∀x∈l,0≤x.Fz∧x.Fz<x.To∧x.To≤1000000:=fun x hx=>by
    obtain ⟨i,hi⟩:=List.mem_iff_getElem?.1 hx;have:=h i x hi;simp only [HG,HX,Bool.and_eq_true,decide_eq_true_eq] at this;exact this.1
   have h2: ∀i (hi:i+1<l.length),l[i].To<l[i+1].Fz:=fun i hi=>by
    have:=h (i+1) l[i+1] (List.getElem?_eq_getElem hi);simp only [HG,Bool.and_eq_true,Bool.or_eq_true,decide_eq_true_eq,Bool.not_eq_true',decide_eq_false_iff_not,Nat.zero_add,Nat.add_sub_cancel] at this;rw [List.getD_eq_getElem?_getD,List.getElem?_eq_getElem (by omega:i<l.length)] at this
    have:=this.2;simp only [Option.getD_some] at this;omega
   refine ⟨h1,List.pairwise_iff_getElem.2 fun i j hi hj jK=> ?_⟩;have: ∀d,∀(hd:i+1+d<l.length),l[i].To<l[i+1+d].Fz:=fun d=>by
    induction d with
    |zero=>intro hd;exact h2 i hd
    |succ d ih=>
     intro hd;have a1:=ih (by omega)
     have a2:=h2 (i+1+d) (by omega)
     have a3:=h1 _ (List.getElem_mem (show i+1+d<l.length by omega))
     have:l[i+1+d+1]=l[i+1+(d+1)]:=rfl;rw [this] at a2;omega
   have:=this (j-(i+1)) (by omega)
   simp only [show i+1+(j-(i+1))=j by omega] at this
   exact this
  ·rintro ⟨h1,h2⟩ i x hi;obtain ⟨f_,e⟩:=List.getElem?_eq_some_iff.1 hi;simp only [HG,HX,Bool.and_eq_true,Bool.or_eq_true,decide_eq_true_eq,Bool.not_eq_true',decide_eq_false_iff_not,Nat.zero_add];refine ⟨h1 x (List.mem_of_getElem? hi),?_⟩;by_cases h0:i=0
   ·exact .inl h0
   ·right;rw [List.getD_eq_getElem?_getD,List.getElem?_eq_getElem (by omega:i-1<l.length)]
    have:=List.pairwise_iff_getElem.1 h2 (i-1) i (by omega) f_ (by omega)
    rw [e] at this;simp only [Option.getD_some];omega
 rw [key];exact ⟨fun h=>⟨h.1,h.2.1,h.2.2⟩,fun h=>⟨h.1,h.2,h.3⟩⟩
def GU (l:List Span):Int:=l.foldl (fun n x=>IntKind.i64.wrap (n+IntKind.i64.wrap (x.To-x.Fz))) 0
theorem NC {l:List Span} (hl:l.length≤1048576):JF l=some (GU l):=by
 unfold JF GU;rw [Cb l (KR l) (fun k (s:Int)=>(s,k)) (fun _ x s=> .next (IntKind.i64.wrap (s+IntKind.i64.wrap (x.To-x.Fz)))) id (fun k hk s=>by
  simp only [KR];rw [Cc (by omega),xH hk,BF (x:=(k:Int)+1) (by omega)]
  rfl) (fun s=>by simp [KR]) 0,E_ _ (fun _ _ _=>rfl)]
 rfl
def FJ (n:Int) (x:Span):Bool:=decide (x.Fz≤n)&&decide (n<x.To)
theorem Wb {l:List Span} (hl:l.length<2^60) {g:Span→Option Bool} (p:Span→Bool) (hg: ∀x∈l,g x=some (p x)):KN l g=some (ef p l):=by
 unfold KN;rw [Fi p (f:=NO l g) (fun _=>rfl) hl hg];have:=qR p l;by_cases h:ef p l<0
 ·rw [if_pos h];simp;omega
 ·rw [if_neg h];rfl
theorem Wc {l:List Span} (hl:l.length<2^60) {g:Span→Option Bool} (p:Span→Bool) (hg: ∀x∈l,g x=some (p x)):KO l g=some (l.any p):=by
 unfold KO;rw [Wb hl p hg,Option.bind_some,Cd]
theorem QW {l:List Span} (hl:l.length≤1048576) (n:Int):J_ l n=some (l.any (FJ n)):=by
 unfold J_;rw [Wc (by omega) (FJ n) (fun x _=>by unfold Mz FJ;cases decide (x.Fz≤n)<;>rfl)]
 rfl
theorem QX {l:List Span} (hl:l.length≤1048576) (n:Int):Kf l n=some (l.any (FJ n)):=by
 unfold Kf;rw [Cb l (Lc l n) (fun k (_:Unit)=>k) (fun _ x s=>if !FJ n x then .next s else .done (.done true)) (fun _=> .next ()) (fun k hk s=>by
  have e:(bif decide (l[k].Fz≤n) then some (decide (n<l[k].To)) else some false)=some (FJ n l[k]):=by
   unfold FJ;cases decide (l[k].Fz≤n)<;>rfl
  simp only [Lc];rw [Cc (by omega),xH hk,BF (by omega)]
  simp only [cond_true,Option.bind_some];rw [e];cases FJ n l[k]<;>rfl) (fun s=>by simp [Lc]) (),E9 _ _ (fun _ _ _=>rfl)]
 have:(l.all fun x=> !FJ n x)= !l.any (FJ n):=by
  induction l with
  |nil=>rfl
  |cons x xs ih=>simp only [List.all_cons,List.any_cons,ih (by simp only [List.length_cons] at hl;omega),Bool.not_or]
 rw [this];cases l.any (FJ n)<;>rfl
def Iu (out:List Span) (x:Span):List Span:=
 match out.getLast? with
 |some z=>if x.Fz≤z.To then out.set (out.length-1) ⟨z.Fz,if x.To>z.To then x.To else z.To⟩ else out ++ [x]
 |none=>out ++ [x]
theorem Wd (out:List Span) (x:Span):(Iu out x).length≤out.length+1:=by
 unfold Iu;split
 ·split
  ·simp
  ·simp
 ·simp
theorem We {l:List Span} (hl:l.length≤100000) (hb: ∀x∈l,-2305843009213693952≤x.Fz∧x.Fz≤2305843009213693952): ∃r:List Span,r.Perm l∧(r.Pairwise fun x y=>x.Fz≤y.Fz)∧Kb l=some (r.foldl Iu []):=by
 obtain ⟨r,h1,h2,h3⟩:=Fm (sz:=2) (z:=Pd) (dec:=Pe) (fun _=>rfl) (l:=l) (fun x hx=>⟨rfl,hb x hx⟩) (by omega)
 refine ⟨r,h2,h3,?_⟩;have hr:r.length=l.length:=h2.length_eq;unfold Kb KT NP;rw [E8 (by simp<;>omega) (by omega),Option.bind_some,List.nil_append,h1,Option.bind_some]
 rw [Ca r (KU r) (fun k (s:List Span)=>(s,k)) (fun _ x s=> .next (Iu s x)) id (fun k s=>s.length≤k) (fun k hk s hs=>by
  refine ⟨?_,fun s' e=>by obtain rfl:=LR.next.inj e;have:=Wd s r[k];omega⟩
  simp only [KU];rw [Cc (by omega),xH hk,BF (x:=(k:Int)+1) (by omega),BF (x:=(s.length:Int)-1) (by omega)]
  simp only [cond_true,Option.bind_some];unfold Iu;by_cases h0:s.length=0
  ·have:s=[]:=List.length_eq_zero_iff.1 h0;subst this;rw [Fh (by simp),E8 (by simp) (by omega)]
   rfl
  ·rw [Cc (by omega),cond_true,Fb (by omega) (by omega),Option.bind_some]
   have e1:((s.length:Int)-1).toNat=s.length-1:=by omega
   simp only [e1,List.getLast?_eq_getElem?,List.getElem?_eq_getElem (show s.length-1<s.length by omega),Option.bind_some]
   by_cases h1:r[k].Fz≤s[s.length-1].To
   ·simp only [decide_eq_true h1,cond_true,if_pos h1,Option.bind_some];rfl
   ·simp only [decide_eq_false h1,cond_false,if_neg h1];rw [E8 (by simp<;>omega) (by omega)];rfl) (fun s _=>by simp [KU]) [] (by simp),E_ _ (fun _ _ _=>rfl)]
 rfl
theorem Wf {l:List Span}:Kc l=some (if l.length≤20 then (l,true) else ([],false)):=by
 unfold Kc;by_cases h:l.length≤20
 ·rw [Fh (by omega),if_pos h];rfl
 ·rw [Cc (by omega),if_neg h];rfl
def Gd:List Span→Prop
 |[]=>True
 |x::l=>x.Fz<x.To∧(∀y∈l,x.To<y.Fz)∧Gd l
def hs (l:List Span) (n:Int):Prop:= ∃x∈l,x.Fz≤n∧n<x.To
theorem Ju (n:Int): ¬hs [] n:=fun ⟨_,h,_⟩=>by simp at h
theorem Gu {x:Span} {l:List Span} {n:Int}:hs (x::l) n↔(x.Fz≤n∧n<x.To)∨hs l n:=by
 constructor
 ·rintro ⟨y,hy,h⟩;rcases List.mem_cons.1 hy with rfl|hy
  ·exact .inl h
  ·exact .inr ⟨y,hy,h⟩
 ·rintro (h|⟨y,hy,h⟩)
  ·exact ⟨x,by simp,h⟩
  ·exact ⟨y,by simp [hy],h⟩
theorem ND {a b:List Span} {n:Int}:hs (a ++ b) n↔hs a n∨hs b n:=by
 constructor
 ·rintro ⟨y,hy,h⟩;rcases List.mem_append.1 hy with hy|hy
  ·exact .inl ⟨y,hy,h⟩
  ·exact .inr ⟨y,hy,h⟩
 ·rintro (⟨y,hy,h⟩|⟨y,hy,h⟩)
  ·exact ⟨y,by simp [hy],h⟩
  ·exact ⟨y,by simp [hy],h⟩
theorem QY {a b:List Span} (h:a.Perm b) {n:Int}:hs a n↔hs b n:=
 ⟨fun ⟨y,hy,k⟩=>⟨y,h.mem_iff.1 hy,k⟩,fun ⟨y,hy,k⟩=>⟨y,h.mem_iff.2 hy,k⟩⟩
theorem NE {l:List Span} {n:Int}:l.any (FJ n)=true↔hs l n:=by
 simp only [List.any_eq_true,FJ,Bool.and_eq_true,decide_eq_true_eq,hs]
theorem Gd.ne: ∀{l:List Span},Gd l→ ∀x∈l,x.Fz<x.To
 |y::l,h,x,hx=>by
  rcases List.mem_cons.1 hx with rfl|hx
  ·exact h.1
  ·exact Gd.ne h.2.2 x hx
theorem Gd.NF: ∀{l:List Span},Gd l→l.Pairwise fun x y=>x.To<y.Fz
 |[],_=>List.Pairwise.nil
 |_::_,h=>List.Pairwise.cons h.2.1 (Gd.NF h.2.2)
theorem Gd.of: ∀{l:List Span},(∀x∈l,x.Fz<x.To)→(l.Pairwise fun x y=>x.To<y.Fz)→Gd l
 |[],_,_=>trivial
 |x::l,h,p=>⟨h x (by simp),(List.pairwise_cons.1 p).1,Gd.of (fun y hy=>h y (by simp [hy])) (List.pairwise_cons.1 p).2⟩
theorem HH.cn {l:List Span} (h:HH l):Gd l:=Gd.of (fun x hx=>(h.sp x hx).2.1) h.QV
theorem Jv {x:Span} {l:List Span} (h: ∀y∈l,x.To<y.Fz) {n:Int} (hn:hs l n):x.To<n:=by
 obtain ⟨y,hy,h1,h2⟩:=hn;have:=h y hy;omega
theorem Gd.gU: ∀{l m:List Span},Gd l→Gd m→(∀n,hs l n↔hs m n)→l=m
 |[],[],_,_,_=>rfl
 |[],y::m,_,h,e=>absurd ((e y.Fz).2 (Gu.2 (.inl ⟨Int.le_refl _,h.1⟩))) (Ju _)
 |x::l,[],h,_,e=>absurd ((e x.Fz).1 (Gu.2 (.inl ⟨Int.le_refl _,h.1⟩))) (Ju _)
 |x::l,y::m,⟨h1,h2,h3⟩,⟨k1,k2,k3⟩,e=>by
  have a1:=Gu.1 ((e x.Fz).1 (Gu.2 (.inl ⟨Int.le_refl _,h1⟩)));have a2:=Gu.1 ((e y.Fz).2 (Gu.2 (.inl ⟨Int.le_refl _,k1⟩)));have QZ:x.Fz=y.Fz:=by
   rcases a1 with a1|a1
   ·rcases a2 with a2|a2
    ·omega
    ·have:=Jv h2 a2;omega
   ·have:=Jv k2 a1;rcases a2 with a2|a2
    ·omega
    ·have:=Jv h2 a2;omega
  have Q0:x.To=y.To:=by
   have b1: ¬x.To<y.To:=fun h=>by
    rcases Gu.1 ((e x.To).2 (Gu.2 (.inl ⟨by omega,h⟩))) with b|b
    ·omega
    ·have:=Jv h2 b;omega
   have b2: ¬y.To<x.To:=fun h=>by
    rcases Gu.1 ((e y.To).1 (Gu.2 (.inl ⟨by omega,h⟩))) with b|b
    ·omega
    ·have:=Jv k2 b;omega
   omega
  have Wg:x=y:=by cases x;cases y;simp only at QZ Q0;rw [QZ,Q0]
  subst Wg;congr 1;refine Gd.gU h3 k3 fun n=>⟨fun hn=> ?_,fun hn=> ?_⟩
  ·have:=Jv h2 hn;rcases Gu.1 ((e n).1 (Gu.2 (.inr hn))) with b|b
   ·omega
   ·exact b
  ·have:=Jv k2 hn;rcases Gu.1 ((e n).2 (Gu.2 (.inr hn))) with b|b
   ·omega
   ·exact b
theorem Wh (x:Span):Iu [] x=[x]:=rfl
theorem Wi (i:List Span) (z x:Span):Iu (i ++ [z]) x=if x.Fz≤z.To then i ++ [⟨z.Fz,if x.To>z.To then x.To else z.To⟩] else i ++ [z] ++ [x]:=by
 unfold Iu;simp only [List.getLast?_concat];by_cases h:x.Fz≤z.To
 ·rw [if_pos h,if_pos h,show (i ++ [z]).length-1=i.length by simp,List.set_append_right _ _ (by omega)]
  simp
 ·rw [if_neg h,if_neg h]
theorem OZ: ∀(r i:List Span) (z:Span),(∀x∈r,x.Fz<x.To)→(r.Pairwise fun x y=>x.Fz≤y.Fz)→(∀x∈r,z.Fz≤x.Fz)→Gd (i ++ [z])→Gd (r.foldl Iu (i ++ [z]))∧ ∀n,hs (r.foldl Iu (i ++ [z])) n↔hs (i ++ [z]) n∨hs r n
 |[],i,z,_,_,_,hc=>⟨hc,fun n=>⟨.inl,fun h=>h.resolve_right (Ju n)⟩⟩
 |x::r,i,z,h1,h2,h3,hc=>by
  have hx:=h1 x (by simp)
  have hz:=h3 x (by simp)
  have hp:=List.pairwise_cons.1 h2;have O0:=List.pairwise_append.1 hc.NF;have Z7:=hc.ne z (by simp)
  rw [List.foldl_cons,Wi];by_cases h:x.Fz≤z.To
  ·rw [if_pos h];have hm:z.To≤(if x.To>z.To then x.To else z.To)∧x.To≤(if x.To>z.To then x.To else z.To)∧((if x.To>z.To then x.To else z.To)=x.To∨(if x.To>z.To then x.To else z.To)=z.To):=by split<;>omega
   generalize (if x.To>z.To then x.To else z.To)=t at hm⊢;obtain ⟨c1,c2⟩:=OZ r i ⟨z.Fz,t⟩ (fun y hy=>h1 y (by simp [hy])) hp.2 (fun y hy=>h3 y (by simp [hy])) (Gd.of (fun y hy=>by
    rcases List.mem_append.1 hy with hy|hy
    ·exact hc.ne y (by simp [hy])
    ·obtain rfl:=List.mem_singleton.1 hy;show z.Fz<t;omega) (List.pairwise_append.2 ⟨O0.1,List.pairwise_singleton _ _,fun y hy w hw=>by
      obtain rfl:=List.mem_singleton.1 hw;exact O0.2.2 y hy z (by simp)⟩))
   refine ⟨c1,fun n=> ?_⟩;rw [c2,ND,ND,Gu,Gu,Gu];constructor
   ·rintro ((k|k)|k)
    ·exact .inl (.inl k)
    ·rcases k with k|k
     ·dsimp only at k;by_cases Wj:n<z.To
      ·exact .inl (.inr (.inl ⟨k.1,Wj⟩))
      ·exact .inr (.inl ⟨by omega,by omega⟩)
     ·exact absurd k (Ju n)
    ·exact .inr (.inr k)
   ·rintro ((k|k|k)|k|k)
    ·exact .inl (.inl k)
    ·exact .inl (.inr (.inl ⟨k.1,by dsimp only;omega⟩))
    ·exact absurd k (Ju n)
    ·exact .inl (.inr (.inl ⟨by dsimp only;omega,by dsimp only;omega⟩))
    ·exact .inr k
  ·rw [if_neg h];obtain ⟨c1,c2⟩:=OZ r (i ++ [z]) x (fun y hy=>h1 y (by simp [hy])) hp.2 (fun y hy=>hp.1 y hy) (Gd.of (fun y hy=>by
    rcases List.mem_append.1 hy with hy|hy
    ·exact hc.ne y hy
    ·obtain rfl:=List.mem_singleton.1 hy;exact hx) (List.pairwise_append.2 ⟨hc.NF,List.pairwise_singleton _ _,fun y hy w hw=>by
      obtain rfl:=List.mem_singleton.1 hw;rcases List.mem_append.1 hy with hy|hy
      ·have:=O0.2.2 y hy z (by simp)
       omega
      ·obtain rfl:=List.mem_singleton.1 hy;omega⟩))
   refine ⟨c1,fun n=> ?_⟩;rw [c2,ND,Gu,Gu];constructor
   ·rintro ((k|k|k)|k)
    ·exact .inl k
    ·exact .inr (.inl k)
    ·exact absurd k (Ju n)
    ·exact .inr (.inr k)
   ·rintro (k|k|k)
    ·exact .inl (.inl k)
    ·exact .inl (.inr (.inl k))
    ·exact .inr k
theorem Wk {l:List Span} (hl:l.length≤100000) (hb: ∀x∈l,0≤x.Fz∧x.Fz<x.To∧x.To≤1000000): ∃j,Kb l=some j∧Gd j∧ ∀n,hs j n↔hs l n:=by
 obtain ⟨r,h1,h2,h3⟩:=We hl fun x hx=>by have:=hb x hx;omega
 refine ⟨_,h3,?_⟩;have hr: ∀x∈r,x.Fz<x.To:=fun x hx=>(hb x (h1.mem_iff.1 hx)).2.1;cases r with
 |nil=>exact ⟨trivial,fun n=>QY h1⟩
 |cons x r=>
  obtain ⟨c1,c2⟩:=OZ r [] x (fun y hy=>hr y (by simp [hy])) (List.pairwise_cons.1 h2).2 (List.pairwise_cons.1 h2).1 ⟨hr x (by simp),fun y hy=>by simp at hy,trivial⟩
  rw [List.foldl_cons,Wh];refine ⟨c1,fun n=> ?_⟩;rw [show [x]=[] ++ [x] from rfl,c2,←QY h1,Gu,List.nil_append,Gu];exact ⟨fun h=>by
   rcases h with (h|h)|h
   ·exact .inl h
   ·exact absurd h (Ju n)
   ·exact .inr h,fun h=>by
   rcases h with h|h
   ·exact .inl (.inl h)
   ·exact .inr h⟩
theorem Gd.Wl {l:List Span} (h:Gd l) (hn: ∀n,hs l n→0≤n∧n<1000000): ∀x∈l,0≤x.Fz∧x.Fz<x.To∧x.To≤1000000:=fun x hx=>by
 have h1:=h.ne x hx;have h2:=hn x.Fz ⟨x,hx,Int.le_refl _,h1⟩;have h3:=hn (x.To-1) ⟨x,hx,by omega,by omega⟩
 omega
theorem Gd.Q1 {l:List Span} (h:Gd l) (hn: ∀n,hs l n→0≤n∧n<1000000) (hl:l.length≤20):HH l:=⟨hl,h.Wl hn,h.NF⟩
theorem HH.bY {l:List Span} (h:HH l) {n:Int} (hn:hs l n):0≤n∧n<1000000:=by
 obtain ⟨x,hx,h1,h2⟩:=hn;have:=h.sp x hx;omega
theorem Q2 (a b:Int):J7 a b=some (if a<b then a else b):=by
 unfold J7;by_cases h:a<b
 ·rw [Cc h,if_pos h];rfl
 ·rw [Fh h,if_neg h];rfl
theorem Wm (a b:Int):Lf a b=some (if b<a then a else b):=by
 unfold Lf;by_cases h:b<a
 ·rw [Cc h,if_pos h];rfl
 ·rw [Fh h,if_neg h];rfl
def mix (x y:Span):Span:=⟨if x.Fz<y.Fz then x.Fz else y.Fz,if y.To<x.To then x.To else y.To⟩
def HI:List Span→Span→List Span
 |[],x=>[x]
 |y::l,x=>if y.Fz≤x.To then HI l (mix x y) else x::y::l
def Hs (x y:Span):Bool:=decide (y.To<x.Fz)
def F6 (l:List Span) (x:Span):List Span:=l.takeWhile (Hs x) ++ HI (l.drop (l.takeWhile (Hs x)).length) x
theorem drop_cons {α :Type} {l:List α} {k:Nat} {y: α} {suf:List α} (h:l.drop k=y::suf):l.drop (k+1)=suf∧l[k]? =some y:=by
 constructor
 ·rw [←List.drop_drop,h];rfl
 ·have:=List.getElem?_drop (xs:=l) (i:=k) (j:=0);rw [h] at this;simpa using this.symm
theorem Q3 (x:Span) (n:Nat): ∀(suf:List Span) (k:Nat) (s:List Span),k+suf.length=n→eN (fun k y (s:List Span)=>if Hs x y then LR.next (s ++ [y]) else LR.done (s,(k:Int))) (fun s=>(s,(n:Int))) k suf s=(s ++ suf.takeWhile (Hs x),((k+(suf.takeWhile (Hs x)).length:Nat):Int))
 |[],k,s,h=>by simp only [List.length_nil] at h;simp [eN,←h]
 |y::suf,k,s,h=>by
  simp only [List.length_cons] at h;simp only [eN];cases hb:Hs x y
  ·simp [hb]
  ·simp only [if_true];rw [Q3 x n suf (k+1) _ (by omega)]
   simp [hb];omega
theorem Q4 (l:List Span): ∀(suf:List Span) (k:Nat) (x:Span),l.drop k=suf→k≤l.length→ ∃(k' :Nat) (z:Span),eN (fun k y (s:Span)=>if y.Fz≤s.To then LR.next (mix s y) else LR.done ((k:Int),s.Fz,s.To)) (fun s=>((l.length:Int),s.Fz,s.To)) k suf x=((k' :Int),z.Fz,z.To)∧k' ≤l.length∧HI suf x=z::l.drop k'
 |[],k,x,_,_=>⟨l.length,x,rfl,Nat.le_refl _,by simp [HI]⟩
 |y::suf,k,x,h,hk=>by
  obtain ⟨h1,h2⟩:=drop_cons h;have bK:k<l.length:=(List.getElem?_eq_some_iff.1 h2).1
  simp only [eN,HI];by_cases hc:y.Fz≤x.To
  ·rw [if_pos hc,if_pos hc];exact Q4 l suf (k+1) (mix x y) h1 (by omega)
  ·rw [if_neg hc,if_neg hc];exact ⟨k,x,rfl,hk,by rw [h]⟩
theorem Wn {α :Type} (p: α →Bool) (l:List α):(l.takeWhile p).length≤l.length:=by
 induction l with
 |nil=>simp
 |cons x xs ih=>simp only [List.takeWhile_cons];split<;>simp<;>omega
theorem Wo {l:List Span} (hl:l.length≤1048576) (x:Span):Ll l x=some (F6 l x):=by
 unfold Ll;have e0:=Ca l (Lg l x) (fun k (s:List Span)=>(s,k)) (fun k y (s:List Span)=>if Hs x y then LR.next (s ++ [y]) else LR.done (s,(k:Int))) (fun s=>(s,(l.length:Int))) (fun k s=>s.length≤k) (fun k hk s hs=>by
  refine ⟨?_,fun s' e=>by
   split at e
   ·obtain rfl:=LR.next.inj e;simp;omega
   ·cases e⟩
  simp only [Lg];rw [Cc (by omega),xH hk,BF (x:=(k:Int)+1) (by omega)]
  simp only [cond_true,Option.bind_some];unfold Hs;by_cases h:l[k].To<x.Fz
  ·simp only [decide_eq_true h,cond_true,if_true];rw [E8 (by simp<;>omega) (by omega)];rfl
  ·simp only [decide_eq_false h,cond_false];rfl) (fun s _=>by simp [Lg]) [] (by simp)
 rw [Q3 x l.length l 0 [] (by omega)] at e0
 rw [e0,Option.bind_some];dsimp only;have hw:=Wn (Hs x) l;rw [Nat.zero_add,List.nil_append];obtain ⟨k',z,e1,bK,e2⟩:=Q4 l (l.drop (l.takeWhile (Hs x)).length) (l.takeWhile (Hs x)).length x rfl hw;have e3:=B_ l (Li l) (fun k (s:Span)=>(k,s.Fz,s.To)) (fun k y (s:Span)=>if y.Fz≤s.To then LR.next (mix s y) else LR.done ((k:Int),s.Fz,s.To)) (fun s=>((l.length:Int),s.Fz,s.To)) (fun _ _=>True) (fun k hk s _=>by
  refine ⟨?_,fun _ _=>trivial⟩;simp only [Li];rw [Cc (by omega),xH hk,BF (x:=(k:Int)+1) (by omega)]
  simp only [cond_true,Option.bind_some,Q2,Wm];by_cases h:l[k].Fz≤s.To
  ·simp only [decide_eq_true h,cond_true,if_pos h];rfl
  ·simp only [decide_eq_false h,cond_false,if_neg h];rfl) (fun s _=>by simp [Li]) (l.length-(l.takeWhile (Hs x)).length) (l.takeWhile (Hs x)).length (by omega) x trivial
 rw [e1] at e3;rw [e3,Option.bind_some];dsimp only;rw [E8 (by simp<;>omega) (by omega),Option.bind_some,Ff (by omega) (by omega) (by omega),Option.bind_some]
 have e4:List.take ((l.length:Int).toNat-(k' :Int).toNat) (List.drop (k' :Int).toNat l)=l.drop k' :=by
  rw [Int.toNat_natCast,Int.toNat_natCast,List.take_of_length_le (by simp)]
 rw [e4,E8 (by simp<;>omega) (by omega),Option.bind_some]
 unfold F6;rw [e2];simp
theorem O1: ∀(l:List Span) (x:Span),Gd l→x.Fz<x.To→(∀y∈l,x.Fz≤y.To)→Gd (HI l x)∧(∀n,hs (HI l x) n↔(x.Fz≤n∧n<x.To)∨hs l n)∧(∀c,c<x.Fz→(∀y∈l,c<y.Fz)→ ∀w∈HI l x,c<w.Fz)∧(HI l x).length≤l.length+1
 |[],x,_,hx,_=>⟨⟨hx,fun y hy=>by simp at hy,trivial⟩,fun n=>by simp only [HI];exact Gu,fun c hc _ w hw=>by obtain rfl:=List.mem_singleton.1 hw;exact hc,by simp [HI]⟩
 |y::l,x,⟨h1,h2,h3⟩,hx,hy=>by
  have yJ:=hy y (by simp)
  simp only [HI];by_cases h:y.Fz≤x.To
  ·rw [if_pos h];have m1:(mix x y).Fz≤x.Fz∧(mix x y).Fz≤y.Fz∧((mix x y).Fz=x.Fz∨(mix x y).Fz=y.Fz):=by simp only [mix];split<;>omega
   have m2:x.To≤(mix x y).To∧y.To≤(mix x y).To∧((mix x y).To=x.To∨(mix x y).To=y.To):=by simp only [mix];split<;>omega
   obtain ⟨c1,c2,c3,c4⟩:=O1 l (mix x y) h3 (by omega) (fun w hw=>by
    have a1:=h2 w hw;have a2:=h3.ne w hw;omega)
   refine ⟨c1,fun n=> ?_,fun c hc hl w hw=>c3 c (by have:=hl y (by simp);omega) (fun v hv=>hl v (by simp [hv])) w hw,by simp only [List.length_cons];omega⟩
   rw [c2,Gu];constructor
   ·rintro (k|k)
    ·by_cases k1:x.Fz≤n∧n<x.To
     ·exact .inl k1
     ·exact .inr (.inl (by omega))
    ·exact .inr (.inr k)
   ·rintro (k|k|k)
    ·exact .inl (by omega)
    ·exact .inl (by omega)
    ·exact .inr k
  ·rw [if_neg h];refine ⟨⟨hx,fun w hw=> ?_,h1,h2,h3⟩,fun n=>Gu,fun c hc hl w hw=> ?_,by simp⟩
   ·rcases List.mem_cons.1 hw with rfl|hw
    ·omega
    ·have:=h2 w hw;omega
   ·rcases List.mem_cons.1 hw with rfl|hw
    ·exact hc
    ·exact hl w hw
theorem KD: ∀(l:List Span) (x:Span),Gd l→x.Fz<x.To→Gd (F6 l x)∧(∀n,hs (F6 l x) n↔(x.Fz≤n∧n<x.To)∨hs l n)∧(∀c,c<x.Fz→(∀y∈l,c<y.Fz)→ ∀w∈F6 l x,c<w.Fz)∧(F6 l x).length≤l.length+1
 |[],x,h,hx=>O1 [] x h hx (fun y hy=>by simp at hy)
 |y::l,x,⟨h1,h2,h3⟩,hx=>by
  by_cases hb:y.To<x.Fz
  ·have e:F6 (y::l) x=y::F6 l x:=by simp [F6,Hs,hb]
   obtain ⟨c1,c2,c3,c4⟩:=KD l x h3 hx;rw [e];refine ⟨⟨h1,c3 _ hb h2,c1⟩,fun n=> ?_,fun c hc hl w hw=> ?_,by simp only [List.length_cons];omega⟩
   ·rw [Gu,c2,Gu];constructor
    ·rintro (k|k|k)
     ·exact .inr (.inl k)
     ·exact .inl k
     ·exact .inr (.inr k)
    ·rintro (k|k|k)
     ·exact .inr (.inl k)
     ·exact .inl k
     ·exact .inr (.inr k)
   ·rcases List.mem_cons.1 hw with rfl|hw
    ·exact hl w (by simp)
    ·exact c3 c hc (fun v hv=>hl v (by simp [hv])) w hw
  ·have e:F6 (y::l) x=HI (y::l) x:=by simp [F6,Hs,hb]
   rw [e];exact O1 (y::l) x ⟨h1,h2,h3⟩ hx fun w hw=>by
    rcases List.mem_cons.1 hw with rfl|hw
    ·omega
    ·have:=h2 w hw;have:=h3.ne w hw;omega
theorem Wp {l:List Span} (hl:l.length≤1000):KZ l l=some true:=by
 unfold KZ;rw [bne_self_eq_false,cond_false,Cb l (KY l l) (fun k (_:Unit)=>k) (fun _ _ s=> .next s) (fun _=> .next ()) (fun k hk s=>by
  simp only [KY];rw [Cc (by omega),xH hk,BF (by omega)]
  simp;rfl) (fun s=>by simp [KY]) (),E_ (fun s _=>s) (fun _ _ _=>rfl)]
 rfl
def Gs (p:Int→Bool):Nat→Nat
 |0=>0
 |N+1=>Gs p N+(p N).toNat
theorem Q5 (p q:Int→Bool) (N:Nat):Gs (fun n=>p n||q n) N+Gs (fun n=>p n&&q n) N=Gs p N+Gs q N:=by
 induction N with
 |zero=>rfl
 |succ N ih=>
  simp only [Gs];cases p N<;>cases q N<;>simp only [Bool.or_false,Bool.or_true,Bool.and_false,Bool.and_true,Bool.toNat_true,Bool.toNat_false]<;>omega
theorem O2 {p:Int→Bool} (h: ∀n,p n=false) (N:Nat):Gs p N=0:=by
 induction N with
 |zero=>rfl
 |succ N ih=>simp only [Gs,ih,h];rfl
theorem O3 (x:Span) (h0:0≤x.Fz) (h1:x.Fz<x.To) (N:Nat):(Gs (fun n=>FJ n x) N:Int)=if (N:Int)≤x.Fz then 0 else if (N:Int)≤x.To then N-x.Fz else x.To-x.Fz:=by
 induction N with
 |zero=>simp [Gs,h0]
 |succ N ih=>
  simp only [Gs];have e:FJ (N:Int) x=decide (x.Fz≤(N:Int)∧(N:Int)<x.To):=by
   unfold FJ;rw [Bool.decide_and]
  rw [e];by_cases h:x.Fz≤(N:Int)∧(N:Int)<x.To
  ·rw [Cc h,Bool.toNat_true]
   push_cast
   rw [ih];repeat' split
   all_goals omega
  ·rw [Fh h,Bool.toNat_false]
   push_cast
   rw [Int.add_zero,ih];repeat' split
   all_goals omega
def Ih (l:List Span):Int:=(l.map fun x=>x.To-x.Fz).sum
theorem Q6 (N:Nat): ∀(l:List Span),Gd l→(∀x∈l,0≤x.Fz∧x.To≤N)→Ih l=(Gs (fun n=>l.any (FJ n)) N:Int)
 |[],_,_=>by rw [O2 (p:=fun n=>([]:List Span).any (FJ n)) (fun n=>rfl)];rfl
 |x::l,⟨h1,h2,h3⟩,hb=>by
  have hx:=hb x (by simp)
  have e1:=Q5 (fun n=>FJ n x) (fun n=>l.any (FJ n)) N;have e2:=O2 (p:=fun n=>FJ n x&&l.any (FJ n)) (fun n=>by
   by_cases k:hs l n
   ·have:=Jv h2 k;unfold FJ;rw [Fh (show¬n<x.To by omega)]
    simp
   ·have:l.any (FJ n)=false:=by
     rw [Bool.eq_false_iff];exact fun q=>k (NE.1 q)
    simp [this]) N
  have e3:=O3 x hx.1 h1 N;have e4:=Q6 N l h3 fun y hy=>hb y (by simp [hy])
  have e5:(fun n=>(x::l).any (FJ n))=fun n=>FJ n x||l.any (FJ n):=rfl;have e6:Ih (x::l)=(x.To-x.Fz)+Ih l:=by simp [Ih]
  rw [e5,e6,e4];rw [if_neg (by omega)] at e3
  have e7:(Gs (fun n=>FJ n x) N:Int)=x.To-x.Fz:=by
   rw [e3];split<;>omega
  omega
theorem Q7: ∀(l:List Span) (s:Int),(∀x∈l,0≤x.Fz∧x.Fz<x.To∧x.To≤1000000)→0≤s→s+1000000*(l.length:Int)≤4000000000000000000→l.foldl (fun n x=>IntKind.i64.wrap (n+IntKind.i64.wrap (x.To-x.Fz))) s=s+Ih l∧0≤Ih l∧Ih l≤1000000*(l.length:Int)
 |[],s,_,_,_=>by simp [Ih]
 |x::l,s,h,h0,h1=>by
  have hx:=h x (by simp)
  simp only [List.length_cons] at h1
  push_cast at h1
  have e6:Ih (x::l)=(x.To-x.Fz)+Ih l:=by simp [Ih]
  obtain ⟨a1,a2,a3⟩:=Q7 l (s+(x.To-x.Fz)) (fun y hy=>h y (by simp [hy])) (by omega) (by omega)
  rw [List.foldl_cons,BF (x:=x.To-x.Fz) (by omega),BF (by omega),a1,e6]
  simp only [List.length_cons]
  push_cast
  omega
theorem HH.GU {l:List Span} (h:HH l):GU l=(Gs (fun n=>l.any (FJ n)) 1000000:Int)∧0≤Go.Hm.GU l∧Go.Hm.GU l≤20000000:=by
 obtain ⟨a1,a2,a3⟩:=Q7 l 0 h.sp (by omega) (by have:=h.len;omega)
 have e:=Q6 1000000 l h.cn fun x hx=>by have:=h.sp x hx;exact ⟨this.1,this.2.2⟩
 have hl:=h.len;unfold Go.Hm.GU;rw [a1,Int.zero_add];exact ⟨e,a2,by omega⟩
theorem Q8 {x:Span}:HX x=true↔0≤x.Fz∧x.Fz<x.To∧x.To≤1000000:=by
 unfold HX;rw [decide_eq_true_eq]
def tell (l:List Span):List Span×Bool:=if l.length≤20 then (l,true) else ([],false)
theorem Wq (l:List Span):Kc l=some (tell l):=Wf
def O4 (l:List Span) (x:Span):List Span×Int×Bool:=if IX l&&HX x then (if (F6 l x).length≤20 then (F6 l x,IntKind.i64.wrap (GU (F6 l x)-GU l),true) else ([],0,false)) else ([],0,false)
theorem Wr {α :Type} {A B:Bool} {k:Option α} {z: α} {v: α} (h:A=true→B=true→k=some v):((some A).bind fun FN=>(bif (!FN) then some true else (some B).bind fun Gm=>some (!Gm))).bind (fun Gx=>bif Gx then some z else k)=some (if A&&B then v else z):=by
 cases A
 ·rfl
 ·cases B
  ·rfl
  ·simp only [Option.bind_some,Bool.not_true,cond_false,Bool.and_self,if_true];exact h rfl rfl
theorem Ws {l:List Span} (hl:l.length≤100) (x:Span):KV l x=some (O4 l x):=by
 unfold KV O4;rw [QU (by omega),OY]
 refine Wr fun h1 h2=> ?_;have p1:=NB.1 h1;have hx:=Q8.1 h2;obtain ⟨a1,a2,a3,a4⟩:=KD l x p1.cn hx.2.1;obtain ⟨j,e,j1,j2⟩:=Wk (l:=l ++ [x]) (by simp<;>omega) (fun y hy=>by
  rcases List.mem_append.1 hy with hy|hy
  ·exact p1.sp y hy
  ·obtain rfl:=List.mem_singleton.1 hy;exact hx)
 have Wt:j=F6 l x:=j1.gU a1 fun n=>by
  rw [j2,a2,ND,Gu];exact ⟨fun h=>by
   rcases h with h|h|h
   ·exact .inr h
   ·exact .inl h
   ·exact absurd h (Ju n),fun h=>by
   rcases h with h|h
   ·exact .inr (.inl h)
   ·exact .inl h⟩
 unfold KT;rw [E8 (by simp<;>omega) (by omega),Option.bind_some,List.nil_append,E8 (by simp<;>omega) (by omega),Option.bind_some,e,Option.bind_some,Wt,Wq,Option.bind_some]
 unfold tell;by_cases h:(F6 l x).length≤20
 ·rw [if_pos h,if_pos h];simp only [Bool.not_true,cond_false];rw [NC (by omega),NC (by omega)]
  rfl
 ·rw [if_neg h,if_neg h];rfl
abbrev hb (l:List Span) (n:Int):Bool:=l.any (FJ n)
structure JY (l:List Span) (n:Int):Prop where
 sp:HH l
 lt: ∀m,hs l m→m<n
def Jw (l:List Span):Span:=l.getD (l.length-1) ⟨0,0⟩
theorem Wu {l:List Span} (h:0<l.length):Jw l∈l:=by
 unfold Jw;rw [List.getD_eq_getElem?_getD,List.getElem?_eq_getElem (by omega)]
 exact List.getElem_mem _
theorem Wv {l:List Span} (h:HH l) {x:Span} (hx:x∈l):x.To≤(Jw l).To:=by
 obtain ⟨i,hi,rfl⟩:=List.getElem_of_mem hx;unfold Jw;rw [List.getD_eq_getElem?_getD,List.getElem?_eq_getElem (by omega)]
 simp only [Option.getD_some];by_cases e:i=l.length-1
 ·subst e;exact Int.le_refl _
 ·have h1:=List.pairwise_iff_getElem.1 h.QV i (l.length-1) hi (by omega) (by omega)
  have h2:=(h.sp _ (List.getElem_mem (l:=l) (n:=l.length-1) (by omega))).2.1
  omega
theorem Ww {l:List Span} (h:HH l) {n:Int}:JY l n↔(l.length=0∨(Jw l).To≤n):=by
 constructor
 ·rintro ⟨_,h2⟩;by_cases h0:l.length=0
  ·exact .inl h0
  ·right;have hm:=Wu (l:=l) (by omega)
   have:=(h.sp _ hm).2.1;have:=h2 ((Jw l).To-1) ⟨_,hm,by omega,by omega⟩
   omega
 ·intro h2;refine ⟨h,fun m ⟨x,hx,h3,h4⟩=> ?_⟩;have h5:=Wv h hx;rcases h2 with h2|h2
  ·rw [List.eq_nil_of_length_eq_zero h2] at hx;simp at hx
  ·omega
theorem Q9 {l:List Span} (hl:l.length≤1048576) (n:Int) {g:List Span→Option Bool} (hg:g l=some (IX l)):
 ∃b,((g l).bind fun b3=>(bif b3 then (bif ((l.length:Int)==0) then some true else (idx l (IntKind.i64.wrap ((l.length:Int)-1))).bind fun Gk=>some (decide (Gk.To≤n))) else some false))=some b∧(b=true↔JY l n):=by
 rw [hg,Option.bind_some];cases h:IX l
 ·exact ⟨false,rfl,by simp;intro hb;have:=NB.2 hb.sp;rw [h] at this;simp at this⟩
 ·have hs:=NB.1 h;rw [Ww hs,cond_true];by_cases h0:l.length=0
  ·refine ⟨true,?_,by simp [h0]⟩
   rw [h0];rfl
  ·refine ⟨decide ((Jw l).To≤n),?_,by simp [h0]⟩
   rw [show ((l.length:Int)==0)=false by rw [beq_eq_false_iff_ne];omega,cond_false,BF (by omega),Fb (by omega) (by omega),Option.bind_some]
   unfold Jw;rw [List.getD_eq_getElem?_getD,List.getElem?_eq_getElem (by omega)]
   have e:((l.length:Int)-1).toNat=l.length-1:=by omega
   simp only [Option.getD_some,e]
theorem Wx {l:List Span} (hl:l.length≤1048576) (n:Int): ∃b,KM l n=some b∧(b=true↔JY l n):=Q9 hl n (QU hl)
theorem Wy {l:List Span} (hl:l.length≤1048576) (n:Int): ∃b,Lb l n=some b∧(b=true↔JY l n):=Q9 hl n (Wa hl)
noncomputable def IY (l:List Span) (n:Int):Bool:= @decide (JY l n) (Classical.propDecidable _)
theorem O5 {l:List Span} {n:Int}:IY l n=true↔JY l n:=by simp [IY]
theorem Wz {l:List Span} (h1:l.length≤1048576) (n:Int):KM l n=some (IY l n):=by
 obtain ⟨b,e,h⟩:=Wx h1 n;rw [e,show b=IY l n by rw [Bool.eq_iff_iff,h,O5]]
theorem WA {l:List Span} (h1:l.length≤1048576) (n:Int):Lb l n=some (IY l n):=by
 obtain ⟨b,e,h⟩:=Wy h1 n;rw [e,show b=IY l n by rw [Bool.eq_iff_iff,h,O5]]
def GZ (a n:Int):Bool:=HD a 0 1000&&HD n 1 40
theorem NG (a n:Int):I6 a n=some (GZ a n):=by
 unfold I6 GZ;rw [Nw,Option.bind_some,Nw];cases HD a 0 1000<;>rfl
theorem NH (a n:Int):I9 a n=some (GZ a n):=by
 unfold I9 GZ;rw [Nv,Option.bind_some,Nv];cases HD a 0 1000<;>rfl
theorem IZ {a n:Int}:GZ a n=true↔(0≤a∧a≤1000)∧1≤n∧n≤40:=by simp [GZ,OV]
def FF (t:List UInt8):Nat:=(t.length+3)/4
def FH (a:Int) (t:List UInt8) (k:Nat):Part:=⟨a,((4*k:Nat):Int),t.length,(t.drop (4*k)).take 4⟩
def Hd (a:Int) (t:List UInt8) (m:Nat):List Part:=(List.range m).map (FH a t)
theorem I0 (a:Int) (t:List UInt8) (m:Nat):(Hd a t m).length=m:=by simp [Hd]
theorem WB (a:Int) (t:List UInt8) (m:Nat):Hd a t (m+1)=Hd a t m ++ [FH a t m]:=by
 simp [Hd,List.range_succ]
theorem Q_ {a:Int} {t:List UInt8} (h:t.length≤1000) {f:List Part×Int→Option (LR (List Part×Int) (List Part))}
 (hf: ∀(k:Nat) (x:List Part),4*k<t.length→x.length≤1000→f (x,((4*k:Nat):Int))=some (.next (x ++ [FH a t k],((4*(k+1):Nat):Int))))
 (hz: ∀(k:Nat) (x:List Part),t.length≤4*k→f (x,((4*k:Nat):Int))=some (.done x)):eZ f ([],0)=some (Hd a t (FF t)):=by
 refine E7 (fun x:List Part×Int=>FF t*4-x.2.toNat) (fun x=> ∃k:Nat,k≤FF t∧x=(Hd a t k,((4*k:Nat):Int))) _ ?_ _ ⟨0,Nat.zero_le _,rfl⟩;rintro _ ⟨k,hk,rfl⟩;by_cases az:4*k<t.length
 ·refine ⟨_,hf k _ az (by rw [I0];omega),⟨k+1,by unfold FF;omega,?_⟩,?_⟩
  ·rw [WB]
  ·have:k<FF t:=by unfold FF;omega
   simp only;omega
 ·refine ⟨_,hz k _ (by omega),?_⟩
  have:k=FF t:=by unfold FF at hk⊢;omega
  simp only;rw [this]
theorem Ra {t:List UInt8} {k:Nat} (h:4*k<t.length) (n:Nat) (hn:n=min t.length (4*k+4)):(t.drop (4*k)).take (n-4*k)=(t.drop (4*k)).take 4:=by
 by_cases h4:4*k+4≤t.length
 ·rw [hn,Nat.min_eq_right h4];congr 1;omega
 ·rw [hn,Nat.min_eq_left (by omega),List.take_of_length_le (by simp),List.take_of_length_le (by simp<;>omega)]
def I1 (a:Int) (t:List UInt8):List Part×Bool:=if GZ a t.length then (Hd a t (FF t),true) else ([],false)
theorem WC {a:Int} {t:List UInt8} (h:t.length≤1000):KH a t=some (I1 a t):=by
 unfold KH I1;rw [NG,Option.bind_some];cases GZ a t.length
 ·rfl
 ·rw [Q_ (a:=a) h (fun k x hk hx=> ?_) (fun k x hk=> ?_)]
  ·rfl
  ·simp only [Mw];rw [Cc (by omega),cond_true,BF (by omega),Ff (by omega) (by split<;>omega) (by split<;>omega),Option.bind_some,E8 (by simp<;>omega) (by omega),Option.bind_some]
   rw [show (((4*k:Nat):Int)).toNat=4*k by omega,Ra hk _ (by split<;>omega)]
   simp only [FH];congr 3
  ·simp only [Mw];rw [Fh (by omega)];rfl
theorem O6 {a:Int} {t:List UInt8} (h:t.length≤1000):JD a t=some (I1 a t):=by
 unfold JD I1;rw [NH,Option.bind_some];cases GZ a t.length
 ·rfl
 ·rw [Q_ (a:=a) h (fun k x hk hx=> ?_) (fun k x hk=> ?_)]
  ·rfl
  ·simp only [Mx];rw [Cc (by omega),cond_true,BF (by omega),Q2,Option.bind_some,Ff (by omega) (by split<;>omega) (by split<;>omega),Option.bind_some,E8 (by simp<;>omega) (by omega),Option.bind_some]
   rw [show (((4*k:Nat):Int)).toNat=4*k by omega,Ra hk _ (by split<;>omega)]
   simp only [FH];congr 3
  ·simp only [Mx];rw [Fh (by omega)];rfl
def Mr (b:FD):Bool:=HW (fun k (c:UInt8)=>(c.toNat:Int)==0||hb b.Has (k:Int)) 0 b.Text
noncomputable def Hl (b:FD):Bool:=GZ b.Id b.Fw&&(decide ((b.Text.length:Int)=b.Fw)&&(IY b.Has b.Fw&&Mr b))
theorem Rb {b:FD} {g:Option Bool} {w:Option (LR Unit Bool)} (hg:g=some (IY b.Has b.Fw)) (hw:(b.Text.length:Int)=b.Fw→b.Text.length≤40→w=some (if Mr b then LR.next () else LR.done false)):
 ((some (GZ b.Id b.Fw)).bind fun FE=>(bif (!FE) then some (true) else (bif ((b.Text.length:Int) !=b.Fw) then some (true) else g.bind fun F8=>some ((!F8))))).bind (fun FU=>(bif FU then some false else w.bind fun y=>match y with|LR.next ()=>some true|LR.done z=>some z))=some (Hl b):=by
 unfold Hl;cases h1:GZ b.Id b.Fw
 ·rfl
 ·by_cases h2:(b.Text.length:Int)=b.Fw
  ·rw [hg,hw h2 (by have:=IZ.1 h1;omega)]
   simp only [Option.bind_some,Bool.not_true,cond_false,h2,bne_self_eq_false,decide_true,Bool.true_and];cases IY b.Has b.Fw
   ·rfl
   ·cases Mr b<;>rfl
  ·simp only [Option.bind_some,Bool.not_true,cond_false,show ((b.Text.length:Int) !=b.Fw)=true from bne_iff_ne.2 h2,cond_true,h2,decide_false,Bool.false_and,Bool.and_false]
theorem NI {b:FD} (h:b.Has.length≤1048576):Iz b=some (Hl b):=by
 unfold Iz;rw [NG,Wz h];refine Rb rfl fun h2 h3=> ?_;rw [Cb b.Text (KP b) (fun k (_:Unit)=>k) (fun k c s=>if (c.toNat:Int)==0||hb b.Has (k:Int) then .next s else .done (.done false)) (fun _=> .next ()) (fun k hk s=>by
  simp only [KP];rw [Cc (by omega),cond_true,xH hk,Option.bind_some,QW h,BF (by omega),Option.bind_some]
  cases h5:((b.Text[k].toNat:Int)==0)
  ·rw [show ((b.Text[k].toNat:Int) !=0)=true by rw [bne,h5];rfl]
   rcases Bool.eq_false_or_eq_true (b.Has.any (FJ (k:Int))) with h6|h6<;>simp [h6,LR.n1]
  ·rw [show ((b.Text[k].toNat:Int) !=0)=false by rw [bne,h5];rfl]
   rfl) (fun s=>by simp only [KP];rw [Fh (by omega)];rfl) (),NA (fun k (c:UInt8)=>(c.toNat:Int)==0||hb b.Has (k:Int)) _ (fun _ _ _=>rfl)]
 rfl
theorem O7 {b:FD} (h:b.Has.length≤1048576):Jf b=some (Hl b):=by
 unfold Jf;rw [NH,WA h];refine Rb rfl fun h2 h3=> ?_;rw [Cb b.Text (Ld b) (fun k (_:Unit)=>k) (fun k c s=>if (c.toNat:Int)==0||hb b.Has (k:Int) then .next s else .done (.done false)) (fun _=> .next ()) (fun k hk s=>by
  simp only [Ld];rw [Cc (by omega),cond_true,xH hk,Option.bind_some,QX h,BF (by omega),Option.bind_some]
  cases h5:((b.Text[k].toNat:Int)==0)
  ·rw [show ((b.Text[k].toNat:Int) !=0)=true by rw [bne,h5];rfl]
   rcases Bool.eq_false_or_eq_true (b.Has.any (FJ (k:Int))) with h6|h6<;>simp [h6,LR.n1]
  ·rw [show ((b.Text[k].toNat:Int) !=0)=false by rw [bne,h5];rfl]
   rfl) (fun s=>by simp only [Ld];rw [Fh (by omega)];rfl) (),NA (fun k (c:UInt8)=>(c.toNat:Int)==0||hb b.Has (k:Int)) _ (fun _ _ _=>rfl)]
 rfl
theorem sLen {l:List Span} (hl:l.length≤1048576):MI l=some (GU l):=NC hl
noncomputable def Iv (b:FD):Bool×Bool:=if Hl b then (GU b.Has==b.Fw,true) else (false,false)
theorem O8 {b:FD} (h:b.Has.length≤1048576):Jb b=some (Iv b):=by
 unfold Jb MA Iv;rw [NI h,Option.bind_some,NC h];cases Hl b<;>rfl
theorem WD {b:FD} (h:b.Has.length≤1048576):Kk b=some (Iv b):=by
 unfold Kk MJ Iv;rw [O7 h,Option.bind_some,sLen h];cases Hl b<;>rfl
def HJ (p:Part):Bool:=GZ p.Id p.Fw&&(HD p.Text.length 1 4&&HD p.At 0 (p.Fw-p.Text.length))
theorem WE {p:Part} (h:p.Text.length≤1000):KS p=some (HJ p):=by
 unfold KS HJ;rw [NG,Option.bind_some];cases h1:GZ p.Id p.Fw
 ·rfl
 ·have:=IZ.1 h1;rw [Nw,Option.bind_some,BF (by omega),Nw,Option.bind_some]
  cases HD p.Text.length 1 4<;>rfl
theorem WG {p:Part} (h:p.Text.length≤1000):Le p=some (HJ p):=by
 unfold Le HJ;rw [NH,Option.bind_some];cases h1:GZ p.Id p.Fw
 ·rfl
 ·have:=IZ.1 h1;rw [Nv,Option.bind_some,BF (by omega),Nv,Option.bind_some]
  cases HD p.Text.length 1 4<;>rfl
theorem Rc (s:List UInt8):qF (nW s)=s:=by
 simp only [qF,nW,List.map_map];induction s with
 |nil=>rfl
 |cons c s ih=>simp only [List.map_cons,Function.comp,Int.toNat_natCast,ih];simp
theorem Re (s:List UInt8) (i:Nat) (c:UInt8):(nW s).set i (c.toNat:Int)=nW (s.set i c):=by simp [nW,List.map_set]
theorem Rf (s:List UInt8):(nW s).length=s.length:=by simp [nW]
theorem WH {l:List UInt8} {n:Nat} (h:n<l.length) (hc:(l[n]).toNat<128):jr l n=n+1:=by
 have hs:n<(⟨l.toArray⟩:ByteArray).size:=by simpa [ByteArray.size] using h
 have he:((⟨l.toArray⟩:ByteArray)[n]'hs)=l[n]:=rfl;unfold jr;rw [if_pos h];simp only [Utf8.decode,get_at _ n hs,he,hc,if_true]
def GJ (f:Int→Bool) (A:Int) (t s:List UInt8):Nat→List UInt8
 |0=>t
 |j+1=>if f (A+j) then GJ f A t s j else (GJ f A t s j).set (A+j).toNat (s.getD j 0)
def G0 (f:Int→Bool) (A:Int):Nat→Nat
 |0=>0
 |j+1=>if f (A+j) then G0 f A j else G0 f A j+1
theorem JZ (f:Int→Bool) (A:Int) (t s:List UInt8): ∀j,(GJ f A t s j).length=t.length
 |0=>rfl
 |j+1=>by
  simp only [GJ];split
  ·exact JZ f A t s j
  ·rw [List.length_set];exact JZ f A t s j
theorem O9 (f:Int→Bool) (A:Int): ∀j,G0 f A j≤j
 |0=>Nat.le_refl _
 |j+1=>by have:=O9 f A j;simp only [G0];split<;>omega
theorem Rg (f:Int→Bool) {A:Int} (hA:0≤A) (t s:List UInt8) (i:Nat): ∀j:Nat,A+j≤t.length→(GJ f A t s j).getD i 0=if (A≤i∧(i:Int)<A+j)∧f i=false then s.getD (i-A.toNat) 0 else t.getD i 0
 |0,_=>by rw [if_neg (by omega)];rfl
 |j+1,h=>by
  have ih:=Rg f hA t s i j (by omega)
  simp only [GJ];by_cases hi:(i:Int)=A+j
  ·have e1:(A+(j:Int)).toNat=i:=by omega
   have e2:i-A.toNat=j:=by omega
   rw [if_neg (by omega)] at ih
   split
   ·rename_i hf;rw [←hi] at hf;rw [if_neg (by simp [hf]),ih]
   ·rename_i hf;rw [←hi] at hf;rw [if_pos ⟨⟨by omega,by omega⟩,by simpa using hf⟩,e1,e2,List.getD_eq_getElem?_getD,List.getElem?_set,if_pos rfl,if_pos (by rw [JZ];omega)]
    rfl
  ·have h3:((A≤(i:Int)∧(i:Int)<A+((j+1:Nat):Int))∧f i=false)↔((A≤(i:Int)∧(i:Int)<A+j)∧f i=false):=by
    constructor
    ·rintro ⟨⟨a,b⟩,c⟩;exact ⟨⟨a,by omega⟩,c⟩
    ·rintro ⟨⟨a,b⟩,c⟩;exact ⟨⟨a,by omega⟩,c⟩
   simp only [h3];rw [←ih];split
   ·rfl
   ·rw [List.getD_eq_getElem?_getD,List.getElem?_set,if_neg (by omega),←List.getD_eq_getElem?_getD]
def F9 (p:Part):Span:=⟨p.At,p.At+p.Text.length⟩
theorem J0 {p:Part}:HJ p=true↔((0≤p.Id∧p.Id≤1000)∧1≤p.Fw∧p.Fw≤40)∧(1≤p.Text.length∧p.Text.length≤4)∧0≤p.At∧p.At+p.Text.length≤p.Fw:=by
 unfold HJ;rw [Bool.and_eq_true,Bool.and_eq_true,IZ,OV,OV];constructor
 ·rintro ⟨h1,h2,h3⟩;exact ⟨h1,⟨by omega,by omega⟩,by omega,by omega⟩
 ·rintro ⟨h1,h2,h3⟩;exact ⟨h1,⟨by omega,by omega⟩,by omega,by omega⟩
theorem Jx {b:FD}:Hl b=true↔((0≤b.Id∧b.Id≤1000)∧1≤b.Fw∧b.Fw≤40)∧(b.Text.length:Int)=b.Fw∧JY b.Has b.Fw∧Mr b=true:=by
 unfold Hl;rw [Bool.and_eq_true,Bool.and_eq_true,Bool.and_eq_true,IZ,decide_eq_true_eq,O5]
theorem WI {b:FD} {p:Part} (kg:Hl b=true) (hp:HJ p=true) (hl:p.Fw=b.Fw):eZ (KX b p) (nW b.Text,0)=some (nW (GJ (hb b.Has) p.At b.Text p.Text p.Text.length)):=by
 obtain ⟨g1,g2,g3,g4⟩:=Jx.1 kg;obtain ⟨p1,p2,p3,p4⟩:=J0.1 hp;have hH:b.Has.length≤1048576:=by have:=g3.sp.len;omega
 refine E7 (fun x:List Int×Int=>p.Text.length-x.2.toNat) (fun x=> ∃j:Nat,j≤p.Text.length∧x=(nW (GJ (hb b.Has) p.At b.Text p.Text j),(j:Int))) _ ?_ _ ⟨0,Nat.zero_le _,rfl⟩;rintro _ ⟨j,hj,rfl⟩;by_cases az:j<p.Text.length
 ·refine ⟨.next (nW (GJ (hb b.Has) p.At b.Text p.Text (j+1)),((j+1:Nat):Int)),?_,⟨j+1,az,rfl⟩,by simp only;omega⟩
  simp only [KX];rw [Cc (by omega),cond_true,BF (by omega),QW hH,Option.bind_some]
  rcases Bool.eq_false_or_eq_true (b.Has.any (FJ (p.At+(j:Int)))) with h6|h6
  ·rw [h6];simp only [Bool.not_true,cond_false,Option.bind_some,GJ,h6,if_true];rw [BF (by omega)];rfl
  ·rw [h6];simp only [Bool.not_false,cond_true,GJ,h6,Bool.false_eq_true,if_false];rw [xH az,Option.bind_some,Fb (by omega) (by rw [Rf,JZ];omega),Option.bind_some,Option.bind_some,Option.bind_some,Re,BF (by omega)]
   simp [List.getD_eq_getElem?_getD,List.getElem?_eq_getElem az]
 ·obtain rfl:j=p.Text.length:=by omega
  refine ⟨.done (nW (GJ (hb b.Has) p.At b.Text p.Text p.Text.length)),?_,rfl⟩;simp only [KX];rw [Fh (by omega)];rfl
theorem WJ {b:FD} {p:Part} (kg:Hl b=true) (hp:HJ p=true) (hl:p.Fw=b.Fw) (hc: ∀c∈p.Text,c.toNat<128):eZ (Ln b p) (nW b.Text,0,0)=some (nW (GJ (hb b.Has) p.At b.Text p.Text p.Text.length),(G0 (hb b.Has) p.At p.Text.length:Int)):=by
 obtain ⟨g1,g2,g3,g4⟩:=Jx.1 kg;obtain ⟨p1,p2,p3,p4⟩:=J0.1 hp;have hH:b.Has.length≤1048576:=by have:=g3.sp.len;omega
 refine E7 (fun x:List Int×Int×Nat=>p.Text.length-x.2.2) (fun x=> ∃j:Nat,j≤p.Text.length∧x=(nW (GJ (hb b.Has) p.At b.Text p.Text j),(G0 (hb b.Has) p.At j:Int),j)) _ ?_ _ ⟨0,Nat.zero_le _,rfl⟩;rintro _ ⟨j,hj,rfl⟩;have Z8:=O9 (hb b.Has) p.At j;by_cases az:j<p.Text.length
 ·refine ⟨.next (nW (GJ (hb b.Has) p.At b.Text p.Text (j+1)),((G0 (hb b.Has) p.At (j+1):Nat):Int),j+1),?_,⟨j+1,az,rfl⟩,by simp only;omega⟩
  simp only [Ln];rw [Cc (by omega),cond_true,BF (by omega),QX hH,Option.bind_some,WH az (hc _ (List.getElem_mem az))]
  rcases Bool.eq_false_or_eq_true (b.Has.any (FJ (p.At+(j:Int)))) with h6|h6
  ·rw [h6];simp only [Bool.not_true,cond_false,Option.bind_some,GJ,G0,h6,if_true]
  ·rw [h6];simp only [Bool.not_false,cond_true,GJ,G0,h6,Bool.false_eq_true,if_false];rw [xH az,Option.bind_some,Fb (by omega) (by rw [Rf,JZ];omega),Option.bind_some,Option.bind_some,Option.bind_some,Re,BF (by omega)]
   simp [List.getD_eq_getElem?_getD,List.getElem?_eq_getElem az]
 ·obtain rfl:j=p.Text.length:=by omega
  refine ⟨.done (nW (GJ (hb b.Has) p.At b.Text p.Text p.Text.length),(G0 (hb b.Has) p.At p.Text.length:Int)),?_,rfl⟩;simp only [Ln];rw [Fh (by omega)];rfl
theorem Ms {f g:Int→Bool} (h: ∀n,f n=g n) (N:Nat):Gs f N=Gs g N:=by rw [show f=g from funext h]
theorem WK (f:Int→Bool) (m:Int) (h0:0≤m) (N:Nat) (hN:m<N):Gs (fun n=>f n||FJ n ⟨m,m+1⟩) N=if f m then Gs f N else Gs f N+1:=by
 have h1:=Q5 f (fun n=>FJ n ⟨m,m+1⟩) N;have h2:=O3 ⟨m,m+1⟩ h0 (by simp only;omega) N
 simp only at h2;rw [if_neg (by omega)] at h2
 have h3:(Gs (fun n=>FJ n ⟨m,m+1⟩) N:Int)=1:=by rw [h2];split<;>omega
 have hi: ∀n,FJ n ⟨m,m+1⟩=true→n=m:=fun n h=>by simp [FJ] at h;omega
 cases hf:f m
 ·have h4:Gs (fun n=>f n&&FJ n ⟨m,m+1⟩) N=0:=O2 (fun n=>by
   cases h:FJ n ⟨m,m+1⟩
   ·simp
   ·rw [hi n h,hf];rfl) N
  simp only [Bool.false_eq_true,if_false];omega
 ·have h4:Gs (fun n=>f n&&FJ n ⟨m,m+1⟩) N=Gs (fun n=>FJ n ⟨m,m+1⟩) N:=Ms (fun n=>by
   cases h:FJ n ⟨m,m+1⟩
   ·simp
   ·rw [hi n h,hf];rfl) N
  simp only [if_true];omega
theorem Rh (f:Int→Bool) (A:Int) (h0:0≤A) (N:Nat): ∀j:Nat,A+j≤N→Gs (fun n=>f n||FJ n ⟨A,A+j⟩) N=Gs f N+G0 f A j
 |0,_=>by
  rw [Ms (g:=f) fun n=>by simp [FJ];omega];rfl
 |j+1,h=>by
  have ih:=Rh f A h0 N j (by omega)
  have e: ∀n,(f n||FJ n ⟨A,A+((j+1:Nat):Int)⟩)=((f n||FJ n ⟨A,A+j⟩)||FJ n ⟨A+j,A+j+1⟩):=fun n=>by
   rw [Bool.or_assoc];congr 1;rw [Bool.eq_iff_iff];simp only [FJ,Bool.or_eq_true,Bool.and_eq_true,decide_eq_true_eq];omega
  rw [Ms e,WK _ _ (by omega) N (by omega),ih]
  have e2:(f (A+j)||FJ (A+j) ⟨A,A+j⟩)=f (A+j):=by simp [FJ]
  rw [e2];simp only [G0];split<;>omega
theorem O_ {l:List Span} (hl:Gd l) {x:Span} (hx:x.Fz<x.To) (n:Int):hb (F6 l x) n=(hb l n||FJ n x):=by
 rw [Bool.eq_iff_iff,Bool.or_eq_true];simp only [hb];rw [NE,NE,(KD l x hl hx).2.1 n];simp only [FJ,Bool.and_eq_true,decide_eq_true_eq];exact ⟨fun h=>h.symm,fun h=>h.symm⟩
theorem Ri {b:FD} {p:Part} (kg:Hl b=true) (hp:HJ p=true) (hl:p.Fw=b.Fw) (Jy:(F6 b.Has (F9 p)).length≤20):HH (F6 b.Has (F9 p))∧GU (F6 b.Has (F9 p))=GU b.Has+(G0 (hb b.Has) p.At p.Text.length:Int):=by
 obtain ⟨g1,g2,g3,g4⟩:=Jx.1 kg;obtain ⟨p1,p2,p3,p4⟩:=J0.1 hp;have hx:(F9 p).Fz<(F9 p).To:=by simp only [F9];omega
 obtain ⟨c1,c2,c3,c4⟩:=KD b.Has (F9 p) g3.sp.cn hx;have gf:HH (F6 b.Has (F9 p)):=c1.Q1 (fun n hn=>by
  rcases (c2 n).1 hn with h|h
  ·simp only [F9] at h;omega
  ·exact g3.sp.bY h) Jy
 refine ⟨gf,?_⟩;rw [gf.GU.1,g3.sp.GU.1,Ms (g:=fun n=>hb b.Has n||FJ n ⟨p.At,p.At+(p.Text.length:Nat)⟩) (fun n=>O_ g3.sp.cn hx n),Rh _ _ p3 _ _ (by omega)]
 simp
noncomputable def I2 (b:FD) (p:Part):Bool:=Hl b&&(HJ p&&((p.Id==b.Id)&&((p.Fw==b.Fw)&&decide ((F6 b.Has (F9 p)).length≤20))))
noncomputable def He (b:FD) (p:Part):FD×Int×Bool:=
 if I2 b p then (⟨b.Id,b.Fw,GJ (hb b.Has) p.At b.Text p.Text p.Text.length,F6 b.Has (F9 p)⟩,(G0 (hb b.Has) p.At p.Text.length:Int),true) else (⟨0,0,[],[]⟩,0,false)
theorem Rj {s:List UInt8} (h:s.length≤1048576):qG s=some (nW s):=by unfold qG;rw [if_pos (by omega)]
theorem Pa {b:FD} {p:Part} (h1:b.Has.length≤100) (h2:p.Text.length≤1000):Jd b p=some (He b p):=by
 unfold Jd He I2;rw [NI (by omega),WE h2]
 cases kg:Hl b
 ·rfl
 cases hp:HJ p
 ·rfl
 by_cases hi: ¬p.Id=b.Id
 ·simp only [Option.bind_some,Bool.not_true,cond_false,bne,show (p.Id==b.Id)=false from beq_eq_false_iff_ne.2 hi,Bool.not_false,cond_true,Bool.true_and,Bool.false_and,Bool.false_eq_true,if_false]
 replace hi:=Decidable.not_not.1 hi;by_cases hl: ¬p.Fw=b.Fw
 ·simp only [Option.bind_some,Bool.not_true,cond_false,bne,hi,beq_self_eq_true,show (p.Fw==b.Fw)=false from beq_eq_false_iff_ne.2 hl,Bool.not_false,cond_true,Bool.true_and,Bool.false_and,Bool.false_eq_true,if_false]
 replace hl:=Decidable.not_not.1 hl;obtain ⟨g1,g2,g3,g4⟩:=Jx.1 kg;obtain ⟨p1,p2,p3,p4⟩:=J0.1 hp;simp only [Option.bind_some,Bool.not_true,cond_false,bne,hi,hl,beq_self_eq_true,Bool.true_and];rw [BF (by omega),Ws h1,Option.bind_some]
 have lp:(⟨p.At,p.At+(p.Text.length:Int)⟩:Span)=F9 p:=rfl;have WL:HX (F9 p)=true:=Q8.2 (by simp only [F9];omega)
 rw [lp];unfold O4;rw [NB.2 g3.sp,WL];simp only [Bool.and_self,if_true];by_cases Jy:(F6 b.Has (F9 p)).length≤20
 ·simp only [Jy,if_true,decide_true,Bool.not_true,cond_false];obtain ⟨l1,l2⟩:=Ri kg hp hl Jy;have hc:=O9 (hb b.Has) p.At p.Text.length;rw [Rj (by omega),Option.bind_some,WI kg hp hl,Option.bind_some,Rc,l2,show GU b.Has+((G0 (hb b.Has) p.At p.Text.length:Nat):Int)-GU b.Has=(G0 (hb b.Has) p.At p.Text.length:Int) by omega,BF (by omega)]
 ·simp only [Jy,if_false,decide_false,Bool.not_false,cond_true,Bool.false_eq_true]
theorem Rk {b:FD} {p:Part} (h1:b.Has.length≤100) (h2:p.Text.length≤1000) (hc: ∀c∈p.Text,c.toNat<128):JJ b p=some (He b p):=by
 unfold JJ He I2;rw [O7 (by omega),WG h2]
 cases kg:Hl b
 ·rfl
 cases hp:HJ p
 ·rfl
 by_cases hi: ¬p.Id=b.Id
 ·simp only [Option.bind_some,Bool.not_true,cond_false,bne,show (p.Id==b.Id)=false from beq_eq_false_iff_ne.2 hi,show (b.Id==p.Id)=false from beq_eq_false_iff_ne.2 (Ne.symm hi),Bool.not_false,cond_true,Bool.true_and,Bool.false_and,Bool.false_eq_true,if_false]
 replace hi:=Decidable.not_not.1 hi;by_cases hl: ¬p.Fw=b.Fw
 ·simp only [Option.bind_some,Bool.not_true,cond_false,bne,hi,beq_self_eq_true,show (p.Fw==b.Fw)=false from beq_eq_false_iff_ne.2 hl,show (b.Fw==p.Fw)=false from beq_eq_false_iff_ne.2 (Ne.symm hl),Bool.not_false,cond_true,Bool.true_and,Bool.false_and,Bool.false_eq_true,if_false]
 replace hl:=Decidable.not_not.1 hl;obtain ⟨g1,g2,g3,g4⟩:=Jx.1 kg;obtain ⟨p1,p2,p3,p4⟩:=J0.1 hp;simp only [Option.bind_some,Bool.not_true,cond_false,bne,hi,hl,beq_self_eq_true,Bool.true_and];unfold ME;rw [Rj (by omega),Option.bind_some,WJ kg hp hl hc,Option.bind_some]
 simp only;rw [BF (by omega),Wo (by omega),Option.bind_some]
 have lp:(⟨p.At,p.At+(p.Text.length:Int)⟩:Span)=F9 p:=rfl;rw [lp];by_cases Jy:(F6 b.Has (F9 p)).length≤20
 ·have e:decide (((F6 b.Has (F9 p)).length:Int)≤20)=true:=Cc (by omega)
  simp only [Option.bind_some,e,Jy,decide_true,if_true,Bool.not_true,cond_false,Rc]
 ·have e:decide (((F6 b.Has (F9 p)).length:Int)≤20)=false:=Fh (by omega)
  simp only [Option.bind_some,e,Jy,decide_false,if_false,Bool.not_false,cond_true,Bool.false_eq_true]
def Ii (n:Int):List UInt8:=List.replicate n.toNat 0
theorem Rl {a n:Int} (h0:0≤n) (h1:n≤1000):Kd a n=some ⟨a,n,Ii n,[]⟩:=by
 unfold Kd;rw [Fc h0 (by omega) (by omega),Option.bind_some]
 simp [qF,Ii]
theorem WM (n:Nat):Lib.repeatL ([0]:List UInt8) n=List.replicate n 0:=by
 induction n with
 |zero=>rfl
 |succ n ih=>simp [Lib.repeatL,List.replicate_succ,←ih]
theorem WN {a n:Int} (h0:0≤n) (h1:n≤1000):KI a n=some ⟨a,n,Ii n,[]⟩:=by
 unfold KI strings_Repeat xX;rw [if_pos ⟨h0,by omega,by simp<;>omega⟩,Option.bind_some,WM];rfl
def Jz (a n:Int):FD×Bool:=if GZ a n then (⟨a,n,Ii n,[]⟩,true) else (⟨0,0,[],[]⟩,false)
theorem Rm (a n:Int):JE a n=some (Jz a n):=by
 unfold JE Jz;rw [NG,Option.bind_some];cases h:GZ a n
 ·rfl
 ·have:=IZ.1 h;rw [WN (by omega) (by omega)];rfl
theorem WO (a n:Int):Kl a n=some (Jz a n):=by
 unfold Kl Jz;rw [NH,Option.bind_some];cases h:GZ a n
 ·rfl
 ·have:=IZ.1 h;rw [Rl (by omega) (by omega)];rfl
theorem Pb {b:FD} (h:b.Has.length≤1000):IC b b=some true:=by
 unfold IC;rw [Wp h];simp
theorem Rn {b x:FD} {p:Part} {n:Int} {c:Bool} (e:He b p=(x,n,c)):x.Has.length≤20∧(c=true→x.Text.length=b.Text.length):=by
 unfold He at e;split at e
 ·rename_i h;simp only [I2,Bool.and_eq_true,decide_eq_true_eq] at h;simp only [Prod.mk.injEq] at e;obtain ⟨rfl,_,_⟩:=e;exact ⟨h.2.2.2.2,fun _=>JZ _ _ _ _ _⟩
 ·simp only [Prod.mk.injEq] at e;obtain ⟨rfl,_,rfl⟩:=e;exact ⟨by simp,fun h=>by simp at h⟩
theorem Ro {c:FK} {b:Int} {l:List (List UInt8)} (h:Gc c b) (hb:b≤4000000000000000000) (hl:1≤l.length) (hm:l.length<1000000):dj (I4 c l) fun r=>r.1∈l∧Gc r.2 (b+2):=by
 unfold I4;refine dj.then (u5 (by assumption) (by omega)) ?_
 rintro ⟨k,Rp⟩ ⟨NJ,NK,k_c⟩;dsimp only at NJ NK k_c⊢;have:=NK (by omega)
 rw [Fb NJ (by omega)]
 exact .ret ⟨List.getElem_mem _,k_c⟩
def plain (t:List UInt8):Prop:= ∀c∈t,c.toNat<128
theorem Pc {t:List UInt8} (h:t.all (fun c=>decide (c.toNat<128))=true):plain t:=fun c hc=>by simpa using List.all_eq_true.1 h c hc
theorem Rq {c:FK} {b:Int} (h:Gc c b) (hb:b≤1000000000000000000):dj (J4 c) fun r=>(r.1.length≤41∧plain r.1)∧Gc r.2 (b+10):=by
 unfold J4;refine dj.then (Ro h (by omega) (by simp) (by simp)) ?_
 rintro ⟨t,c⟩ ⟨t1,KE⟩;dsimp only at t1 KE⊢;refine dj.then (Ny (by assumption) (by omega)) ?_
 rintro ⟨z,Rr⟩ J1;dsimp only at J1⊢;have ht:t.length≤41∧plain t:=by
  simp only [List.mem_cons,List.not_mem_nil,or_false] at t1;rcases t1 with rfl|rfl|rfl|rfl|rfl|rfl<;>exact ⟨by simp,Pc (by decide)⟩
 refine dj.then (P:=fun r=>(r.1.length≤41∧plain r.1)∧Gc ⟨r.2.1,r.2.2.1,r.2.2.2⟩ (b+10)) ?_ ?_
 ·refine dj.Fa (fun hc=> ?_) (fun hc=> ?_)
  ·refine dj.then (Nz (by assumption) (by omega) (by simp)) ?_
   rintro ⟨n,Rs⟩ ⟨KF,J2⟩;dsimp only at KF J2⊢;have hn:0≤n∧n≤41:=by
    simp only [List.mem_cons,List.not_mem_nil,or_false] at KF;omega
   rw [Fc hn.1 (by omega) (by omega),Option.bind_some]
   refine .ret ⟨⟨by simp [qF];omega,fun c hc=> ?_⟩,J2.eta.mono (by omega)⟩
   simp only [qF,List.map_replicate,List.mem_replicate] at hc;rw [hc.2];decide
  ·exact .ret ⟨ht,J1.eta.mono (by omega)⟩
 rintro ⟨t,C,A,S⟩ ⟨t1,cc⟩;exact .ret ⟨t1,cc⟩
theorem WQ {a:List Int} (hl:a.length≤1048576) (hb: ∀x∈a,0≤x∧x≤255):dj (KG a) fun r=>r.2.length≤41∧plain r.2:=by
 unfold KG;have h:=Nx hl hb;refine dj.then (Nz (by assumption) (by omega) (by simp)) ?_
 rintro ⟨n,Rs⟩ ⟨KF,J2⟩;dsimp only at KF J2⊢;refine dj.then (Rq J2 (by omega)) ?_
 rintro ⟨t,c⟩ ⟨t1,_⟩;exact .ret t1
theorem WR {a:Int} {t:List UInt8} (h:plain t) (k:Nat):plain (FH a t k).Text:=fun c hc=>h c (List.mem_of_mem_drop (List.mem_of_mem_take hc))
theorem Rt (a:Int) (t:List UInt8) (k:Nat):(FH a t k).Text.length≤4:=by simp [FH];omega
theorem Ru {c:FK} {b:Int} (h:Gc c b) (hb:b≤1000000000000000):dj (Kj c) fun r=>(r.1.Has.length≤20∧r.1.Text.length≤41)∧Gc r.2 (b+100):=by
 unfold Kj;refine dj.then (u5 (by assumption) (by omega)) ?_
 rintro ⟨a,Z9⟩ ⟨WS,WT,Rv⟩;dsimp only at WS WT Rv⊢;refine dj.then (Rq Rv (by omega)) ?_
 rintro ⟨t,c⟩ ⟨⟨t1,t2⟩,KE⟩;dsimp only at t1 t2 KE⊢;rw [O6 (by omega),Option.bind_some]
 refine dj.then (P:=fun r=> ∃(a:Int) (t:List UInt8),r=Hd a t (FF t)∧1≤t.length∧t.length≤40∧plain t) ?_ ?_
 ·unfold I1;by_cases hk:GZ a t.length=true
  ·rw [if_pos hk];have:=IZ.1 hk;exact .ret ⟨a,t,rfl,by omega,by omega,t2⟩
  ·rw [if_neg hk];simp only [Bool.not_false,cond_true];rw [O6 (by simp),Option.bind_some]
   refine .ret ⟨1,[97,32,98,108,111,99,107],?_,by simp,by simp,Pc (by decide)⟩
   unfold I1;rw [if_pos (by decide)]
 rintro l ⟨a,t,rfl,l1,l2,l3⟩;have Z_:1≤FF t∧FF t≤10:=by unfold FF;omega
 have h0:idx (Hd a t (FF t)) 0=some (FH a t 0):=by
  rw [Fb (by omega) (by rw [I0];omega)]
  simp [Hd]
 rw [h0,Option.bind_some,Option.bind_some,Rl (by simp [FH]) (by simp only [FH];omega),Option.bind_some]
 dsimp only;refine dj.then (P:=fun r=>Gc ⟨r.1,r.2.1,r.2.2.1⟩ (b+60)∧r.2.2.2.2.2.1.length=t.length∧r.2.2.2.2.2.2.length≤20) ?_ ?_
 ·refine dj.eZ (fun x=>FF t-x.1.toNat) (fun x=>0≤x.1∧x.1≤FF t∧Gc ⟨x.2.1,x.2.2.1,x.2.2.2.1⟩ (b+20+2*x.1)∧x.2.2.2.2.2.2.1.length=t.length∧x.2.2.2.2.2.2.2.length≤20) ?_ ⟨by simp,by simp,KE.eta.mono (by dsimp only;omega),by simp [Ii,FH],by simp⟩
  rintro ⟨i,C,A,S,d,n,x,s⟩ ⟨i0,i1,i2,i3,i4⟩;dsimp only at i0 i1 i2 i3 i4;unfold NU;dsimp only;rw [I0];refine dj.Fa (fun hc=> ?_) (fun hc=> ?_)
  ·have hi:i<FF t:=by simpa using hc
   have WU:idx (Hd a t (FF t)) i=some (FH a t i.toNat):=by
    rw [Fb i0 (by rw [I0];exact hi)]
    simp [Hd]
   have gM:=Rt a t i.toNat;rw [WU,Option.bind_some,Rk (by dsimp only;omega) (by omega) (WR l3 _),Option.bind_some]
   obtain ⟨x',m,k,e⟩: ∃x' m k,He ⟨d,n,x,s⟩ (FH a t i.toNat)=(x',m,k):=⟨_,_,_,rfl⟩
   obtain ⟨e1,e2⟩:=Rn e;rw [e];dsimp only at e2⊢;refine dj.then (P:=fun r=>Gc ⟨r.1,r.2.1,r.2.2.1⟩ (b+22+2*i)∧r.2.2.2.2.2.1.length=t.length∧r.2.2.2.2.2.2.length≤20) ?_ ?_
   ·refine dj.then (P:=fun r=>(r.1=true→k=true)∧Gc ⟨r.2.1,r.2.2.1,r.2.2.2⟩ (b+22+2*i)) ?_ ?_
    ·refine dj.Fa (fun hc=> ?_) (fun hc=> ?_)
     ·refine dj.then (Ny i2 (by omega)) ?_
      rintro ⟨v,c_v⟩ Rw;dsimp only at Rw⊢;exact .ret ⟨fun _=>hc,Rw.eta.mono (by omega)⟩
     ·exact .ret ⟨fun h=>by simp at h,i2.mono (by omega)⟩
    rintro ⟨v,C,A,S⟩ ⟨v1,cc⟩;dsimp only at v1 cc⊢;refine dj.then (P:=fun r=>r.2.2.1.length=t.length∧r.2.2.2.length≤20) ?_ ?_
    ·refine dj.Fa (fun hc=> ?_) (fun hc=> ?_)
     ·exact .ret ⟨(e2 (v1 hc)).trans i3,e1⟩
     ·exact .ret ⟨i3,i4⟩
    rintro ⟨d,n,x,s⟩ ⟨p1,p2⟩;exact .ret ⟨cc,p1,p2⟩
   rintro ⟨C,A,S,d,n,x,s⟩ ⟨Mt,p1,p2⟩;dsimp only at Mt p1 p2⊢;rw [BF (by omega)]
   exact .ret ⟨⟨(by first|omega|(dsimp only;omega)),(by first|omega|(dsimp only;omega)),Mt.mono (by dsimp only;omega),p1,p2⟩,(by first|omega|(dsimp only;omega))⟩
  ·exact .ret ⟨i2.mono (by first|omega|(dsimp only;omega)),i3,i4⟩
 rintro ⟨C,A,S,d,n,x,s⟩ ⟨Mt,p1,p2⟩;dsimp only at Mt p1 p2⊢;refine dj.then (Ny (by assumption) (by omega)) ?_
 rintro ⟨z,Rr⟩ J1;dsimp only at J1⊢;refine dj.then (P:=fun r=>r.length≤41) ?_ ?_
 ·refine dj.Fa (fun hc=> ?_) (fun hc=> ?_)
  ·rw [Ff (by omega) (by omega) (by omega),Option.bind_some,Fe (by simp<;>omega)]
   exact .ret (by simp<;>omega)
  ·exact .ret (by omega)
 intro y hy;exact .ret ⟨⟨p2,hy⟩,J1.mono (by omega)⟩
theorem WV {a:List Int} (hl:a.length≤1048576) (hb: ∀x∈a,0≤x∧x≤255):dj (LK a) fun r=>r.1.Has.length≤20∧r.2.Text.length≤4∧plain r.2.Text:=by
 unfold LK;refine dj.then (Ru (Nx hl hb) (by omega)) ?_
 rintro ⟨x,c⟩ ⟨⟨JA,Mu⟩,WW⟩;dsimp only at JA Mu WW⊢;refine dj.then (u5 (by assumption) (by omega)) ?_
 rintro ⟨k,Rp⟩ ⟨NJ,NK,k_c⟩;dsimp only at NJ NK k_c⊢;refine dj.then (Ro k_c (by omega) (by simp) (by simp)) ?_
 rintro ⟨t,c⟩ ⟨t1,KE⟩;dsimp only at t1 KE⊢;refine dj.then (Ny (by assumption) (by omega)) ?_
 rintro ⟨z,Rr⟩ J1;dsimp only at J1⊢;have ht:t.length≤4∧plain t:=by
  simp only [List.mem_cons,List.not_mem_nil,or_false] at t1;rcases t1 with rfl|rfl|rfl<;>exact ⟨by simp,Pc (by decide)⟩
 refine dj.then (P:=fun _=>True) ?_ ?_
 ·refine dj.Fa (fun hc=> ?_) (fun hc=> ?_)
  ·exact .ret trivial
  ·exact .ret trivial
 intro n _;exact .ret ⟨JA,ht⟩
theorem WX {a:List Int} (hl:a.length≤1048576) (hb: ∀x∈a,0≤x∧x≤255):dj (LL a) fun r=>r.Has.length≤20:=by
 unfold LL MH;refine dj.then (P:=fun r=>r.Has.length≤20) ?_ fun x hx=> .ret hx;refine dj.then (Ru (Nx hl hb) (by omega)) ?_
 rintro ⟨x,c⟩ ⟨⟨JA,_⟩,_⟩;exact .ret JA
theorem WY {a:List Int} (hl:a.length≤1048576) (hb: ∀x∈a,0≤x∧x≤255):dj (LM a) fun _=>True:=by
 unfold LM;have h:=Nx hl hb;refine dj.then (Nz (by assumption) (by omega) (by simp)) ?_
 rintro ⟨n,Rs⟩ ⟨KF,J2⟩;dsimp only at KF J2⊢;refine dj.then (Nz (by assumption) (by omega) (by simp)) ?_
 rintro ⟨k,Rp⟩ ⟨WZ,k_c⟩;dsimp only at WZ k_c⊢;exact .ret trivial
theorem Rx {f:Int→Bool} {A:Int}: ∀{j:Nat},(∀q:Nat,q<j→f (A+q)=false)→G0 f A j=j
 |0,_=>rfl
 |j+1,h=>by
  simp only [G0];rw [h j (by omega),if_neg (by simp),Rx (j:=j) fun q hq=>h q (by omega)]
theorem Ry {f:Int→Bool} {A:Int}: ∀{j:Nat},(∀q:Nat,q<j→f (A+q)=true)→G0 f A j=0
 |0,_=>rfl
 |j+1,h=>by
  simp only [G0];rw [h j (by omega),if_pos rfl,Ry (j:=j) fun q hq=>h q (by omega)]
theorem Rz {f:Int→Bool} {A:Int} {t s:List UInt8}: ∀{j:Nat},(∀q:Nat,q<j→f (A+q)=true)→GJ f A t s j=t
 |0,_=>rfl
 |j+1,h=>by
  simp only [GJ];rw [h j (by omega),if_pos rfl,Rz (j:=j) fun q hq=>h q (by omega)]
theorem RA {f:Int→Bool} {n:Nat} (h: ∀x,f x=true→x<n): ∀N,Gs f N≤n∧Gs f N≤N
 |0=>⟨Nat.zero_le _,Nat.le_refl _⟩
 |N+1=>by
  have ih:=RA h N;simp only [Gs];cases hf:f N
  ·simp only [Bool.toNat_false];omega
  ·have:=h _ hf;simp only [Bool.toNat_true];omega
theorem RB {n:Int} {p:Part}:FJ n (F9 p)=true↔p.At≤n∧n<p.At+(p.Text.length:Int):=by
 show (decide (p.At≤n)&&decide (n<p.At+(p.Text.length:Int)))=true↔_;rw [Bool.and_eq_true,decide_eq_true_eq,decide_eq_true_eq]
def HK (m r k:Nat):Nat:=if r≤k then k-r else k+m-r
def Ht (m r i:Nat):Nat:=if i+r<m then i+r else i+r-m
structure G9 (a:Int) (t:List UInt8) (r i:Nat) (b:FD):Prop where
 id:b.Id=a
 JB:b.Fw=t.length
 cn:Gd b.Has
 len:b.Has.length≤i
 eH: ∀x:Int,hb b.Has x=true↔(0≤x∧x<t.length)∧HK (FF t) r (x.toNat/4)<i
 tl:b.Text.length=t.length
 txt: ∀p:Nat,p<t.length→b.Text.getD p 0=if HK (FF t) r (p/4)<i then t.getD p 0 else 0
theorem G9.good {a:Int} {t:List UInt8} {r i:Nat} {b:FD} (h:G9 a t r i b) (hi:i≤20) (ha:0≤a∧a≤1000) (ht:1≤t.length∧t.length≤40):Hl b=true:=by
 have hl:=h.len;have NL: ∀n,hs b.Has n→(0≤n∧n<t.length)∧HK (FF t) r (n.toNat/4)<i:=fun n hn=>(h.eH n).1 (NE.2 hn);refine Jx.2 ⟨⟨by rw [h.id];exact ha,by rw [h.JB];omega⟩,by rw [h.tl,h.JB],⟨h.cn.Q1 (fun n hn=>by have:=(NL n hn).1;omega) (by omega),fun m hm=>by rw [h.JB];exact (NL m hm).1.2⟩,?_⟩
 unfold Mr;rw [OX];intro p c hc;have hp:p<b.Text.length:=(List.getElem?_eq_some_iff.1 hc).1;have hg:b.Text.getD p 0=c:=by rw [List.getD_eq_getElem?_getD,hc];rfl
 have e:=h.txt p (by rw [←h.tl];exact hp)
 rw [hg] at e;rw [Nat.zero_add,Bool.or_eq_true];by_cases hd:HK (FF t) r (p/4)<i
 ·right;rw [h.eH];exact ⟨⟨by omega,by rw [←h.tl];omega⟩,by simpa using hd⟩
 ·left;rw [if_neg hd] at e;rw [e];rfl
theorem G9.take {a:Int} {t:List UInt8} {r i:Nat} {b:FD} (h:G9 a t r i b) (hi:i<FF t) (hr:r<FF t) (ha:0≤a∧a≤1000) (ht:1≤t.length∧t.length≤40):
 ∃x,He b (FH a t (Ht (FF t) r i))=(x,((FH a t (Ht (FF t) r i)).Text.length:Int),true)∧G9 a t r (i+1) x∧He x (FH a t (Ht (FF t) r i))=(x,0,true):=by
 have hm:FF t≤10∧4*FF t<t.length+4∧t.length≤4*FF t:=by unfold FF;omega
 have hk:Ht (FF t) r i<FF t:=by unfold Ht;split<;>omega
 have bV: ∀j,j<FF t→(HK (FF t) r j<i+1↔HK (FF t) r j<i∨j=Ht (FF t) r i):=fun j hj=>by
  unfold HK Ht;split<;>split<;>omega
 have lP: ¬HK (FF t) r (Ht (FF t) r i)<i:=by unfold HK Ht;split<;>split<;>omega
 generalize hkk:Ht (FF t) r i=k at*;have eG:(FH a t k).Text.length=min 4 (t.length-4*k):=by simp [FH]
 have RC:HJ (FH a t k)=true:=J0.2 ⟨⟨ha,by simp only [FH];omega⟩,by omega,by simp only [FH];omega,by rw [eG];simp only [FH];omega⟩
 have hg:=h.good (by omega) ha ht
 have hx:(F9 (FH a t k)).Fz<(F9 (FH a t k)).To:=by simp only [F9];omega
 obtain ⟨c1,c2,_,c4⟩:=KD b.Has (F9 (FH a t k)) h.cn hx;have hl:=h.len;have RD: ∀q:Nat,q<(FH a t k).Text.length→hb b.Has ((FH a t k).At+q)=false:=fun q hq=>by
  rw [Bool.eq_false_iff];intro hh;have:=((h.eH _).1 hh).2;have e:((FH a t k).At+(q:Int)).toNat/4=k:=by simp only [FH];omega
  rw [e] at this;exact lP this
 have cE: ∀x:Int,FJ x (F9 (FH a t k))=true↔(0≤x∧x<t.length)∧x.toNat/4=k:=fun x=>by
  rw [RB,eG];simp only [FH];omega
 have NL: ∀x:Int,hb (F6 b.Has (F9 (FH a t k))) x=true↔(0≤x∧x<t.length)∧HK (FF t) r (x.toNat/4)<i+1:=fun x=>by
  rw [O_ h.cn hx,Bool.or_eq_true,h.eH,cE];constructor
  ·rintro (⟨h1,h2⟩|⟨h1,h2⟩)
   ·exact ⟨h1,by omega⟩
   ·exact ⟨h1,(bV _ (by omega)).2 (.inr h2)⟩
  ·rintro ⟨h1,h2⟩;rcases (bV _ (by omega)).1 h2 with h3|h3
   ·exact .inl ⟨h1,h3⟩
   ·exact .inr ⟨h1,h3⟩
 have ag:I2 b (FH a t k)=true:=by
  simp only [I2,Bool.and_eq_true,decide_eq_true_eq,beq_iff_eq];exact ⟨hg,RC,by rw [h.id];rfl,by rw [h.JB];rfl,by omega⟩
 have hB:G9 a t r (i+1) ⟨b.Id,b.Fw,GJ (hb b.Has) (FH a t k).At b.Text (FH a t k).Text (FH a t k).Text.length,F6 b.Has (F9 (FH a t k))⟩:=by
  refine ⟨h.id,h.JB,c1,by simp only;omega,NL,by rw [←h.tl];exact JZ _ _ _ _ _,fun p hp=> ?_⟩
  simp only;rw [Rg _ (by simp only [FH];omega) _ _ _ _ (by rw [eG,h.tl];simp only [FH];omega),h.txt p hp]
  by_cases oO:p/4=k
  ·have hA:(FH a t k).At≤(p:Int)∧(p:Int)<(FH a t k).At+((FH a t k).Text.length:Nat):=by rw [eG];simp only [FH];omega
   have hf:hb b.Has (p:Int)=false:=by
    have:=RD (p-4*k) (by omega)
    rw [show (FH a t k).At+((p-4*k:Nat):Int)=(p:Int) by simp only [FH];omega] at this
    exact this
   rw [if_pos ⟨hA,hf⟩,if_pos ((bV _ (by omega)).2 (.inr oO))]
   simp only [FH,List.getD_eq_getElem?_getD,List.getElem?_take,List.getElem?_drop];rw [if_pos (by omega)]
   congr 2;omega
  ·have hA: ¬((FH a t k).At≤(p:Int)∧(p:Int)<(FH a t k).At+((FH a t k).Text.length:Nat)):=by rw [eG];simp only [FH];omega
   rw [if_neg fun hh=>hA hh.1];have:=bV (p/4) (by omega)
   by_cases hd:HK (FF t) r (p/4)<i
   ·rw [if_pos hd,if_pos (this.2 (.inl hd))]
   ·rw [if_neg hd,if_neg fun hh=>by rcases this.1 hh with h1|h1<;>contradiction]
 have oz: ∀q:Nat,q<(FH a t k).Text.length→hb (F6 b.Has (F9 (FH a t k))) ((FH a t k).At+q)=true:=fun q hq=>by
  rw [O_ h.cn hx,Bool.or_eq_true];right;rw [RB];omega
 have mJ:F6 (F6 b.Has (F9 (FH a t k))) (F9 (FH a t k))=F6 b.Has (F9 (FH a t k)):=by
  obtain ⟨d1,d2,_,_⟩:=KD (F6 b.Has (F9 (FH a t k))) (F9 (FH a t k)) c1 hx;exact d1.gU c1 fun n=>by rw [d2,c2];constructor<;>intro hh<;>rcases hh with hh|hh<;>simp_all
 refine ⟨_,?_,hB,?_⟩
 ·unfold He;rw [if_pos ag,Rx RD]
 ·have W0:I2 ⟨b.Id,b.Fw,GJ (hb b.Has) (FH a t k).At b.Text (FH a t k).Text (FH a t k).Text.length,F6 b.Has (F9 (FH a t k))⟩ (FH a t k)=true:=by
   simp only [I2,Bool.and_eq_true,decide_eq_true_eq,beq_iff_eq];exact ⟨hB.good (by omega) ha ht,RC,by rw [h.id];rfl,by rw [h.JB];rfl,by rw [mJ];omega⟩
  unfold He;rw [if_pos W0];simp only;rw [Ry oz,Rz oz,mJ];rfl
theorem G9.zero {a:Int} {t:List UInt8} {r:Nat}:G9 a t r 0 ⟨a,t.length,Ii t.length,[]⟩:=
 ⟨rfl,rfl,trivial,Nat.le_refl _,fun x=>by simp,by simp [Ii],fun p hp=>by simp [Ii,List.getD_eq_getElem?_getD,hp]⟩
theorem G9.le {a:Int} {t:List UInt8} {r i:Nat} {b:FD} (h:G9 a t r i b) (hi:i≤20) (ha:0≤a∧a≤1000) (ht:1≤t.length∧t.length≤40):GU b.Has≤t.length:=by
 obtain ⟨_,_,g3,_⟩:=Jx.1 (h.good hi ha ht);rw [g3.sp.GU.1];have:=(RA (f:=fun n=>b.Has.any (FJ n)) (n:=t.length) (fun x hx=>((h.eH x).1 hx).1.2) 1000000).1;omega
theorem G9.open {a:Int} {t:List UInt8} {r i:Nat} {b:FD} (h:G9 a t r i b) (hi:i<FF t) (hr:r<FF t) (ha:0≤a∧a≤1000) (ht:1≤t.length∧t.length≤40):Iv b=(false,true):=by
 have hm:FF t≤10:=by unfold FF;omega
 have hg:=h.good (by omega) ha ht
 obtain ⟨x,e,hB,_⟩:=h.take hi hr ha ht;unfold He at e;split at e
 ·rename_i ag;simp only [Prod.mk.injEq,and_true] at e;obtain ⟨rfl,e⟩:=e;simp only [I2,Bool.and_eq_true,decide_eq_true_eq,beq_iff_eq] at ag;have h2:=(Ri ag.1 ag.2.1 ag.2.2.2.1 ag.2.2.2.2).2;have h3:=hB.le (by omega) ha ht
  simp only at h3;have h4:=(J0.1 ag.2.1).2.1;unfold Iv;rw [if_pos hg,show (GU b.Has==b.Fw)=false from beq_eq_false_iff_ne.2 (by rw [h.JB];omega)]
 ·simp at e
theorem G9.done {a:Int} {t:List UInt8} {r:Nat} {b:FD} (h:G9 a t r (FF t) b) (hr:r<FF t) (ha:0≤a∧a≤1000) (ht:1≤t.length∧t.length≤40):Iv b=(true,true)∧b.Text=t:=by
 have hm:FF t≤10∧4*FF t<t.length+4∧t.length≤4*FF t:=by unfold FF;omega
 have hg:=h.good (by omega) ha ht
 have rF: ∀k,k<FF t→HK (FF t) r k<FF t:=fun k hk=>by unfold HK;split<;>omega
 constructor
 ·obtain ⟨_,_,g3,_⟩:=Jx.1 hg;unfold Iv;rw [if_pos hg,g3.sp.GU.1,Ms (g:=fun n=>FJ n ⟨0,t.length⟩) (fun n=>by
   rw [Bool.eq_iff_iff];refine (h.eH n).trans ?_;simp only [FJ,Bool.and_eq_true,decide_eq_true_eq];exact ⟨fun hh=>hh.1,fun hh=>⟨hh,rF _ (by omega)⟩⟩),O3 _ (by simp) (by simp only;omega)]
  simp only;rw [if_neg (by omega),if_neg (by omega),h.JB]
  simp
 ·refine List.ext_getElem (by rw [h.tl]) fun p h1 h2=> ?_
  have:=h.txt p h2;rw [if_pos (rF _ (by omega)),List.getD_eq_getElem?_getD,List.getD_eq_getElem?_getD,List.getElem?_eq_getElem h1,List.getElem?_eq_getElem h2] at this
  simpa using this
theorem W1 {l:List Int} (hl:l.length≤1048576) (hb: ∀x∈l,0≤x∧x≤255):dj (KJ l) fun r=>0≤r∧r≤1000003:=by
 unfold KJ;have key:dj (eZ (My l) (0,0)) fun r=>0≤r∧r≤1000003:=by
  refine dj.eZ (fun x=>l.length-x.2.toNat) (fun x=>(0≤x.1∧x.1≤1000003)∧0≤x.2∧x.2≤l.length) ?_ ⟨by simp,by simp,by simp⟩
  rintro ⟨m,i⟩ ⟨⟨i1,i2⟩,i3,i4⟩;simp only at i1 i2 i3 i4;simp only [My];by_cases hi:i<l.length
  ·rw [Cc hi,Fb i3 hi];have:=hb _ (List.getElem_mem (l:=l) (n:=i.toNat) (by omega))
   simp only [cond_true,Option.bind_some];rw [BF (x:=31*m) (by omega),BF (x:=l[i.toNat]) (by omega),BF (x:=31*m+l[i.toNat]) (by omega),BF (x:=i+1) (by omega)]
   refine ⟨_,rfl,⟨?_,by simp only;omega,by simp only;omega⟩,by simp only;omega⟩
   simp only;rw [Int.tmod_eq_emod_of_nonneg (by omega)];omega
  ·rw [Fh hi];exact ⟨_,rfl,i1,i2⟩
 refine dj.then key fun x hx=>⟨_,rfl,hx⟩
theorem W2 {a:Int} {t:List UInt8} {m k:Nat} (h:k<m):idx (Hd a t m) (k:Int)=some (FH a t k):=by
 rw [xH (by rw [I0];exact h)]
 simp [Hd]
theorem W3 {l:List Part} (hl:l.length≤1048576):eZ (Km l l) 0=some (.next ()):=by
 rw [Cb l (Km l l) (fun k (_:Unit)=>k) (fun _ _ s=> .next s) (fun _=> .next ()) (fun k hk s=>by
  simp only [Km];rw [Cc (by omega),xH hk,BF (by omega)]
  simp;rfl) (fun s=>by simp [Km]) (),E_ (fun s _=>s) (fun _ _ _=>rfl)]
theorem W4 {a:Int} {t:List UInt8} {r:Nat} (hr:r<FF t) (ha:0≤a∧a≤1000) (ht:1≤t.length∧t.length≤40):
 ∃b,eZ (Kn (Hd a t (FF t)) r) (0,a,t.length,Ii t.length,[])=some (.next (b.Id,b.Fw,b.Text,b.Has))∧G9 a t r (FF t) b:=by
 have hm:FF t≤10:=by unfold FF;omega
 obtain ⟨y,e,b,rfl,hB⟩:=xG (f:=Kn (Hd a t (FF t)) r) (fun x=>FF t-x.1.toNat) (fun x=> ∃(i:Nat) (b:FD),i≤FF t∧x=((i:Int),b.Id,b.Fw,b.Text,b.Has)∧G9 a t r i b) (fun y=> ∃b:FD,y= .next (b.Id,b.Fw,b.Text,b.Has)∧G9 a t r (FF t) b) (by
  rintro _ ⟨i,b,hi,rfl,hB⟩;by_cases az:i<FF t
  ·have hl:=hB.len;obtain ⟨x,JA,Mu,x3⟩:=hB.take az hr ha ht;have hx:=Mu.len;have gM:=Rt a t (Ht (FF t) r i);refine ⟨.next (((i+1:Nat):Int),x.Id,x.Fw,x.Text,x.Has),?_,⟨i+1,x,az,rfl,Mu⟩,by simp only;omega⟩
   have W5:md (IntKind.i64.wrap ((i:Int)+(r:Int))) ((FF t:Nat):Int)=some ((Ht (FF t) r i:Nat):Int):=by
    rw [BF (by omega),Fg (by omega) (by omega)]
    congr 1;unfold Ht;split
    ·rw [Int.emod_eq_of_lt (by omega) (by omega)];omega
    ·rw [show ((i:Int)+r)=((i+r-FF t:Nat):Int)+(FF t:Int) by omega,Int.add_emod_right,Int.emod_eq_of_lt (by omega) (by omega)]
   have hk:Ht (FF t) r i<FF t:=by unfold Ht;split<;>omega
   simp only [Kn];have xr:(⟨b.Id,b.Fw,b.Text,b.Has⟩:FD)=b:=rfl;rw [xr,I0,Cc (by omega),cond_true,O8 (by omega),W5,hB.open az hr ha ht]
   simp only [Option.bind_some];rw [W2 hk];simp only [Option.bind_some];rw [Pa (by omega) (by omega),JA]
   simp only [Option.bind_some,Bool.not_true,cond_false,bne_self_eq_false];rw [NI (by omega),Mu.good (by omega) ha ht]
   simp only [Option.bind_some,Bool.not_true,cond_false];rw [Pa (by omega) (by omega),x3]
   simp only [Option.bind_some,Bool.not_true,cond_false,bne_self_eq_false];rw [Pb (by omega),BF (by omega)]
   rfl
  ·obtain rfl:i=FF t:=by omega
   refine ⟨.done (.next (b.Id,b.Fw,b.Text,b.Has)),?_,b,rfl,hB⟩
   simp only [Kn];rw [I0,Fh (by omega)];rfl) (0,a,t.length,Ii t.length,[]) ⟨0,⟨a,t.length,Ii t.length,[]⟩,Nat.zero_le _,rfl,G9.zero⟩
 exact ⟨b,e,hB⟩
theorem W6 (a b:List Int) (ha:a.length<2^47) (nc:b.length<2^47) (W7: ∀x∈a,0≤x∧x≤255) (NM: ∀x∈b,0≤x∧x≤255):LP a b=some true:=by
 unfold LP;rw [BF (by omega)]
 by_cases hlen:1048576<(a.length:Int)+b.length
 ·rw [Cc hlen];rfl
 ·rw [Fh hlen,cond_false];obtain ⟨⟨d,t⟩,e1,t1,t2⟩:=WQ (a:=a) (by omega) W7
  obtain ⟨⟨x,p⟩,e2,JA,p1,p2⟩:=WV (a:=b) (by omega) NM
  obtain ⟨y,e3,y1⟩:=WX (a:=b) (by omega) NM
  obtain ⟨⟨w,v⟩,e4,_⟩:=WY (a:=b) (by omega) NM
  obtain ⟨n,e5,W8,aac⟩:=W1 (l:=b) (by omega) NM
  dsimp only at t1 t2 JA p1 p2;have tail:((Jd x p).bind fun (Hv,MO,MP)=>(JJ x p).bind fun (Hw,MQ,MR)=>(Jb y).bind fun (MS,MT)=>(Kk y).bind fun (MU,MV)=>(JE w v).bind fun (Hy,MW)=>(Kl w v).bind fun (Hz,MX)=>(bif (MP==MR) then (bif (MO==MQ) then (IC Hv Hw).bind fun LS=>(bif LS then (bif (MT==MV) then (bif (MS==MU) then (bif (MW==MX) then (IC Hy Hz).bind fun LU=>(bif LU then (Iz x).bind fun LV=>(Jf x).bind fun LW=>some (LV==LW) else some false) else some false) else some false) else some false) else some false) else some false) else some false))=some true:=by
   rw [Pa (by omega) (by omega),Rk (by omega) (by omega) p2,O8 (by omega),WD (by omega),Rm,WO,NI (by omega),O7 (by omega)]
   have h1:(He x p).1.Has.length≤20:=(Rn (b:=x) (p:=p) (x:=(He x p).1) (n:=(He x p).2.1) (c:=(He x p).2.2) rfl).1;have h2:(Jz w v).1.Has.length≤20:=by unfold Jz;split<;>simp
   revert h1 h2;rcases He x p with ⟨z,k,c⟩;rcases Jz w v with ⟨z',c'⟩;rcases Iv y with ⟨d1,d2⟩;intro h1 h2;dsimp only at h1 h2;simp only [Option.bind_some,beq_self_eq_true,cond_true];rw [Pb (by omega),Pb (by omega)]
   simp only [Option.bind_some,cond_true]
  rw [e1];simp only [Option.bind_some];rw [WC (by omega),O6 (by omega)]
  simp only [Option.bind_some,beq_self_eq_true,Bool.not_true,cond_false,bne_self_eq_false];have gM:(I1 d t).1.length≤100:=by
   unfold I1;split
   ·rw [I0];unfold FF;omega
   ·simp
  rw [W3 (by omega),e2,e3,e4]
  simp only [Option.bind_some];unfold I1;cases hk:GZ d t.length
  ·simp only [Bool.false_eq_true,if_false,cond_false,Option.bind_some];exact tail
  ·have h:=IZ.1 hk;have hm:1≤FF t:=by unfold FF;omega
   have W9:0≤n % (FF t:Int)∧n % (FF t:Int)<FF t:=⟨Int.emod_nonneg _ (by omega),Int.emod_lt_of_pos _ (by omega)⟩
   obtain ⟨r,hr⟩:=Int.eq_ofNat_of_zero_le W9.1;obtain ⟨z,z1,z2⟩:=W4 (a:=d) (t:=t) (r:=r) (by omega) ⟨by omega,by omega⟩ ⟨by omega,by omega⟩
   obtain ⟨q1,q2⟩:=z2.done (by omega) ⟨by omega,by omega⟩ ⟨by omega,by omega⟩
   have hz:=z2.len;have la:FF t≤11:=by unfold FF;omega
   simp only [if_true,cond_true,I0];rw [Rm];unfold Jz;rw [hk,e5];simp only [if_true,Option.bind_some,Bool.not_true,cond_false];rw [Fg W8 (by omega),hr]
   simp only [Option.bind_some];rw [z1];simp only [Option.bind_some];rw [O8 (by simp only;omega),show Iv ⟨z.Id,z.Fw,z.Text,z.Has⟩=(true,true) from q1,q2]
   simp only [Option.bind_some,Bool.not_true,cond_false,beq_self_eq_true];exact tail
end Go.Hm
