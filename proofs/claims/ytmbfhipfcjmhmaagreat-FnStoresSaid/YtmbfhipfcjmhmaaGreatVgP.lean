/-
  The plain law and all that it needs.
-/
import Derived.Test.YtmbfhipfcjmhmaaGreatVgF
import Derived.Test.YtmbfhipfcjmhmaaGreatVaF
import Derived.Test.YtmbfhipfcjmhmaaGreatVaG
open Go Go.VS
namespace Go.JN
def JK (n a b:Int):Bool:=decide (a≤n)&&decide (n≤b)
theorem Rm (n a b:Int):Ml n a b=some (JK n a b):=by
 unfold Ml JK;cases decide (a≤n)<;>rfl
theorem Rn (n a b:Int):Mp n a b=some (JK n a b):=by
 unfold Mp JK;cases decide (a≤n)<;>rfl
theorem MR {n a b:Int}:JK n a b=true↔a≤n∧n≤b:=by simp [JK]
structure Ij (c:HE) (b:Int):Prop where
 len:c.Code.length≤1048576
 bytes: ∀x∈c.Code,0≤x∧x≤255
 lo:0≤c.At
 hi:c.At≤b
theorem Ij.mono {c:HE} {b d:Int} (h:Ij c b) (hd:b≤d):Ij c d:=⟨h.len,h.bytes,h.lo,by have:=h.hi;omega⟩
theorem adB (k:Int):0≤CN .u64 k 255∧CN .u64 k 255≤255:=by
 have h:(BitVec.ofInt IntKind.u64.bits k&&&BitVec.ofInt IntKind.u64.bits 255).toNat≤255:=by
  rw [BitVec.toNat_and];exact Nat.and_le_right
 unfold CN;rw [IntWalk.u64_in _ (by omega)]
 omega
theorem BB {c:HE} {b:Int} (h:Ij c b) (hb:b≤4611686018427387904): ∃x d,OJ c=some (x,d)∧(0≤x∧x≤255)∧Ij d (b+1):=by
 obtain ⟨h1,h2,h3,h4⟩:=h;unfold OJ;rw [CW (x:=c.At+1) (by omega)]
 have e: ∃HI,(bif (decide (c.At<(c.Code.length:Int))) then (idx c.Code c.At).bind fun Jm=>some ((IntKind.i64.wrap Jm)) else some (0))=some HI∧0≤HI∧HI≤255:=by
  by_cases hc:c.At<c.Code.length
  ·rw [show decide (c.At<(c.Code.length:Int))=true by simpa using hc]
   obtain ⟨n,hn⟩:=Int.eq_ofNat_of_zero_le h3;rw [hn,yY (show n<c.Code.length by omega)]
   have:=h2 _ (List.getElem_mem (show n<c.Code.length by omega))
   simp only [cond_true,Option.bind_some];rw [CW (by omega)]
   exact ⟨_,rfl,this⟩
  ·rw [show decide (c.At<(c.Code.length:Int))=false by simpa using hc]
   exact ⟨0,rfl,by omega,by omega⟩
 obtain ⟨HI,e1,e2⟩:=e;rw [e1,Option.bind_some];cases decide (c.At+1≤(c.Code.length:Int))
 ·refine ⟨_,_,rfl,?_,⟨h1,h2,by simp only;omega,by simp only;omega⟩⟩
  have:=adB (xb .u64 (IntKind.u64.wrap ((IntKind.u64.wrap ((IntKind.u64.wrap (c.Ib*6364136223846793005))+(IntKind.u64.wrap HI)))+1442695040888963407)) 40);rw [CW (by omega)]
  exact this
 ·exact ⟨_,_,rfl,e2,⟨h1,h2,by simp only;omega,by simp only;omega⟩⟩
theorem Ya {x n:Int} (hx:0≤x) (hn:1<n): ∃r,md x n=some r∧0≤r∧r<n:=by
 unfold md;rw [if_neg (by omega)]
 refine ⟨_,rfl,?_,?_⟩
 ·rw [Int.tmod_eq_emod_of_nonneg hx];exact Int.emod_nonneg _ (by omega)
 ·rw [Int.tmod_eq_emod_of_nonneg hx];exact Int.emod_lt_of_pos _ (by omega)
theorem Vf {c:HE} {b n:Int} (h:Ij c b) (hb:b≤4000000000000000000): ∃x d,J_ c n=some (x,d)∧(0≤x∧(1≤n→x<n))∧Ij d (b+2):=by
 unfold J_;by_cases hn:n≤1
 ·rw [show decide (n≤1)=true by simpa using hn]
  exact ⟨0,c,rfl,⟨by omega,by omega⟩,h.mono (by omega)⟩
 ·rw [show decide (n≤1)=false by simpa using hn]
  obtain ⟨x,d,e1,e2,e3⟩:=BB h (by omega)
  simp only [cond_false];rw [e1,Option.bind_some];cases decide (200<n)
  ·simp only [cond_false,Option.bind_some];obtain ⟨r,r1,r2,r3⟩:=Ya (x:=x) e2.1 (show 1<n by omega)
   rw [r1];exact ⟨r,_,rfl,⟨r2,fun _=>r3⟩,e3.mono (by omega)⟩
  ·simp only [cond_true];obtain ⟨y,d',f1,f2,f3⟩:=BB e3 (by omega)
   rw [f1];simp only [Option.bind_some];rw [CW (x:=x*256) (by omega),CW (by omega)]
   obtain ⟨r,r1,r2,r3⟩:=Ya (x:=x*256+y) (by omega) (show 1<n by omega)
   rw [r1];exact ⟨r,_,rfl,⟨r2,fun _=>r3⟩,f3.mono (by omega)⟩
theorem adC {c:HE} {b n:Int} (h:Ij c b) (hb:b≤4000000000000000000): ∃x d,LZ c n=some (x,d)∧Ij d (b+2):=by
 obtain ⟨x,d,e1,_,e3⟩:=Vf (n:=n) h hb;unfold LZ;rw [e1];exact ⟨_,_,rfl,e3⟩
theorem adD {c:HE} {b:Int} {l:List Int} (h:Ij c b) (hb:b≤4000000000000000000) (hl:l≠[]): ∃x d,MZ c l=some (x,d)∧x∈l∧Ij d (b+2):=by
 obtain ⟨x,d,e1,e2,e3⟩:=Vf (n:=(l.length:Int)) h hb;have dw:1≤l.length:=by cases l with|nil=>exact absurd rfl hl|cons _ _=>simp
 unfold MZ;rw [e1];obtain ⟨n,rfl⟩:=Int.eq_ofNat_of_zero_le e2.1;have hn:n<l.length:=by have:=e2.2 (by omega);omega
 simp only [Option.bind_some];rw [yY hn];exact ⟨_,_,rfl,List.getElem_mem hn,e3⟩
theorem Vg {l:List Int} (hl:l.length≤1048576) (hb: ∀x∈l,0≤x∧x≤255):Ij ⟨l,0,0⟩ 0:=⟨hl,hb,by simp,by simp⟩
theorem Ij.eta {c:HE} {b:Int} (h:Ij c b):Ij ⟨c.Code,c.At,c.Ib⟩ b:=h
theorem wz {c:HE} {b n:Int} (h:Ij c b) (hb:b≤4000000000000000000):dF (J_ c n) fun r=>0≤r.1∧(1≤n→r.1<n)∧Ij r.2 (b+2):=by
 obtain ⟨x,d,e,⟨h1,h2⟩,h3⟩:=Vf (n:=n) h hb;exact ⟨_,e,h1,h2,h3⟩
theorem Ro {c:HE} {b n:Int} (h:Ij c b) (hb:b≤4000000000000000000):dF (LZ c n) fun r=>Ij r.2 (b+2):=by
 obtain ⟨x,d,e,h3⟩:=adC (n:=n) h hb;exact ⟨_,e,h3⟩
theorem Vh {c:HE} {b:Int} {l:List Int} (h:Ij c b) (hb:b≤4000000000000000000) (hl:l≠[]):dF (MZ c l) fun r=>r.1∈l∧Ij r.2 (b+2):=by
 obtain ⟨x,d,e,h2,h3⟩:=adD h hb hl;exact ⟨_,e,h2,h3⟩
def I7 {α :Type} (p:Nat→ α →Bool):Nat→List α →Bool
 |_,[]=>true
 |k,x::xs=>p k x&&I7 p (k+1) xs
theorem OA {α σ ρ :Type} {g:Nat→ α → σ →LR σ ρ} {fin: σ → ρ} (p:Nat→ α →Bool) (r: ρ) (h: ∀k x s,g k x s=if p k x then .next s else .done r) (l:List α) (k:Nat) (s: σ):fm g fin k l s=if I7 p k l then fin s else r:=by
 induction l generalizing k with
 |nil=>simp [fm,I7]
 |cons x xs ih=>
  rw [show I7 p k (x::xs)=(p k x&&I7 p (k+1) xs) from rfl];simp only [fm,h];by_cases hp:p k x=true
  ·rw [if_pos hp,hp,Bool.true_and];exact ih (k+1)
  ·have Di:p k x=false:=by simpa using hp
   rw [if_neg hp,Di,Bool.false_and];rfl
theorem SZ {α :Type} {p:Nat→ α →Bool}: ∀{l:List α} {k:Nat},I7 p k l=true↔ ∀i x,l[i]? =some x→p (k+i) x=true
 |[],k=>by simp [I7]
 |x::xs,k=>by
  simp only [I7,Bool.and_eq_true,SZ (l:=xs)];constructor
  ·rintro ⟨h1,h2⟩ i y hy;cases i with
   |zero=>
    obtain rfl:x=y:=by simpa using hy
    exact h1
   |succ i=>
    have:=h2 i y (by simpa using hy)
    rwa [show k+1+i=k+(i+1) by omega] at this
  ·intro h;refine ⟨h 0 x rfl,fun i y hy=> ?_⟩;have:=h (i+1) y (by simpa using hy)
   rwa [show k+(i+1)=k+1+i by omega] at this
def Lo (x:Span):Bool:=decide (0≤x.Hk∧x.Hk<x.To∧x.To≤1000000)
theorem Vi (x:Span):OW x=some (Lo x):=by
 unfold OW Lo;by_cases h1:0≤x.Hk
 ·rw [Dy h1,cond_true];by_cases h2:x.Hk<x.To
  ·rw [Dy h2,cond_true];simp only [h1,h2,true_and]
  ·rw [G0 h2,cond_false,G0 (fun h=>h2 h.2.1)]
 ·rw [G0 h1,cond_false,G0 (fun h=>h1 h.1)]
theorem adE (x:Span):R2 x=some (Lo x):=Vi x
def KU (l:List Span) (k:Nat) (x:Span):Bool:=Lo x&&(decide (k=0)|| !decide (x.Hk≤(l.getD (k-1) ⟨0,0⟩).To))
def MS (l:List Span):Bool:=decide (l.length≤20)&&I7 (KU l) 0 l
theorem Yb {l:List Span} {k:Nat} (hk:k<l.length) (hl:l.length≤1048576):((some (Lo l[k])).bind fun Lb=>(bif (!Lb) then some true else (bif (decide (0<(k:Int))) then (idx l (IntKind.i64.wrap ((k:Int)-1))).bind fun Lc=>some (decide (l[k].Hk≤Lc.To)) else some false)))=some (!KU l k l[k]):=by
 unfold KU;rw [Option.bind_some];cases Lo l[k]
 ·rfl
 ·simp only [Bool.not_true,cond_false,Bool.true_and];by_cases h:k=0
  ·subst h;simp
  ·rw [Dy (by omega),cond_true,CW (by omega),show (k:Int)-1=((k-1:Nat):Int) by omega,yY (by omega),G0 h,List.getD_eq_getElem?_getD,List.getElem?_eq_getElem (by omega:k-1<l.length)]
   simp
theorem Yc {l:List Span} (hl:l.length≤1048576):OX l=some (MS l):=by
 unfold OX MS;by_cases h:l.length≤20
 ·rw [G0 (by omega),cond_false,Dy h,Dx l (P9 l) (fun k (_:Unit)=>k) (fun k x s=>if KU l k x then .next s else .done (.done false)) (fun _=> .next ()) (fun k hk s=>by
   simp only [P9];rw [Dy (by omega),yY hk]
   simp only [cond_true,Option.bind_some,Vi];have:=Yb hk hl;simp only [Option.bind_some] at this;rw [this,Option.bind_some,CW (by omega)]
   cases KU l k l[k]<;>rfl) (fun s=>by simp [P9]) (),OA _ _ (fun _ _ _=>rfl)]
  cases I7 (KU l) 0 l<;>rfl
 ·rw [Dy (by omega),G0 h];rfl
theorem adF {l:List Span} (hl:l.length≤1048576):QN l=some (MS l):=by
 unfold QN MS;rw [Dx l (QM l) (fun k (_:Unit)=>k) (fun k x s=>if KU l k x then .next s else .done (.done false)) (fun _=> .next ()) (fun k hk s=>by
  simp only [QM];rw [Dy (by omega),yY hk]
  simp only [cond_true,Option.bind_some,adE];have:=Yb hk hl;simp only [Option.bind_some] at this;rw [this,Option.bind_some,CW (by omega)]
  cases KU l k l[k]<;>rfl) (fun s=>by simp [QM]) (),OA _ _ (fun _ _ _=>rfl)]
 cases I7 (KU l) 0 l
 ·simp
 ·simp only [if_true,Option.bind_some,Bool.and_true];by_cases h:l.length≤20
  ·rw [Dy h,Dy (by omega)]
  ·rw [G0 h,G0 (by omega)]
structure KV (l:List Span):Prop where
 len:l.length≤20
 sp: ∀x∈l,0≤x.Hk∧x.Hk<x.To∧x.To≤1000000
 Yd:l.Pairwise fun x y=>x.To<y.Hk
theorem S0 {l:List Span}:MS l=true↔KV l:=by
 unfold MS;rw [Bool.and_eq_true,decide_eq_true_eq,SZ];have key:(∀(i:Nat) (x:Span),l[i]? =some x→KU l (0+i) x=true)↔(∀x∈l,0≤x.Hk∧x.Hk<x.To∧x.To≤1000000)∧l.Pairwise fun x y=>x.To<y.Hk:=by
  constructor
  ·intro h;have h1: ∀x∈l,0≤x.Hk∧x.Hk<x.To∧x.To≤1000000:=fun x hx=>by
    obtain ⟨i,hi⟩:=List.mem_iff_getElem?.1 hx;have:=h i x hi;simp only [KU,Lo,Bool.and_eq_true,decide_eq_true_eq] at this;exact this.1
   have h2: ∀i (hi:i+1<l.length),l[i].To<l[i+1].Hk:=fun i hi=>by
    have:=h (i+1) l[i+1] (List.getElem?_eq_getElem hi);simp only [KU,Bool.and_eq_true,Bool.or_eq_true,decide_eq_true_eq,Bool.not_eq_true',decide_eq_false_iff_not,Nat.zero_add,Nat.add_sub_cancel] at this;rw [List.getD_eq_getElem?_getD,List.getElem?_eq_getElem (by omega:i<l.length)] at this
    have:=this.2;simp only [Option.getD_some] at this;omega
   refine ⟨h1,List.pairwise_iff_getElem.2 fun i j hi hj ku=> ?_⟩;have: ∀d,∀(hd:i+1+d<l.length),l[i].To<l[i+1+d].Hk:=fun d=>by
    induction d with
    |zero=>intro hd;exact h2 i hd
    |succ d ih=>
     intro hd;have a1:=ih (by omega)
     have a2:=h2 (i+1+d) (by omega)
     have a3:=h1 _ (List.getElem_mem (show i+1+d<l.length by omega))
     have:l[i+1+d+1]=l[i+1+(d+1)]:=rfl;rw [this] at a2;omega
   have:=this (j-(i+1)) (by omega)
   simp only [show i+1+(j-(i+1))=j by omega] at this
   exact this
  ·rintro ⟨h1,h2⟩ i x hi;obtain ⟨fL,e⟩:=List.getElem?_eq_some_iff.1 hi;simp only [KU,Lo,Bool.and_eq_true,Bool.or_eq_true,decide_eq_true_eq,Bool.not_eq_true',decide_eq_false_iff_not,Nat.zero_add];refine ⟨h1 x (List.mem_of_getElem? hi),?_⟩;by_cases h0:i=0
   ·exact .inl h0
   ·right;rw [List.getD_eq_getElem?_getD,List.getElem?_eq_getElem (by omega:i-1<l.length)]
    have:=List.pairwise_iff_getElem.1 h2 (i-1) i (by omega) fL (by omega)
    rw [e] at this;simp only [Option.getD_some];omega
 rw [key];exact ⟨fun h=>⟨h.1,h.2.1,h.2.2⟩,fun h=>⟨h.1,h.2,h.3⟩⟩
def Jf (l:List Span):Int:=l.foldl (fun n x=>IntKind.i64.wrap (n+IntKind.i64.wrap (x.To-x.Hk))) 0
theorem S1 {l:List Span} (hl:l.length≤1048576):NN l=some (Jf l):=by
 unfold NN Jf;rw [Dx l (Qe l) (fun k (s:Int)=>(s,k)) (fun _ x s=> .next (IntKind.i64.wrap (s+IntKind.i64.wrap (x.To-x.Hk)))) id (fun k hk s=>by
  simp only [Qe];rw [Dy (by omega),yY hk,CW (x:=(k:Int)+1) (by omega)]
  rfl) (fun s=>by simp [Qe]) 0,GU _ (fun _ _ _=>rfl)]
 rfl
def HH (n:Int) (x:Span):Bool:=decide (x.Hk≤n)&&decide (n<x.To)
theorem adG {l:List Span} (hl:l.length<2^60) {g:Span→Option Bool} (p:Span→Bool) (hg: ∀x∈l,g x=some (p x)):Qb l g=some (eJ p l):=by
 unfold Qb;rw [G3 p (f:=Tl l g) (fun _=>rfl) hl hg];have:=r8 p l;by_cases h:eJ p l<0
 ·rw [if_pos h];simp;omega
 ·rw [if_neg h];rfl
theorem adH {l:List Span} (hl:l.length<2^60) {g:Span→Option Bool} (p:Span→Bool) (hg: ∀x∈l,g x=some (p x)):Qc l g=some (l.any p):=by
 unfold Qc;rw [adG hl p hg,Option.bind_some,Dz]
theorem Ye {l:List Span} (hl:l.length≤1048576) (n:Int):OY l n=some (l.any (HH n)):=by
 unfold OY;rw [adH (by omega) (HH n) (fun x _=>by unfold RH HH;cases decide (x.Hk≤n)<;>rfl)]
 rfl
theorem Yf {l:List Span} (hl:l.length≤1048576) (n:Int):Pa l n=some (l.any (HH n)):=by
 unfold Pa;rw [Dx l (Qq l n) (fun k (_:Unit)=>k) (fun _ x s=>if !HH n x then .next s else .done (.done true)) (fun _=> .next ()) (fun k hk s=>by
  have e:(bif decide (l[k].Hk≤n) then some (decide (n<l[k].To)) else some false)=some (HH n l[k]):=by
   unfold HH;cases decide (l[k].Hk≤n)<;>rfl
  simp only [Qq];rw [Dy (by omega),yY hk,CW (by omega)]
  simp only [cond_true,Option.bind_some];rw [e];cases HH n l[k]<;>rfl) (fun s=>by simp [Qq]) (),GS _ _ (fun _ _ _=>rfl)]
 have:(l.all fun x=> !HH n x)= !l.any (HH n):=by
  induction l with
  |nil=>rfl
  |cons x xs ih=>simp only [List.all_cons,List.any_cons,ih (by simp only [List.length_cons] at hl;omega),Bool.not_or]
 rw [this];cases l.any (HH n)<;>rfl
def Mg (out:List Span) (x:Span):List Span:=
 match out.getLast? with
 |some z=>if x.Hk≤z.To then out.set (out.length-1) ⟨z.Hk,if x.To>z.To then x.To else z.To⟩ else out ++ [x]
 |none=>out ++ [x]
theorem adI (out:List Span) (x:Span):(Mg out x).length≤out.length+1:=by
 unfold Mg;split
 ·split
  ·simp
  ·simp
 ·simp
theorem adJ {l:List Span} (hl:l.length≤100000) (hb: ∀x∈l,-2305843009213693952≤x.Hk∧x.Hk≤2305843009213693952): ∃r:List Span,r.Perm l∧(r.Pairwise fun x y=>x.Hk≤y.Hk)∧O4 l=some (r.foldl Mg []):=by
 obtain ⟨r,h1,h2,h3⟩:=G9 (sz:=2) (z:=VT) (dec:=VU) (fun _=>rfl) (l:=l) (fun x hx=>⟨rfl,hb x hx⟩) (by omega)
 refine ⟨r,h2,h3,?_⟩;have hr:r.length=l.length:=h2.length_eq;unfold O4 NQ Tp;rw [GR (by simp<;>omega) (by omega),Option.bind_some,List.nil_append,h1,Option.bind_some]
 rw [Dw r (Qi r) (fun k (s:List Span)=>(s,k)) (fun _ x s=> .next (Mg s x)) id (fun k s=>s.length≤k) (fun k hk s hs=>by
  refine ⟨?_,fun s' e=>by obtain rfl:=LR.next.inj e;have:=adI s r[k];omega⟩
  simp only [Qi];rw [Dy (by omega),yY hk,CW (x:=(k:Int)+1) (by omega),CW (x:=(s.length:Int)-1) (by omega)]
  simp only [cond_true,Option.bind_some];unfold Mg;by_cases h0:s.length=0
  ·have:s=[]:=List.length_eq_zero_iff.1 h0;subst this;rw [G0 (by simp),GR (by simp) (by omega)]
   rfl
  ·rw [Dy (by omega),cond_true,GW (by omega) (by omega),Option.bind_some]
   have e1:((s.length:Int)-1).toNat=s.length-1:=by omega
   simp only [e1,List.getLast?_eq_getElem?,List.getElem?_eq_getElem (show s.length-1<s.length by omega),Option.bind_some]
   by_cases h1:r[k].Hk≤s[s.length-1].To
   ·simp only [decide_eq_true h1,cond_true,if_pos h1,Option.bind_some];rfl
   ·simp only [decide_eq_false h1,cond_false,if_neg h1];rw [GR (by simp<;>omega) (by omega)];rfl) (fun s _=>by simp [Qi]) [] (by simp),GU _ (fun _ _ _=>rfl)]
 rfl
theorem adK {l:List Span}:O5 l=some (if l.length≤20 then (l,true) else ([],false)):=by
 unfold O5;by_cases h:l.length≤20
 ·rw [G0 (by omega),if_pos h];rfl
 ·rw [Dy (by omega),if_neg h];rfl
def Iy:List Span→Prop
 |[]=>True
 |x::l=>x.Hk<x.To∧(∀y∈l,x.To<y.Hk)∧Iy l
def hs (l:List Span) (n:Int):Prop:= ∃x∈l,x.Hk≤n∧n<x.To
theorem Nu (n:Int): ¬hs [] n:=fun ⟨_,h,_⟩=>by simp at h
theorem IS {x:Span} {l:List Span} {n:Int}:hs (x::l) n↔(x.Hk≤n∧n<x.To)∨hs l n:=by
 constructor
 ·rintro ⟨y,hy,h⟩;rcases List.mem_cons.1 hy with rfl|hy
  ·exact .inl h
  ·exact .inr ⟨y,hy,h⟩
 ·rintro (h|⟨y,hy,h⟩)
  ·exact ⟨x,by simp,h⟩
  ·exact ⟨y,by simp [hy],h⟩
theorem S4 {a b:List Span} {n:Int}:hs (a ++ b) n↔hs a n∨hs b n:=by
 constructor
 ·rintro ⟨y,hy,h⟩;rcases List.mem_append.1 hy with hy|hy
  ·exact .inl ⟨y,hy,h⟩
  ·exact .inr ⟨y,hy,h⟩
 ·rintro (⟨y,hy,h⟩|⟨y,hy,h⟩)
  ·exact ⟨y,by simp [hy],h⟩
  ·exact ⟨y,by simp [hy],h⟩
theorem Yg {a b:List Span} (h:a.Perm b) {n:Int}:hs a n↔hs b n:=
 ⟨fun ⟨y,hy,k⟩=>⟨y,h.mem_iff.1 hy,k⟩,fun ⟨y,hy,k⟩=>⟨y,h.mem_iff.2 hy,k⟩⟩
theorem S5 {l:List Span} {n:Int}:l.any (HH n)=true↔hs l n:=by
 simp only [List.any_eq_true,HH,Bool.and_eq_true,decide_eq_true_eq,hs]
theorem Iy.ne: ∀{l:List Span},Iy l→ ∀x∈l,x.Hk<x.To
 |y::l,h,x,hx=>by
  rcases List.mem_cons.1 hx with rfl|hx
  ·exact h.1
  ·exact Iy.ne h.2.2 x hx
theorem Iy.S6: ∀{l:List Span},Iy l→l.Pairwise fun x y=>x.To<y.Hk
 |[],_=>List.Pairwise.nil
 |_::_,h=>List.Pairwise.cons h.2.1 (Iy.S6 h.2.2)
theorem Iy.of: ∀{l:List Span},(∀x∈l,x.Hk<x.To)→(l.Pairwise fun x y=>x.To<y.Hk)→Iy l
 |[],_,_=>trivial
 |x::l,h,p=>⟨h x (by simp),(List.pairwise_cons.1 p).1,Iy.of (fun y hy=>h y (by simp [hy])) (List.pairwise_cons.1 p).2⟩
theorem KV.cn {l:List Span} (h:KV l):Iy l:=Iy.of (fun x hx=>(h.sp x hx).2.1) h.Yd
theorem Nv {x:Span} {l:List Span} (h: ∀y∈l,x.To<y.Hk) {n:Int} (hn:hs l n):x.To<n:=by
 obtain ⟨y,hy,h1,h2⟩:=hn;have:=h y hy;omega
theorem Iy.iB: ∀{l m:List Span},Iy l→Iy m→(∀n,hs l n↔hs m n)→l=m
 |[],[],_,_,_=>rfl
 |[],y::m,_,h,e=>absurd ((e y.Hk).2 (IS.2 (.inl ⟨Int.le_refl _,h.1⟩))) (Nu _)
 |x::l,[],h,_,e=>absurd ((e x.Hk).1 (IS.2 (.inl ⟨Int.le_refl _,h.1⟩))) (Nu _)
 |x::l,y::m,⟨h1,h2,h3⟩,⟨k1,k2,k3⟩,e=>by
  have a1:=IS.1 ((e x.Hk).1 (IS.2 (.inl ⟨Int.le_refl _,h1⟩)));have a2:=IS.1 ((e y.Hk).2 (IS.2 (.inl ⟨Int.le_refl _,k1⟩)));have Yh:x.Hk=y.Hk:=by
   rcases a1 with a1|a1
   ·rcases a2 with a2|a2
    ·omega
    ·have:=Nv h2 a2;omega
   ·have:=Nv k2 a1;rcases a2 with a2|a2
    ·omega
    ·have:=Nv h2 a2;omega
  have Yi:x.To=y.To:=by
   have b1: ¬x.To<y.To:=fun h=>by
    rcases IS.1 ((e x.To).2 (IS.2 (.inl ⟨by omega,h⟩))) with b|b
    ·omega
    ·have:=Nv h2 b;omega
   have b2: ¬y.To<x.To:=fun h=>by
    rcases IS.1 ((e y.To).1 (IS.2 (.inl ⟨by omega,h⟩))) with b|b
    ·omega
    ·have:=Nv k2 b;omega
   omega
  have exy:x=y:=by cases x;cases y;simp only at Yh Yi;rw [Yh,Yi]
  subst exy;congr 1;refine Iy.iB h3 k3 fun n=>⟨fun hn=> ?_,fun hn=> ?_⟩
  ·have:=Nv h2 hn;rcases IS.1 ((e n).1 (IS.2 (.inr hn))) with b|b
   ·omega
   ·exact b
  ·have:=Nv k2 hn;rcases IS.1 ((e n).2 (IS.2 (.inr hn))) with b|b
   ·omega
   ·exact b
theorem adL (x:Span):Mg [] x=[x]:=rfl
theorem adM (i:List Span) (z x:Span):Mg (i ++ [z]) x=if x.Hk≤z.To then i ++ [⟨z.Hk,if x.To>z.To then x.To else z.To⟩] else i ++ [z] ++ [x]:=by
 unfold Mg;simp only [List.getLast?_concat];by_cases h:x.Hk≤z.To
 ·rw [if_pos h,if_pos h,show (i ++ [z]).length-1=i.length by simp,List.set_append_right _ _ (by omega)]
  simp
 ·rw [if_neg h,if_neg h]
theorem Vj: ∀(r i:List Span) (z:Span),(∀x∈r,x.Hk<x.To)→(r.Pairwise fun x y=>x.Hk≤y.Hk)→(∀x∈r,z.Hk≤x.Hk)→Iy (i ++ [z])→Iy (r.foldl Mg (i ++ [z]))∧ ∀n,hs (r.foldl Mg (i ++ [z])) n↔hs (i ++ [z]) n∨hs r n
 |[],i,z,_,_,_,hc=>⟨hc,fun n=>⟨.inl,fun h=>h.resolve_right (Nu n)⟩⟩
 |x::r,i,z,h1,h2,h3,hc=>by
  have hx:=h1 x (by simp)
  have hz:=h3 x (by simp)
  have hp:=List.pairwise_cons.1 h2;have Vk:=List.pairwise_append.1 hc.S6;have hzn:=hc.ne z (by simp)
  rw [List.foldl_cons,adM];by_cases h:x.Hk≤z.To
  ·rw [if_pos h];have hm:z.To≤(if x.To>z.To then x.To else z.To)∧x.To≤(if x.To>z.To then x.To else z.To)∧((if x.To>z.To then x.To else z.To)=x.To∨(if x.To>z.To then x.To else z.To)=z.To):=by split<;>omega
   generalize (if x.To>z.To then x.To else z.To)=t at hm⊢;obtain ⟨c1,c2⟩:=Vj r i ⟨z.Hk,t⟩ (fun y hy=>h1 y (by simp [hy])) hp.2 (fun y hy=>h3 y (by simp [hy])) (Iy.of (fun y hy=>by
    rcases List.mem_append.1 hy with hy|hy
    ·exact hc.ne y (by simp [hy])
    ·obtain rfl:=List.mem_singleton.1 hy;show z.Hk<t;omega) (List.pairwise_append.2 ⟨Vk.1,List.pairwise_singleton _ _,fun y hy w hw=>by
      obtain rfl:=List.mem_singleton.1 hw;exact Vk.2.2 y hy z (by simp)⟩))
   refine ⟨c1,fun n=> ?_⟩;rw [c2,S4,S4,IS,IS,IS];constructor
   ·rintro ((k|k)|k)
    ·exact .inl (.inl k)
    ·rcases k with k|k
     ·dsimp only at k;by_cases adN:n<z.To
      ·exact .inl (.inr (.inl ⟨k.1,adN⟩))
      ·exact .inr (.inl ⟨by omega,by omega⟩)
     ·exact absurd k (Nu n)
    ·exact .inr (.inr k)
   ·rintro ((k|k|k)|k|k)
    ·exact .inl (.inl k)
    ·exact .inl (.inr (.inl ⟨k.1,by dsimp only;omega⟩))
    ·exact absurd k (Nu n)
    ·exact .inl (.inr (.inl ⟨by dsimp only;omega,by dsimp only;omega⟩))
    ·exact .inr k
  ·rw [if_neg h];obtain ⟨c1,c2⟩:=Vj r (i ++ [z]) x (fun y hy=>h1 y (by simp [hy])) hp.2 (fun y hy=>hp.1 y hy) (Iy.of (fun y hy=>by
    rcases List.mem_append.1 hy with hy|hy
    ·exact hc.ne y hy
    ·obtain rfl:=List.mem_singleton.1 hy;exact hx) (List.pairwise_append.2 ⟨hc.S6,List.pairwise_singleton _ _,fun y hy w hw=>by
      obtain rfl:=List.mem_singleton.1 hw;rcases List.mem_append.1 hy with hy|hy
      ·have:=Vk.2.2 y hy z (by simp)
       omega
      ·obtain rfl:=List.mem_singleton.1 hy;omega⟩))
   refine ⟨c1,fun n=> ?_⟩;rw [c2,S4,IS,IS];constructor
   ·rintro ((k|k|k)|k)
    ·exact .inl k
    ·exact .inr (.inl k)
    ·exact absurd k (Nu n)
    ·exact .inr (.inr k)
   ·rintro (k|k|k)
    ·exact .inl (.inl k)
    ·exact .inl (.inr (.inl k))
    ·exact .inr k
theorem adO {l:List Span} (hl:l.length≤100000) (hb: ∀x∈l,0≤x.Hk∧x.Hk<x.To∧x.To≤1000000): ∃j,O4 l=some j∧Iy j∧ ∀n,hs j n↔hs l n:=by
 obtain ⟨r,h1,h2,h3⟩:=adJ hl fun x hx=>by have:=hb x hx;omega
 refine ⟨_,h3,?_⟩;have hr: ∀x∈r,x.Hk<x.To:=fun x hx=>(hb x (h1.mem_iff.1 hx)).2.1;cases r with
 |nil=>exact ⟨trivial,fun n=>Yg h1⟩
 |cons x r=>
  obtain ⟨c1,c2⟩:=Vj r [] x (fun y hy=>hr y (by simp [hy])) (List.pairwise_cons.1 h2).2 (List.pairwise_cons.1 h2).1 ⟨hr x (by simp),fun y hy=>by simp at hy,trivial⟩
  rw [List.foldl_cons,adL];refine ⟨c1,fun n=> ?_⟩;rw [show [x]=[] ++ [x] from rfl,c2,←Yg h1,IS,List.nil_append,IS];exact ⟨fun h=>by
   rcases h with (h|h)|h
   ·exact .inl h
   ·exact absurd h (Nu n)
   ·exact .inr h,fun h=>by
   rcases h with h|h
   ·exact .inl (.inl h)
   ·exact .inr h⟩
theorem Iy.inb {l:List Span} (h:Iy l) (hn: ∀n,hs l n→0≤n∧n<1000000): ∀x∈l,0≤x.Hk∧x.Hk<x.To∧x.To≤1000000:=fun x hx=>by
 have h1:=h.ne x hx;have h2:=hn x.Hk ⟨x,hx,Int.le_refl _,h1⟩;have h3:=hn (x.To-1) ⟨x,hx,by omega,by omega⟩
 omega
theorem Iy.Vl {l:List Span} (h:Iy l) (hn: ∀n,hs l n→0≤n∧n<1000000) (hl:l.length≤20):KV l:=⟨hl,h.inb hn,h.S6⟩
theorem KV.b7 {l:List Span} (h:KV l) {n:Int} (hn:hs l n):0≤n∧n<1000000:=by
 obtain ⟨x,hx,h1,h2⟩:=hn;have:=h.sp x hx;omega
theorem Yj (a b:Int):OL a b=some (if a<b then a else b):=by
 unfold OL;by_cases h:a<b
 ·rw [Dy h,if_pos h];rfl
 ·rw [G0 h,if_neg h];rfl
theorem adP (a b:Int):Qr a b=some (if b<a then a else b):=by
 unfold Qr;by_cases h:b<a
 ·rw [Dy h,if_pos h];rfl
 ·rw [G0 h,if_neg h];rfl
def mix (x y:Span):Span:=⟨if x.Hk<y.Hk then x.Hk else y.Hk,if y.To<x.To then x.To else y.To⟩
def KW:List Span→Span→List Span
 |[],x=>[x]
 |y::l,x=>if y.Hk≤x.To then KW l (mix x y) else x::y::l
def Kl (x y:Span):Bool:=decide (y.To<x.Hk)
def Is (l:List Span) (x:Span):List Span:=l.takeWhile (Kl x) ++ KW (l.drop (l.takeWhile (Kl x)).length) x
theorem drop_cons {α :Type} {l:List α} {k:Nat} {y: α} {suf:List α} (h:l.drop k=y::suf):l.drop (k+1)=suf∧l[k]? =some y:=by
 constructor
 ·rw [←List.drop_drop,h];rfl
 ·have:=List.getElem?_drop (xs:=l) (i:=k) (j:=0);rw [h] at this;simpa using this.symm
theorem Yk (x:Span) (n:Nat): ∀(suf:List Span) (k:Nat) (s:List Span),k+suf.length=n→fm (fun k y (s:List Span)=>if Kl x y then LR.next (s ++ [y]) else LR.done (s,(k:Int))) (fun s=>(s,(n:Int))) k suf s=(s ++ suf.takeWhile (Kl x),((k+(suf.takeWhile (Kl x)).length:Nat):Int))
 |[],k,s,h=>by simp only [List.length_nil] at h;simp [fm,←h]
 |y::suf,k,s,h=>by
  simp only [List.length_cons] at h;simp only [fm];cases hb:Kl x y
  ·simp [hb]
  ·simp only [if_true];rw [Yk x n suf (k+1) _ (by omega)]
   simp [hb];omega
theorem Yl (l:List Span): ∀(suf:List Span) (k:Nat) (x:Span),l.drop k=suf→k≤l.length→ ∃(k' :Nat) (z:Span),fm (fun k y (s:Span)=>if y.Hk≤s.To then LR.next (mix s y) else LR.done ((k:Int),s.Hk,s.To)) (fun s=>((l.length:Int),s.Hk,s.To)) k suf x=((k' :Int),z.Hk,z.To)∧k' ≤l.length∧KW suf x=z::l.drop k'
 |[],k,x,_,_=>⟨l.length,x,rfl,Nat.le_refl _,by simp [KW]⟩
 |y::suf,k,x,h,hk=>by
  obtain ⟨h1,h2⟩:=drop_cons h;have bR:k<l.length:=(List.getElem?_eq_some_iff.1 h2).1
  simp only [fm,KW];by_cases hc:y.Hk≤x.To
  ·rw [if_pos hc,if_pos hc];exact Yl l suf (k+1) (mix x y) h1 (by omega)
  ·rw [if_neg hc,if_neg hc];exact ⟨k,x,rfl,hk,by rw [h]⟩
theorem adQ {α :Type} (p: α →Bool) (l:List α):(l.takeWhile p).length≤l.length:=by
 induction l with
 |nil=>simp
 |cons x xs ih=>simp only [List.takeWhile_cons];split<;>simp<;>omega
theorem adR {l:List Span} (hl:l.length≤1048576) (x:Span):Qv l x=some (Is l x):=by
 unfold Qv;have e0:=Dw l (Qs l x) (fun k (s:List Span)=>(s,k)) (fun k y (s:List Span)=>if Kl x y then LR.next (s ++ [y]) else LR.done (s,(k:Int))) (fun s=>(s,(l.length:Int))) (fun k s=>s.length≤k) (fun k hk s hs=>by
  refine ⟨?_,fun s' e=>by
   split at e
   ·obtain rfl:=LR.next.inj e;simp;omega
   ·cases e⟩
  simp only [Qs];rw [Dy (by omega),yY hk,CW (x:=(k:Int)+1) (by omega)]
  simp only [cond_true,Option.bind_some];unfold Kl;by_cases h:l[k].To<x.Hk
  ·simp only [decide_eq_true h,cond_true,if_true];rw [GR (by simp<;>omega) (by omega)];rfl
  ·simp only [decide_eq_false h,cond_false];rfl) (fun s _=>by simp [Qs]) [] (by simp)
 rw [Yk x l.length l 0 [] (by omega)] at e0
 rw [e0,Option.bind_some];dsimp only;have hw:=adQ (Kl x) l;rw [Nat.zero_add,List.nil_append];obtain ⟨k',z,e1,bR,e2⟩:=Yl l (l.drop (l.takeWhile (Kl x)).length) (l.takeWhile (Kl x)).length x rfl hw;have e3:=Dv l (Qt l) (fun k (s:Span)=>(k,s.Hk,s.To)) (fun k y (s:Span)=>if y.Hk≤s.To then LR.next (mix s y) else LR.done ((k:Int),s.Hk,s.To)) (fun s=>((l.length:Int),s.Hk,s.To)) (fun _ _=>True) (fun k hk s _=>by
  refine ⟨?_,fun _ _=>trivial⟩;simp only [Qt];rw [Dy (by omega),yY hk,CW (x:=(k:Int)+1) (by omega)]
  simp only [cond_true,Option.bind_some,Yj,adP];by_cases h:l[k].Hk≤s.To
  ·simp only [decide_eq_true h,cond_true,if_pos h];rfl
  ·simp only [decide_eq_false h,cond_false,if_neg h];rfl) (fun s _=>by simp [Qt]) (l.length-(l.takeWhile (Kl x)).length) (l.takeWhile (Kl x)).length (by omega) x trivial
 rw [e1] at e3;rw [e3,Option.bind_some];dsimp only;rw [GR (by simp<;>omega) (by omega),Option.bind_some,GY (by omega) (by omega) (by omega),Option.bind_some]
 have e4:List.take ((l.length:Int).toNat-(k' :Int).toNat) (List.drop (k' :Int).toNat l)=l.drop k' :=by
  rw [Int.toNat_natCast,Int.toNat_natCast,List.take_of_length_le (by simp)]
 rw [e4,GR (by simp<;>omega) (by omega),Option.bind_some]
 unfold Is;rw [e2];simp
theorem Vm: ∀(l:List Span) (x:Span),Iy l→x.Hk<x.To→(∀y∈l,x.Hk≤y.To)→Iy (KW l x)∧(∀n,hs (KW l x) n↔(x.Hk≤n∧n<x.To)∨hs l n)∧(∀c,c<x.Hk→(∀y∈l,c<y.Hk)→ ∀w∈KW l x,c<w.Hk)∧(KW l x).length≤l.length+1
 |[],x,_,hx,_=>⟨⟨hx,fun y hy=>by simp at hy,trivial⟩,fun n=>by simp only [KW];exact IS,fun c hc _ w hw=>by obtain rfl:=List.mem_singleton.1 hw;exact hc,by simp [KW]⟩
 |y::l,x,⟨h1,h2,h3⟩,hx,hy=>by
  have Ae:=hy y (by simp)
  simp only [KW];by_cases h:y.Hk≤x.To
  ·rw [if_pos h];have m1:(mix x y).Hk≤x.Hk∧(mix x y).Hk≤y.Hk∧((mix x y).Hk=x.Hk∨(mix x y).Hk=y.Hk):=by simp only [mix];split<;>omega
   have m2:x.To≤(mix x y).To∧y.To≤(mix x y).To∧((mix x y).To=x.To∨(mix x y).To=y.To):=by simp only [mix];split<;>omega
   obtain ⟨c1,c2,c3,c4⟩:=Vm l (mix x y) h3 (by omega) (fun w hw=>by
    have a1:=h2 w hw;have a2:=h3.ne w hw;omega)
   refine ⟨c1,fun n=> ?_,fun c hc hl w hw=>c3 c (by have:=hl y (by simp);omega) (fun v hv=>hl v (by simp [hv])) w hw,by simp only [List.length_cons];omega⟩
   rw [c2,IS];constructor
   ·rintro (k|k)
    ·by_cases k1:x.Hk≤n∧n<x.To
     ·exact .inl k1
     ·exact .inr (.inl (by omega))
    ·exact .inr (.inr k)
   ·rintro (k|k|k)
    ·exact .inl (by omega)
    ·exact .inl (by omega)
    ·exact .inr k
  ·rw [if_neg h];refine ⟨⟨hx,fun w hw=> ?_,h1,h2,h3⟩,fun n=>IS,fun c hc hl w hw=> ?_,by simp⟩
   ·rcases List.mem_cons.1 hw with rfl|hw
    ·omega
    ·have:=h2 w hw;omega
   ·rcases List.mem_cons.1 hw with rfl|hw
    ·exact hc
    ·exact hl w hw
theorem Nw: ∀(l:List Span) (x:Span),Iy l→x.Hk<x.To→Iy (Is l x)∧(∀n,hs (Is l x) n↔(x.Hk≤n∧n<x.To)∨hs l n)∧(∀c,c<x.Hk→(∀y∈l,c<y.Hk)→ ∀w∈Is l x,c<w.Hk)∧(Is l x).length≤l.length+1
 |[],x,h,hx=>Vm [] x h hx (fun y hy=>by simp at hy)
 |y::l,x,⟨h1,h2,h3⟩,hx=>by
  by_cases hb:y.To<x.Hk
  ·have e:Is (y::l) x=y::Is l x:=by simp [Is,Kl,hb]
   obtain ⟨c1,c2,c3,c4⟩:=Nw l x h3 hx;rw [e];refine ⟨⟨h1,c3 _ hb h2,c1⟩,fun n=> ?_,fun c hc hl w hw=> ?_,by simp only [List.length_cons];omega⟩
   ·rw [IS,c2,IS];constructor
    ·rintro (k|k|k)
     ·exact .inr (.inl k)
     ·exact .inl k
     ·exact .inr (.inr k)
    ·rintro (k|k|k)
     ·exact .inr (.inl k)
     ·exact .inl k
     ·exact .inr (.inr k)
   ·rcases List.mem_cons.1 hw with rfl|hw
    ·exact hl w (by simp)
    ·exact c3 c hc (fun v hv=>hl v (by simp [hv])) w hw
  ·have e:Is (y::l) x=KW (y::l) x:=by simp [Is,Kl,hb]
   rw [e];exact Vm (y::l) x ⟨h1,h2,h3⟩ hx fun w hw=>by
    rcases List.mem_cons.1 hw with rfl|hw
    ·omega
    ·have:=h2 w hw;have:=h3.ne w hw;omega
theorem adS {l:List Span} (hl:l.length≤1000):QI l l=some true:=by
 unfold QI;rw [bne_self_eq_false,cond_false,Dx l (QH l l) (fun k (_:Unit)=>k) (fun _ _ s=> .next s) (fun _=> .next ()) (fun k hk s=>by
  simp only [QH];rw [Dy (by omega),yY hk,CW (by omega)]
  simp;rfl) (fun s=>by simp [QH]) (),GU (fun s _=>s) (fun _ _ _=>rfl)]
 rfl
def IK (p:Int→Bool):Nat→Nat
 |0=>0
 |N+1=>IK p N+(p N).toNat
theorem Ym (p q:Int→Bool) (N:Nat):IK (fun n=>p n||q n) N+IK (fun n=>p n&&q n) N=IK p N+IK q N:=by
 induction N with
 |zero=>rfl
 |succ N ih=>
  simp only [IK];cases p N<;>cases q N<;>simp only [Bool.or_false,Bool.or_true,Bool.and_false,Bool.and_true,Bool.toNat_true,Bool.toNat_false]<;>omega
theorem Vn {p:Int→Bool} (h: ∀n,p n=false) (N:Nat):IK p N=0:=by
 induction N with
 |zero=>rfl
 |succ N ih=>simp only [IK,ih,h];rfl
theorem Vo (x:Span) (h0:0≤x.Hk) (h1:x.Hk<x.To) (N:Nat):(IK (fun n=>HH n x) N:Int)=if (N:Int)≤x.Hk then 0 else if (N:Int)≤x.To then N-x.Hk else x.To-x.Hk:=by
 induction N with
 |zero=>simp [IK,h0]
 |succ N ih=>
  simp only [IK];have e:HH (N:Int) x=decide (x.Hk≤(N:Int)∧(N:Int)<x.To):=by
   unfold HH;rw [Bool.decide_and]
  rw [e];by_cases h:x.Hk≤(N:Int)∧(N:Int)<x.To
  ·rw [Dy h,Bool.toNat_true]
   push_cast
   rw [ih];repeat' split
   all_goals omega
  ·rw [G0 h,Bool.toNat_false]
   push_cast
   rw [Int.add_zero,ih];repeat' split
   all_goals omega
def LU (l:List Span):Int:=(l.map fun x=>x.To-x.Hk).sum
theorem Yn (N:Nat): ∀(l:List Span),Iy l→(∀x∈l,0≤x.Hk∧x.To≤N)→LU l=(IK (fun n=>l.any (HH n)) N:Int)
 |[],_,_=>by rw [Vn (p:=fun n=>([]:List Span).any (HH n)) (fun n=>rfl)];rfl
 |x::l,⟨h1,h2,h3⟩,hb=>by
  have hx:=hb x (by simp)
  have e1:=Ym (fun n=>HH n x) (fun n=>l.any (HH n)) N;have e2:=Vn (p:=fun n=>HH n x&&l.any (HH n)) (fun n=>by
   by_cases k:hs l n
   ·have:=Nv h2 k;unfold HH;rw [G0 (show¬n<x.To by omega)]
    simp
   ·have:l.any (HH n)=false:=by
     rw [Bool.eq_false_iff];exact fun q=>k (S5.1 q)
    simp [this]) N
  have e3:=Vo x hx.1 h1 N;have e4:=Yn N l h3 fun y hy=>hb y (by simp [hy])
  have e5:(fun n=>(x::l).any (HH n))=fun n=>HH n x||l.any (HH n):=rfl;have e6:LU (x::l)=(x.To-x.Hk)+LU l:=by simp [LU]
  rw [e5,e6,e4];rw [if_neg (by omega)] at e3
  have e7:(IK (fun n=>HH n x) N:Int)=x.To-x.Hk:=by
   rw [e3];split<;>omega
  omega
theorem Yo: ∀(l:List Span) (s:Int),(∀x∈l,0≤x.Hk∧x.Hk<x.To∧x.To≤1000000)→0≤s→s+1000000*(l.length:Int)≤4000000000000000000→l.foldl (fun n x=>IntKind.i64.wrap (n+IntKind.i64.wrap (x.To-x.Hk))) s=s+LU l∧0≤LU l∧LU l≤1000000*(l.length:Int)
 |[],s,_,_,_=>by simp [LU]
 |x::l,s,h,h0,h1=>by
  have hx:=h x (by simp)
  simp only [List.length_cons] at h1
  push_cast at h1
  have e6:LU (x::l)=(x.To-x.Hk)+LU l:=by simp [LU]
  obtain ⟨a1,a2,a3⟩:=Yo l (s+(x.To-x.Hk)) (fun y hy=>h y (by simp [hy])) (by omega) (by omega)
  rw [List.foldl_cons,CW (x:=x.To-x.Hk) (by omega),CW (by omega),a1,e6]
  simp only [List.length_cons]
  push_cast
  omega
theorem KV.Jf {l:List Span} (h:KV l):Jf l=(IK (fun n=>l.any (HH n)) 1000000:Int)∧0≤Go.JN.Jf l∧Go.JN.Jf l≤20000000:=by
 obtain ⟨a1,a2,a3⟩:=Yo l 0 h.sp (by omega) (by have:=h.len;omega)
 have e:=Yn 1000000 l h.cn fun x hx=>by have:=h.sp x hx;exact ⟨this.1,this.2.2⟩
 have hl:=h.len;unfold Go.JN.Jf;rw [a1,Int.zero_add];exact ⟨e,a2,by omega⟩
theorem Yp {x:Span}:Lo x=true↔0≤x.Hk∧x.Hk<x.To∧x.To≤1000000:=by
 unfold Lo;rw [decide_eq_true_eq]
def tell (l:List Span):List Span×Bool:=if l.length≤20 then (l,true) else ([],false)
theorem adT (l:List Span):O5 l=some (tell l):=adK
def Vp (l:List Span) (x:Span):List Span×Int×Bool:=if MS l&&Lo x then (if (Is l x).length≤20 then (Is l x,IntKind.i64.wrap (Jf (Is l x)-Jf l),true) else ([],0,false)) else ([],0,false)
theorem adU {α :Type} {A B:Bool} {k:Option α} {z: α} {v: α} (h:A=true→B=true→k=some v):((some A).bind fun RZ=>(bif (!RZ) then some true else (some B).bind fun Jm=>some (!Jm))).bind (fun HK=>bif HK then some z else k)=some (if A&&B then v else z):=by
 cases A
 ·rfl
 ·cases B
  ·rfl
  ·simp only [Option.bind_some,Bool.not_true,cond_false,Bool.and_self,if_true];exact h rfl rfl
theorem adV {l:List Span} (hl:l.length≤100) (x:Span):Qj l x=some (Vp l x):=by
 unfold Qj Vp;rw [Yc (by omega),Vi]
 refine adU fun h1 h2=> ?_;have p1:=S0.1 h1;have hx:=Yp.1 h2;obtain ⟨a1,a2,a3,a4⟩:=Nw l x p1.cn hx.2.1;obtain ⟨j,e,j1,j2⟩:=adO (l:=l ++ [x]) (by simp<;>omega) (fun y hy=>by
  rcases List.mem_append.1 hy with hy|hy
  ·exact p1.sp y hy
  ·obtain rfl:=List.mem_singleton.1 hy;exact hx)
 have Vq:j=Is l x:=j1.iB a1 fun n=>by
  rw [j2,a2,S4,IS];exact ⟨fun h=>by
   rcases h with h|h|h
   ·exact .inr h
   ·exact .inl h
   ·exact absurd h (Nu n),fun h=>by
   rcases h with h|h
   ·exact .inr (.inl h)
   ·exact .inl h⟩
 unfold NQ;rw [GR (by simp<;>omega) (by omega),Option.bind_some,List.nil_append,GR (by simp<;>omega) (by omega),Option.bind_some,e,Option.bind_some,Vq,adT,Option.bind_some]
 unfold tell;by_cases h:(Is l x).length≤20
 ·rw [if_pos h,if_pos h];simp only [Bool.not_true,cond_false];rw [S1 (by omega),S1 (by omega)]
  rfl
 ·rw [if_neg h,if_neg h];rfl
def IT (l:List Int) (x:Int):Bool:=decide (x∈l)
theorem Yq {l:List Int} {x:Int} {i:Nat} (h:i<l.length):x∈l.drop i↔l[i]=x∨x∈l.drop (i+1):=by
 rw [List.drop_eq_getElem_cons h,List.mem_cons];exact or_congr_left eq_comm
theorem Yr {l:List Int} (hl:l.length≤1048576) (x:Int):NO l x=some (IT l x):=by
 unfold NO RJ;obtain ⟨y,e,hy⟩:=yX (f:=RI l x) (fun i:Int=>l.length-i.toNat) (fun i=>0≤i∧i≤l.length∧(x∈l↔x∈l.drop i.toNat)) (fun y=>match y with| .next ()=>x∉l| .done k=>x∈l∧0≤k) (by
  rintro i ⟨i0,i1,i2⟩;simp only [RI];by_cases hi:i<l.length
  ·have az:i.toNat<l.length:=by omega
   rw [Dy hi,GW i0 hi];simp only [cond_true,Option.bind_some];rw [Yq az] at i2;by_cases hx:x=l[i.toNat]
   ·rw [show (x==l[i.toNat])=true from beq_iff_eq.2 hx];exact ⟨_,rfl,i2.2 (.inl hx.symm),i0⟩
   ·rw [show (x==l[i.toNat])=false from beq_eq_false_iff_ne.2 hx,cond_false,CW (by omega)]
    refine ⟨_,rfl,⟨by omega,by omega,?_⟩,by omega⟩
    rw [show (i+1).toNat=i.toNat+1 by omega,i2]
    exact or_iff_right (fun h=>hx h.symm)
  ·rw [G0 hi];rw [List.drop_eq_nil_of_le (by omega)] at i2
   exact ⟨_,rfl,fun h=>by simpa using i2.1 h⟩) 0 ⟨by omega,by omega,by simp⟩
 rw [e];cases y with
 |next u=>
  cases u
  have:IT l x=false:=by simpa [IT] using hy
  rw [this];rfl
 |done k=>
  have:IT l x=true:=by simpa [IT] using hy.1
  rw [this];simp only [Option.bind_some];rw [Dy hy.2]
theorem Ys {l:List Int} (hl:l.length≤1048576) (x:Int):O_ l x=some (IT l x):=by
 unfold O_;obtain ⟨y,e,hy⟩:=yX (f:=RS l x) (fun i:Int=>l.length-i.toNat) (fun i=>0≤i∧i≤l.length∧(x∈l↔x∈l.drop i.toNat)) (fun y=>match y with| .next ()=>x∉l| .done k=>x∈l∧k=true) (by
  rintro i ⟨i0,i1,i2⟩;simp only [RS];by_cases hi:i<l.length
  ·have az:i.toNat<l.length:=by omega
   rw [Dy hi,GW i0 hi];simp only [cond_true,Option.bind_some];rw [Yq az] at i2;by_cases hx:l[i.toNat]=x
   ·rw [show (l[i.toNat]==x)=true from beq_iff_eq.2 hx];exact ⟨_,rfl,i2.2 (.inl hx),rfl⟩
   ·rw [show (l[i.toNat]==x)=false from beq_eq_false_iff_ne.2 hx,cond_false,CW (by omega)]
    refine ⟨_,rfl,⟨by omega,by omega,?_⟩,by omega⟩
    rw [show (i+1).toNat=i.toNat+1 by omega,i2]
    exact or_iff_right hx
  ·rw [G0 hi];rw [List.drop_eq_nil_of_le (by omega)] at i2
   exact ⟨_,rfl,fun h=>by simpa using i2.1 h⟩) 0 ⟨by omega,by omega,by simp⟩
 rw [e];cases y with
 |next u=>
  cases u
  have:IT l x=false:=by simpa [IT] using hy
  rw [this];rfl
 |done k=>
  have:IT l x=true:=by simpa [IT] using hy.1
  rw [this,hy.2];rfl
abbrev hb (l:List Span) (n:Int):Bool:=l.any (HH n)
structure OB (l:List Span) (n:Int):Prop where
 sp:KV l
 lt: ∀m,hs l m→m<n
def Nx (l:List Span):Span:=l.getD (l.length-1) ⟨0,0⟩
theorem adW {l:List Span} (h:0<l.length):Nx l∈l:=by
 unfold Nx;rw [List.getD_eq_getElem?_getD,List.getElem?_eq_getElem (by omega)]
 exact List.getElem_mem _
theorem adX {l:List Span} (h:KV l) {x:Span} (hx:x∈l):x.To≤(Nx l).To:=by
 obtain ⟨i,hi,rfl⟩:=List.getElem_of_mem hx;unfold Nx;rw [List.getD_eq_getElem?_getD,List.getElem?_eq_getElem (by omega)]
 simp only [Option.getD_some];by_cases e:i=l.length-1
 ·subst e;exact Int.le_refl _
 ·have h1:=List.pairwise_iff_getElem.1 h.Yd i (l.length-1) hi (by omega) (by omega)
  have h2:=(h.sp _ (List.getElem_mem (l:=l) (n:=l.length-1) (by omega))).2.1
  omega
theorem adY {l:List Span} (h:KV l) {n:Int}:OB l n↔(l.length=0∨(Nx l).To≤n):=by
 constructor
 ·rintro ⟨_,h2⟩;by_cases h0:l.length=0
  ·exact .inl h0
  ·right;have hm:=adW (l:=l) (by omega)
   have:=(h.sp _ hm).2.1;have:=h2 ((Nx l).To-1) ⟨_,hm,by omega,by omega⟩
   omega
 ·intro h2;refine ⟨h,fun m ⟨x,hx,h3,h4⟩=> ?_⟩;have h5:=adX h hx;rcases h2 with h2|h2
  ·rw [List.eq_nil_of_length_eq_zero h2] at hx;simp at hx
  ·omega
theorem Yt {l:List Span} (hl:l.length≤1048576) (n:Int) {g:List Span→Option Bool} (hg:g l=some (MS l)):
 ∃b,((g l).bind fun b3=>(bif b3 then (bif ((l.length:Int)==0) then some true else (idx l (IntKind.i64.wrap ((l.length:Int)-1))).bind fun IG=>some (decide (IG.To≤n))) else some false))=some b∧(b=true↔OB l n):=by
 rw [hg,Option.bind_some];cases h:MS l
 ·exact ⟨false,rfl,by simp;intro hb;have:=S0.2 hb.sp;rw [h] at this;simp at this⟩
 ·have hs:=S0.1 h;rw [adY hs,cond_true];by_cases h0:l.length=0
  ·refine ⟨true,?_,by simp [h0]⟩
   rw [h0];rfl
  ·refine ⟨decide ((Nx l).To≤n),?_,by simp [h0]⟩
   rw [show ((l.length:Int)==0)=false by rw [beq_eq_false_iff_ne];omega,cond_false,CW (by omega),GW (by omega) (by omega),Option.bind_some]
   unfold Nx;rw [List.getD_eq_getElem?_getD,List.getElem?_eq_getElem (by omega)]
   have e:((l.length:Int)-1).toNat=l.length-1:=by omega
   simp only [Option.getD_some,e]
theorem adZ {l:List Span} (hl:l.length≤1048576) (n:Int): ∃b,Qa l n=some b∧(b=true↔OB l n):=Yt hl n (Yc hl)
theorem ad0 {l:List Span} (hl:l.length≤1048576) (n:Int): ∃b,QO l n=some b∧(b=true↔OB l n):=Yt hl n (adF hl)
theorem Vr: ∀{l:List Int},(∀i (h:i<l.length),0<i→l[i-1]'(by omega)<l[i])→l.Pairwise (· < ·)
 |[],_=> .nil
 |[x],_=>List.pairwise_singleton _ _
 |x::y::l,h=>by
  have ih:=Vr (l:=y::l) fun i hi h0=>by
   have:=h (i+1) (by simp only [List.length_cons] at hi⊢;omega) (by omega)
   obtain ⟨j,rfl⟩: ∃j,i=j+1:=⟨i-1,by omega⟩
   simpa using this
  have h1:x<y:=h 1 (by simp) (by omega)
  refine List.pairwise_cons.2 ⟨fun z hz=> ?_,ih⟩;rcases List.mem_cons.1 hz with rfl|hz
  ·exact h1
  ·have:=(List.pairwise_cons.1 ih).1 z hz;omega
theorem Yu {l:List Int} (h:l.Pairwise (· < ·)) {i:Nat} (hi:i<l.length) (h0:0<i):l[i-1]'(by omega)<l[i]:=
 List.pairwise_iff_getElem.1 h _ _ _ _ (by omega)
theorem ad1 {l:List Int} (hl:l.length≤1048576) {n:Int} (hn: -1000≤n∧n≤10000): ∃b,QR l n=some b∧(b=true↔l.Pairwise (· < ·)∧ ∀x∈l,0≤x∧x<n):=by
 unfold QR;obtain ⟨y,e,hy⟩:=yX (f:=R3 l n) (fun i:Int=>l.length-i.toNat) (fun i=>0≤i∧i≤l.length∧ ∀j (h:j<l.length),(j:Int)<i→(0≤l[j]∧l[j]<n)∧(0<j→l[j-1]'(by omega)<l[j]))
  (fun y=>match y with| .next ()=>l.Pairwise (· < ·)∧ ∀x∈l,0≤x∧x<n| .done k=>k=false∧ ¬(l.Pairwise (· < ·)∧ ∀x∈l,0≤x∧x<n)) (by
  rintro i ⟨i0,i1,i2⟩;simp only [R3];by_cases hi:i<l.length
  ·have az:i.toNat<l.length:=by omega
   rw [Dy hi,GW i0 hi];simp only [cond_true,Option.bind_some];rw [CW (x:=n-1) (by omega),Rm]
   simp only [Option.bind_some];by_cases c1:JK l[i.toNat] 0 (n-1)=true
   ·have S7:=MR.1 c1
    rw [c1];simp only [Bool.not_true,cond_false];by_cases c3:0<i
    ·rw [Dy c3,cond_true,CW (x:=i-1) (by omega),GW (by omega) (by omega)]
     simp only [Option.bind_some];have e3:l[(i-1).toNat]'(by omega)=l[i.toNat-1]'(by omega):=by congr 1;omega
     rw [e3];by_cases c4:l[i.toNat]≤l[i.toNat-1]'(by omega)
     ·rw [Dy c4,cond_true];refine ⟨_,rfl,rfl,fun g=> ?_⟩;have:=Yu g.1 az (by omega);omega
     ·rw [G0 c4,cond_false,CW (by omega)]
      refine ⟨_,rfl,⟨by omega,by omega,fun j hj ad2=> ?_⟩,by omega⟩
      by_cases Vq:(j:Int)<i
      ·exact i2 j hj Vq
      ·obtain rfl:j=i.toNat:=by omega
       exact ⟨⟨S7.1,by omega⟩,fun _=>by omega⟩
    ·rw [G0 c3];simp only [cond_false,Option.bind_some];rw [CW (by omega)]
     refine ⟨_,rfl,⟨by omega,by omega,fun j hj ad2=> ?_⟩,by omega⟩
     obtain rfl:j=i.toNat:=by omega
     exact ⟨⟨S7.1,by omega⟩,fun h=>by omega⟩
   ·have S7:JK l[i.toNat] 0 (n-1)=false:=by simpa using c1
    rw [S7];simp only [Bool.not_false,cond_true,Option.bind_some];refine ⟨_,rfl,rfl,fun g=>c1 (MR.2 ?_)⟩;have:=g.2 _ (List.getElem_mem az);omega
  ·rw [G0 hi];refine ⟨_,rfl,⟨Vr fun j hj h0=>(i2 j hj (by omega)).2 h0,fun x hx=> ?_⟩⟩
   obtain ⟨j,hj,rfl⟩:=List.getElem_of_mem hx;exact (i2 j hj (by omega)).1) 0 ⟨by omega,by omega,fun j _ h=>by omega⟩
 rw [e];cases y with
 |next u=>cases u;exact ⟨true,rfl,by simpa using hy⟩
 |done k=>
  obtain ⟨rfl,hy⟩:=hy;exact ⟨false,rfl,by simpa using hy⟩
noncomputable def MT (l:List Span) (n:Int):Bool:= @decide (OB l n) (Classical.propDecidable _)
theorem Vs {l:List Span} {n:Int}:MT l n=true↔OB l n:=by simp [MT]
theorem ad3 {l:List Span} (h1:l.length≤1048576) (n:Int):Qa l n=some (MT l n):=by
 obtain ⟨b,e,h⟩:=adZ h1 n;rw [e,show b=MT l n by rw [Bool.eq_iff_iff,h,Vs]]
theorem ad4 {l:List Span} (h1:l.length≤1048576) (n:Int):QO l n=some (MT l n):=by
 obtain ⟨b,e,h⟩:=ad0 h1 n;rw [e,show b=MT l n by rw [Bool.eq_iff_iff,h,Vs]]
def J9 (a n:Int):Bool:=JK a 0 1000&&JK n 1 40
theorem Vt (a n:Int):NL a n=some (J9 a n):=by
 unfold NL J9;rw [Rn,Option.bind_some,Rn];cases JK a 0 1000<;>rfl
theorem Vu (a n:Int):NG a n=some (J9 a n):=by
 unfold NG J9;rw [Rm,Option.bind_some,Rm];cases JK a 0 1000<;>rfl
theorem OC {a n:Int}:J9 a n=true↔(0≤a∧a≤1000)∧1≤n∧n≤40:=by simp [J9,MR]
def Hs (t:List UInt8):Nat:=(t.length+3)/4
def Hu (a:Int) (t:List UInt8) (k:Nat):Part:=⟨a,((4*k:Nat):Int),t.length,(t.drop (4*k)).take 4⟩
def LV (a:Int) (t:List UInt8) (m:Nat):List Part:=(List.range m).map (Hu a t)
theorem PR (a:Int) (t:List UInt8) (m:Nat):(LV a t m).length=m:=by simp [LV]
theorem ad5 (a:Int) (t:List UInt8) (m:Nat):LV a t (m+1)=LV a t m ++ [Hu a t m]:=by
 simp [LV,List.range_succ]
theorem Yv {a:Int} {t:List UInt8} (h:t.length≤1000) {f:List Part×Int→Option (LR (List Part×Int) (List Part))}
 (hf: ∀(k:Nat) (x:List Part),4*k<t.length→x.length≤1000→f (x,((4*k:Nat):Int))=some (.next (x ++ [Hu a t k],((4*(k+1):Nat):Int))))
 (hz: ∀(k:Nat) (x:List Part),t.length≤4*k→f (x,((4*k:Nat):Int))=some (.done x)):fF f ([],0)=some (LV a t (Hs t)):=by
 refine GQ (fun x:List Part×Int=>Hs t*4-x.2.toNat) (fun x=> ∃k:Nat,k≤Hs t∧x=(LV a t k,((4*k:Nat):Int))) _ ?_ _ ⟨0,Nat.zero_le _,rfl⟩;rintro _ ⟨k,hk,rfl⟩;by_cases az:4*k<t.length
 ·refine ⟨_,hf k _ az (by rw [PR];omega),⟨k+1,by unfold Hs;omega,?_⟩,?_⟩
  ·rw [ad5]
  ·have:k<Hs t:=by unfold Hs;omega
   simp only;omega
 ·refine ⟨_,hz k _ (by omega),?_⟩
  have:k=Hs t:=by unfold Hs at hk⊢;omega
  simp only;rw [this]
theorem Yw {t:List UInt8} {k:Nat} (h:4*k<t.length) (n:Nat) (hn:n=min t.length (4*k+4)):(t.drop (4*k)).take (n-4*k)=(t.drop (4*k)).take 4:=by
 by_cases h4:4*k+4≤t.length
 ·rw [hn,Nat.min_eq_right h4];congr 1;omega
 ·rw [hn,Nat.min_eq_left (by omega),List.take_of_length_le (by simp),List.take_of_length_le (by simp<;>omega)]
def MU (a:Int) (t:List UInt8):List Part×Bool:=if J9 a t.length then (LV a t (Hs t),true) else ([],false)
theorem ad6 {a:Int} {t:List UInt8} (h:t.length≤1000):Pk a t=some (MU a t):=by
 unfold Pk MU;rw [Vt,Option.bind_some];cases J9 a t.length
 ·rfl
 ·rw [Yv (a:=a) h (fun k x hk hx=> ?_) (fun k x hk=> ?_)]
  ·rfl
  ·simp only [R0];rw [Dy (by omega),cond_true,CW (by omega),GY (by omega) (by split<;>omega) (by split<;>omega),Option.bind_some,GR (by simp<;>omega) (by omega),Option.bind_some]
   rw [show (((4*k:Nat):Int)).toNat=4*k by omega,Yw hk _ (by split<;>omega)]
   simp only [Hu];congr 3
  ·simp only [R0];rw [G0 (by omega)];rfl
theorem ad7 {a:Int} {t:List UInt8} (h:t.length≤1000):PY a t=some (MU a t):=by
 unfold PY MU;rw [Vu,Option.bind_some];cases J9 a t.length
 ·rfl
 ·rw [Yv (a:=a) h (fun k x hk hx=> ?_) (fun k x hk=> ?_)]
  ·rfl
  ·simp only [Ry];rw [Dy (by omega),cond_true,CW (by omega),Yj,Option.bind_some,GY (by omega) (by split<;>omega) (by split<;>omega),Option.bind_some,GR (by simp<;>omega) (by omega),Option.bind_some]
   rw [show (((4*k:Nat):Int)).toNat=4*k by omega,Yw hk _ (by split<;>omega)]
   simp only [Hu];congr 3
  ·simp only [Ry];rw [G0 (by omega)];rfl
def OD (b:Hj):Bool:=I7 (fun k (c:UInt8)=>(c.toNat:Int)==0||hb b.Has (k:Int)) 0 b.Text
noncomputable def IU (b:Hj):Bool:=J9 b.Id b.Hh&&(decide ((b.Text.length:Int)=b.Hh)&&(MT b.Has b.Hh&&OD b))
theorem Yx {b:Hj} {g:Option Bool} {w:Option (LR Unit Bool)} (hg:g=some (MT b.Has b.Hh)) (hw:(b.Text.length:Int)=b.Hh→b.Text.length≤40→w=some (if OD b then LR.next () else LR.done false)):
 ((some (J9 b.Id b.Hh)).bind fun If=>(bif (!If) then some (true) else (bif ((b.Text.length:Int) !=b.Hh) then some (true) else g.bind fun Iw=>some ((!Iw))))).bind (fun HG=>(bif HG then some false else w.bind fun y=>match y with|LR.next ()=>some true|LR.done z=>some z))=some (IU b):=by
 unfold IU;cases h1:J9 b.Id b.Hh
 ·rfl
 ·by_cases h2:(b.Text.length:Int)=b.Hh
  ·rw [hg,hw h2 (by have:=OC.1 h1;omega)]
   simp only [Option.bind_some,Bool.not_true,cond_false,h2,bne_self_eq_false,decide_true,Bool.true_and];cases MT b.Has b.Hh
   ·rfl
   ·cases OD b<;>rfl
  ·simp only [Option.bind_some,Bool.not_true,cond_false,show ((b.Text.length:Int) !=b.Hh)=true from bne_iff_ne.2 h2,cond_true,h2,decide_false,Bool.false_and,Bool.and_false]
theorem Yy {b:Hj} (h:b.Has.length≤1048576):OZ b=some (IU b):=by
 unfold OZ;rw [Vt,ad3 h];refine Yx rfl fun h2 h3=> ?_;rw [Dx b.Text (Qd b) (fun k (_:Unit)=>k) (fun k c s=>if (c.toNat:Int)==0||hb b.Has (k:Int) then .next s else .done (.done false)) (fun _=> .next ()) (fun k hk s=>by
  simp only [Qd];rw [Dy (by omega),cond_true,yY hk,Option.bind_some,Ye h,CW (by omega),Option.bind_some]
  cases h5:((b.Text[k].toNat:Int)==0)
  ·rw [show ((b.Text[k].toNat:Int) !=0)=true by rw [bne,h5];rfl]
   rcases Bool.eq_false_or_eq_true (b.Has.any (HH (k:Int))) with h6|h6<;>simp [h6,LR.o0]
  ·rw [show ((b.Text[k].toNat:Int) !=0)=false by rw [bne,h5];rfl]
   rfl) (fun s=>by simp only [Qd];rw [G0 (by omega)];rfl) (),OA (fun k (c:UInt8)=>(c.toNat:Int)==0||hb b.Has (k:Int)) _ (fun _ _ _=>rfl)]
 rfl
theorem ad8 {b:Hj} (h:b.Has.length≤1048576):QQ b=some (IU b):=by
 unfold QQ;rw [Vu,ad4 h];refine Yx rfl fun h2 h3=> ?_;rw [Dx b.Text (QP b) (fun k (_:Unit)=>k) (fun k c s=>if (c.toNat:Int)==0||hb b.Has (k:Int) then .next s else .done (.done false)) (fun _=> .next ()) (fun k hk s=>by
  simp only [QP];rw [Dy (by omega),cond_true,yY hk,Option.bind_some,Yf h,CW (by omega),Option.bind_some]
  cases h5:((b.Text[k].toNat:Int)==0)
  ·rw [show ((b.Text[k].toNat:Int) !=0)=true by rw [bne,h5];rfl]
   rcases Bool.eq_false_or_eq_true (b.Has.any (HH (k:Int))) with h6|h6<;>simp [h6,LR.o0]
  ·rw [show ((b.Text[k].toNat:Int) !=0)=false by rw [bne,h5];rfl]
   rfl) (fun s=>by simp only [QP];rw [G0 (by omega)];rfl) (),OA (fun k (c:UInt8)=>(c.toNat:Int)==0||hb b.Has (k:Int)) _ (fun _ _ _=>rfl)]
 rfl
theorem sLen {l:List Span} (hl:l.length≤1048576):RU l=some (Jf l):=S1 hl
noncomputable def PS (b:Hj):Bool×Bool:=if IU b then (Jf b.Has==b.Hh,true) else (false,false)
def I0 (p:Part):Bool:=J9 p.Id p.Hh&&(JK p.Text.length 1 4&&JK p.At 0 (p.Hh-p.Text.length))
theorem Yz {p:Part} (h:p.Text.length≤1000):O3 p=some (I0 p):=by
 unfold O3 I0;rw [Vt,Option.bind_some];cases h1:J9 p.Id p.Hh
 ·rfl
 ·have:=OC.1 h1;rw [Rn,Option.bind_some,CW (by omega),Rn,Option.bind_some]
  cases JK p.Text.length 1 4<;>rfl
theorem YA {p:Part} (h:p.Text.length≤1000):O9 p=some (I0 p):=by
 unfold O9 I0;rw [Vu,Option.bind_some];cases h1:J9 p.Id p.Hh
 ·rfl
 ·have:=OC.1 h1;rw [Rm,Option.bind_some,CW (by omega),Rm,Option.bind_some]
  cases JK p.Text.length 1 4<;>rfl
theorem YB (s:List UInt8):rQ (oT s)=s:=by
 simp only [rQ,oT,List.map_map];induction s with
 |nil=>rfl
 |cons c s ih=>simp only [List.map_cons,Function.comp,Int.toNat_natCast,ih];simp
theorem YC (s:List UInt8) (i:Nat) (c:UInt8):(oT s).set i (c.toNat:Int)=oT (s.set i c):=by simp [oT,List.map_set]
theorem YD (s:List UInt8):(oT s).length=s.length:=by simp [oT]
theorem ad9 {l:List UInt8} {n:Nat} (h:n<l.length) (hc:(l[n]).toNat<128):j7 l n=n+1:=by
 have hs:n<(⟨l.toArray⟩:ByteArray).size:=by simpa [ByteArray.size] using h
 have he:((⟨l.toArray⟩:ByteArray)[n]'hs)=l[n]:=rfl;unfold j7;rw [if_pos h];simp only [Utf8.decode,get_at _ n hs,he,hc,if_true]
def I8 (f:Int→Bool) (A:Int) (t s:List UInt8):Nat→List UInt8
 |0=>t
 |j+1=>if f (A+j) then I8 f A t s j else (I8 f A t s j).set (A+j).toNat (s.getD j 0)
def Jq (f:Int→Bool) (A:Int):Nat→Nat
 |0=>0
 |j+1=>if f (A+j) then Jq f A j else Jq f A j+1
theorem Ny (f:Int→Bool) (A:Int) (t s:List UInt8): ∀j,(I8 f A t s j).length=t.length
 |0=>rfl
 |j+1=>by
  simp only [I8];split
  ·exact Ny f A t s j
  ·rw [List.length_set];exact Ny f A t s j
theorem Vv (f:Int→Bool) (A:Int): ∀j,Jq f A j≤j
 |0=>Nat.le_refl _
 |j+1=>by have:=Vv f A j;simp only [Jq];split<;>omega
theorem Vw (f:Int→Bool) {A:Int} (hA:0≤A) (t s:List UInt8) (i:Nat): ∀j:Nat,A+j≤t.length→(I8 f A t s j).getD i 0=if (A≤i∧(i:Int)<A+j)∧f i=false then s.getD (i-A.toNat) 0 else t.getD i 0
 |0,_=>by rw [if_neg (by omega)];rfl
 |j+1,h=>by
  have ih:=Vw f hA t s i j (by omega)
  simp only [I8];by_cases hi:(i:Int)=A+j
  ·have e1:(A+(j:Int)).toNat=i:=by omega
   have e2:i-A.toNat=j:=by omega
   rw [if_neg (by omega)] at ih
   split
   ·rename_i hf;rw [←hi] at hf;rw [if_neg (by simp [hf]),ih]
   ·rename_i hf;rw [←hi] at hf;rw [if_pos ⟨⟨by omega,by omega⟩,by simpa using hf⟩,e1,e2,List.getD_eq_getElem?_getD,List.getElem?_set,if_pos rfl,if_pos (by rw [Ny];omega)]
    rfl
  ·have h3:((A≤(i:Int)∧(i:Int)<A+((j+1:Nat):Int))∧f i=false)↔((A≤(i:Int)∧(i:Int)<A+j)∧f i=false):=by
    constructor
    ·rintro ⟨⟨a,b⟩,c⟩;exact ⟨⟨a,by omega⟩,c⟩
    ·rintro ⟨⟨a,b⟩,c⟩;exact ⟨⟨a,by omega⟩,c⟩
   simp only [h3];rw [←ih];split
   ·rfl
   ·rw [List.getD_eq_getElem?_getD,List.getElem?_set,if_neg (by omega),←List.getD_eq_getElem?_getD]
def Ia (p:Part):Span:=⟨p.At,p.At+p.Text.length⟩
theorem KB {p:Part}:I0 p=true↔((0≤p.Id∧p.Id≤1000)∧1≤p.Hh∧p.Hh≤40)∧(1≤p.Text.length∧p.Text.length≤4)∧0≤p.At∧p.At+p.Text.length≤p.Hh:=by
 unfold I0;rw [Bool.and_eq_true,Bool.and_eq_true,OC,MR,MR];constructor
 ·rintro ⟨h1,h2,h3⟩;exact ⟨h1,⟨by omega,by omega⟩,by omega,by omega⟩
 ·rintro ⟨h1,h2,h3⟩;exact ⟨h1,⟨by omega,by omega⟩,by omega,by omega⟩
theorem KC {b:Hj}:IU b=true↔((0≤b.Id∧b.Id≤1000)∧1≤b.Hh∧b.Hh≤40)∧(b.Text.length:Int)=b.Hh∧OB b.Has b.Hh∧OD b=true:=by
 unfold IU;rw [Bool.and_eq_true,Bool.and_eq_true,Bool.and_eq_true,OC,decide_eq_true_eq,Vs]
theorem ad_ {b:Hj} {p:Part} (lj:IU b=true) (hp:I0 p=true) (hl:p.Hh=b.Hh):fF (Qk b p) (oT b.Text,0)=some (oT (I8 (hb b.Has) p.At b.Text p.Text p.Text.length)):=by
 obtain ⟨g1,g2,g3,g4⟩:=KC.1 lj;obtain ⟨p1,p2,p3,p4⟩:=KB.1 hp;have hH:b.Has.length≤1048576:=by have:=g3.sp.len;omega
 refine GQ (fun x:List Int×Int=>p.Text.length-x.2.toNat) (fun x=> ∃j:Nat,j≤p.Text.length∧x=(oT (I8 (hb b.Has) p.At b.Text p.Text j),(j:Int))) _ ?_ _ ⟨0,Nat.zero_le _,rfl⟩;rintro _ ⟨j,hj,rfl⟩;by_cases az:j<p.Text.length
 ·refine ⟨.next (oT (I8 (hb b.Has) p.At b.Text p.Text (j+1)),((j+1:Nat):Int)),?_,⟨j+1,az,rfl⟩,by simp only;omega⟩
  simp only [Qk];rw [Dy (by omega),cond_true,CW (by omega),Ye hH,Option.bind_some]
  rcases Bool.eq_false_or_eq_true (b.Has.any (HH (p.At+(j:Int)))) with h6|h6
  ·rw [h6];simp only [Bool.not_true,cond_false,Option.bind_some,I8,h6,if_true];rw [CW (by omega)];rfl
  ·rw [h6];simp only [Bool.not_false,cond_true,I8,h6,Bool.false_eq_true,if_false];rw [yY az,Option.bind_some,GW (by omega) (by rw [YD,Ny];omega),Option.bind_some,Option.bind_some,Option.bind_some,YC,CW (by omega)]
   simp [List.getD_eq_getElem?_getD,List.getElem?_eq_getElem az]
 ·obtain rfl:j=p.Text.length:=by omega
  refine ⟨.done (oT (I8 (hb b.Has) p.At b.Text p.Text p.Text.length)),?_,rfl⟩;simp only [Qk];rw [G0 (by omega)];rfl
theorem aea {b:Hj} {p:Part} (lj:IU b=true) (hp:I0 p=true) (hl:p.Hh=b.Hh) (hc: ∀c∈p.Text,c.toNat<128):fF (Qw b p) (oT b.Text,0,0)=some (oT (I8 (hb b.Has) p.At b.Text p.Text p.Text.length),(Jq (hb b.Has) p.At p.Text.length:Int)):=by
 obtain ⟨g1,g2,g3,g4⟩:=KC.1 lj;obtain ⟨p1,p2,p3,p4⟩:=KB.1 hp;have hH:b.Has.length≤1048576:=by have:=g3.sp.len;omega
 refine GQ (fun x:List Int×Int×Nat=>p.Text.length-x.2.2) (fun x=> ∃j:Nat,j≤p.Text.length∧x=(oT (I8 (hb b.Has) p.At b.Text p.Text j),(Jq (hb b.Has) p.At j:Int),j)) _ ?_ _ ⟨0,Nat.zero_le _,rfl⟩;rintro _ ⟨j,hj,rfl⟩;have hcj:=Vv (hb b.Has) p.At j;by_cases az:j<p.Text.length
 ·refine ⟨.next (oT (I8 (hb b.Has) p.At b.Text p.Text (j+1)),((Jq (hb b.Has) p.At (j+1):Nat):Int),j+1),?_,⟨j+1,az,rfl⟩,by simp only;omega⟩
  simp only [Qw];rw [Dy (by omega),cond_true,CW (by omega),Yf hH,Option.bind_some,ad9 az (hc _ (List.getElem_mem az))]
  rcases Bool.eq_false_or_eq_true (b.Has.any (HH (p.At+(j:Int)))) with h6|h6
  ·rw [h6];simp only [Bool.not_true,cond_false,Option.bind_some,I8,Jq,h6,if_true]
  ·rw [h6];simp only [Bool.not_false,cond_true,I8,Jq,h6,Bool.false_eq_true,if_false];rw [yY az,Option.bind_some,GW (by omega) (by rw [YD,Ny];omega),Option.bind_some,Option.bind_some,Option.bind_some,YC,CW (by omega)]
   simp [List.getD_eq_getElem?_getD,List.getElem?_eq_getElem az]
 ·obtain rfl:j=p.Text.length:=by omega
  refine ⟨.done (oT (I8 (hb b.Has) p.At b.Text p.Text p.Text.length),(Jq (hb b.Has) p.At p.Text.length:Int)),?_,rfl⟩;simp only [Qw];rw [G0 (by omega)];rfl
theorem Rp {f g:Int→Bool} (h: ∀n,f n=g n) (N:Nat):IK f N=IK g N:=by rw [show f=g from funext h]
theorem aeb (f:Int→Bool) (m:Int) (h0:0≤m) (N:Nat) (hN:m<N):IK (fun n=>f n||HH n ⟨m,m+1⟩) N=if f m then IK f N else IK f N+1:=by
 have h1:=Ym f (fun n=>HH n ⟨m,m+1⟩) N;have h2:=Vo ⟨m,m+1⟩ h0 (by simp only;omega) N
 simp only at h2;rw [if_neg (by omega)] at h2
 have h3:(IK (fun n=>HH n ⟨m,m+1⟩) N:Int)=1:=by rw [h2];split<;>omega
 have hi: ∀n,HH n ⟨m,m+1⟩=true→n=m:=fun n h=>by simp [HH] at h;omega
 cases hf:f m
 ·have h4:IK (fun n=>f n&&HH n ⟨m,m+1⟩) N=0:=Vn (fun n=>by
   cases h:HH n ⟨m,m+1⟩
   ·simp
   ·rw [hi n h,hf];rfl) N
  simp only [Bool.false_eq_true,if_false];omega
 ·have h4:IK (fun n=>f n&&HH n ⟨m,m+1⟩) N=IK (fun n=>HH n ⟨m,m+1⟩) N:=Rp (fun n=>by
   cases h:HH n ⟨m,m+1⟩
   ·simp
   ·rw [hi n h,hf];rfl) N
  simp only [if_true];omega
theorem YE (f:Int→Bool) (A:Int) (h0:0≤A) (N:Nat): ∀j:Nat,A+j≤N→IK (fun n=>f n||HH n ⟨A,A+j⟩) N=IK f N+Jq f A j
 |0,_=>by
  rw [Rp (g:=f) fun n=>by simp [HH];omega];rfl
 |j+1,h=>by
  have ih:=YE f A h0 N j (by omega)
  have e: ∀n,(f n||HH n ⟨A,A+((j+1:Nat):Int)⟩)=((f n||HH n ⟨A,A+j⟩)||HH n ⟨A+j,A+j+1⟩):=fun n=>by
   rw [Bool.or_assoc];congr 1;rw [Bool.eq_iff_iff];simp only [HH,Bool.or_eq_true,Bool.and_eq_true,decide_eq_true_eq];omega
  rw [Rp e,aeb _ _ (by omega) N (by omega),ih]
  have e2:(f (A+j)||HH (A+j) ⟨A,A+j⟩)=f (A+j):=by simp [HH]
  rw [e2];simp only [Jq];split<;>omega
theorem S8 {l:List Span} (hl:Iy l) {x:Span} (hx:x.Hk<x.To) (n:Int):hb (Is l x) n=(hb l n||HH n x):=by
 rw [Bool.eq_iff_iff,Bool.or_eq_true];simp only [hb];rw [S5,S5,(Nw l x hl hx).2.1 n];simp only [HH,Bool.and_eq_true,decide_eq_true_eq];exact ⟨fun h=>h.symm,fun h=>h.symm⟩
theorem Vx {b:Hj} {p:Part} (lj:IU b=true) (hp:I0 p=true) (hl:p.Hh=b.Hh) (Km:(Is b.Has (Ia p)).length≤20):KV (Is b.Has (Ia p))∧Jf (Is b.Has (Ia p))=Jf b.Has+(Jq (hb b.Has) p.At p.Text.length:Int):=by
 obtain ⟨g1,g2,g3,g4⟩:=KC.1 lj;obtain ⟨p1,p2,p3,p4⟩:=KB.1 hp;have hx:(Ia p).Hk<(Ia p).To:=by simp only [Ia];omega
 obtain ⟨c1,c2,c3,c4⟩:=Nw b.Has (Ia p) g3.sp.cn hx;have eO:KV (Is b.Has (Ia p)):=c1.Vl (fun n hn=>by
  rcases (c2 n).1 hn with h|h
  ·simp only [Ia] at h;omega
  ·exact g3.sp.b7 h) Km
 refine ⟨eO,?_⟩;rw [eO.Jf.1,g3.sp.Jf.1,Rp (g:=fun n=>hb b.Has n||HH n ⟨p.At,p.At+(p.Text.length:Nat)⟩) (fun n=>S8 g3.sp.cn hx n),YE _ _ p3 _ _ (by omega)]
 simp
noncomputable def MV (b:Hj) (p:Part):Bool:=IU b&&(I0 p&&((p.Id==b.Id)&&((p.Hh==b.Hh)&&decide ((Is b.Has (Ia p)).length≤20))))
noncomputable def Mh (b:Hj) (p:Part):Hj×Int×Bool:=
 if MV b p then (⟨b.Id,b.Hh,I8 (hb b.Has) p.At b.Text p.Text p.Text.length,Is b.Has (Ia p)⟩,(Jq (hb b.Has) p.At p.Text.length:Int),true) else (⟨0,0,[],[]⟩,0,false)
theorem YF {s:List UInt8} (h:s.length≤1048576):rR s=some (oT s):=by unfold rR;rw [if_pos (by omega)]
theorem aec {b:Hj} {p:Part} (h1:b.Has.length≤100) (h2:p.Text.length≤1000):O6 b p=some (Mh b p):=by
 unfold O6 Mh MV;rw [Yy (by omega),Yz h2]
 cases lj:IU b
 ·rfl
 cases hp:I0 p
 ·rfl
 by_cases hi: ¬p.Id=b.Id
 ·simp only [Option.bind_some,Bool.not_true,cond_false,bne,show (p.Id==b.Id)=false from beq_eq_false_iff_ne.2 hi,Bool.not_false,cond_true,Bool.true_and,Bool.false_and,Bool.false_eq_true,if_false]
 replace hi:=Decidable.not_not.1 hi;by_cases hl: ¬p.Hh=b.Hh
 ·simp only [Option.bind_some,Bool.not_true,cond_false,bne,hi,beq_self_eq_true,show (p.Hh==b.Hh)=false from beq_eq_false_iff_ne.2 hl,Bool.not_false,cond_true,Bool.true_and,Bool.false_and,Bool.false_eq_true,if_false]
 replace hl:=Decidable.not_not.1 hl;obtain ⟨g1,g2,g3,g4⟩:=KC.1 lj;obtain ⟨p1,p2,p3,p4⟩:=KB.1 hp;simp only [Option.bind_some,Bool.not_true,cond_false,bne,hi,hl,beq_self_eq_true,Bool.true_and];rw [CW (by omega),adV h1,Option.bind_some]
 have mf:(⟨p.At,p.At+(p.Text.length:Int)⟩:Span)=Ia p:=rfl;have aed:Lo (Ia p)=true:=Yp.2 (by simp only [Ia];omega)
 rw [mf];unfold Vp;rw [S0.2 g3.sp,aed];simp only [Bool.and_self,if_true];by_cases Km:(Is b.Has (Ia p)).length≤20
 ·simp only [Km,if_true,decide_true,Bool.not_true,cond_false];obtain ⟨l1,l2⟩:=Vx lj hp hl Km;have hc:=Vv (hb b.Has) p.At p.Text.length;rw [YF (by omega),Option.bind_some,ad_ lj hp hl,Option.bind_some,YB,l2,show Jf b.Has+((Jq (hb b.Has) p.At p.Text.length:Nat):Int)-Jf b.Has=(Jq (hb b.Has) p.At p.Text.length:Int) by omega,CW (by omega)]
 ·simp only [Km,if_false,decide_false,Bool.not_false,cond_true,Bool.false_eq_true]
def LW (n:Int):List UInt8:=List.replicate n.toNat 0
theorem aee {a n:Int} (h0:0≤n) (h1:n≤1000):Qp a n=some ⟨a,n,LW n,[]⟩:=by
 unfold Qp;rw [GX h0 (by omega) (by omega),Option.bind_some]
 simp [rQ,LW]
theorem aef (n:Nat):Lib.repeatL ([0]:List UInt8) n=List.replicate n 0:=by
 induction n with
 |zero=>rfl
 |succ n ih=>simp [Lib.repeatL,List.replicate_succ,←ih]
theorem aeg {a n:Int} (h0:0≤n) (h1:n≤1000):Qh a n=some ⟨a,n,LW n,[]⟩:=by
 unfold Qh strings_Repeat zi;rw [if_pos ⟨h0,by omega,by simp<;>omega⟩,Option.bind_some,aef];rfl
theorem aeh {b:Hj} (h:b.Has.length≤1000):QJ b b=some true:=by
 unfold QJ;rw [adS h];simp
theorem ofT {c:HE} {b:Int} {l:List (List UInt8)} (h:Ij c b) (hb:b≤4000000000000000000) (hl:1≤l.length) (hm:l.length<1000000):dF (PX c l) fun r=>r.1∈l∧Ij r.2 (b+2):=by
 unfold PX;refine dF.then (wz (by assumption) (by omega)) ?_
 rintro ⟨k,YG⟩ ⟨Nz,OE,k_c⟩;dsimp only at Nz OE k_c⊢;have:=OE (by omega)
 rw [GW Nz (by omega)]
 exact .ret ⟨List.getElem_mem _,k_c⟩
def plain (t:List UInt8):Prop:= ∀c∈t,c.toNat<128
theorem YH {t:List UInt8} (h:t.all (fun c=>decide (c.toNat<128))=true):plain t:=fun c hc=>by simpa using List.all_eq_true.1 h c hc
theorem YI {c:HE} {b:Int} (h:Ij c b) (hb:b≤1000000000000000000):dF (OK c) fun r=>(r.1.length≤41∧plain r.1)∧Ij r.2 (b+10):=by
 unfold OK;refine dF.then (ofT h (by omega) (by simp) (by simp)) ?_
 rintro ⟨t,c⟩ ⟨t1,S9⟩;dsimp only at t1 S9⊢;refine dF.then (Ro (by assumption) (by omega)) ?_
 rintro ⟨z,S_⟩ KD;dsimp only at KD⊢;have ht:t.length≤41∧plain t:=by
  simp only [List.mem_cons,List.not_mem_nil,or_false] at t1;rcases t1 with rfl|rfl|rfl|rfl|rfl|rfl<;>exact ⟨by simp,YH (by decide)⟩
 refine dF.then (P:=fun r=>(r.1.length≤41∧plain r.1)∧Ij ⟨r.2.1,r.2.2.1,r.2.2.2⟩ (b+10)) ?_ ?_
 ·refine dF.GV (fun hc=> ?_) (fun hc=> ?_)
  ·refine dF.then (Vh (by assumption) (by omega) (by simp)) ?_
   rintro ⟨n,YJ⟩ ⟨Ta,NA⟩;dsimp only at Ta NA⊢;have hn:0≤n∧n≤41:=by
    simp only [List.mem_cons,List.not_mem_nil,or_false] at Ta;omega
   rw [GX hn.1 (by omega) (by omega),Option.bind_some]
   refine .ret ⟨⟨by simp [rQ];omega,fun c hc=> ?_⟩,NA.eta.mono (by omega)⟩
   simp only [rQ,List.map_replicate,List.mem_replicate] at hc;rw [hc.2];decide
  ·exact .ret ⟨ht,KD.eta.mono (by omega)⟩
 rintro ⟨t,C,A,S⟩ ⟨t1,cc⟩;exact .ret ⟨t1,cc⟩
theorem aei {a:List Int} (hl:a.length≤1048576) (hb: ∀x∈a,0≤x∧x≤255):dF (Pj a) fun r=>r.2.length≤41∧plain r.2:=by
 unfold Pj;have h:=Vg hl hb;refine dF.then (Vh (by assumption) (by omega) (by simp)) ?_
 rintro ⟨n,YJ⟩ ⟨Ta,NA⟩;dsimp only at Ta NA⊢;refine dF.then (YI NA (by omega)) ?_
 rintro ⟨t,c⟩ ⟨t1,_⟩;exact .ret t1
theorem aej {a:Int} {t:List UInt8} (h:plain t) (k:Nat):plain (Hu a t k).Text:=fun c hc=>h c (List.mem_of_mem_drop (List.mem_of_mem_take hc))
theorem YK {f:Int→Bool} {A:Int}: ∀{j:Nat},(∀q:Nat,q<j→f (A+q)=false)→Jq f A j=j
 |0,_=>rfl
 |j+1,h=>by
  simp only [Jq];rw [h j (by omega),if_neg (by simp),YK (j:=j) fun q hq=>h q (by omega)]
theorem YL {f:Int→Bool} {A:Int}: ∀{j:Nat},(∀q:Nat,q<j→f (A+q)=true)→Jq f A j=0
 |0,_=>rfl
 |j+1,h=>by
  simp only [Jq];rw [h j (by omega),if_pos rfl,YL (j:=j) fun q hq=>h q (by omega)]
theorem YM {f:Int→Bool} {A:Int} {t s:List UInt8}: ∀{j:Nat},(∀q:Nat,q<j→f (A+q)=true)→I8 f A t s j=t
 |0,_=>rfl
 |j+1,h=>by
  simp only [I8];rw [h j (by omega),if_pos rfl,YM (j:=j) fun q hq=>h q (by omega)]
theorem YN {f:Int→Bool} {n:Nat} (h: ∀x,f x=true→x<n): ∀N,IK f N≤n∧IK f N≤N
 |0=>⟨Nat.zero_le _,Nat.le_refl _⟩
 |N+1=>by
  have ih:=YN h N;simp only [IK];cases hf:f N
  ·simp only [Bool.toNat_false];omega
  ·have:=h _ hf;simp only [Bool.toNat_true];omega
theorem Vy {n:Int} {p:Part}:HH n (Ia p)=true↔p.At≤n∧n<p.At+(p.Text.length:Int):=by
 show (decide (p.At≤n)&&decide (n<p.At+(p.Text.length:Int)))=true↔_;rw [Bool.and_eq_true,decide_eq_true_eq,decide_eq_true_eq]
def KX (m r k:Nat):Nat:=if r≤k then k-r else k+m-r
def IL (m r i:Nat):Nat:=if i+r<m then i+r else i+r-m
structure JL (a:Int) (t:List UInt8) (r i:Nat) (b:Hj):Prop where
 id:b.Id=a
 Mi:b.Hh=t.length
 cn:Iy b.Has
 len:b.Has.length≤i
 fh: ∀x:Int,hb b.Has x=true↔(0≤x∧x<t.length)∧KX (Hs t) r (x.toNat/4)<i
 tl:b.Text.length=t.length
 txt: ∀p:Nat,p<t.length→b.Text.getD p 0=if KX (Hs t) r (p/4)<i then t.getD p 0 else 0
theorem JL.good {a:Int} {t:List UInt8} {r i:Nat} {b:Hj} (h:JL a t r i b) (hi:i≤20) (ha:0≤a∧a≤1000) (ht:1≤t.length∧t.length≤40):IU b=true:=by
 have hl:=h.len;have Tb: ∀n,hs b.Has n→(0≤n∧n<t.length)∧KX (Hs t) r (n.toNat/4)<i:=fun n hn=>(h.fh n).1 (S5.2 hn);refine KC.2 ⟨⟨by rw [h.id];exact ha,by rw [h.Mi];omega⟩,by rw [h.tl,h.Mi],⟨h.cn.Vl (fun n hn=>by have:=(Tb n hn).1;omega) (by omega),fun m hm=>by rw [h.Mi];exact (Tb m hm).1.2⟩,?_⟩
 unfold OD;rw [SZ];intro p c hc;have hp:p<b.Text.length:=(List.getElem?_eq_some_iff.1 hc).1;have hg:b.Text.getD p 0=c:=by rw [List.getD_eq_getElem?_getD,hc];rfl
 have e:=h.txt p (by rw [←h.tl];exact hp)
 rw [hg] at e;rw [Nat.zero_add,Bool.or_eq_true];by_cases hd:KX (Hs t) r (p/4)<i
 ·right;rw [h.fh];exact ⟨⟨by omega,by rw [←h.tl];omega⟩,by simpa using hd⟩
 ·left;rw [if_neg hd] at e;rw [e];rfl
theorem JL.take {a:Int} {t:List UInt8} {r i:Nat} {b:Hj} (h:JL a t r i b) (hi:i<Hs t) (hr:r<Hs t) (ha:0≤a∧a≤1000) (ht:1≤t.length∧t.length≤40):
 ∃x,Mh b (Hu a t (IL (Hs t) r i))=(x,((Hu a t (IL (Hs t) r i)).Text.length:Int),true)∧JL a t r (i+1) x∧Mh x (Hu a t (IL (Hs t) r i))=(x,0,true):=by
 have hm:Hs t≤10∧4*Hs t<t.length+4∧t.length≤4*Hs t:=by unfold Hs;omega
 have hk:IL (Hs t) r i<Hs t:=by unfold IL;split<;>omega
 have b4: ∀j,j<Hs t→(KX (Hs t) r j<i+1↔KX (Hs t) r j<i∨j=IL (Hs t) r i):=fun j hj=>by
  unfold KX IL;split<;>split<;>omega
 have jN: ¬KX (Hs t) r (IL (Hs t) r i)<i:=by unfold KX IL;split<;>split<;>omega
 generalize ux:IL (Hs t) r i=k at*;have ek:(Hu a t k).Text.length=min 4 (t.length-4*k):=by simp [Hu]
 have KE:I0 (Hu a t k)=true:=KB.2 ⟨⟨ha,by simp only [Hu];omega⟩,by omega,by simp only [Hu];omega,by rw [ek];simp only [Hu];omega⟩
 have hg:=h.good (by omega) ha ht
 have hx:(Ia (Hu a t k)).Hk<(Ia (Hu a t k)).To:=by simp only [Ia];omega
 obtain ⟨c1,c2,_,c4⟩:=Nw b.Has (Ia (Hu a t k)) h.cn hx;have hl:=h.len;have uA: ∀q:Nat,q<(Hu a t k).Text.length→hb b.Has ((Hu a t k).At+q)=false:=fun q hq=>by
  rw [Bool.eq_false_iff];intro hh;have:=((h.fh _).1 hh).2;have e:((Hu a t k).At+(q:Int)).toNat/4=k:=by simp only [Hu];omega
  rw [e] at this;exact jN this
 have cH: ∀x:Int,HH x (Ia (Hu a t k))=true↔(0≤x∧x<t.length)∧x.toNat/4=k:=fun x=>by
  rw [Vy,ek];simp only [Hu];omega
 have Tb: ∀x:Int,hb (Is b.Has (Ia (Hu a t k))) x=true↔(0≤x∧x<t.length)∧KX (Hs t) r (x.toNat/4)<i+1:=fun x=>by
  rw [S8 h.cn hx,Bool.or_eq_true,h.fh,cH];constructor
  ·rintro (⟨h1,h2⟩|⟨h1,h2⟩)
   ·exact ⟨h1,by omega⟩
   ·exact ⟨h1,(b4 _ (by omega)).2 (.inr h2)⟩
  ·rintro ⟨h1,h2⟩;rcases (b4 _ (by omega)).1 h2 with h3|h3
   ·exact .inl ⟨h1,h3⟩
   ·exact .inr ⟨h1,h3⟩
 have af:MV b (Hu a t k)=true:=by
  simp only [MV,Bool.and_eq_true,decide_eq_true_eq,beq_iff_eq];exact ⟨hg,KE,by rw [h.id];rfl,by rw [h.Mi];rfl,by omega⟩
 have hB:JL a t r (i+1) ⟨b.Id,b.Hh,I8 (hb b.Has) (Hu a t k).At b.Text (Hu a t k).Text (Hu a t k).Text.length,Is b.Has (Ia (Hu a t k))⟩:=by
  refine ⟨h.id,h.Mi,c1,by simp only;omega,Tb,by rw [←h.tl];exact Ny _ _ _ _ _,fun p hp=> ?_⟩
  simp only;rw [Vw _ (by simp only [Hu];omega) _ _ _ _ (by rw [ek,h.tl];simp only [Hu];omega),h.txt p hp]
  by_cases pS:p/4=k
  ·have hA:(Hu a t k).At≤(p:Int)∧(p:Int)<(Hu a t k).At+((Hu a t k).Text.length:Nat):=by rw [ek];simp only [Hu];omega
   have hf:hb b.Has (p:Int)=false:=by
    have:=uA (p-4*k) (by omega)
    rw [show (Hu a t k).At+((p-4*k:Nat):Int)=(p:Int) by simp only [Hu];omega] at this
    exact this
   rw [if_pos ⟨hA,hf⟩,if_pos ((b4 _ (by omega)).2 (.inr pS))]
   simp only [Hu,List.getD_eq_getElem?_getD,List.getElem?_take,List.getElem?_drop];rw [if_pos (by omega)]
   congr 2;omega
  ·have hA: ¬((Hu a t k).At≤(p:Int)∧(p:Int)<(Hu a t k).At+((Hu a t k).Text.length:Nat)):=by rw [ek];simp only [Hu];omega
   rw [if_neg fun hh=>hA hh.1];have:=b4 (p/4) (by omega)
   by_cases hd:KX (Hs t) r (p/4)<i
   ·rw [if_pos hd,if_pos (this.2 (.inl hd))]
   ·rw [if_neg hd,if_neg fun hh=>by rcases this.1 hh with h1|h1<;>contradiction]
 have pE: ∀q:Nat,q<(Hu a t k).Text.length→hb (Is b.Has (Ia (Hu a t k))) ((Hu a t k).At+q)=true:=fun q hq=>by
  rw [S8 h.cn hx,Bool.or_eq_true];right;rw [Vy];omega
 have nI:Is (Is b.Has (Ia (Hu a t k))) (Ia (Hu a t k))=Is b.Has (Ia (Hu a t k)):=by
  obtain ⟨d1,d2,_,_⟩:=Nw (Is b.Has (Ia (Hu a t k))) (Ia (Hu a t k)) c1 hx;exact d1.iB c1 fun n=>by rw [d2,c2];constructor<;>intro hh<;>rcases hh with hh|hh<;>simp_all
 refine ⟨_,?_,hB,?_⟩
 ·unfold Mh;rw [if_pos af,YK uA]
 ·have iA:MV ⟨b.Id,b.Hh,I8 (hb b.Has) (Hu a t k).At b.Text (Hu a t k).Text (Hu a t k).Text.length,Is b.Has (Ia (Hu a t k))⟩ (Hu a t k)=true:=by
   simp only [MV,Bool.and_eq_true,decide_eq_true_eq,beq_iff_eq];exact ⟨hB.good (by omega) ha ht,KE,by rw [h.id];rfl,by rw [h.Mi];rfl,by rw [nI];omega⟩
  unfold Mh;rw [if_pos iA];simp only;rw [YL pE,YM pE,nI];rfl
theorem JL.zero {a:Int} {t:List UInt8} {r:Nat}:JL a t r 0 ⟨a,t.length,LW t.length,[]⟩:=
 ⟨rfl,rfl,trivial,Nat.le_refl _,fun x=>by simp,by simp [LW],fun p hp=>by simp [LW,List.getD_eq_getElem?_getD,hp]⟩
theorem JL.le {a:Int} {t:List UInt8} {r i:Nat} {b:Hj} (h:JL a t r i b) (hi:i≤20) (ha:0≤a∧a≤1000) (ht:1≤t.length∧t.length≤40):Jf b.Has≤t.length:=by
 obtain ⟨_,_,g3,_⟩:=KC.1 (h.good hi ha ht);rw [g3.sp.Jf.1];have:=(YN (f:=fun n=>b.Has.any (HH n)) (n:=t.length) (fun x hx=>((h.fh x).1 hx).1.2) 1000000).1;omega
theorem JL.open {a:Int} {t:List UInt8} {r i:Nat} {b:Hj} (h:JL a t r i b) (hi:i<Hs t) (hr:r<Hs t) (ha:0≤a∧a≤1000) (ht:1≤t.length∧t.length≤40):PS b=(false,true):=by
 have hm:Hs t≤10:=by unfold Hs;omega
 have hg:=h.good (by omega) ha ht
 obtain ⟨x,e,hB,_⟩:=h.take hi hr ha ht;unfold Mh at e;split at e
 ·rename_i af;simp only [Prod.mk.injEq,and_true] at e;obtain ⟨rfl,e⟩:=e;simp only [MV,Bool.and_eq_true,decide_eq_true_eq,beq_iff_eq] at af;have h2:=(Vx af.1 af.2.1 af.2.2.2.1 af.2.2.2.2).2;have h3:=hB.le (by omega) ha ht
  simp only at h3;have h4:=(KB.1 af.2.1).2.1;unfold PS;rw [if_pos hg,show (Jf b.Has==b.Hh)=false from beq_eq_false_iff_ne.2 (by rw [h.Mi];omega)]
 ·simp at e
theorem JL.done {a:Int} {t:List UInt8} {r:Nat} {b:Hj} (h:JL a t r (Hs t) b) (hr:r<Hs t) (ha:0≤a∧a≤1000) (ht:1≤t.length∧t.length≤40):PS b=(true,true)∧b.Text=t:=by
 have hm:Hs t≤10∧4*Hs t<t.length+4∧t.length≤4*Hs t:=by unfold Hs;omega
 have hg:=h.good (by omega) ha ht
 have sY: ∀k,k<Hs t→KX (Hs t) r k<Hs t:=fun k hk=>by unfold KX;split<;>omega
 constructor
 ·obtain ⟨_,_,g3,_⟩:=KC.1 hg;unfold PS;rw [if_pos hg,g3.sp.Jf.1,Rp (g:=fun n=>HH n ⟨0,t.length⟩) (fun n=>by
   rw [Bool.eq_iff_iff];refine (h.fh n).trans ?_;simp only [HH,Bool.and_eq_true,decide_eq_true_eq];exact ⟨fun hh=>hh.1,fun hh=>⟨hh,sY _ (by omega)⟩⟩),Vo _ (by simp) (by simp only;omega)]
  simp only;rw [if_neg (by omega),if_neg (by omega),h.Mi]
  simp
 ·refine List.ext_getElem (by rw [h.tl]) fun p h1 h2=> ?_
  have:=h.txt p h2;rw [if_pos (sY _ (by omega)),List.getD_eq_getElem?_getD,List.getD_eq_getElem?_getD,List.getElem?_eq_getElem h1,List.getElem?_eq_getElem h2] at this
  simpa using this
theorem aek {l:List Int} (hl:l.length≤1048576) (hb: ∀x∈l,0≤x∧x≤255):dF (Pl l) fun r=>0≤r∧r≤1000003:=by
 unfold Pl;have key:dF (fF (R1 l) (0,0)) fun r=>0≤r∧r≤1000003:=by
  refine dF.fF (fun x=>l.length-x.2.toNat) (fun x=>(0≤x.1∧x.1≤1000003)∧0≤x.2∧x.2≤l.length) ?_ ⟨by simp,by simp,by simp⟩
  rintro ⟨m,i⟩ ⟨⟨i1,i2⟩,i3,i4⟩;simp only at i1 i2 i3 i4;simp only [R1];by_cases hi:i<l.length
  ·rw [Dy hi,GW i3 hi];have:=hb _ (List.getElem_mem (l:=l) (n:=i.toNat) (by omega))
   simp only [cond_true,Option.bind_some];rw [CW (x:=31*m) (by omega),CW (x:=l[i.toNat]) (by omega),CW (x:=31*m+l[i.toNat]) (by omega),CW (x:=i+1) (by omega)]
   refine ⟨_,rfl,⟨?_,by simp only;omega,by simp only;omega⟩,by simp only;omega⟩
   simp only;rw [Int.tmod_eq_emod_of_nonneg (by omega)];omega
  ·rw [G0 hi];exact ⟨_,rfl,i1,i2⟩
 refine dF.then key fun x hx=>⟨_,rfl,hx⟩
theorem ael {a:Int} {t:List UInt8} {m k:Nat} (h:k<m):idx (LV a t m) (k:Int)=some (Hu a t k):=by
 rw [yY (by rw [PR];exact h)]
 simp [LV]
theorem PT {α :Type} (p:Nat→ α →Bool) (l:List α):I7 p 0 l=true↔ ∀k x,l[k]? =some x→p k x=true:=by
 rw [SZ];simp
def JD (b:Hj):Bool:=Jf b.Has==b.Hh
theorem YO {b:Hj} (h:b.Has.length≤1048576):Lv b=some (JD b):=by
 unfold Lv JD;rw [S1 h];rfl
theorem YP {b:Hj} (h:b.Has.length≤1048576):Pd b=some (JD b):=by
 unfold Pd JD;rw [sLen h];rfl
def KY (l:List Hj) (k:Nat) (b:Hj):Bool:=k==0||(match l[k-1]? with|some c=>decide (c.Id<b.Id)|none=>true)
noncomputable def Kn (s:Ho) (k:Nat) (b:Hj):Bool:=IU b&&(!JD b&&(!IT s.Told b.Id&&KY s.Hg k b))
structure Jr (s:Ho):Prop where
 KF:s.Hg.length≤10
 Ko:s.Told.length≤100
 LX: ∀b∈s.Hg,IU b=true∧JD b=false∧b.Id∉s.Told
 JY:s.Hg.Pairwise fun a b=>a.Id<b.Id
 pt:s.Told.Pairwise (· < ·)
 rt: ∀x∈s.Told,0≤x∧x≤1000
theorem YQ {l:List Hj}:(∀k x,l[k]? =some x→KY l k x=true)↔l.Pairwise fun a b=>a.Id<b.Id:=by
 constructor
 ·intro h;have YR: ∀j (hj:j<l.length),0<j→(l[j-1]'(by omega)).Id<l[j].Id:=fun j hj h0=>by
   have:=h j _ (List.getElem?_eq_getElem hj);simp only [KY,Bool.or_eq_true,beq_iff_eq,List.getElem?_eq_getElem (show j-1<l.length by omega),decide_eq_true_eq] at this
   omega
  have key: ∀d i (hi:i+d+1<l.length),(l[i]'(by omega)).Id<(l[i+d+1]'hi).Id:=by
   intro d;induction d with
   |zero=>intro i hi;exact YR (i+1) hi (by omega)
   |succ d ih=>
    intro i hi;have h1:=ih i (by omega)
    have h2:=YR (i+d+2) hi (by omega)
    have h3:l[i+d+2-1]'(by omega)=l[i+d+1]'(by omega):=by congr 1
    rw [h3] at h2;exact Int.lt_trans h1 h2
  rw [List.pairwise_iff_getElem];intro i j hi hj ku;have:=key (j-i-1) i (by omega)
  have e:l[i+(j-i-1)+1]'(by omega)=l[j]:=by congr 1;omega
  rwa [e] at this
 ·intro h k x hx;obtain ⟨hk,rfl⟩:=List.getElem?_eq_some_iff.1 hx;unfold KY;rcases Nat.eq_zero_or_pos k with h0|h0
  ·simp [h0]
  ·rw [List.getElem?_eq_getElem (by omega)]
   simp only [Bool.or_eq_true,decide_eq_true_eq];exact .inr (List.pairwise_iff_getElem.1 h (k-1) k (by omega) hk (by omega))
def Mj (l:List Int) (k:Nat) (b:Int):Bool:=k==0||(match l[k-1]? with|some c=>decide (c<b)|none=>true)
def Lp (s:Ho) (k:Nat) (x:Int):Bool:=JK x 0 1000&&Mj s.Told k x
theorem Tc {l:List Int}:(∀k x,l[k]? =some x→Mj l k x=true)↔l.Pairwise (· < ·):=by
 constructor
 ·intro h;refine Vr fun j hj h0=> ?_;have:=h j _ (List.getElem?_eq_getElem hj);simp only [Mj,Bool.or_eq_true,beq_iff_eq,List.getElem?_eq_getElem (show j-1<l.length by omega),decide_eq_true_eq] at this
  omega
 ·intro h k x hx;obtain ⟨hk,rfl⟩:=List.getElem?_eq_some_iff.1 hx;unfold Mj;rcases Nat.eq_zero_or_pos k with h0|h0
  ·simp [h0]
  ·rw [List.getElem?_eq_getElem (by omega)]
   simp only [Bool.or_eq_true,decide_eq_true_eq];exact .inr (Yu h hk h0)
theorem aem {s:Ho}:(s.Hg.length≤10∧s.Told.length≤100)∧I7 (Kn s) 0 s.Hg=true∧I7 (Lp s) 0 s.Told=true↔Jr s:=by
 rw [PT,PT];constructor
 ·rintro ⟨⟨h1,h2⟩,h3,h4⟩;have h5: ∀k x,s.Hg[k]? =some x→IU x=true∧JD x=false∧x.Id∉s.Told∧KY s.Hg k x=true:=fun k x hx=>by
   have:=h3 k x hx;simp only [Kn,Bool.and_eq_true,Bool.not_eq_true'] at this;exact ⟨this.1,this.2.1,by simpa [IT] using this.2.2.1,this.2.2.2⟩
  have h6: ∀k x,s.Told[k]? =some x→(0≤x∧x≤1000)∧Mj s.Told k x=true:=fun k x hx=>by
   have:=h4 k x hx;simp only [Lp,Bool.and_eq_true,MR] at this;exact this
  refine ⟨h1,h2,fun b hb=> ?_,YQ.1 fun k x hx=>(h5 k x hx).2.2.2,Tc.1 fun k x hx=>(h6 k x hx).2,fun x hx=> ?_⟩
  ·obtain ⟨k,hk⟩:=List.getElem?_of_mem hb;exact ⟨(h5 k b hk).1,(h5 k b hk).2.1,(h5 k b hk).2.2.1⟩
  ·obtain ⟨k,hk⟩:=List.getElem?_of_mem hx;exact (h6 k x hk).1
 ·intro h;refine ⟨⟨h.KF,h.Ko⟩,fun k x hx=> ?_,fun k x hx=> ?_⟩
  ·obtain ⟨g1,g2,g3⟩:=h.LX x (List.mem_of_getElem? hx);have:=YQ.2 h.JY k x hx;simp [Kn,g1,g2,IT,g3,this]
  ·have:=Tc.2 h.pt k x hx;simp only [Lp,Bool.and_eq_true,MR];exact ⟨h.rt x (List.mem_of_getElem? hx),this⟩
noncomputable def Mk (s:Ho):Bool:= @decide (Jr s) (Classical.propDecidable _)
theorem Lq {s:Ho}:Mk s=true↔Jr s:=by unfold Mk;exact @decide_eq_true_iff _ (Classical.propDecidable _)
theorem YS {s:Ho}:Mk s=(decide (s.Hg.length≤10∧s.Told.length≤100)&&(I7 (Kn s) 0 s.Hg&&I7 (Lp s) 0 s.Told)):=by
 rw [Bool.eq_iff_iff,Lq,←aem,Bool.and_eq_true,Bool.and_eq_true,decide_eq_true_eq]
structure KZ (s:Ho):Prop where
 KF:s.Hg.length≤1000000
 Ko:s.Told.length≤1000000
 hb: ∀b∈s.Hg,b.Has.length≤1000000
theorem OF {b:Hj} (h:IU b=true):b.Has.length≤20:=by have:=(KC.1 h).2.2.1.sp.len;omega
theorem Jr.sz {s:Ho} (h:Jr s):KZ s:=⟨by have:=h.KF;omega,by have:=h.Ko;omega,fun b hb=>by have:=OF (h.LX b hb).1;omega⟩
theorem OG {s:Ho} (h:KZ s):Kc s=some (Mk s):=by
 rw [YS];unfold Kc;have h1:=h.KF;have h2:=h.Ko;have e1:fF (O0 s) 0=some (if I7 (Kn s) 0 s.Hg then .next () else .done false):=by
  rw [Dx s.Hg (O0 s) (fun k (_:Unit)=>k) (fun k c s' =>if Kn s k c then .next s' else .done (.done false)) (fun _=> .next ()) (fun k hk s' =>by
   simp only [O0];have hh:=h.hb _ (List.getElem_mem hk);rw [Dy (by omega),cond_true,yY hk,Option.bind_some,Yy (by omega),Option.bind_some]
   unfold Kn;cases IU s.Hg[k]
   ·rfl
   simp only [Bool.not_true,cond_false,Bool.true_and];rw [YO (by omega),Option.bind_some]
   cases JD s.Hg[k]
   ·simp only [cond_false,Bool.not_false,Bool.true_and];rw [Yr (by omega)]
    by_cases h0:0<(k:Int)
    ·rw [Dy h0,cond_true,CW (x:=(k:Int)-1) (by omega),show (k:Int)-1=((k-1:Nat):Int) by omega,yY (show k-1<s.Hg.length by omega)]
     have hl:KY s.Hg k s.Hg[k]=decide (s.Hg[k-1].Id<s.Hg[k].Id):=by
      unfold KY;rw [List.getElem?_eq_getElem (show k-1<s.Hg.length by omega)]
      simp;omega
     rw [hl];simp only [Option.bind_some];by_cases h3:s.Hg[k].Id≤s.Hg[k-1].Id
     ·rw [Dy h3,decide_eq_false (by omega)]
      simp [LR.o0]
     ·rw [G0 h3,decide_eq_true (by omega),CW (by omega)]
      cases IT s.Told s.Hg[k].Id<;>simp [LR.o0]
    ·have hl:KY s.Hg k s.Hg[k]=true:=by unfold KY;simp;omega
     rw [G0 h0,hl,CW (x:=(k:Int)+1) (by omega)]
     cases IT s.Told s.Hg[k].Id<;>simp [LR.o0]
   ·rfl) (fun s' =>by simp only [O0];rw [G0 (by omega)];rfl) (),OA (Kn s) _ (fun _ _ _=>rfl)]
 have e2:fF (O1 s) 0=some (if I7 (Lp s) 0 s.Told then .next () else .done false):=by
  rw [Dx s.Told (O1 s) (fun k (_:Unit)=>k) (fun k c s' =>if Lp s k c then .next s' else .done (.done false)) (fun _=> .next ()) (fun k hk s' =>by
   simp only [O1];rw [Dy (by omega),cond_true,yY hk,Option.bind_some,Rn,Option.bind_some]
   unfold Lp;cases JK s.Told[k] 0 1000
   ·rfl
   simp only [Bool.not_true,cond_false,Bool.true_and];by_cases h0:0<(k:Int)
   ·rw [Dy h0,cond_true,CW (x:=(k:Int)-1) (by omega),show (k:Int)-1=((k-1:Nat):Int) by omega,yY (show k-1<s.Told.length by omega)]
    have hl:Mj s.Told k s.Told[k]=decide (s.Told[k-1]<s.Told[k]):=by
     unfold Mj;rw [List.getElem?_eq_getElem (show k-1<s.Told.length by omega)]
     simp;omega
    rw [hl];simp only [Option.bind_some];by_cases h3:s.Told[k]≤s.Told[k-1]
    ·rw [Dy h3,decide_eq_false (by omega)]
     simp [LR.o0]
    ·rw [G0 h3,decide_eq_true (by omega),CW (by omega)]
     simp [LR.o0]
   ·have hl:Mj s.Told k s.Told[k]=true:=by unfold Mj;simp;omega
    rw [G0 h0,hl,CW (x:=(k:Int)+1) (by omega)]
    simp [LR.o0]) (fun s' =>by simp only [O1];rw [G0 (by omega)];rfl) (),OA (Lp s) _ (fun _ _ _=>rfl)]
 rw [e1,e2];by_cases h3:s.Hg.length≤10∧s.Told.length≤100
 ·rw [G0 (p:=10<(s.Hg.length:Int)) (by omega),G0 (p:=100<(s.Told.length:Int)) (by omega),decide_eq_true h3]
  cases I7 (Kn s) 0 s.Hg
  ·rfl
  ·cases I7 (Lp s) 0 s.Told<;>rfl
 ·rw [decide_eq_false h3];by_cases h4:10<(s.Hg.length:Int)
  ·rw [Dy h4];rfl
  ·rw [G0 h4,Dy (p:=100<(s.Told.length:Int)) (by omega)];rfl
theorem YT {s:Ho} (h:KZ s):Nc s=some (Mk s):=by
 rw [YS];unfold Nc;have h1:=h.KF;have h2:=h.Ko;have e1:fF (Pn s) 0=some (if I7 (Kn s) 0 s.Hg then .next () else .done false):=by
  rw [Dx s.Hg (Pn s) (fun k (_:Unit)=>k) (fun k c s' =>if Kn s k c then .next s' else .done (.done false)) (fun _=> .next ()) (fun k hk s' =>by
   simp only [Pn];have hh:=h.hb _ (List.getElem_mem hk);rw [Dy (by omega),cond_true,yY hk,Option.bind_some,ad8 (by omega),Option.bind_some]
   unfold Kn;cases IU s.Hg[k]
   ·rfl
   simp only [Bool.not_true,cond_false,Bool.true_and];rw [YP (by omega),Option.bind_some]
   cases JD s.Hg[k]
   ·simp only [cond_false,Bool.not_false,Bool.true_and];rw [Ys (by omega),Option.bind_some]
    cases IT s.Told s.Hg[k].Id
    ·simp only [cond_false,Bool.not_false,Bool.true_and];by_cases h0:0<(k:Int)
     ·rw [Dy h0,cond_true,CW (x:=(k:Int)-1) (by omega),show (k:Int)-1=((k-1:Nat):Int) by omega,yY (show k-1<s.Hg.length by omega)]
      have hl:KY s.Hg k s.Hg[k]=decide (s.Hg[k-1].Id<s.Hg[k].Id):=by
       unfold KY;rw [List.getElem?_eq_getElem (show k-1<s.Hg.length by omega)]
       simp;omega
      rw [hl];simp only [Option.bind_some];by_cases h3:s.Hg[k].Id≤s.Hg[k-1].Id
      ·rw [Dy h3,decide_eq_false (by omega)]
       simp [LR.o0]
      ·rw [G0 h3,decide_eq_true (by omega),CW (by omega)]
       simp [LR.o0]
     ·have hl:KY s.Hg k s.Hg[k]=true:=by unfold KY;simp;omega
      rw [G0 h0,hl,CW (x:=(k:Int)+1) (by omega)]
      simp [LR.o0]
    ·rfl
   ·rfl) (fun s' =>by simp only [Pn];rw [G0 (by omega)];rfl) (),OA (Kn s) _ (fun _ _ _=>rfl)]
 obtain ⟨c,e2,hc⟩:=ad1 (l:=s.Told) (by omega) (n:=1001) (by omega)
 have dJ:c=I7 (Lp s) 0 s.Told:=by
  rw [Bool.eq_iff_iff,hc,PT];constructor
  ·rintro ⟨h3,h4⟩ k x hx;simp only [Lp,Bool.and_eq_true,MR];have:=h4 x (List.mem_of_getElem? hx);exact ⟨by omega,Tc.2 h3 k x hx⟩
  ·intro h3;have h6: ∀k x,s.Told[k]? =some x→(0≤x∧x≤1000)∧Mj s.Told k x=true:=fun k x hx=>by
    have:=h3 k x hx;simp only [Lp,Bool.and_eq_true,MR] at this;exact this
   refine ⟨Tc.1 fun k x hx=>(h6 k x hx).2,fun x hx=> ?_⟩;obtain ⟨k,hk⟩:=List.getElem?_of_mem hx;have:=(h6 k x hk).1;omega
 rw [e1,e2,dJ];by_cases h3:s.Hg.length≤10∧s.Told.length≤100
 ·rw [Dy (p:=(s.Hg.length:Int)≤10) (by omega),Dy (p:=(s.Told.length:Int)≤100) (by omega),decide_eq_true h3]
  cases I7 (Kn s) 0 s.Hg<;>rfl
 ·rw [decide_eq_false h3];cases I7 (Kn s) 0 s.Hg
  ·rfl
  ·by_cases h4:(s.Hg.length:Int)≤10
   ·rw [Dy h4,G0 (p:=(s.Told.length:Int)≤100) (by omega)];rfl
   ·rw [G0 h4];rfl
def Ht (l:List Hj) (i:Int):List Hj:=l.filter fun b=>decide (b.Id<i)
def HW (l:List Hj) (i:Int):List Hj:=l.filter fun b=>decide (i<b.Id)
theorem Rq (i:Int): ∀{l:List Hj},l.Pairwise (fun a b=>a.Id<b.Id)→(∃b,b.Id=i∧l=Ht l i ++ b::HW l i)∨((∀b∈l,b.Id≠i)∧l=Ht l i ++ HW l i)
 |[],_=> .inr ⟨by simp,rfl⟩
 |x::l,hp=>by
  obtain ⟨h1,h2⟩:=List.pairwise_cons.1 hp;have none:i≤x.Id→Ht l i=[]∧HW l i=l:=fun hx=>⟨List.filter_eq_nil_iff.2 fun y hy=>by have:=h1 y hy;simp;omega,List.filter_eq_self.2 fun y hy=>by have:=h1 y hy;simp;omega⟩
  rcases Int.lt_trichotomy x.Id i with hx|hx|hx
  ·have e1:Ht (x::l) i=x::Ht l i:=List.filter_cons_of_pos (by simpa using hx)
   have e2:HW (x::l) i=HW l i:=List.filter_cons_of_neg (by simp<;>omega)
   rcases Rq i h2 with ⟨b,hb,e⟩|⟨h3,e⟩
   ·exact .inl ⟨b,hb,by rw [e1,e2,List.cons_append,←e]⟩
   ·refine .inr ⟨fun b hb=> ?_,by rw [e1,e2,List.cons_append,←e]⟩
    rcases List.mem_cons.1 hb with rfl|hb
    ·omega
    ·exact h3 b hb
  ·obtain ⟨n1,n2⟩:=none (by omega)
   have e1:Ht (x::l) i=[]:=by rw [Ht,List.filter_cons_of_neg (by simp<;>omega)];exact n1
   have e2:HW (x::l) i=l:=by rw [HW,List.filter_cons_of_neg (by simp<;>omega)];exact n2
   exact .inl ⟨x,hx,by rw [e1,e2];rfl⟩
  ·obtain ⟨n1,n2⟩:=none (by omega)
   have e1:Ht (x::l) i=[]:=by rw [Ht,List.filter_cons_of_neg (by simp<;>omega)];exact n1
   have e2:HW (x::l) i=x::l:=by rw [HW,List.filter_cons_of_pos (by simpa using hx)];rw [show l.filter _=l from n2]
   refine .inr ⟨fun b hb=> ?_,by rw [e1,e2];rfl⟩
   rcases List.mem_cons.1 hb with rfl|hb
   ·omega
   ·have:=h1 b hb;omega
theorem NB {l:List Hj} {i:Int} {b:Hj} (h:b∈Ht l i):b∈l∧b.Id<i:=by simpa [Ht] using h
theorem MW {l:List Hj} {i:Int} {b:Hj} (h:b∈HW l i):b∈l∧i<b.Id:=by simpa [HW] using h
def JM (l:List Hj) (i:Int):Bool:=l.any fun b=>b.Id==i
theorem place {l:List Hj} (hp:l.Pairwise fun a b=>a.Id<b.Id) (i:Int):(Ht l i).length≤l.length∧(∀h (hh:h<l.length),l[h].Id<i↔h<(Ht l i).length)∧
 (JM l i=true→ ∃b,b.Id=i∧l=Ht l i ++ b::HW l i∧ ∃hk:(Ht l i).length<l.length,l[(Ht l i).length]=b)∧
 (JM l i=false→l=Ht l i ++ HW l i∧ ∀hk:(Ht l i).length<l.length,l[(Ht l i).length].Id≠i):=by
 have hle:(Ht l i).length≤l.length:=List.length_filter_le _ _;refine ⟨hle,?_,?_,?_⟩
 ·intro h hh;have key: ∀(A B:List Hj),l=A ++ B→A=Ht l i→(∀b∈B,i≤b.Id)→(l[h].Id<i↔h<A.length):=by
   intro A B e hA hB;by_cases az:h<A.length
   ·have:l[h]=A[h]:=by simp only [e];exact List.getElem_append_left az
    rw [this];have hm:A[h]∈Ht l i:=by rw [←hA];exact List.getElem_mem az
    exact ⟨fun _=>az,fun _=>(NB hm).2⟩
   ·have hB2:l[h]∈B:=by
     have ob:h<(A ++ B).length:=by rw [←e];exact hh
     have:l[h]=(A ++ B)[h]:=by simp only [←e]
     rw [this,List.getElem_append_right (by omega)]
     exact List.getElem_mem _
    have:=hB _ hB2;exact ⟨fun h1=>by omega,fun h1=>absurd h1 az⟩
  rcases Rq i hp with ⟨b,hb,e⟩|⟨h3,e⟩
  ·refine key _ _ e rfl fun c hc=> ?_;rcases List.mem_cons.1 hc with rfl|hc
   ·omega
   ·have:=(MW hc).2;omega
  ·exact key _ _ e rfl fun c hc=>by have:=(MW hc).2;omega
 ·intro ht;rcases Rq i hp with ⟨b,hb,e⟩|⟨h3,e⟩
  ·have hl:(Ht l i).length<l.length:=by
    have:=congrArg List.length e;simp only [List.length_append,List.length_cons] at this;omega
   refine ⟨b,hb,e,hl,?_⟩;have h2:(Ht l i).length<(Ht l i ++ b::HW l i).length:=by rw [←e];exact hl
   have:l[(Ht l i).length]=(Ht l i ++ b::HW l i)[(Ht l i).length]:=by congr 1
   rw [this];simp
  ·obtain ⟨b,hb,cP⟩:=List.any_eq_true.1 ht;exact absurd (by simpa using cP) (h3 b hb)
 ·intro ht;have hn: ∀b∈l,b.Id≠i:=fun b hb e=>by
   have:JM l i=true:=List.any_eq_true.2 ⟨b,hb,by simpa using e⟩
   rw [ht] at this;cases this
  rcases Rq i hp with ⟨b,hb,e⟩|⟨h3,e⟩
  ·exact absurd hb (hn b (by rw [e];simp))
  ·exact ⟨e,fun hk=>hn _ (List.getElem_mem hk)⟩
theorem half {m:Nat} (h:m<4000000):IntKind.i64.wrap (xb .u64 (IntKind.u64.wrap (IntKind.i64.wrap (m:Int))) 1)=((m/2:Nat):Int):=by
 rw [CW (x:=(m:Int)) (by omega),u64 (by omega)]
 simp only [xb,show min (Int.toNat 1) IntKind.u64.bits=1 from rfl,Int.pow_succ,Int.pow_zero,Int.one_mul];rw [Int.fdiv_eq_ediv_of_nonneg _ (by omega),CW (by omega)]
 omega
theorem aen {l:List Hj} (hl:l.length≤1000000) (hr: ∀b∈l,0≤b.Id∧b.Id≤1000) {i:Int} (hi:0≤i∧i≤1000) (hp:l.Pairwise fun a b=>a.Id<b.Id):
 Qg l i NR=some (((Ht l i).length:Int),JM l i):=by
 obtain ⟨p1,p2,p3,p4⟩:=place hp i;generalize hk:(Ht l i).length=k at*;have hc: ∀b∈l,NR b i=some (b.Id-i):=fun b hb=>by
  have:=hr b hb;unfold NR;rw [CW (by omega)]
 have e1:fF (RL l i NR) (0,(l.length:Int))=some (k:Int):=by
  refine GQ (fun x:Int×Int=>(x.2-x.1).toNat) (fun x=> ∃a b:Nat,x=((a:Int),(b:Int))∧a≤k∧k≤b∧b≤l.length) _ ?_ _ ⟨0,l.length,rfl,Nat.zero_le _,p1,Nat.le_refl _⟩;rintro _ ⟨a,b,rfl,h1,h2,h3⟩;simp only [RL];by_cases D4:a<b
  ·have hm:(a+b)/2<l.length:=by omega
   rw [Dy (by omega),cond_true,show (a:Int)+b=((a+b:Nat):Int) by omega,half (by omega),yY hm,Option.bind_some,hc _ (List.getElem_mem hm),Option.bind_some]
   by_cases h4:l[(a+b)/2].Id<i
   ·rw [Dy (p:=l[(a+b)/2].Id-i<0) (by omega)]
    have:=(p2 _ hm).1 h4;refine ⟨.next ((((a+b)/2+1:Nat):Int),(b:Int)),?_,⟨_,_,rfl,by omega,h2,h3⟩,by simp only;omega⟩
    simp only [cond_true,Option.bind_some];rw [CW (by omega)]
    rfl
   ·rw [G0 (p:=l[(a+b)/2].Id-i<0) (by omega)]
    have: ¬(a+b)/2<k:=fun h=>h4 ((p2 _ hm).2 h);exact ⟨.next ((a:Int),(((a+b)/2:Nat):Int)),rfl,⟨_,_,rfl,h1,by omega,by omega⟩,by simp only;omega⟩
  ·rw [G0 (by omega)]
   exact ⟨_,rfl,by simp only;omega⟩
 unfold Qg;rw [e1,Option.bind_some];cases ht:JM l i
 ·obtain ⟨e,hn⟩:=p4 ht;by_cases az:k<l.length
  ·rw [Dy (by omega),cond_true,yY az,Option.bind_some,hc _ (List.getElem_mem az),Option.bind_some]
   have:=hn az;rw [show (l[k].Id-i==0)=false from beq_eq_false_iff_ne.2 (by omega)]
  ·rw [G0 (by omega)];rfl
 ·obtain ⟨b,hb,e,az,cP⟩:=p3 ht;rw [Dy (by omega),cond_true,yY az,Option.bind_some,hc _ (List.getElem_mem az),Option.bind_some,cP,hb]
  simp
def Kp (l:List Int) (i:Int):List Int:=l.filter (fun x=>decide (x<i)) ++ i::l.filter (fun x=>decide (i<x))
theorem Rr (i:Int): ∀{l:List Int},l.Pairwise (· < ·)→i∉l→l=l.filter (fun x=>decide (x<i)) ++ l.filter (fun x=>decide (i<x))
 |[],_,_=>rfl
 |x::l,hp,hn=>by
  obtain ⟨h1,h2⟩:=List.pairwise_cons.1 hp;have hx:x≠i:=fun e=>hn (by simp [e])
  rcases Int.lt_or_gt_of_ne hx with hx|hx
  ·rw [List.filter_cons_of_pos (by simpa using hx),List.filter_cons_of_neg (by simp<;>omega),List.cons_append,←Rr i h2 fun h=>hn (by simp [h])]
  ·rw [List.filter_cons_of_neg (by simp<;>omega),List.filter_cons_of_pos (by simpa using hx)]
   rw [List.filter_eq_nil_iff.2 fun y hy=>by have:=h1 y hy;simp;omega,List.filter_eq_self.2 fun y hy=>by have:=h1 y hy;simp;omega]
   rfl
theorem Vz {l:List Int} {i:Int} (hp:l.Pairwise (· < ·)) (hn:i∉l):(Kp l i).length=l.length+1:=by
 have:=congrArg List.length (Rr i hp hn);simp only [Kp,List.length_append,List.length_cons] at this⊢;omega
theorem YU {l:List Int} {i:Int} (hp:l.Pairwise (· < ·)):(Kp l i).Pairwise (· < ·):=by
 unfold Kp;rw [List.pairwise_append,List.pairwise_cons];refine ⟨hp.filter _,⟨fun y hy=>by simpa using (List.mem_filter.1 hy).2,hp.filter _⟩,fun x hx y hy=> ?_⟩
 have h1:x<i:=by simpa using (List.mem_filter.1 hx).2
 rcases List.mem_cons.1 hy with rfl|hy
 ·exact h1
 ·have:i<y:=by simpa using (List.mem_filter.1 hy).2
  omega
theorem YV {l:List Int} {i x:Int} (hp:l.Pairwise (· < ·)) (hn:i∉l):x∈Kp l i↔x=i∨x∈l:=by
 have e:=Rr i hp hn;have h:x∈l↔x∈l.filter (fun x=>decide (x<i))∨x∈l.filter (fun x=>decide (i<x)):=by rw [←List.mem_append,←e]
 simp only [Kp,List.mem_append,List.mem_cons,h];constructor
 ·rintro (h|h|h)
  ·exact .inr (.inl h)
  ·exact .inl h
  ·exact .inr (.inr h)
 ·rintro (h|h|h)
  ·exact .inr (.inl h)
  ·exact .inl h
  ·exact .inr (.inr h)
theorem YW: ∀{a b:List Int},a.Pairwise (· < ·)→b.Pairwise (· ≤ ·)→b.Perm a→b=a
 |[],b,_,_,hp=>by simpa using hp
 |x::a,[],_,_,hp=>by simp at hp
 |x::a,y::b,ha,hb,hp=>by
  obtain ⟨a1,a2⟩:=List.pairwise_cons.1 ha;obtain ⟨b1,b2⟩:=List.pairwise_cons.1 hb;have h1:y∈x::a:=hp.subset (by simp)
  have h2:x∈y::b:=hp.symm.subset (by simp)
  have e:x=y:=by
   rcases List.mem_cons.1 h1 with h|h
   ·exact h.symm
   ·rcases List.mem_cons.1 h2 with h' |h'
    ·exact h'
    ·have:=a1 y h;have:=b1 x h';omega
  subst e;rw [YW a2 b2 (List.perm_cons x|>.1 hp)]
theorem aeo {l:List Int} {i:Int} (hp:l.Pairwise (· < ·)) (hn:i∉l) (hl:l.length≤1000000):slices_Sort_int (l ++ [i])=some (Kp l i):=by
 unfold slices_Sort_int zj;rw [if_pos (by simp<;>omega)]
 congr 1;refine YW (YU hp) ?_ ((DK _).trans ?_)
 ·have:=List.pairwise_mergeSort (le:=fun x y:Int=>decide (x≤y)) (fun a b c h1 h2=>by simp at*;omega) (fun a b=>by simp<;>omega) (l ++ [i])
  exact this.imp fun h=>by simpa using h
 ·have e:=Rr i hp hn;unfold Kp;generalize l.filter (fun x=>decide (x<i))=A at e;generalize l.filter (fun x=>decide (i<x))=B at e;rw [e,List.append_assoc];exact List.Perm.append_left A (List.perm_append_singleton i B)
theorem aep {l:List Int} {i:Int} (hp:l.Pairwise (· < ·)) (hn:i∉l) (hl:l.length≤1000):Qy l i=some (Kp l i):=by
 have e:=Rr i hp hn;have hk:(l.filter (fun x=>decide (x<i))).length≤l.length:=List.length_filter_le _ _;have h2: ∀h (hh:h<l.length),l[h]<i↔h<(l.filter (fun x=>decide (x<i))).length:=fun h hh=>by
  by_cases az:h<(l.filter (fun x=>decide (x<i))).length
  ·have:l[h]=(l.filter (fun x=>decide (x<i)))[h]:=by
    have h3:h<(l.filter (fun x=>decide (x<i)) ++ l.filter (fun x=>decide (i<x))).length:=by rw [←e];exact hh
    have:l[h]=(l.filter (fun x=>decide (x<i)) ++ l.filter (fun x=>decide (i<x)))[h]:=by congr 1
    rw [this,List.getElem_append_left az]
   have h4:l[h]<i:=by rw [this];simpa using (List.mem_filter.1 (List.getElem_mem az)).2
   exact ⟨fun _=>az,fun _=>h4⟩
  ·have h3:h<(l.filter (fun x=>decide (x<i)) ++ l.filter (fun x=>decide (i<x))).length:=by rw [←e];exact hh
   have:l[h]=(l.filter (fun x=>decide (x<i)) ++ l.filter (fun x=>decide (i<x)))[h]:=by congr 1
   rw [List.getElem_append_right (by omega)] at this
   have hm:l[h]∈l.filter (fun x=>decide (i<x)):=by rw [this];exact List.getElem_mem _
   have h4:i<l[h]:=by simpa using (List.mem_filter.1 hm).2
   exact ⟨fun h=>by omega,fun h=>absurd h az⟩
 generalize hA:l.filter (fun x=>decide (x<i))=A at*;generalize hB:l.filter (fun x=>decide (i<x))=B at*;have e1:fF (RV l i) 0=some (A.length:Int):=by
  refine GQ (fun x:Int=>A.length-x.toNat) (fun x=> ∃a:Nat,x=(a:Int)∧a≤A.length) _ ?_ _ ⟨0,rfl,Nat.zero_le _⟩;rintro _ ⟨a,rfl,ha⟩;simp only [RV];by_cases az:a<l.length
  ·rw [Dy (by omega),cond_true,yY az,Option.bind_some]
   by_cases h3:l[a]<i
   ·have:=(h2 a az).1 h3;rw [Dy h3];refine ⟨.next ((a+1:Nat):Int),?_,⟨_,rfl,by omega⟩,by omega⟩
    simp only [Option.bind_some,cond_true];rw [CW (by omega)];rfl
   ·rw [G0 h3];have: ¬a<A.length:=fun h=>h3 ((h2 a az).2 h);exact ⟨_,rfl,by simp only;omega⟩
  ·rw [G0 (by omega)]
   exact ⟨_,rfl,by simp only;omega⟩
 unfold Qy;have hlen:=congrArg List.length e;rw [List.length_append] at hlen;rw [e1,Option.bind_some,GY (by omega) (by omega) (by omega),Option.bind_some,GR (by simp<;>omega) (by omega),Option.bind_some,GR (by simp<;>omega) (by omega),Option.bind_some,GY (by omega) (by omega) (by omega),Option.bind_some,GR (by simp<;>omega) (by omega),Option.bind_some]
 unfold Kp;rw [hA,hB,e];simp;rw [List.take_of_length_le (by omega)]
def KG (p:Part):Hj:=⟨p.Id,p.Hh,LW p.Hh,[]⟩
noncomputable def Iv (b:Hj) (p:Part):Hj:=⟨b.Id,b.Hh,I8 (hb b.Has) p.At b.Text p.Text p.Text.length,Is b.Has (Ia p)⟩
def HB (s:Ho) (p:Part):Hj:=if JM s.Hg p.Id then (s.Hg.find? fun b=>b.Id==p.Id).getD (KG p) else KG p
def Lr:Ho×List UInt8×Bool×Bool:=(⟨[],[]⟩,[],false,false)
noncomputable def NC (s:Ho) (p:Part) (x:Hj):Ho×List UInt8×Bool×Bool:=
 if 20<x.Has.length then Lr
 else if JD x then if s.Told.length=100 then Lr else (⟨Ht s.Hg p.Id ++ HW s.Hg p.Id,Kp s.Told p.Id⟩,x.Text,true,true)
 else if (Ht s.Hg p.Id ++ x::HW s.Hg p.Id).length≤10 then (⟨Ht s.Hg p.Id ++ x::HW s.Hg p.Id,s.Told⟩,[],false,true) else Lr
noncomputable def I9 (s:Ho) (p:Part):Ho×List UInt8×Bool×Bool:=
 if IT s.Told p.Id then (s,[],false,true)
 else if (HB s p).Hh=p.Hh then NC s p (Iv (HB s p) p) else (s,[],false,true)
theorem aeq {p:Part} (h:I0 p=true):IU (KG p)=true∧JD (KG p)=false:=by
 obtain ⟨p1,p2,p3,p4⟩:=KB.1 h;refine ⟨KC.2 ⟨p1,by simp [KG,LW];omega,⟨Iy.Vl (l:=[]) trivial (fun n hn=>by simp [hs] at hn) (by simp),fun m hm=>by simp [hs,KG] at hm⟩,?_⟩,?_⟩
 ·unfold OD;rw [PT];intro k c hc;simp only [KG,LW,List.getElem?_replicate] at hc;split at hc
  ·simp only [Option.some.injEq] at hc;subst hc;simp
  ·cases hc
 ·unfold JD KG Jf;rw [beq_eq_false_iff_ne];simp;omega
theorem YX {b:Hj} {p:Part} (hg:IU b=true) (hp:I0 p=true) (hl:p.Hh=b.Hh) (Km:(Is b.Has (Ia p)).length≤20):IU (Iv b p)=true:=by
 obtain ⟨g1,g2,g3,g4⟩:=KC.1 hg;obtain ⟨p1,p2,p3,p4⟩:=KB.1 hp;have hx:(Ia p).Hk<(Ia p).To:=by simp only [Ia];omega
 obtain ⟨c1,c2,c3,c4⟩:=Nw b.Has (Ia p) g3.sp.cn hx;obtain ⟨l1,_⟩:=Vx hg hp hl Km;refine KC.2 ⟨g1,by simp only [Iv];rw [Ny];exact g2,⟨l1,fun m hm=> ?_⟩,?_⟩
 ·simp only [Iv] at hm⊢;rcases (c2 m).1 hm with h|h
  ·simp only [Ia] at h;omega
  ·exact g3.2 m h
 ·unfold OD;rw [PT];intro k c hc;have hk:k<(Iv b p).Text.length:=(List.getElem?_eq_some_iff.1 hc).1;have hgd:(Iv b p).Text.getD k 0=c:=by rw [List.getD_eq_getElem?_getD,hc];rfl
  have YY:k<b.Text.length:=by simp only [Iv] at hk;rwa [Ny] at hk
  simp only [Iv] at hgd⊢;rw [Vw _ p3 _ _ _ _ (by omega)] at hgd
  rw [Bool.or_eq_true,S8 g3.sp.cn hx,Bool.or_eq_true];by_cases dm:(p.At≤(k:Int)∧(k:Int)<p.At+(p.Text.length:Int))∧hb b.Has (k:Int)=false
  ·exact .inr (.inr (Vy.2 dm.1))
  ·rw [if_neg dm] at hgd;have:=(PT _ _).1 g4 k c (by rw [List.getElem?_eq_getElem YY];rw [List.getD_eq_getElem?_getD,List.getElem?_eq_getElem YY] at hgd;simpa using hgd)
   rw [Bool.or_eq_true] at this;rcases this with h|h
   ·exact .inl h
   ·exact .inr (.inl h)
theorem VA (b:Hj) (p:Part):(Iv b p).Id=b.Id:=rfl
theorem Td {s:Ho} {p:Part} (hp:s.Hg.Pairwise fun a b=>a.Id<b.Id) (ht:JM s.Hg p.Id=true):(HB s p).Id=p.Id∧s.Hg=Ht s.Hg p.Id ++ HB s p::HW s.Hg p.Id:=by
 obtain ⟨b,hb,e,_⟩:=(place hp p.Id).2.2.1 ht;have hf:s.Hg.find? (fun b=>b.Id==p.Id)=some b:=by
  rw [e,List.find?_append];have:(Ht s.Hg p.Id).find? (fun b=>b.Id==p.Id)=none:=List.find?_eq_none.2 fun x hx=>by have:=(NB hx).2;simp;omega
  rw [this,List.find?_cons_of_pos (by simpa using hb)];rfl
 have:HB s p=b:=by unfold HB;rw [if_pos ht,hf];rfl
 rw [this];exact ⟨hb,e⟩
theorem Rs {s:Ho} {p:Part} (ht:JM s.Hg p.Id=false):HB s p=KG p:=by unfold HB;rw [if_neg (by simp [ht])]
theorem VB {s:Ho} {p:Part} (hp:s.Hg.Pairwise fun a b=>a.Id<b.Id):(HB s p).Id=p.Id:=by
 cases ht:JM s.Hg p.Id
 ·rw [Rs ht];rfl
 ·exact (Td hp ht).1
theorem VC {s:Ho} {p:Part} (h:Jr s) (hp:I0 p=true):IU (HB s p)=true:=by
 cases ht:JM s.Hg p.Id
 ·rw [Rs ht];exact (aeq hp).1
 ·exact (h.LX _ (by rw [(Td h.JY ht).2];simp)).1
theorem VD {s:Ho} (hp:s.Hg.Pairwise fun a b=>a.Id<b.Id) (i:Int):(Ht s.Hg i).length+(HW s.Hg i).length=(if JM s.Hg i then s.Hg.length-1 else s.Hg.length)∧(Ht s.Hg i).length+(HW s.Hg i).length≤s.Hg.length:=by
 cases ht:JM s.Hg i
 ·have:=congrArg List.length ((place hp i).2.2.2 ht).1;rw [List.length_append] at this;simp only [Bool.false_eq_true,if_false];omega
 ·obtain ⟨b,_,e,_⟩:=(place hp i).2.2.1 ht;have:=congrArg List.length e;rw [List.length_append,List.length_cons] at this;simp only [if_true];omega
theorem YZ {l:List Hj} {i:Int} (hp:l.Pairwise fun a b=>a.Id<b.Id) {m:List Hj} (hm: ∀b∈m,b.Id=i) (hl:m.length≤1):(Ht l i ++ (m ++ HW l i)).Pairwise fun a b=>a.Id<b.Id:=by
 rw [List.pairwise_append,List.pairwise_append];refine ⟨hp.filter _,⟨?_,hp.filter _,fun x hx y hy=>by rw [hm x hx];exact (MW hy).2⟩,fun x hx y hy=> ?_⟩
 ·match m,hl with
  |[],_=>exact .nil
  |[b],_=>simp
 ·have:=(NB hx).2;rcases List.mem_append.1 hy with hy|hy
  ·rw [hm y hy];exact this
  ·have:=(MW hy).2;omega
theorem Y0 {s:Ho} {i:Int} (h:Jr s) (hi:0≤i∧i≤1000) (hn:i∉s.Told) (OH:s.Told.length≠100):Jr ⟨Ht s.Hg i ++ HW s.Hg i,Kp s.Told i⟩:=by
 refine ⟨?_,?_,fun b hb=> ?_,?_,YU h.pt,fun x hx=> ?_⟩
 ·have:=(VD h.JY i).2;have:=h.KF;simp only [List.length_append];omega
 ·have:=h.Ko;simp only [Vz h.pt hn];omega
 ·have hm:b∈s.Hg∧b.Id≠i:=by
   rcases List.mem_append.1 hb with hb|hb
   ·exact ⟨(NB hb).1,by have:=(NB hb).2;omega⟩
   ·exact ⟨(MW hb).1,by have:=(MW hb).2;omega⟩
  obtain ⟨g1,g2,g3⟩:=h.LX b hm.1;exact ⟨g1,g2,fun hx=>by rcases (YV h.pt hn).1 hx with e|e;exact hm.2 e;exact g3 e⟩
 ·have:=YZ (m:=[]) (i:=i) h.JY (by simp) (by simp);simpa using this
 ·rcases (YV h.pt hn).1 hx with rfl|hx
  ·exact hi
  ·exact h.rt x hx
theorem Y1 {s:Ho} {x:Hj} (h:Jr s) (hx:IU x=true∧JD x=false∧x.Id∉s.Told) (hl:(Ht s.Hg x.Id ++ x::HW s.Hg x.Id).length≤10):Jr ⟨Ht s.Hg x.Id ++ x::HW s.Hg x.Id,s.Told⟩:=by
 refine ⟨hl,h.Ko,fun b hb=> ?_,?_,h.pt,h.rt⟩
 ·rcases List.mem_append.1 hb with hb|hb
  ·exact h.LX b (NB hb).1
  ·rcases List.mem_cons.1 hb with rfl|hb
   ·exact hx
   ·exact h.LX b (MW hb).1
 ·exact YZ (m:=[x]) h.JY (by simp) (by simp)
theorem Rt {s:Ho} {p:Part} (h:Jr s) (hp:I0 p=true):(I9 s p).2.2.2=true→Jr (I9 s p).1:=by
 obtain ⟨p1,p2,p3,p4⟩:=KB.1 hp;unfold I9 NC Lr;by_cases h1:IT s.Told p.Id=true
 ·rw [if_pos h1];exact fun _=>h
 rw [if_neg h1];by_cases h2:(HB s p).Hh=p.Hh
 ·rw [if_pos h2];have br:=VB (p:=p) h.JY;have hn:p.Id∉s.Told:=by simpa [IT] using h1
  by_cases h3:20<(Iv (HB s p) p).Has.length
  ·rw [if_pos h3];intro h;cases h
  rw [if_neg h3];have PU:=YX (VC h hp) hp h2.symm (by simp only [Iv] at h3;omega)
  cases h4:JD (Iv (HB s p) p)
  ·simp only [Bool.false_eq_true,if_false];split
   ·rename_i h5;intro _;have:=Y1 (x:=Iv (HB s p) p) h ⟨PU,h4,by rw [VA,br];exact hn⟩ (by rw [VA,br];exact h5)
    rw [VA,br] at this;exact this
   ·intro h;cases h
  ·simp only [if_true];split
   ·intro h;cases h
   ·rename_i h5;exact fun _=>Y0 h p1.1 hn h5
 ·rw [if_neg h2];exact fun _=>h
theorem aer {s:Ho} {p:Part} (h:Jr s):(I9 s p).2.2.2=true→(I9 s p).1.Told.length=s.Told.length+(if (I9 s p).2.2.1 then 1 else 0):=by
 unfold I9 NC Lr;by_cases h1:IT s.Told p.Id=true
 ·rw [if_pos h1];intro _;rfl
 have hn:p.Id∉s.Told:=by simpa [IT] using h1
 rw [if_neg h1];split
 ·split
  ·intro h;cases h
  ·split
   ·split
    ·intro h;cases h
    ·intro _;simp [Vz h.pt hn]
   ·split
    ·intro _;rfl
    ·intro h;cases h
 ·intro _;rfl
theorem aes {l:List Hj} {k:Nat} (h:k<l.length):l.set k (⟨l[k].Id,l[k].Hh,l[k].Text,l[k].Has⟩:Hj)=l:=by
 show l.set k l[k]=l;simp
theorem aeu {s:Ho} (h:KZ s):Qf s=some s:=by
 have h1:=h.KF;have h2:=h.Ko;unfold Qf Tm Tn;rw [GR (by simp<;>omega) (by omega),Option.bind_some,GR (by simp<;>omega) (by omega),Option.bind_some]
 simp only [List.nil_append];have e:fF (RK s.Hg) (s.Hg,0)=some s.Hg:=by
  refine GQ (fun x:List Hj×Int=>s.Hg.length-x.2.toNat) (fun x=> ∃k:Nat,x=(s.Hg,(k:Int))∧k≤s.Hg.length) _ ?_ _ ⟨0,rfl,Nat.zero_le _⟩;rintro _ ⟨k,rfl,hk⟩;simp only [RK];by_cases az:k<s.Hg.length
  ·have hh:=h.hb _ (List.getElem_mem az);rw [Dy (by omega),cond_true,yY az,Option.bind_some]
   unfold NQ;rw [GR (by simp<;>omega) (by omega),Option.bind_some,Option.bind_some,List.nil_append,Int.toNat_natCast,aes az,CW (by omega)]
   exact ⟨.next (s.Hg,((k+1:Nat):Int)),rfl,⟨_,rfl,az⟩,by simp only;omega⟩
  ·rw [G0 (by omega)]
   exact ⟨_,rfl,rfl⟩
 rw [e];rfl
theorem VE {s:Ho} (h:KZ s):NV s=some s:=by
 have h1:=h.KF;have h2:=h.Ko;unfold NV;rw [GR (by simp<;>omega) (by omega),Option.bind_some,List.nil_append]
 have e:fF (RX s) (0,[])=some s.Hg:=by
  refine GQ (fun x:Int×List Hj=>s.Hg.length-x.1.toNat) (fun x=> ∃k:Nat,x=((k:Int),s.Hg.take k)∧k≤s.Hg.length) _ ?_ _ ⟨0,rfl,Nat.zero_le _⟩;rintro _ ⟨k,rfl,hk⟩;simp only [RX];by_cases az:k<s.Hg.length
  ·have hh:=h.hb _ (List.getElem_mem az);rw [Dy (by omega),cond_true,yY az,Option.bind_some,GR (by simp<;>omega) (by omega),Option.bind_some,GR (by simp<;>omega) (by omega),Option.bind_some,List.nil_append,CW (by omega)]
   refine ⟨.next (((k+1:Nat):Int),s.Hg.take (k+1)),?_,⟨_,rfl,az⟩,by simp only;omega⟩
   rw [List.take_succ_eq_append_getElem az];rfl
  ·rw [G0 (by omega)]
   refine ⟨_,rfl,?_⟩;simp only;rw [List.take_of_length_le (by omega)]
 rw [e];rfl
theorem aev {b:Hj} {p:Part} (lj:IU b=true) (hp:I0 p=true) (hl:p.Hh=b.Hh) (hc: ∀c∈p.Text,c.toNat<128):
 Qx b p=some (Iv b p,(Jq (hb b.Has) p.At p.Text.length:Int),decide (((Iv b p).Has.length:Int)≤20)):=by
 obtain ⟨g1,g2,g3,g4⟩:=KC.1 lj;obtain ⟨p1,p2,p3,p4⟩:=KB.1 hp;have hH:=OF lj;unfold Qx;rw [YF (by omega),Option.bind_some,aea lj hp hl hc,Option.bind_some]
 simp only;rw [CW (by omega),adR (by omega),Option.bind_some]
 have mf:(⟨p.At,p.At+(p.Text.length:Int)⟩:Span)=Ia p:=rfl;rw [mf,YB];rfl
theorem Y2 {b:Hj} {p:Part} (lj:IU b=true) (hp:I0 p=true):(Iv b p).Has.length≤21:=by
 obtain ⟨p1,p2,p3,p4⟩:=KB.1 hp;have hx:(Ia p).Hk<(Ia p).To:=by simp only [Ia];omega
 have:=(Nw b.Has (Ia p) (KC.1 lj).2.2.1.sp.cn hx).2.2.2;have:=OF lj;simp only [Iv];omega
theorem aew {s:Ho} {p:Part} (h:s.Hg.length≤1000000) (hp:s.Hg.Pairwise fun a b=>a.Id<b.Id):fF (RW s p) 0=some ((Ht s.Hg p.Id).length:Int):=by
 obtain ⟨p1,p2,_,_⟩:=place hp p.Id;refine GQ (fun x:Int=>(Ht s.Hg p.Id).length-x.toNat) (fun x=> ∃a:Nat,x=(a:Int)∧a≤(Ht s.Hg p.Id).length) _ ?_ _ ⟨0,rfl,Nat.zero_le _⟩;rintro _ ⟨a,rfl,ha⟩;simp only [RW];by_cases az:a<s.Hg.length
 ·rw [Dy (by omega),cond_true,yY az,Option.bind_some]
  by_cases h3:s.Hg[a].Id<p.Id
  ·have:=(p2 a az).1 h3;rw [Dy h3];refine ⟨.next ((a+1:Nat):Int),?_,⟨_,rfl,by omega⟩,by omega⟩
   simp only [Option.bind_some,cond_true];rw [CW (by omega)];rfl
  ·rw [G0 h3];have: ¬a<(Ht s.Hg p.Id).length:=fun h=>h3 ((p2 a az).2 h);exact ⟨_,rfl,by simp only;omega⟩
 ·rw [G0 (by omega)]
  exact ⟨_,rfl,by simp only;omega⟩
theorem Y3 {s:Ho} {p:Part} (h:Jr s) (hp:I0 p=true) (hc: ∀c∈p.Text,c.toNat<128):
 ∃r,NS s p=some r∧(r.2.2.2=true→r=I9 s p)∧(r.2.2.2=false→I9 s p=Lr):=by
 obtain ⟨p1,p2,p3,p4⟩:=KB.1 hp;have hz:=h.sz;have hnb:=h.KF;have hnt:=h.Ko;unfold NS I9;rw [Ys (by omega),Option.bind_some]
 cases h1:IT s.Told p.Id
 rotate_left
 ·exact ⟨_,rfl,fun _=>rfl,fun h=>(by cases h)⟩
 have hn:p.Id∉s.Told:=by simpa [IT] using h1
 simp only [cond_false,Bool.false_eq_true,if_false];rw [aew (by omega) h.JY,Option.bind_some,aee (by omega) (by omega)]
 obtain ⟨q1,q2,q3,q4⟩:=place h.JY p.Id;have ln:=VD h.JY p.Id;have PV:=VB (p:=p) h.JY;have OI:=VC h hp;have key: ∀(t:Bool),JM s.Hg p.Id=t→(bif decide (((Ht s.Hg p.Id).length:Int)<(s.Hg.length:Int)) then (idx s.Hg ((Ht s.Hg p.Id).length:Int)).bind fun Jh=>some (Jh.Id==p.Id) else some false)=some t∧
  (bif t then (idx s.Hg ((Ht s.Hg p.Id).length:Int)).bind fun IN=>some (IN.Id,IN.Hh,IN.Text,IN.Has) else some ((KG p).Id,(KG p).Hh,(KG p).Text,(KG p).Has))=some ((HB s p).Id,(HB s p).Hh,(HB s p).Text,(HB s p).Has)∧
  (cY s.Hg ((Ht s.Hg p.Id).length:Int) (s.Hg.length:Int)).bind (fun Mt=>(bif t then (cY Mt 1 (Mt.length:Int)).bind fun QB=>some QB else some Mt))=some (HW s.Hg p.Id):=by
  intro t ht;cases t
  ·obtain ⟨e,eT⟩:=q4 ht;refine ⟨?_,by rw [Rs ht];rfl,?_⟩
   ·by_cases az:(Ht s.Hg p.Id).length<s.Hg.length
    ·rw [Dy (by omega),cond_true,yY az,Option.bind_some,beq_eq_false_iff_ne.2 (eT az)]
    ·rw [G0 (by omega)];rfl
   ·rw [GY (by omega) (by omega) (by omega),Option.bind_some,cond_false]
    congr 1;have hlen:=congrArg List.length e;rw [List.length_append] at hlen;have:s.Hg.drop (Ht s.Hg p.Id).length=HW s.Hg p.Id:=by
     conv=>lhs;arg 2;rw [e]
     exact List.drop_left
    simp only [Int.toNat_natCast];rw [this,List.take_of_length_le (by omega)]
  ·obtain ⟨e1,e⟩:=Td (p:=p) h.JY ht;obtain ⟨b,_,_,az,_⟩:=q3 ht;have bp:s.Hg[(Ht s.Hg p.Id).length]=HB s p:=by
    have h2:(Ht s.Hg p.Id).length<(Ht s.Hg p.Id ++ HB s p::HW s.Hg p.Id).length:=by rw [←e];exact az
    have:s.Hg[(Ht s.Hg p.Id).length]=(Ht s.Hg p.Id ++ HB s p::HW s.Hg p.Id)[(Ht s.Hg p.Id).length]:=by congr 1
    rw [this];simp
   refine ⟨?_,?_,?_⟩
   ·rw [Dy (by omega),cond_true,yY az,Option.bind_some,bp,e1];simp
   ·rw [cond_true,yY az,Option.bind_some,bp]
   ·have hlen:=congrArg List.length e;rw [List.length_append,List.length_cons] at hlen;have hd:s.Hg.drop (Ht s.Hg p.Id).length=HB s p::HW s.Hg p.Id:=by
     conv=>lhs;arg 2;rw [e]
     exact List.drop_left
    rw [GY (by omega) (by omega) (by omega),Option.bind_some]
    simp only [Int.toNat_natCast];rw [hd,List.take_of_length_le (by simp<;>omega),cond_true,GY (by omega) (by simp<;>omega) (by simp),Option.bind_some]
    simp only [show (1:Int).toNat=1 from rfl,List.drop_succ_cons,List.drop_zero];rw [List.take_of_length_le (by simp)]
 obtain ⟨k1,k2,k3⟩:=key _ rfl;generalize JM s.Hg p.Id=t at k1 k2 k3 ln;have bB:(⟨p.Id,p.Hh,LW p.Hh,[]⟩:Hj)=KG p:=rfl;rw [k1,Option.bind_some,Option.bind_some,bB,k2];simp only [Option.bind_some];by_cases h2:(HB s p).Hh=p.Hh
 rotate_left
 ·rw [show ((HB s p).Hh !=p.Hh)=true from bne_iff_ne.2 h2,if_neg h2];exact ⟨_,rfl,fun _=>rfl,fun h=>(by cases h)⟩
 rw [show ((HB s p).Hh !=p.Hh)=false by simp [h2],if_pos h2,cond_false]
 have hb:(⟨(HB s p).Id,(HB s p).Hh,(HB s p).Text,(HB s p).Has⟩:Hj)=HB s p:=rfl;rw [hb,aev OI hp h2.symm hc];simp only [Option.bind_some];have hle:=Y2 (b:=HB s p) OI hp;unfold NC;by_cases Km:20<(Iv (HB s p) p).Has.length
 ·rw [G0 (by omega),if_pos Km]
  exact ⟨_,rfl,fun h=>(by cases h),fun _=>rfl⟩
 rw [Dy (by omega),if_neg Km,Bool.not_true,cond_false]
 have hA:cY s.Hg 0 ((Ht s.Hg p.Id).length:Int)=some (Ht s.Hg p.Id):=by
  rw [GY (by omega) (by omega) (by omega)]
  congr 1;have: ∃B,s.Hg=Ht s.Hg p.Id ++ B:=by
   rcases Rq p.Id h.JY with ⟨b,_,e⟩|⟨_,e⟩
   ·exact ⟨_,e⟩
   ·exact ⟨_,e⟩
  obtain ⟨B,e⟩:=this
  conv=>lhs;arg 2;rw [e]
  simp
 rw [hA,Option.bind_some,GR (by simp<;>omega) (by omega),Option.bind_some,List.nil_append]
 rw [←Option.bind_assoc,k3,Option.bind_some,YP (by omega),Option.bind_some]
 cases h4:JD (Iv (HB s p) p)
 ·simp only [cond_false,Bool.false_eq_true,if_false];rw [GR (by simp<;>omega) (by omega),Option.bind_some,GR (by simp<;>omega) (by omega),Option.bind_some]
  rw [show Ht s.Hg p.Id ++ [Iv (HB s p) p] ++ HW s.Hg p.Id=Ht s.Hg p.Id ++ Iv (HB s p) p::HW s.Hg p.Id by simp]
  by_cases DX:(Ht s.Hg p.Id ++ Iv (HB s p) p::HW s.Hg p.Id).length≤10
  ·rw [Dy (by omega),if_pos DX]
   exact ⟨_,rfl,fun _=>rfl,fun h=>(by cases h)⟩
  ·rw [G0 (by omega),if_neg DX]
   exact ⟨_,rfl,fun h=>(by cases h),fun _=>rfl⟩
 ·simp only [cond_true,if_true];by_cases OH:s.Told.length=100
  ·rw [show ((s.Told.length:Int)==100)=true by rw [beq_iff_eq];omega,if_pos OH]
   exact ⟨_,rfl,fun h=>(by cases h),fun _=>rfl⟩
  ·rw [show ((s.Told.length:Int)==100)=false by rw [beq_eq_false_iff_ne];omega,if_neg OH,cond_false,GR (by omega) (by omega),Option.bind_some,aep h.pt hn (by omega),Option.bind_some]
   exact ⟨_,rfl,fun _=>rfl,fun h=>(by cases h)⟩
theorem Y4 {s:Ho} {p:Part} (h:(I9 s p).2.2.2=false):I9 s p=Lr:=by
 revert h;unfold I9 NC Lr;split
 ·intro h;cases h
 ·split
  ·split
   ·intro _;rfl
   ·split
    ·split
     ·intro _;rfl
     ·intro h;cases h
    ·split
     ·intro h;cases h
     ·intro _;rfl
  ·intro h;cases h
noncomputable def LY (s:Ho) (p:Part):Ho×List UInt8×Bool×Bool:=if Mk s&&I0 p then I9 s p else Lr
theorem aex {s:Ho} {p:Part} (h:KZ s) (hl:p.Text.length≤1000) (hc: ∀c∈p.Text,c.toNat<128):NW s p=some (LY s p):=by
 unfold NW LY;rw [YT h,Option.bind_some,YA hl];cases h1:Mk s
 ·rfl
 cases h2:I0 p
 ·rfl
 have hg:=Lq.1 h1;simp only [Bool.not_true,cond_false,Option.bind_some,Bool.and_self,if_true];rw [VE h,Option.bind_some];obtain ⟨r,e,r1,r2⟩:=Y3 hg h2 hc;rw [e,Option.bind_some];obtain ⟨a,b,c,d⟩:=r;cases d
 ·rw [r2 rfl];rfl
 ·have e2:=r1 rfl;have:=Rt hg h2;rw [←e2] at this⊢;simp only [Bool.not_true,cond_false];rw [VE (this rfl).sz];rfl
theorem Y5 {α :Type} (x:Option α):(x.bind fun y=>some y)=x:=by cases x<;>rfl
theorem aey {A B:List Hj} {b x:Hj}:(A ++ b::B).set A.length x=A ++ x::B:=by simp
theorem aez {A B:List Hj} {x:Hj} (hl:A.length+B.length≤1000):O7 (A ++ x::B) (A.length:Int) ((A.length:Int)+1)=some (A ++ B):=by
 have e1: ∃y,cY (A ++ x::B) (A.length:Int) ((A.length:Int)+1)=some y:=⟨_,GY (by omega) (by omega) (by simp<;>omega)⟩
 obtain ⟨y,e1⟩:=e1;unfold O7;rw [e1,Option.bind_some,show ((A.length:Int)==(A.length:Int)+1)=false from beq_eq_false_iff_ne.2 (by omega),cond_false,GY (by omega) (by omega) (by simp<;>omega),Option.bind_some,GY (by omega) (by simp<;>omega) (by omega),Option.bind_some]
 have e2:((A ++ x::B).drop (0:Int).toNat).take ((A.length:Int).toNat-(0:Int).toNat)=A:=by simp
 have e3:((A ++ x::B).drop ((A.length:Int)+1).toNat).take (((A ++ x::B).length:Int).toNat-((A.length:Int)+1).toNat)=B:=by
  rw [show ((A.length:Int)+1).toNat=A.length+1 by omega,←List.drop_drop,List.drop_left]
  simp only [List.drop_succ_cons,List.drop_zero];rw [List.take_of_length_le (by simp<;>omega)]
 rw [e2,e3,GR (by omega) (by omega)];rfl
theorem Y6 {s:Ho} {p:Part} (h:KZ s) (hl:p.Text.length≤1000):M7 s p=some (LY s p):=by
 unfold M7 LY;rw [OG h,Option.bind_some,Yz hl];cases h1:Mk s
 ·rfl
 cases h2:I0 p
 ·rfl
 have hg:=Lq.1 h1;obtain ⟨p1,p2,p3,p4⟩:=KB.1 h2;have hnb:=hg.KF;have hnt:=hg.Ko;simp only [Bool.not_true,cond_false,Option.bind_some,Bool.and_self,if_true];rw [aeu h,Option.bind_some,aen (by omega) (fun b hb=>(KC.1 (hg.LX b hb).1).1.1) p1.1 hg.JY,Option.bind_some]
 simp only;rw [Yr (by omega),Option.bind_some]
 unfold I9;cases h3:IT s.Told p.Id
 rotate_left
 ·rfl
 have hn:p.Id∉s.Told:=by simpa [IT] using h3
 simp only [cond_false,Bool.false_eq_true,if_false];obtain ⟨q1,q2,q3,q4⟩:=place hg.JY p.Id;have ln:=VD hg.JY p.Id;have PV:=VB (p:=p) hg.JY;have OI:=VC hg h2;have rest:(HB s p).Hh=p.Hh→ ∀(g:Ho×List UInt8×Bool×Bool→Option (Ho×List UInt8×Bool×Bool)),(∀r,g r=some r)→
  ((idx (Ht s.Hg p.Id ++ HB s p::HW s.Hg p.Id) ((Ht s.Hg p.Id).length:Int)).bind fun Ji=>(O6 Ji p).bind fun (Ih,_b63,Jj)=>(bif (!Jj) then some ((⟨[],[]⟩:Ho),[],false,false) else (idx (Ht s.Hg p.Id ++ HB s p::HW s.Hg p.Id) ((Ht s.Hg p.Id).length:Int)).bind fun _b72=>(Lv Ih).bind fun RN=>((bif RN then (O7 ((Ht s.Hg p.Id ++ HB s p::HW s.Hg p.Id).set ((Ht s.Hg p.Id).length:Int).toNat Ih) ((Ht s.Hg p.Id).length:Int) (IntKind.i64.wrap (((Ht s.Hg p.Id).length:Int)+1))).bind fun RO=>(app 8 s.Told ([Ih.Id]:List Int)).bind fun RP=>(slices_Sort_int RP).bind fun O8=>some (RO,O8) else some (((Ht s.Hg p.Id ++ HB s p::HW s.Hg p.Id).set ((Ht s.Hg p.Id).length:Int).toNat Ih),s.Told))).bind fun (Jz,Ld)=>(Kc (⟨Jz,Ld⟩:Ho)).bind fun Qn=>(bif (!Qn) then some ((⟨[],[]⟩:Ho),[],false,false) else (Lv Ih).bind fun RQ=>(bif RQ then some ((⟨Jz,Ld⟩:Ho),Ih.Text,true,true) else some ((⟨Jz,Ld⟩:Ho),[],false,true)))):Option (Ho×List UInt8×Bool×Bool)).bind g=some (NC s p (Iv (HB s p) p)):=by
  intro Ls g qo;have hbh:=OF OI;have hle:=Y2 (b:=HB s p) OI h2;have VF:idx (Ht s.Hg p.Id ++ HB s p::HW s.Hg p.Id) ((Ht s.Hg p.Id).length:Int)=some (HB s p):=by
   rw [yY (by simp)];simp
  rw [VF,Option.bind_some,aec (by omega) (by omega),Option.bind_some]
  unfold Mh MV NC;rw [OI,h2,PV,Ls];simp only [beq_self_eq_true,Bool.true_and];have Y7:(Iv (HB s p) p).Has=Is (HB s p).Has (Ia p):=rfl;by_cases Km:(Is (HB s p).Has (Ia p)).length≤20
  rotate_left
  ·rw [decide_eq_false Km,if_pos (show 20<(Iv (HB s p) p).Has.length by rw [Y7];omega)]
   exact qo _
  rw [decide_eq_true Km,if_neg (show¬20<(Iv (HB s p) p).Has.length by rw [Y7];omega)]
  simp only [if_true,Bool.not_true,cond_false];have hX:(⟨p.Id,p.Hh,I8 (hb (HB s p).Has) p.At (HB s p).Text p.Text p.Text.length,Is (HB s p).Has (Ia p)⟩:Hj)=Iv (HB s p) p:=by
   unfold Iv;rw [PV,Ls]
  rw [hX,Option.bind_some,YO (by omega),Option.bind_some,Int.toNat_natCast,aey]
  have PU:=YX OI h2 Ls.symm Km;have VG:(Iv (HB s p) p).Id=p.Id:=PV;cases h4:JD (Iv (HB s p) p)
  ·simp only [cond_false,Option.bind_some,Bool.false_eq_true,if_false];have hz:KZ ⟨Ht s.Hg p.Id ++ Iv (HB s p) p::HW s.Hg p.Id,s.Told⟩:=⟨by simp only [List.length_append,List.length_cons];omega,by simp only;omega,fun b hb=>by
    rcases List.mem_append.1 hb with hb|hb
    ·exact h.hb b (NB hb).1
    ·rcases List.mem_cons.1 hb with rfl|hb
     ·omega
     ·exact h.hb b (MW hb).1⟩
   rw [OG hz,Option.bind_some];by_cases DX:(Ht s.Hg p.Id ++ Iv (HB s p) p::HW s.Hg p.Id).length≤10
   ·have:=Y1 (x:=Iv (HB s p) p) hg ⟨PU,h4,by rw [VG];exact hn⟩ (by rw [VG];exact DX)
    rw [VG] at this;rw [Lq.2 this,if_pos DX,Bool.not_true,cond_false];exact qo _
   ·have:Mk ⟨Ht s.Hg p.Id ++ Iv (HB s p) p::HW s.Hg p.Id,s.Told⟩=false:=by
     rw [Bool.eq_false_iff];intro hh;exact DX (Lq.1 hh).KF
    rw [this,if_neg DX];exact qo _
  ·simp only [cond_true,if_true];rw [CW (by omega),aez (by omega),Option.bind_some,GR (by simp<;>omega) (by omega),Option.bind_some,aeo hg.pt hn (by omega),Option.bind_some,Option.bind_some]
   have ik:=Vz hg.pt hn;have hz:KZ ⟨Ht s.Hg p.Id ++ HW s.Hg p.Id,Kp s.Told p.Id⟩:=⟨by simp only [List.length_append];omega,by simp only;omega,fun b hb=>by
    rcases List.mem_append.1 hb with hb|hb
    ·exact h.hb b (NB hb).1
    ·exact h.hb b (MW hb).1⟩
   simp only;rw [OG hz,Option.bind_some];by_cases OH:s.Told.length=100
   ·have:Mk ⟨Ht s.Hg p.Id ++ HW s.Hg p.Id,Kp s.Told p.Id⟩=false:=by
     rw [Bool.eq_false_iff];intro hh;have:=(Lq.1 hh).Ko;simp only at this;omega
    rw [this,if_pos OH];exact qo _
   ·rw [Lq.2 (Y0 hg p1.1 hn OH),if_neg OH,Bool.not_true,cond_false,Option.bind_some,cond_true];exact qo _
 cases ht:JM s.Hg p.Id
 ·simp only [cond_false,Option.bind_some,Bool.not_false,cond_true];obtain ⟨e,_⟩:=q4 ht;have C6:=Rs (s:=s) (p:=p) ht;rw [aeg (by omega) (by omega),Option.bind_some]
  have aeA:RM s.Hg ((Ht s.Hg p.Id).length:Int) ([(⟨p.Id,p.Hh,LW p.Hh,[]⟩:Hj)]:List Hj)=some (Ht s.Hg p.Id ++ HB s p::HW s.Hg p.Id):=by
   unfold RM zk;show (if _ then _ else none)=_;rw [if_pos ⟨by omega,by omega,by unfold roomy;simp;omega⟩,Int.toNat_natCast,C6]
   congr 1;have e1:s.Hg.take (Ht s.Hg p.Id).length=Ht s.Hg p.Id:=by
    conv=>lhs;arg 2;rw [e]
    exact List.take_left
   have e2:s.Hg.drop (Ht s.Hg p.Id).length=HW s.Hg p.Id:=by
    conv=>lhs;arg 2;rw [e]
    exact List.drop_left
   rw [e1,e2];rfl
  rw [aeA,Option.bind_some,Option.bind_some];have Ls:(HB s p).Hh=p.Hh:=by rw [C6];rfl
  rw [if_pos Ls];have:=rest Ls (fun y=>some y) (fun _=>rfl);rw [Y5] at this;exact this
 ·obtain ⟨e1,e⟩:=Td (p:=p) hg.JY ht;have VF:idx s.Hg ((Ht s.Hg p.Id).length:Int)=some (HB s p):=by
   obtain ⟨b,_,_,az,_⟩:=q3 ht;rw [yY az];congr 1;have h2:(Ht s.Hg p.Id).length<(Ht s.Hg p.Id ++ HB s p::HW s.Hg p.Id).length:=by rw [←e];exact az
   have:s.Hg[(Ht s.Hg p.Id).length]=(Ht s.Hg p.Id ++ HB s p::HW s.Hg p.Id)[(Ht s.Hg p.Id).length]:=by congr 1
   rw [this];simp
  simp only [cond_true];rw [VF];simp only [Option.bind_some];by_cases Ls:(HB s p).Hh=p.Hh
  ·rw [show ((HB s p).Hh !=p.Hh)=false by simp [Ls],if_pos Ls]
   simp only [cond_false,Bool.not_true,Option.bind_some];have:=rest Ls (fun y=>some y) (fun _=>rfl);rw [Y5,←e] at this;exact this
  ·rw [show ((HB s p).Hh !=p.Hh)=true from bne_iff_ne.2 Ls,if_neg Ls];rfl
noncomputable def IC:List Part→Ho→List (List UInt8)→Option (Ho×List (List UInt8))
 |[],s,t=>some (s,t)
 |p::l,s,t=>if I0 p then (if (I9 s p).2.2.2 then IC l (I9 s p).1 (if (I9 s p).2.2.1 then t ++ [(I9 s p).2.1] else t) else none) else none
def ND (r:Option (Ho×List (List UInt8))):Ho×List (List UInt8)×Bool:=match r with
 |some (s,t)=>(s,t,true)
 |none=>(⟨[],[]⟩,[],false)
noncomputable def Lt (l:List Part):Ho×List (List UInt8)×Bool:=if 60<l.length then (⟨[],[]⟩,[],false) else ND (IC l ⟨[],[]⟩ [])
theorem NE:Jr ⟨[],[]⟩:=⟨by simp,by simp,by simp,.nil,.nil,by simp⟩
def VH (r:Option (Ho×List (List UInt8))):LR (List (List UInt8)×List Hj×List Int) (Ho×List (List UInt8)×Bool):=match r with
 |some (s,t)=> .next (t,s.Hg,s.Told)
 |none=> .done (⟨[],[]⟩,[],false)
theorem VI {l:List Part} (hp: ∀p∈l,p.Text.length≤1000):M8 l=some (Lt l):=by
 unfold M8 Lt;by_cases Ru:60<l.length
 ·rw [Dy (by omega),if_pos Ru];rfl
 rw [G0 (by omega),if_neg Ru,cond_false]
 have e:fF (RR l) ([],0,[],[])=some (VH (IC l ⟨[],[]⟩ [])):=by
  refine GQ (fun x=>l.length-x.2.1.toNat) (fun x=> ∃(k:Nat) (s:Ho) (t:List (List UInt8)),x=(t,(k:Int),s.Hg,s.Told)∧k≤l.length∧Jr s∧t.length≤k∧IC (l.drop k) s t=IC l ⟨[],[]⟩ []) _ ?_ _ ⟨0,⟨[],[]⟩,[],rfl,Nat.zero_le _,NE,Nat.zero_le _,rfl⟩;rintro _ ⟨k,s,t,rfl,hk,hg,ht,hR⟩;simp only [RR];by_cases az:k<l.length
  ·rw [List.drop_eq_getElem_cons az] at hR;simp only [IC] at hR;rw [Dy (by omega),cond_true,yY az,Option.bind_some,Y6 hg.sz (hp _ (List.getElem_mem az))]
   unfold LY;rw [Lq.2 hg];cases KE:I0 l[k]
   ·rw [KE] at hR;simp only [Bool.false_eq_true,if_false] at hR;rw [←hR];exact ⟨_,rfl,rfl⟩
   ·rw [KE] at hR;simp only [if_true,Bool.and_self] at hR⊢;have NF:=Rt hg KE;have Y8:=Y4 (s:=s) (p:=l[k]);rcases hs:I9 s l[k] with ⟨s',x,is,ok⟩;rw [hs] at hR NF Y8;dsimp only at hR NF Y8;cases ok
    ·simp only [Bool.false_eq_true,if_false] at hR;rw [←hR];exact ⟨_,rfl,rfl⟩
    ·simp only [if_true] at hR;simp only [Option.bind_some,Bool.not_true,cond_false];cases is
     ·simp only [cond_false,Option.bind_some];rw [CW (by omega)]
      exact ⟨_,rfl,⟨k+1,s',t,rfl,az,NF rfl,by omega,by simpa using hR⟩,by simp only;omega⟩
     ·simp only [cond_true];rw [GR (by simp<;>omega) (by omega),Option.bind_some,Option.bind_some,Option.bind_some]
      simp only;rw [CW (by omega)]
      exact ⟨_,rfl,⟨k+1,s',t ++ [x],rfl,az,NF rfl,by simp<;>omega,by simpa using hR⟩,by simp only;omega⟩
  ·rw [G0 (by omega)]
   rw [List.drop_eq_nil_of_le (by omega)] at hR
   simp only [IC] at hR;rw [←hR];exact ⟨_,rfl,rfl⟩
 rw [e,Option.bind_some];rcases IC l ⟨[],[]⟩ [] with _|⟨s,t⟩<;>rfl
theorem Te: ∀{l:List Part} {s s' :Ho} {t t' :List (List UInt8)},Jr s→IC l s t=some (s',t')→Jr s' ∧t'.length+s.Told.length=t.length+s'.Told.length∧ ∃u,t' =t ++ u
 |[],s,s',t,t',hg,h=>by
  simp only [IC,Option.some.injEq,Prod.mk.injEq] at h;obtain ⟨rfl,rfl⟩:=h;exact ⟨hg,rfl,[],by simp⟩
 |p::l,s,s',t,t',hg,h=>by
  simp only [IC] at h;split at h
  ·rename_i hp;split at h
   ·rename_i af;obtain ⟨g1,g2,u,g3⟩:=Te (Rt hg hp af) h;have ht:=aer (p:=p) hg af;refine ⟨g1,?_,?_⟩
    ·rw [ht] at g2;revert g2;split
     ·simp only [List.length_append,List.length_singleton];omega
     ·omega
    ·rw [g3];split
     ·exact ⟨_,List.append_assoc ..⟩
     ·exact ⟨u,rfl⟩
   ·cases h
  ·cases h
theorem Tf: ∀(a b:List Part) (s:Ho) (t:List (List UInt8)),IC (a ++ b) s t=(IC a s t).bind fun r=>IC b r.1 r.2
 |[],b,s,t=>rfl
 |p::a,b,s,t=>by
  simp only [List.cons_append,IC];split
  ·split
   ·exact Tf a b _ _
   ·rfl
  ·rfl
def VJ (p:Part):Prop:= ∀c∈p.Text,c.toNat<128
theorem Y9 {l:List Part} (hp: ∀p∈l,p.Text.length≤1000∧VJ p):Pf l=some (Lt l):=by
 unfold Pf Lt;by_cases Ru:60<l.length
 ·rw [Dy (by omega),if_pos Ru];rfl
 rw [G0 (by omega),if_neg Ru,cond_false]
 have e:fF (RY l) ([],0,[],[])=some (VH (IC l ⟨[],[]⟩ [])):=by
  refine GQ (fun x=>l.length-x.2.1.toNat) (fun x=> ∃(k:Nat) (s:Ho) (t:List (List UInt8)),x=(t,(k:Int),s.Hg,s.Told)∧k≤l.length∧Jr s∧t.length≤k∧IC (l.drop k) s t=IC l ⟨[],[]⟩ []) _ ?_ _ ⟨0,⟨[],[]⟩,[],rfl,Nat.zero_le _,NE,Nat.zero_le _,rfl⟩;rintro _ ⟨k,s,t,rfl,hk,hg,ht,hR⟩;simp only [RY];by_cases az:k<l.length
  ·rw [List.drop_eq_getElem_cons az] at hR;simp only [IC] at hR;obtain ⟨ik,hpp⟩:=hp _ (List.getElem_mem az);rw [Dy (by omega),cond_true,yY az,Option.bind_some,YA ik]
   cases KE:I0 l[k]
   ·rw [KE] at hR;simp only [Bool.false_eq_true,if_false] at hR;rw [←hR];exact ⟨_,rfl,rfl⟩
   ·rw [KE] at hR;simp only [if_true] at hR;simp only [Option.bind_some,Bool.not_true,cond_false];obtain ⟨r,e,r1,r2⟩:=Y3 hg KE hpp;have NF:=Rt hg KE;rw [show NS ⟨s.Hg,s.Told⟩ l[k]=some r from e];rcases r with ⟨s',x,is,ok⟩;cases ok
    ·rw [r2 rfl] at hR;simp only [Lr,Bool.false_eq_true,if_false] at hR;rw [←hR];exact ⟨_,rfl,rfl⟩
    ·rw [←r1 rfl] at hR NF;simp only [if_true] at hR;simp only [Option.bind_some,Bool.not_true,cond_false];cases is
     ·simp only [cond_false,Option.bind_some];rw [CW (by omega)]
      exact ⟨_,rfl,⟨k+1,s',t,rfl,az,NF rfl,by omega,by simpa using hR⟩,by simp only;omega⟩
     ·simp only [cond_true];rw [GR (by simp<;>omega) (by omega),Option.bind_some,Option.bind_some,Option.bind_some]
      simp only;rw [CW (by omega)]
      exact ⟨_,rfl,⟨k+1,s',t ++ [x],rfl,az,NF rfl,by simp<;>omega,by simpa using hR⟩,by simp only;omega⟩
  ·rw [G0 (by omega)]
   rw [List.drop_eq_nil_of_le (by omega)] at hR
   simp only [IC] at hR;rw [←hR];exact ⟨_,rfl,rfl⟩
 rw [e,Option.bind_some];rcases hf:IC l ⟨[],[]⟩ [] with _|⟨s,t⟩
 ·rfl
 ·obtain ⟨g,_⟩:=Te NE hf;simp only [VH,ND];rw [show (⟨s.Hg,s.Told⟩:Ho)=s from rfl,VE g.sz];rfl
theorem Y_ {b x:Hj} {p:Part} {n:Int} (h:Mh b p=(x,n,true)):Iv b p=x∧x.Has.length≤20:=by
 unfold Mh at h;split at h
 ·rename_i af;simp only [MV,Bool.and_eq_true,decide_eq_true_eq] at af;simp only [Prod.mk.injEq,and_true] at h;obtain ⟨rfl,_⟩:=h;exact ⟨rfl,af.2.2.2.2⟩
 ·simp at h
theorem Za {b:Hj} {c:Bool} (hg:IU b=true) (h:PS b=(c,true)):JD b=c:=by
 unfold PS at h;rw [if_pos hg] at h;exact (Prod.mk.inj h).1
theorem Zb {s:Ho} {p:Part} {x:Hj} (hB: ∀b∈s.Hg,b.Id=p.Id) (hT:s.Told=[]) (hl:(HB s p).Hh=p.Hh) (hx:Iv (HB s p) p=x) (Km:x.Has.length≤20):
 I9 s p=if JD x then (⟨[],[p.Id]⟩,x.Text,true,true) else (⟨[x],[]⟩,[],false,true):=by
 have e1:Ht s.Hg p.Id=[]:=List.filter_eq_nil_iff.2 fun b hb=>by have:=hB b hb;simp;omega
 have e2:HW s.Hg p.Id=[]:=List.filter_eq_nil_iff.2 fun b hb=>by have:=hB b hb;simp;omega
 unfold I9 NC;rw [hT,if_neg (by simp [IT]),if_pos hl,hx,if_neg (by omega),e1,e2]
 cases JD x
 ·simp
 ·simp [Kp]
structure PW (a:Int) (t:List UInt8) (r n:Nat) (s:Ho):Prop where
 told:s.Told=[]
 ap:(n=0∧s.Hg=[])∨(0<n∧ ∃b,s.Hg=[b]∧JL a t r n b)
theorem PW.at {a:Int} {t:List UInt8} {r n:Nat} {s:Ho} (h:PW a t r n s) (k:Nat):JL a t r n (HB s (Hu a t k))∧(∀b∈s.Hg,b.Id=(Hu a t k).Id):=by
 rcases h.ap with ⟨rfl,hb⟩|⟨_,b,hb,hB⟩
 ·have:JM s.Hg (Hu a t k).Id=false:=by rw [hb];rfl
  rw [Rs this,hb];exact ⟨JL.zero,by simp⟩
 ·have br:b.Id=(Hu a t k).Id:=hB.id;have:HB s (Hu a t k)=b:=by
   unfold HB;rw [hb];simp [JM,br]
  rw [this,hb];exact ⟨hB,by simp [br]⟩
theorem Zc {a:Int} {t:List UInt8} {r n:Nat} {s:Ho} (h:PW a t r n s) (hn:n<Hs t) (hr:r<Hs t) (ha:0≤a∧a≤1000) (ht:1≤t.length∧t.length≤40):
 (n+1<Hs t→ ∃s',PW a t r (n+1) s' ∧ ∀l u,IC (Hu a t (IL (Hs t) r n)::Hu a t (IL (Hs t) r n)::l) s u=IC l s' u)∧
 (n+1=Hs t→ ∀l u,IC (Hu a t (IL (Hs t) r n)::Hu a t (IL (Hs t) r n)::l) s u=IC l ⟨[],[a]⟩ (u ++ [t])):=by
 have hm:Hs t≤10∧4*Hs t<t.length+4∧t.length≤4*Hs t:=by unfold Hs;omega
 obtain ⟨hB,PV⟩:=h.at (IL (Hs t) r n);obtain ⟨x,x1,x2,x3⟩:=hB.take hn hr ha ht;have hk:IL (Hs t) r n<Hs t:=by unfold IL;split<;>omega
 generalize IL (Hs t) r n=k at*;obtain ⟨y1,y2⟩:=Y_ x1;obtain ⟨aeB,_⟩:=Y_ x3;have KE:I0 (Hu a t k)=true:=KB.2 ⟨⟨ha,by simp only [Hu];omega⟩,by simp [Hu];omega,by simp only [Hu];omega,by simp [Hu];omega⟩
 have cJ:=Zb PV h.told (hB.Mi.trans rfl) y1 y2;have PU:=x2.good (by omega) ha ht
 refine ⟨fun az=> ?_,fun he l u=> ?_⟩
 ·have hd:=Za PU (x2.open az hr ha ht);rw [hd] at cJ;have hT:PW a t r (n+1) ⟨[x],[]⟩:=⟨rfl,.inr ⟨by omega,x,rfl,x2⟩⟩
  have br:x.Id=(Hu a t k).Id:=x2.id;have fi:HB ⟨[x],[]⟩ (Hu a t k)=x:=by unfold HB;simp [JM,br]
  have eO:=Zb (s:=⟨[x],[]⟩) (p:=Hu a t k) (x:=x) (by simp [br]) rfl (by rw [fi];exact x2.Mi.trans rfl) (by rw [fi];exact aeB) y2
  rw [hd] at eO;refine ⟨_,hT,fun l u=> ?_⟩;simp only [IC,KE,cJ,eO,if_true,Bool.false_eq_true,if_false]
 ·obtain ⟨d1,d2⟩:=JL.done (by rw [←he];exact x2) hr ha ht
  have hd:=Za PU d1;rw [hd,d2] at cJ;have eO:I9 ⟨[],[(Hu a t k).Id]⟩ (Hu a t k)=(⟨[],[(Hu a t k).Id]⟩,[],false,true):=by
   unfold I9;rw [if_pos (by simp [IT])]
  simp only [IC,KE,cJ,eO,if_true,Bool.false_eq_true,if_false];rfl
def K_ (a:Int) (t:List UInt8) (r n:Nat):List Part:=(List.range n).flatMap fun i=>[Hu a t (IL (Hs t) r i),Hu a t (IL (Hs t) r i)]
theorem Tg (a:Int) (t:List UInt8) (r n:Nat):K_ a t r (n+1)=K_ a t r n ++ [Hu a t (IL (Hs t) r n),Hu a t (IL (Hs t) r n)]:=by
 simp [K_,List.range_succ,List.flatMap_append]
theorem VK (a:Int) (t:List UInt8) (r:Nat): ∀n,(K_ a t r n).length=2*n
 |0=>rfl
 |n+1=>by rw [Tg,List.length_append,VK a t r n];simp;omega
theorem aeC {a:Int} {t:List UInt8} {r n:Nat} {p:Part} (h:p∈K_ a t r n): ∃k,p=Hu a t k:=by
 obtain ⟨i,_,hi⟩:=List.mem_flatMap.1 h;simp at hi;exact ⟨_,hi⟩
theorem aeD {a:Int} {t:List UInt8} {r:Nat} (hr:r<Hs t) (ha:0≤a∧a≤1000) (ht:1≤t.length∧t.length≤40):IC (K_ a t r (Hs t)) ⟨[],[]⟩ []=some (⟨[],[a]⟩,[t]):=by
 have key: ∀n,n<Hs t→ ∃s,PW a t r n s∧IC (K_ a t r n) ⟨[],[]⟩ []=some (s,[]):=by
  intro n;induction n with
  |zero=>exact fun _=>⟨⟨[],[]⟩,⟨rfl,.inl ⟨rfl,rfl⟩⟩,rfl⟩
  |succ n ih=>
   intro hn;obtain ⟨s,h1,h2⟩:=ih (by omega)
   obtain ⟨s',h3,h4⟩:=(Zc h1 (by omega) hr ha ht).1 hn
   exact ⟨s',h3,by rw [Tg,Tf,h2];exact h4 [] []⟩
 obtain ⟨m,hm⟩: ∃m,Hs t=m+1:=⟨Hs t-1,by omega⟩
 obtain ⟨s,h1,h2⟩:=key m (by omega)
 have h3:=(Zc h1 (by omega) hr ha ht).2 (by omega) [] []
 have e:K_ a t r (Hs t)=K_ a t r m ++ [Hu a t (IL (Hs t) r m),Hu a t (IL (Hs t) r m)]:=by
  have:=Tg a t r m;rw [←hm] at this;exact this
 rw [e,Tf,h2];exact h3
theorem Zd (a:Int) (t:List UInt8) (k:Nat):(Hu a t k).Text.length≤4:=by simp [Hu];omega
def La (p:Part):Prop:=p.Text.length≤4∧VJ p
theorem nx {a:Int} {t:List UInt8} (ht:plain t):(MU a t).1.length≤10∧ ∀p∈(MU a t).1,La p:=by
 unfold MU;split
 ·rename_i h;have:=OC.1 h;refine ⟨by rw [PR];unfold Hs;omega,fun p hp=> ?_⟩
  obtain ⟨k,_,rfl⟩:=List.mem_map.1 hp;exact ⟨Zd a t k,aej ht k⟩
 ·exact ⟨by simp,by simp⟩
theorem VL {c:HE} {b:Int} (h:Ij c b) (hb:b≤1000000000000000):dF (NH c) fun r=>(r.1.length≤41∧ ∀p∈r.1,La p)∧Ij r.2 (b+1000):=by
 unfold NH;refine dF.then (wz (by assumption) (by omega)) ?_
 rintro ⟨n,YJ⟩ ⟨n_0,Ze,NA⟩;dsimp only at n_0 Ze NA⊢;have hn:=Ze (by omega)
 rw [CW (by omega)]
 refine dF.then (P:=fun r=>(r.1.length≤40∧ ∀p∈r.1,La p)∧Ij ⟨r.2.1,r.2.2.1,r.2.2.2⟩ (b+200)) ?_ ?_
 ·refine dF.fF (fun x=>x.2.1.toNat) (fun x=>0≤x.2.1∧x.2.1≤4∧((x.1.length:Int)≤10*(4-x.2.1)∧ ∀p∈x.1,La p)∧Ij ⟨x.2.2.1,x.2.2.2.1,x.2.2.2.2⟩ (b+100-20*x.2.1)) ?_ ⟨by dsimp only;omega,by dsimp only;omega,⟨by simp<;>omega,by simp⟩,NA.eta.mono (by dsimp only;omega)⟩
  rintro ⟨l,m,C,A,S⟩ ⟨i0,i1,⟨i2,i3⟩,i4⟩;dsimp only at i0 i1 i2 i3 i4;unfold Th;dsimp only;refine dF.GV (fun hc=> ?_) (fun hc=> ?_)
  ·have hm:0<m:=by simpa using hc
   refine dF.then (wz (by assumption) (by omega)) ?_
   rintro ⟨a,c_a⟩ ⟨a_0,a_1,Rv⟩;dsimp only at a_0 a_1 Rv⊢;refine dF.then (YI Rv (by omega)) ?_
   rintro ⟨t,c⟩ ⟨⟨t1,t2⟩,S9⟩;dsimp only at t1 t2 S9⊢;rw [ad7 (by omega),Option.bind_some]
   have hv:=nx (a:=a) t2;obtain ⟨v,w,hvw⟩: ∃v w,MU a t=(v,w):=⟨_,_,rfl⟩;rw [hvw] at hv⊢;dsimp only at hv⊢;rw [GR (by omega) (by omega),Option.bind_some,CW (by omega)]
   refine .ret ⟨⟨by dsimp only;omega,by dsimp only;omega,⟨by simp only [List.length_append];omega,fun p hp=> ?_⟩,S9.eta.mono (by dsimp only;omega)⟩,by dsimp only;omega⟩
   rcases List.mem_append.1 hp with hp|hp
   ·exact i3 p hp
   ·exact hv.2 p hp
  ·exact .ret ⟨⟨by dsimp only;omega,i3⟩,i4.mono (by omega)⟩
 rintro ⟨l,C,A,S⟩ ⟨⟨l1,l2⟩,lc⟩;dsimp only at l1 l2 lc⊢;refine dF.then (wz (by assumption) (by omega)) ?_
 rintro ⟨m,c_m⟩ ⟨m_0,Zf,Zg⟩;dsimp only at m_0 Zf Zg⊢;have hm:=Zf (by omega)
 refine dF.then (P:=fun r=>(r.1.length≤40∧ ∀p∈r.1,La p)∧Ij ⟨r.2.1,r.2.2.1,r.2.2.2⟩ (b+300)) ?_ ?_
 ·refine dF.fF (fun x=>x.2.1.toNat) (fun x=>0≤x.2.1∧x.2.1≤8∧(x.1.length≤40∧ ∀p∈x.1,La p)∧Ij ⟨x.2.2.1,x.2.2.2.1,x.2.2.2.2⟩ (b+300-10*x.2.1)) ?_ ⟨by dsimp only;omega,by dsimp only;omega,⟨l1,l2⟩,Zg.eta.mono (by dsimp only;omega)⟩
  rintro ⟨l,m,C,A,S⟩ ⟨i0,i1,⟨i2,i3⟩,i4⟩;dsimp only at i0 i1 i2 i3 i4;unfold Ti;dsimp only;refine dF.then (P:=fun x=>x=true→0<m∧1<l.length) ?_ ?_
  ·refine dF.GV (fun hc=> .ret fun h=>⟨by simpa using hc,?_⟩) (fun hc=> .ret fun h=>by cases h)
   have:(1:Int)<l.length:=by simpa using h
   omega
  intro x hx;refine dF.GV (fun hc=> ?_) (fun hc=> ?_)
  ·obtain ⟨h1,h2⟩:=hx hc;refine dF.then (wz (by assumption) (by omega)) ?_
   rintro ⟨i,c_i⟩ ⟨Rw,Rx,i_c⟩;dsimp only at Rw Rx i_c⊢;have hi:=Rx (by omega)
   refine dF.then (wz (by assumption) (by omega)) ?_
   rintro ⟨k,YG⟩ ⟨Nz,OE,k_c⟩;dsimp only at Nz OE k_c⊢;have hk:=OE (by omega)
   rw [GW Rw hi,Option.bind_some,GW Nz hk,Option.bind_some,Option.bind_some,GW Nz (by simpa using hk),Option.bind_some,CW (by omega)]
   refine .ret ⟨⟨by dsimp only;omega,by dsimp only;omega,⟨by simpa using i2,fun p hp=> ?_⟩,k_c.eta.mono (by dsimp only;omega)⟩,by dsimp only;omega⟩
   rcases List.mem_or_eq_of_mem_set hp with hp|rfl
   ·rcases List.mem_or_eq_of_mem_set hp with hp|rfl
    ·exact i3 p hp
    ·exact i3 _ (List.getElem_mem _)
   ·exact i3 _ (List.getElem_mem _)
  ·exact .ret ⟨⟨i2,i3⟩,i4.mono (by omega)⟩
 rintro ⟨l,C,A,S⟩ ⟨⟨l1,l2⟩,lc⟩;dsimp only at l1 l2 lc⊢;refine dF.then (P:=fun r=>(r.1=true→0<l.length)∧Ij ⟨r.2.1,r.2.2.1,r.2.2.2⟩ (b+310)) ?_ ?_
 ·refine dF.GV (fun hc=> ?_) (fun hc=> ?_)
  ·have:(0:Int)<l.length:=by simpa using hc
   refine dF.then (Ro (by assumption) (by omega)) ?_
   rintro ⟨z,S_⟩ KD;dsimp only at KD⊢;exact .ret ⟨fun _=>(by omega),KD.eta.mono (by omega)⟩
  ·exact .ret ⟨fun h=>(by cases h),lc.mono (by omega)⟩
 rintro ⟨z,C,A,S⟩ ⟨z1,zc⟩;dsimp only at z1 zc⊢;refine dF.then (P:=fun r=>(r.1.length≤41∧ ∀p∈r.1,La p)∧Ij ⟨r.2.1,r.2.2.1,r.2.2.2⟩ (b+320)) ?_ ?_
 ·refine dF.GV (fun hc=> ?_) (fun hc=> ?_)
  ·have h0:=z1 hc;refine dF.then (wz (by assumption) (by omega)) ?_
   rintro ⟨i,c_i⟩ ⟨Rw,Rx,i_c⟩;dsimp only at Rw Rx i_c⊢;have hi:=Rx (by omega)
   rw [GW Rw hi,Option.bind_some,GR (by simp<;>omega) (by omega),Option.bind_some]
   refine .ret ⟨⟨by simp<;>omega,fun p hp=> ?_⟩,i_c.eta.mono (by omega)⟩
   rcases List.mem_append.1 hp with hp|hp
   ·exact l2 p hp
   ·rw [List.mem_singleton.1 hp];exact l2 _ (List.getElem_mem _)
  ·exact .ret ⟨⟨by dsimp only;omega,l2⟩,zc.mono (by omega)⟩
 clear l1 l2 lc z1 zc;rintro ⟨l,C,A,S⟩ ⟨⟨l1,l2⟩,lc⟩;dsimp only at l1 l2 lc⊢;refine dF.then (P:=fun r=>(r.1=true→0<l.length)∧Ij ⟨r.2.1,r.2.2.1,r.2.2.2⟩ (b+330)) ?_ ?_
 ·refine dF.GV (fun hc=> ?_) (fun hc=> ?_)
  ·have:(0:Int)<l.length:=by simpa using hc
   refine dF.then (Ro (by assumption) (by omega)) ?_
   rintro ⟨z,S_⟩ KD;dsimp only at KD⊢;exact .ret ⟨fun _=>(by omega),KD.eta.mono (by omega)⟩
  ·exact .ret ⟨fun h=>(by cases h),lc.mono (by omega)⟩
 rintro ⟨z,C,A,S⟩ ⟨z1,zc⟩;dsimp only at z1 zc⊢;refine dF.then (P:=fun r=>r.length≤41∧ ∀p∈r,La p) ?_ ?_
 ·refine dF.GV (fun hc=> ?_) (fun hc=> ?_)
  ·have h0:=z1 hc;rw [GY (by omega) (by omega) (by omega),Option.bind_some]
   exact .ret ⟨by simp<;>omega,fun p hp=>l2 p (List.mem_of_mem_drop (List.mem_of_mem_take hp))⟩
  ·exact .ret ⟨l1,l2⟩
 clear l1 l2 lc z1;rintro l ⟨l1,l2⟩;refine dF.then (P:=fun r=>(r.1=true→0<l.length)∧Ij ⟨r.2.1,r.2.2.1,r.2.2.2⟩ (b+340)) ?_ ?_
 ·refine dF.GV (fun hc=> ?_) (fun hc=> ?_)
  ·have:(0:Int)<l.length:=by simpa using hc
   refine dF.then (Ro (by assumption) (by omega)) ?_
   rintro ⟨z,S_⟩ KD;dsimp only at KD⊢;exact .ret ⟨fun _=>(by omega),KD.eta.mono (by omega)⟩
  ·exact .ret ⟨fun h=>(by cases h),zc.mono (by omega)⟩
 clear zc;rintro ⟨z,C,A,S⟩ ⟨z1,zc⟩;dsimp only at z1 zc⊢;refine dF.then (P:=fun r=>(r.1.length≤41∧ ∀p∈r.1,La p)∧Ij ⟨r.2.1,r.2.2.1,r.2.2.2⟩ (b+350)) ?_ ?_
 ·refine dF.GV (fun hc=> ?_) (fun hc=> ?_)
  ·have h0:=z1 hc;refine dF.then (Vh (by assumption) (by omega) (by simp)) ?_
   rintro ⟨a,c_a⟩ ⟨a_m,Rv⟩;dsimp only at a_m Rv⊢;rw [GW (by omega) (by omega),Option.bind_some]
   refine .ret ⟨⟨by simpa using l1,fun p hp=> ?_⟩,Rv.eta.mono (by omega)⟩
   rcases List.mem_or_eq_of_mem_set hp with hp|rfl
   ·exact l2 p hp
   ·have h9:La l[(0:Int).toNat]:=l2 _ (List.getElem_mem _);exact ⟨h9.1,h9.2⟩
  ·exact .ret ⟨⟨l1,l2⟩,zc.mono (by omega)⟩
 clear l1 l2 z1 zc;rintro ⟨l,C,A,S⟩ ⟨l1,lc⟩;exact .ret ⟨l1,lc.mono (by omega)⟩
theorem Zh {l:List Part} (h: ∀p∈l,La p): ∀p∈l,p.Text.length≤1000∧VJ p:=fun p hp=>⟨by have:=(h p hp).1;omega,(h p hp).2⟩
theorem VM {l:List Part} {s:Ho} {t:List (List UInt8)} {c:Bool} (e:Lt l=(s,t,c)):Jr s∧t.length=s.Told.length:=by
 unfold Lt at e;split at e
 ·simp only [Prod.mk.injEq] at e;obtain ⟨rfl,rfl,_⟩:=e;exact ⟨NE,rfl⟩
 ·rcases h:IC l ⟨[],[]⟩ [] with _|⟨s',t'⟩
  ·rw [h] at e;simp only [ND,Prod.mk.injEq] at e;obtain ⟨rfl,rfl,_⟩:=e;exact ⟨NE,rfl⟩
  ·rw [h] at e;simp only [ND,Prod.mk.injEq] at e;obtain ⟨rfl,rfl,_⟩:=e;obtain ⟨g1,g2,_⟩:=Te NE h;exact ⟨g1,by simpa using g2⟩
theorem aeE {c:HE} {b:Int} (h:Ij c b) (hb:b≤100000000000000):dF (QL c) fun r=>KZ r.1∧(∀x∈r.1.Hg,x.Has.length≤20)∧Ij r.2 (b+1010):=by
 unfold QL;refine dF.then (VL h (by omega)) ?_
 rintro ⟨l,c⟩ ⟨⟨l1,l2⟩,lc⟩;dsimp only at l1 l2 lc⊢;rw [Y9 (Zh l2),Option.bind_some];rcases e:Lt l with ⟨s,t,k⟩;obtain ⟨g,_⟩:=VM e;dsimp only;refine dF.then (P:=fun r=>(r.1.length≤10∧ ∀x∈r.1,x.Has.length≤20)∧r.2.length≤100) ?_ ?_
 ·refine dF.GV (fun hc=> ?_) (fun hc=> ?_)
  ·exact .ret ⟨⟨by simp,by simp⟩,by simp⟩
  ·exact .ret ⟨⟨g.KF,fun x hx=>OF (g.LX x hx).1⟩,g.Ko⟩
 rintro ⟨B,T⟩ ⟨⟨b1,b2⟩,b3⟩;dsimp only at b1 b2 b3⊢;refine dF.then (Ro (by assumption) (by omega)) ?_
 rintro ⟨z,S_⟩ KD;dsimp only at KD⊢;refine dF.then (P:=fun r=>Ij ⟨r.1,r.2.1,r.2.2.1⟩ (b+1010)∧r.2.2.2.length≤101) ?_ ?_
 ·refine dF.GV (fun hc=> ?_) (fun hc=> ?_)
  ·refine dF.then (wz (by assumption) (by omega)) ?_
   rintro ⟨k,YG⟩ ⟨Nz,OE,k_c⟩;dsimp only at Nz OE k_c⊢;rw [GR (by simp<;>omega) (by omega),Option.bind_some]
   exact .ret ⟨k_c.eta.mono (by omega),by simp<;>omega⟩
  ·exact .ret ⟨KD.eta.mono (by omega),by dsimp only;omega⟩
 rintro ⟨C,A,S,T⟩ ⟨cc,t1⟩;dsimp only at cc t1⊢;exact .ret ⟨⟨by dsimp only;omega,by dsimp only;omega,fun x hx=>by have:=b2 x hx;omega⟩,b2,cc⟩
theorem aeF {a:List Int} (hl:a.length≤1048576) (hb: ∀x∈a,0≤x∧x≤255):dF (Pm a) fun r=>KZ r.1∧(∀x∈r.1.Hg,x.Has.length≤20)∧La r.2:=by
 unfold Pm;refine dF.then (aeE (Vg hl hb) (by omega)) ?_
 rintro ⟨s,c⟩ ⟨s1,s2,sc⟩;dsimp only at s1 s2 sc⊢;refine dF.then (VL sc (by omega)) ?_
 rintro ⟨l,c⟩ ⟨⟨l1,l2⟩,lc⟩;dsimp only at l1 l2 lc⊢;refine dF.GV (fun hc=> ?_) (fun hc=> ?_)
 ·exact .ret ⟨s1,s2,by simp,YH (t:=[120]) (by decide)⟩
 ·have h0:0<l.length:=by
   have: ¬(l.length:Int)=0:=by simpa using hc
   omega
  rw [GW (by omega) (by omega),Option.bind_some]
  exact .ret ⟨s1,s2,l2 _ (List.getElem_mem _)⟩
theorem aeG {a:List Int} (hl:a.length≤1048576) (hb: ∀x∈a,0≤x∧x≤255):dF (P8 a) fun r=>r.length≤41∧ ∀p∈r,La p:=by
 unfold P8;refine dF.then (VL (Vg hl hb) (by omega)) ?_
 rintro ⟨l,c⟩ ⟨l1,_⟩;exact .ret l1
theorem aeH {l:List Int} (h:l.length≤1000000):QF l l=some true:=by
 unfold QF;rw [bne_self_eq_false,cond_false,Dx l (QE l l) (fun k (_:Unit)=>k) (fun _ _ s=> .next s) (fun _=> .next ()) (fun k hk s=>by
  simp only [QE];rw [Dy (by omega),yY hk,CW (by omega)]
  simp;rfl) (fun s=>by simp [QE]) (),GU (fun s _=>s) (fun _ _ _=>rfl)]
 rfl
theorem Zi {l:List (List UInt8)} (h:l.length≤1000000):Ph l l=some true:=by
 unfold Ph;rw [bne_self_eq_false,cond_false,Dx l (QD l l) (fun k (_:Unit)=>k) (fun _ _ s=> .next s) (fun _=> .next ()) (fun k hk s=>by
  simp only [QD];rw [Dy (by omega),yY hk,CW (by omega)]
  simp;rfl) (fun s=>by simp [QD]) (),GU (fun s _=>s) (fun _ _ _=>rfl)]
 rfl
theorem Zj {s:Ho} (h1:s.Hg.length≤1000000) (h2:s.Told.length≤1000000) (h3: ∀x∈s.Hg,x.Has.length≤1000):Na s s=some true:=by
 unfold Na;rw [aeH h2];simp only [Option.bind_some,Bool.not_true,cond_false,bne_self_eq_false];rw [Dx s.Hg (QK s s) (fun k (_:Unit)=>k) (fun _ _ s=> .next s) (fun _=> .next ()) (fun k hk s' =>by
  simp only [QK];rw [Dy (by omega),yY hk,CW (by omega)]
  simp only [cond_true,Option.bind_some];rw [aeh (h3 _ (List.getElem_mem hk))];rfl) (fun s' =>by simp [QK]) (),GU (fun s _=>s) (fun _ _ _=>rfl)]
 rfl
theorem aeI {s:Ho} {p:Part} (_h:KZ s) (_h3: ∀x∈s.Hg,x.Has.length≤20):KZ (LY s p).1∧(∀x∈(LY s p).1.Hg,x.Has.length≤1000)∧((LY s p).2.2.2=true→Jr (LY s p).1):=by
 unfold LY;split
 ·rename_i hh;rw [Bool.and_eq_true,Lq] at hh;cases hk:(I9 s p).2.2.2
  ·rw [Y4 hk];exact ⟨NE.sz,by simp [Lr],fun h=>(by cases h)⟩
  ·have g:=Rt hh.1 hh.2 hk;exact ⟨g.sz,fun x hx=>by have:=OF (g.LX x hx).1;omega,fun _=>g⟩
 ·exact ⟨NE.sz,by simp [Lr],fun h=>(by cases h)⟩
theorem aeJ {a:Int} {t:List UInt8} {r:Nat} (hr:r<Hs t) (hm:Hs t≤10):fF (QS (LV a t (Hs t)) r) ([],0)=some (K_ a t r (Hs t)):=by
 refine GQ (fun x=>Hs t-x.2.toNat) (fun x=> ∃k:Nat,x=(K_ a t r k,(k:Int))∧k≤Hs t) _ ?_ _ ⟨0,rfl,Nat.zero_le _⟩;rintro _ ⟨k,rfl,hk⟩;simp only [QS];by_cases az:k<Hs t
 ·have hmd:md (IntKind.i64.wrap ((k:Int)+(r:Int))) ((Hs t:Nat):Int)=some ((IL (Hs t) r k:Nat):Int):=by
   rw [CW (by omega),GZ (by omega) (by omega)]
   congr 1;unfold IL;split
   ·rw [Int.emod_eq_of_lt (by omega) (by omega)];omega
   ·rw [show ((k:Int)+r)=((k+r-Hs t:Nat):Int)+(Hs t:Int) by omega,Int.add_emod_right,Int.emod_eq_of_lt (by omega) (by omega)]
  have b4:IL (Hs t) r k<Hs t:=by unfold IL;split<;>omega
  rw [PR,Dy (by omega),cond_true,hmd,Option.bind_some,ael b4,Option.bind_some,GR (by rw [VK];simp;omega) (by omega),Option.bind_some,CW (by omega),←Tg]
  exact ⟨.next (K_ a t r (k+1),((k+1:Nat):Int)),rfl,⟨_,rfl,az⟩,by simp only;omega⟩
 ·rw [PR,G0 (by omega)]
  refine ⟨_,rfl,?_⟩;obtain rfl:k=Hs t:=by omega
  rfl
theorem aeK (a b:List Int) (ha:a.length<2^47) (ja:b.length<2^47) (Zk: ∀x∈a,0≤x∧x≤255) (Zl: ∀x∈b,0≤x∧x≤255):QT a b=some true:=by
 unfold QT;rw [CW (by omega)]
 by_cases hlen:1048576<(a.length:Int)+b.length
 ·rw [Dy hlen];rfl
 rw [G0 hlen,cond_false];obtain ⟨l,e1,l1,l2⟩:=aeG (a:=a) (by omega) Zk
 obtain ⟨⟨d,t⟩,e2,t1,t2⟩:=aei (a:=a) (by omega) Zk
 obtain ⟨⟨s,p⟩,e3,s1,s2,s3⟩:=aeF (a:=b) (by omega) Zl
 obtain ⟨n,e4,aeL,n1⟩:=aek (l:=b) (by omega) Zl
 dsimp only at t1 t2 s1 s2 s3;have tail:((M7 s p).bind fun (Oy,LI,Pq,Nf)=>(NW s p).bind fun (Rl,Ng,Pr,Ps)=>(bif (Nf==Ps) then (bif (Pq==Pr) then (bif (LI==Ng) then (Na Oy Rl).bind fun VN=>(bif VN then (Kc s).bind fun N1=>(Nc s).bind fun N2=>(bif (N1==N2) then (bif (!Nf) then some true else (Kc Oy).bind fun N3=>some N3) else some false) else some false) else some false) else some false) else some false))=some true:=by
  have h4:=s3.1;rw [Y6 s1 (by omega),aex s1 (by omega) s3.2,OG s1,YT s1]
  obtain ⟨v1,v2,v3⟩:=aeI (p:=p) s1 s2;rcases hv:LY s p with ⟨s',x,is,ok⟩;rw [hv] at v1 v2 v3;dsimp only at v1 v2 v3;have h5:=v1.KF;have h6:=v1.Ko;simp only [Option.bind_some,beq_self_eq_true,cond_true];rw [Zj h5 h6 v2];simp only [Option.bind_some,cond_true];cases ok
  ·rfl
  ·rw [OG v1,Lq.2 (v3 rfl)];rfl
 have hT: ∀p∈l,p.Text.length≤1000:=fun p hp=>by have:=(l2 p hp).1;omega
 rw [e1,Option.bind_some,VI hT,Y9 (Zh l2)];rcases hf:Lt l with ⟨S,T,k⟩;obtain ⟨g,gt⟩:=VM hf;have ahL:=g.Ko;have LX:=g.KF;simp only [Option.bind_some,beq_self_eq_true,Bool.not_true,cond_false];rw [Zi (by omega),Zj (by omega) (by omega) (fun x hx=>by have:=OF (g.LX x hx).1;omega)]
 simp only [Option.bind_some,Bool.not_true,cond_false];have aeM: ∀{y:Option (LR Unit Bool)},y=some (.next ())→(y.bind fun y=>match y with|LR.next ()=>((Pj a).bind fun (QW,Nd)=>(Pk QW Nd).bind fun (Le,R5)=>((bif R5 then (Pl b).bind fun M3=>(md M3 (Le.length:Int)).bind fun NX=>(fF (QS Le NX) ([],0)).bind fun NY=>(M8 NY).bind fun (NZ,Pp,R6)=>((bif (!R6) then some (true) else (bif ((Pp.length:Int) !=1) then some (true) else (idx Pp 0).bind fun M4=>(bif (!(M4==Nd)) then some (true) else (bif (decide (0<(NZ.Hg.length:Int))) then some (true) else some (((NZ.Told.length:Int) !=1))))))).bind fun N0=>(bif N0 then some (LR.done false) else some (LR.next ())) else some (LR.next ()))).bind fun y=>match y with|LR.next ()=>(Pm b).bind fun (PQ,J2)=>(M7 PQ J2).bind fun (Oy,LI,Pq,Nf)=>(NW PQ J2).bind fun (Rl,Ng,Pr,Ps)=>(bif (Nf==Ps) then (bif (Pq==Pr) then (bif (LI==Ng) then (Na Oy Rl).bind fun VN=>(bif VN then (Kc PQ).bind fun N1=>(Nc PQ).bind fun N2=>(bif (N1==N2) then (bif (!Nf) then some true else (Kc Oy).bind fun N3=>some N3) else some false) else some false) else some false) else some false) else some false)|LR.done z=>some z)|LR.done z=>some z)=some true:=by
  rintro y rfl;simp only [Option.bind_some];rw [e2,e3];simp only [Option.bind_some];rw [ad6 (by omega)]
  unfold MU;cases hk:J9 d t.length
  ·simp only [Bool.false_eq_true,if_false,cond_false,Option.bind_some];exact tail
  ·have h:=OC.1 hk;have hm:1≤Hs t∧Hs t≤10:=by unfold Hs;omega
   have aeN:0≤n % (Hs t:Int)∧n % (Hs t:Int)<Hs t:=⟨Int.emod_nonneg _ (by omega),Int.emod_lt_of_pos _ (by omega)⟩
   obtain ⟨r,hr⟩:=Int.eq_ofNat_of_zero_le aeN.1;simp only [if_true,cond_true,Option.bind_some];rw [e4,PR];simp only [Option.bind_some];rw [GZ aeL (by omega),hr]
   simp only [Option.bind_some];rw [aeJ (by omega) hm.2,Option.bind_some,VI (fun q hq=>by obtain ⟨j,rfl⟩:=aeC hq;have:=Zd d t j;omega)]
   have hfv:Lt (K_ d t r (Hs t))=(⟨[],[d]⟩,[t],true):=by
    unfold Lt;rw [if_neg (by rw [VK];omega),aeD (by omega) ⟨by omega,by omega⟩ ⟨by omega,by omega⟩];rfl
   rw [hfv];simp only [Option.bind_some,Bool.not_true,cond_false,List.length_cons,List.length_nil,Nat.zero_add,Int.natCast_one,bne_self_eq_false];rw [show idx [t] 0=some t from rfl];simp only [Option.bind_some,beq_self_eq_true,Bool.not_true,cond_false];rw [G0 (by omega)]
   exact tail
 refine aeM ?_;cases k
 ·rfl
 ·simp only [cond_true];rw [OG g.sz,Lq.2 g,gt];simp only [Option.bind_some,Bool.not_true,cond_false,bne_self_eq_false];rw [GR (by simp<;>omega) (by omega),Option.bind_some,GR (by simp<;>omega) (by omega),Option.bind_some,List.nil_append,VI (fun p hp=>by rcases List.mem_append.1 hp with h|h<;>exact hT p h)]
  rcases mE:Lt (l ++ l) with ⟨S2,T2,k2⟩;obtain ⟨g2,gt2⟩:=VM mE;simp only [Option.bind_some];cases k2
  ·rfl
  ·have aeO: ∃u,T2=T ++ u:=by
    unfold Lt at hf mE;split at mE
    ·simp at mE
    split at hf
    ·simp at hf
    rw [Tf] at mE;rcases h1:IC l ⟨[],[]⟩ [] with _|⟨S',T'⟩
    ·rw [h1] at hf;simp [ND] at hf
    ·rw [h1] at hf mE;simp only [ND,Prod.mk.injEq,and_true] at hf;obtain ⟨rfl,rfl⟩:=hf;simp only [Option.bind_some] at mE;rcases h2:IC l S' T' with _|⟨S3,T3⟩
     ·rw [h2] at mE;simp [ND] at mE
     ·rw [h2] at mE;simp only [ND,Prod.mk.injEq,and_true] at mE;obtain ⟨rfl,rfl⟩:=mE;exact (Te g h2).2.2
   obtain ⟨u,rfl⟩:=aeO;simp only [cond_true,List.length_append];rw [←gt,G0 (by omega),cond_false,GY (by omega) (by omega) (by simp only [List.length_append];omega)]
   have e5:((T ++ u).drop (0:Int).toNat).take ((T.length:Int).toNat-(0:Int).toNat)=T:=by simp
   rw [e5,Option.bind_some,Zi (by omega),Option.bind_some,Bool.not_true,cond_false,OG g2.sz,Lq.2 g2]
   rfl
end Go.JN
