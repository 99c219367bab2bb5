/-
  The plain law and all that it needs.
-/
import Derived.Test.YtclgbpneokeaeaaVdF
import Derived.Test.YtclgbpneokeaeaaVaF
import Derived.Test.YtclgbpneokeaeaaVaG
open Go Go.VS
namespace Go.GB
def GV (n a b:Int):Bool:=decide (a≤n)&&decide (n≤b)
theorem SE (n a b:Int):Ki n a b=some (GV n a b):=by
 unfold Ki GV;cases decide (a≤n)<;>rfl
theorem Oy (n a b:Int):I1 n a b=some (GV n a b):=by
 unfold I1 GV;cases decide (a≤n)<;>rfl
theorem Jj {n a b:Int}:GV n a b=true↔a≤n∧n≤b:=by simp [GV]
theorem YT {l:List Int} (hl:l.length<2^60) {g:Int→Option Bool} (p:Int→Bool) (hg: ∀x∈l,g x=some (p x)):Lh l g=some (dV p l):=by
 unfold Lh;rw [Ea p (f:=OS l g) (fun _=>rfl) hl hg];have:=qg p l;by_cases h:dV p l<0
 ·rw [if_pos h];simp;omega
 ·rw [if_neg h];rfl
structure Fw (c:EW) (b:Int):Prop where
 len:c.Code.length≤1048576
 bytes: ∀x∈c.Code,0≤x∧x≤255
 lo:0≤c.At
 hi:c.At≤b
theorem Fw.mono {c:EW} {b d:Int} (h:Fw c b) (hd:b≤d):Fw c d:=⟨h.len,h.bytes,h.lo,by have:=h.hi;omega⟩
theorem YU (k:Int):0≤An .u64 k 255∧An .u64 k 255≤255:=by
 have h:(BitVec.ofInt IntKind.u64.bits k&&&BitVec.ofInt IntKind.u64.bits 255).toNat≤255:=by
  rw [BitVec.toNat_and];exact Nat.and_le_right
 unfold An;rw [IntWalk.u64_in _ (by omega)]
 omega
theorem SG {c:EW} {b:Int} (h:Fw c b) (hb:b≤4611686018427387904): ∃x d,J4 c=some (x,d)∧(0≤x∧x≤255)∧Fw d (b+1):=by
 obtain ⟨h1,h2,h3,h4⟩:=h;unfold J4;rw [AA (x:=c.At+1) (by omega)]
 have e: ∃ED,(bif (decide (c.At<(c.Code.length:Int))) then (idx c.Code c.At).bind fun Ht=>some ((IntKind.i64.wrap Ht)) else some (0))=some ED∧0≤ED∧ED≤255:=by
  by_cases hc:c.At<c.Code.length
  ·rw [show decide (c.At<(c.Code.length:Int))=true by simpa using hc]
   obtain ⟨n,hn⟩:=Int.eq_ofNat_of_zero_le h3;rw [hn,wS (show n<c.Code.length by omega)]
   have:=h2 _ (List.getElem_mem (show n<c.Code.length by omega))
   simp only [cond_true,Option.bind_some];rw [AA (by omega)]
   exact ⟨_,rfl,this⟩
  ·rw [show decide (c.At<(c.Code.length:Int))=false by simpa using hc]
   exact ⟨0,rfl,by omega,by omega⟩
 obtain ⟨ED,e1,e2⟩:=e;rw [e1,Option.bind_some];cases decide (c.At+1≤(c.Code.length:Int))
 ·refine ⟨_,_,rfl,?_,⟨h1,h2,by simp only;omega,by simp only;omega⟩⟩
  have:=YU (uR .u64 (IntKind.u64.wrap ((IntKind.u64.wrap ((IntKind.u64.wrap (c.Ft*6364136223846793005))+(IntKind.u64.wrap ED)))+1442695040888963407)) 40);rw [AA (by omega)]
  exact this
 ·exact ⟨_,_,rfl,e2,⟨h1,h2,by simp only;omega,by simp only;omega⟩⟩
theorem SH {x n:Int} (hx:0≤x) (hn:1<n): ∃r,md x n=some r∧0≤r∧r<n:=by
 unfold md;rw [if_neg (by omega)]
 refine ⟨_,rfl,?_,?_⟩
 ·rw [Int.tmod_eq_emod_of_nonneg hx];exact Int.emod_nonneg _ (by omega)
 ·rw [Int.tmod_eq_emod_of_nonneg hx];exact Int.emod_lt_of_pos _ (by omega)
theorem Qb {c:EW} {b n:Int} (h:Fw c b) (hb:b≤4000000000000000000): ∃x d,Hd c n=some (x,d)∧(0≤x∧(1≤n→x<n))∧Fw d (b+2):=by
 unfold Hd;by_cases hn:n≤1
 ·rw [show decide (n≤1)=true by simpa using hn]
  exact ⟨0,c,rfl,⟨by omega,by omega⟩,h.mono (by omega)⟩
 ·rw [show decide (n≤1)=false by simpa using hn]
  obtain ⟨x,d,e1,e2,e3⟩:=SG h (by omega)
  simp only [cond_false];rw [e1,Option.bind_some];cases decide (200<n)
  ·simp only [cond_false,Option.bind_some];obtain ⟨r,r1,r2,r3⟩:=SH (x:=x) e2.1 (show 1<n by omega)
   rw [r1];exact ⟨r,_,rfl,⟨r2,fun _=>r3⟩,e3.mono (by omega)⟩
  ·simp only [cond_true];obtain ⟨y,d',f1,f2,f3⟩:=SG e3 (by omega)
   rw [f1];simp only [Option.bind_some];rw [AA (x:=x*256) (by omega),AA (by omega)]
   obtain ⟨r,r1,r2,r3⟩:=SH (x:=x*256+y) (by omega) (show 1<n by omega)
   rw [r1];exact ⟨r,_,rfl,⟨r2,fun _=>r3⟩,f3.mono (by omega)⟩
theorem YV {c:EW} {b n:Int} (h:Fw c b) (hb:b≤4000000000000000000): ∃x d,IT c n=some (x,d)∧Fw d (b+2):=by
 obtain ⟨x,d,e1,_,e3⟩:=Qb (n:=n) h hb;unfold IT;rw [e1];exact ⟨_,_,rfl,e3⟩
theorem YW {c:EW} {b:Int} {l:List Int} (h:Fw c b) (hb:b≤4000000000000000000) (hl:l≠[]): ∃x d,J6 c l=some (x,d)∧x∈l∧Fw d (b+2):=by
 obtain ⟨x,d,e1,e2,e3⟩:=Qb (n:=(l.length:Int)) h hb;have cZ:1≤l.length:=by cases l with|nil=>exact absurd rfl hl|cons _ _=>simp
 unfold J6;rw [e1];obtain ⟨n,rfl⟩:=Int.eq_ofNat_of_zero_le e2.1;have hn:n<l.length:=by have:=e2.2 (by omega);omega
 simp only [Option.bind_some];rw [wS hn];exact ⟨_,_,rfl,List.getElem_mem hn,e3⟩
theorem SI {l:List Int} (hl:l.length≤1048576) (hb: ∀x∈l,0≤x∧x≤255):Fw ⟨l,0,0⟩ 0:=⟨hl,hb,by simp,by simp⟩
theorem Fw.eta {c:EW} {b:Int} (h:Fw c b):Fw ⟨c.Code,c.At,c.Ft⟩ b:=h
theorem ug {c:EW} {b n:Int} (h:Fw c b) (hb:b≤4000000000000000000):db (Hd c n) fun r=>0≤r.1∧(1≤n→r.1<n)∧Fw r.2 (b+2):=by
 obtain ⟨x,d,e,⟨h1,h2⟩,h3⟩:=Qb (n:=n) h hb;exact ⟨_,e,h1,h2,h3⟩
theorem Qc {c:EW} {b n:Int} (h:Fw c b) (hb:b≤4000000000000000000):db (IT c n) fun r=>Fw r.2 (b+2):=by
 obtain ⟨x,d,e,h3⟩:=YV (n:=n) h hb;exact ⟨_,e,h3⟩
theorem YX {c:EW} {b:Int} {l:List Int} (h:Fw c b) (hb:b≤4000000000000000000) (hl:l≠[]):db (J6 c l) fun r=>r.1∈l∧Fw r.2 (b+2):=by
 obtain ⟨x,d,e,h2,h3⟩:=YW h hb hl;exact ⟨_,e,h2,h3⟩
def Ik {α :Type} (p:Nat→ α →Bool):Nat→List α →Bool
 |_,[]=>true
 |k,x::xs=>p k x&&Ik p (k+1) xs
theorem YY {α σ ρ :Type} {g:Nat→ α → σ →LR σ ρ} {fin: σ → ρ} (p:Nat→ α →Bool) (r: ρ) (h: ∀k x s,g k x s=if p k x then .next s else .done r) (l:List α) (k:Nat) (s: σ):eA g fin k l s=if Ik p k l then fin s else r:=by
 induction l generalizing k with
 |nil=>simp [eA,Ik]
 |cons x xs ih=>
  rw [show Ik p k (x::xs)=(p k x&&Ik p (k+1) xs) from rfl];simp only [eA,h];by_cases hp:p k x=true
  ·rw [if_pos hp,hp,Bool.true_and];exact ih (k+1)
  ·have YZ:p k x=false:=by simpa using hp
   rw [if_neg hp,YZ,Bool.false_and];rfl
theorem SJ {α :Type} {p:Nat→ α →Bool}: ∀{l:List α} {k:Nat},Ik p k l=true↔ ∀i x,l[i]? =some x→p (k+i) x=true
 |[],k=>by simp [Ik]
 |x::xs,k=>by
  simp only [Ik,Bool.and_eq_true,SJ (l:=xs)];constructor
  ·rintro ⟨h1,h2⟩ i y hy;cases i with
   |zero=>
    obtain rfl:x=y:=by simpa using hy
    exact h1
   |succ i=>
    have:=h2 i y (by simpa using hy)
    rwa [show k+1+i=k+(i+1) by omega] at this
  ·intro h;refine ⟨h 0 x rfl,fun i y hy=> ?_⟩;have:=h (i+1) y (by simpa using hy)
   rwa [show k+(i+1)=k+1+i by omega] at this
def JY (x:Span):Bool:=decide (0≤x.Em∧x.Em<x.To∧x.To≤1000000)
theorem Y0 (x:Span):KV x=some (JY x):=by
 unfold KV JY;by_cases h1:0≤x.Em
 ·rw [Bm h1,cond_true];by_cases h2:x.Em<x.To
  ·rw [Bm h2,cond_true];simp only [h1,h2,true_and]
  ·rw [D_ h2,cond_false,D_ (fun h=>h2 h.2.1)]
 ·rw [D_ h1,cond_false,D_ (fun h=>h1 h.1)]
def Il (l:List Span) (k:Nat) (x:Span):Bool:=JY x&&(decide (k=0)|| !decide (x.Em≤(l.getD (k-1) ⟨0,0⟩).To))
def Im (l:List Span):Bool:=decide (l.length≤20)&&Ik (Il l) 0 l
theorem Y1 {l:List Span} {k:Nat} (hk:k<l.length) (hl:l.length≤1048576):((some (JY l[k])).bind fun F2=>(bif (!F2) then some true else (bif (decide (0<(k:Int))) then (idx l (IntKind.i64.wrap ((k:Int)-1))).bind fun Hv=>some (decide (l[k].Em≤Hv.To)) else some false)))=some (!Il l k l[k]):=by
 unfold Il;rw [Option.bind_some];cases JY l[k]
 ·rfl
 ·simp only [Bool.not_true,cond_false,Bool.true_and];by_cases h:k=0
  ·subst h;simp
  ·rw [Bm (by omega),cond_true,AA (by omega),show (k:Int)-1=((k-1:Nat):Int) by omega,wS (by omega),D_ h,List.getD_eq_getElem?_getD,List.getElem?_eq_getElem (by omega:k-1<l.length)]
   simp
theorem Oz {l:List Span} (hl:l.length≤1048576):I2 l=some (Im l):=by
 unfold I2 Im;by_cases h:l.length≤20
 ·rw [D_ (by omega),cond_false,Bm h,wU l (KW l) (fun k (_:Unit)=>k) (fun k x s=>if Il l k x then .next s else .done (.done false)) (fun _=> .next ()) (fun k hk s=>by
   simp only [KW];rw [Bm (by omega),wS hk]
   simp only [cond_true,Option.bind_some,Y0];have:=Y1 hk hl;simp only [Option.bind_some] at this;rw [this,Option.bind_some,AA (by omega)]
   cases Il l k l[k]<;>rfl) (fun s=>by simp [KW]) (),YY _ _ (fun _ _ _=>rfl)]
  cases Ik (Il l) 0 l<;>rfl
 ·rw [Bm (by omega),D_ h];rfl
structure HI (l:List Span):Prop where
 len:l.length≤20
 sp: ∀x∈l,0≤x.Em∧x.Em<x.To∧x.To≤1000000
 KJ:l.Pairwise fun x y=>x.To<y.Em
theorem JZ {l:List Span}:Im l=true↔HI l:=by
 unfold Im;rw [Bool.and_eq_true,decide_eq_true_eq,SJ];have key:(∀(i:Nat) (x:Span),l[i]? =some x→Il l (0+i) x=true)↔(∀x∈l,0≤x.Em∧x.Em<x.To∧x.To≤1000000)∧l.Pairwise fun x y=>x.To<y.Em:=by
  constructor
  ·intro h;have h1: ∀x∈l,0≤x.Em∧x.Em<x.To∧x.To≤1000000:=fun x hx=>by
    obtain ⟨i,hi⟩:=List.mem_iff_getElem?.1 hx;have:=h i x hi;simp only [Il,JY,Bool.and_eq_true,decide_eq_true_eq] at this;exact this.1
   have h2: ∀i (hi:i+1<l.length),l[i].To<l[i+1].Em:=fun i hi=>by
    have:=h (i+1) l[i+1] (List.getElem?_eq_getElem hi);simp only [Il,Bool.and_eq_true,Bool.or_eq_true,decide_eq_true_eq,Bool.not_eq_true',decide_eq_false_iff_not,Nat.zero_add,Nat.add_sub_cancel] at this;rw [List.getD_eq_getElem?_getD,List.getElem?_eq_getElem (by omega:i<l.length)] at this
    have:=this.2;simp only [Option.getD_some] at this;omega
   refine ⟨h1,List.pairwise_iff_getElem.2 fun i j hi hj jx=> ?_⟩;have: ∀d,∀(hd:i+1+d<l.length),l[i].To<l[i+1+d].Em:=fun d=>by
    induction d with
    |zero=>intro hd;exact h2 i hd
    |succ d ih=>
     intro hd;have a1:=ih (by omega)
     have a2:=h2 (i+1+d) (by omega)
     have a3:=h1 _ (List.getElem_mem (show i+1+d<l.length by omega))
     have:l[i+1+d+1]=l[i+1+(d+1)]:=rfl;rw [this] at a2;omega
   have:=this (j-(i+1)) (by omega)
   simp only [show i+1+(j-(i+1))=j by omega] at this
   exact this
  ·rintro ⟨h1,h2⟩ i x hi;obtain ⟨gZ,e⟩:=List.getElem?_eq_some_iff.1 hi;simp only [Il,JY,Bool.and_eq_true,Bool.or_eq_true,decide_eq_true_eq,Bool.not_eq_true',decide_eq_false_iff_not,Nat.zero_add];refine ⟨h1 x (List.mem_of_getElem? hi),?_⟩;by_cases h0:i=0
   ·exact .inl h0
   ·right;rw [List.getD_eq_getElem?_getD,List.getElem?_eq_getElem (by omega:i-1<l.length)]
    have:=List.pairwise_iff_getElem.1 h2 (i-1) i (by omega) gZ (by omega)
    rw [e] at this;simp only [Option.getD_some];omega
 rw [key];exact ⟨fun h=>⟨h.1,h.2.1,h.2.2⟩,fun h=>⟨h.1,h.2,h.3⟩⟩
def IJ (l:List Span):Int:=l.foldl (fun n x=>IntKind.i64.wrap (n+IntKind.i64.wrap (x.To-x.Em))) 0
theorem Y2 {l:List Span} (hl:l.length≤1048576):L9 l=some (IJ l):=by
 unfold L9 IJ;rw [wU l (L8 l) (fun k (s:Int)=>(s,k)) (fun _ x s=> .next (IntKind.i64.wrap (s+IntKind.i64.wrap (x.To-x.Em)))) id (fun k hk s=>by
  simp only [L8];rw [Bm (by omega),wS hk,AA (x:=(k:Int)+1) (by omega)]
  rfl) (fun s=>by simp [L8]) 0,Bl _ (fun _ _ _=>rfl)]
 rfl
theorem Y3 {l:List Span} (hl:l.length≤1048576):JC l=some (if Im l then (IJ l,true) else (0,false)):=by
 unfold JC;rw [Oz hl,Y2 hl];cases Im l<;>rfl
def ES (n:Int) (x:Span):Bool:=decide (x.Em≤n)&&decide (n<x.To)
theorem Y4 {l:List Span} (hl:l.length<2^60) {g:Span→Option Bool} (p:Span→Bool) (hg: ∀x∈l,g x=some (p x)):KY l g=some (dV p l):=by
 unfold KY;rw [Ea p (f:=OO l g) (fun _=>rfl) hl hg];have:=qg p l;by_cases h:dV p l<0
 ·rw [if_pos h];simp;omega
 ·rw [if_neg h];rfl
theorem Y5 {l:List Span} (hl:l.length<2^60) {g:Span→Option Bool} (p:Span→Bool) (hg: ∀x∈l,g x=some (p x)):KZ l g=some (l.any p):=by
 unfold KZ;rw [Y4 hl p hg,Option.bind_some,Bn]
theorem M1 {l:List Span} (hl:l.length≤1048576) (n:Int):Ir l n=some (l.any (ES n)):=by
 unfold Ir;rw [Y5 (by omega) (ES n) (fun x _=>by unfold Nk ES;cases decide (x.Em≤n)<;>rfl)]
 rfl
theorem Qd {l:List Span} (hl:l.length≤1048576) (n:Int):Jy l n=some (l.any (ES n)):=by
 unfold Jy;rw [wU l (LB l n) (fun k (_:Unit)=>k) (fun _ x s=>if !ES n x then .next s else .done (.done true)) (fun _=> .next ()) (fun k hk s=>by
  have e:(bif decide (l[k].Em≤n) then some (decide (n<l[k].To)) else some false)=some (ES n l[k]):=by
   unfold ES;cases decide (l[k].Em≤n)<;>rfl
  simp only [LB];rw [Bm (by omega),wS hk,AA (by omega)]
  simp only [cond_true,Option.bind_some];rw [e];cases ES n l[k]<;>rfl) (fun s=>by simp [LB]) (),D6 _ _ (fun _ _ _=>rfl)]
 have:(l.all fun x=> !ES n x)= !l.any (ES n):=by
  induction l with
  |nil=>rfl
  |cons x xs ih=>simp only [List.all_cons,List.any_cons,ih (by simp only [List.length_cons] at hl;omega),Bool.not_or]
 rw [this];cases l.any (ES n)<;>rfl
def Io (out:List Span) (x:Span):List Span:=
 match out.getLast? with
 |some z=>if x.Em≤z.To then out.set (out.length-1) ⟨z.Em,if x.To>z.To then x.To else z.To⟩ else out ++ [x]
 |none=>out ++ [x]
theorem Y6 (out:List Span) (x:Span):(Io out x).length≤out.length+1:=by
 unfold Io;split
 ·split
  ·simp
  ·simp
 ·simp
theorem Y7 {l:List Span} (hl:l.length≤100000) (hb: ∀x∈l,-2305843009213693952≤x.Em∧x.Em≤2305843009213693952): ∃r:List Span,r.Perm l∧(r.Pairwise fun x y=>x.Em≤y.Em)∧Jr l=some (r.foldl Io []):=by
 obtain ⟨r,h1,h2,h3⟩:=Ef (sz:=2) (z:=QF) (dec:=QH) (fun _=>rfl) (l:=l) (fun x hx=>⟨rfl,hb x hx⟩) (by omega)
 refine ⟨r,h2,h3,?_⟩;have hr:r.length=l.length:=h2.length_eq;unfold Jr OQ OR;rw [D5 (by simp<;>omega) (by omega),Option.bind_some,List.nil_append,h1,Option.bind_some]
 rw [Bk r (Le r) (fun k (s:List Span)=>(s,k)) (fun _ x s=> .next (Io s x)) id (fun k s=>s.length≤k) (fun k hk s hs=>by
  refine ⟨?_,fun s' e=>by obtain rfl:=LR.next.inj e;have:=Y6 s r[k];omega⟩
  simp only [Le];rw [Bm (by omega),wS hk,AA (x:=(k:Int)+1) (by omega),AA (x:=(s.length:Int)-1) (by omega)]
  simp only [cond_true,Option.bind_some];unfold Io;by_cases h0:s.length=0
  ·have:s=[]:=List.length_eq_zero_iff.1 h0;subst this;rw [D_ (by simp),D5 (by simp) (by omega)]
   rfl
  ·rw [Bm (by omega),cond_true,D8 (by omega) (by omega),Option.bind_some]
   have e1:((s.length:Int)-1).toNat=s.length-1:=by omega
   simp only [e1,List.getLast?_eq_getElem?,List.getElem?_eq_getElem (show s.length-1<s.length by omega),Option.bind_some]
   by_cases h1:r[k].Em≤s[s.length-1].To
   ·simp only [decide_eq_true h1,cond_true,if_pos h1,Option.bind_some];rfl
   ·simp only [decide_eq_false h1,cond_false,if_neg h1];rw [D5 (by simp<;>omega) (by omega)];rfl) (fun s _=>by simp [Le]) [] (by simp),Bl _ (fun _ _ _=>rfl)]
 rfl
theorem Y8 {l:List Span}:Js l=some (if l.length≤20 then (l,true) else ([],false)):=by
 unfold Js;by_cases h:l.length≤20
 ·rw [D_ (by omega),if_pos h];rfl
 ·rw [Bm (by omega),if_neg h];rfl
def EY:List Span→Prop
 |[]=>True
 |x::l=>x.Em<x.To∧(∀y∈l,x.To<y.Em)∧EY l
def hs (l:List Span) (n:Int):Prop:= ∃x∈l,x.Em≤n∧n<x.To
theorem Hs (n:Int): ¬hs [] n:=fun ⟨_,h,_⟩=>by simp at h
theorem FD {x:Span} {l:List Span} {n:Int}:hs (x::l) n↔(x.Em≤n∧n<x.To)∨hs l n:=by
 constructor
 ·rintro ⟨y,hy,h⟩;rcases List.mem_cons.1 hy with rfl|hy
  ·exact .inl h
  ·exact .inr ⟨y,hy,h⟩
 ·rintro (h|⟨y,hy,h⟩)
  ·exact ⟨x,by simp,h⟩
  ·exact ⟨y,by simp [hy],h⟩
theorem OA {a b:List Span} {n:Int}:hs (a ++ b) n↔hs a n∨hs b n:=by
 constructor
 ·rintro ⟨y,hy,h⟩;rcases List.mem_append.1 hy with hy|hy
  ·exact .inl ⟨y,hy,h⟩
  ·exact .inr ⟨y,hy,h⟩
 ·rintro (⟨y,hy,h⟩|⟨y,hy,h⟩)
  ·exact ⟨y,by simp [hy],h⟩
  ·exact ⟨y,by simp [hy],h⟩
theorem SK {a b:List Span} (h:a.Perm b) {n:Int}:hs a n↔hs b n:=
 ⟨fun ⟨y,hy,k⟩=>⟨y,h.mem_iff.1 hy,k⟩,fun ⟨y,hy,k⟩=>⟨y,h.mem_iff.2 hy,k⟩⟩
theorem M2 {l:List Span} {n:Int}:l.any (ES n)=true↔hs l n:=by
 simp only [List.any_eq_true,ES,Bool.and_eq_true,decide_eq_true_eq,hs]
theorem EY.ne: ∀{l:List Span},EY l→ ∀x∈l,x.Em<x.To
 |y::l,h,x,hx=>by
  rcases List.mem_cons.1 hx with rfl|hx
  ·exact h.1
  ·exact EY.ne h.2.2 x hx
theorem EY.M3: ∀{l:List Span},EY l→l.Pairwise fun x y=>x.To<y.Em
 |[],_=>List.Pairwise.nil
 |_::_,h=>List.Pairwise.cons h.2.1 (EY.M3 h.2.2)
theorem EY.of: ∀{l:List Span},(∀x∈l,x.Em<x.To)→(l.Pairwise fun x y=>x.To<y.Em)→EY l
 |[],_,_=>trivial
 |x::l,h,p=>⟨h x (by simp),(List.pairwise_cons.1 p).1,EY.of (fun y hy=>h y (by simp [hy])) (List.pairwise_cons.1 p).2⟩
theorem HI.cn {l:List Span} (h:HI l):EY l:=EY.of (fun x hx=>(h.sp x hx).2.1) h.KJ
theorem Jk {x:Span} {l:List Span} (h: ∀y∈l,x.To<y.Em) {n:Int} (hn:hs l n):x.To<n:=by
 obtain ⟨y,hy,h1,h2⟩:=hn;have:=h y hy;omega
theorem EY.gJ: ∀{l m:List Span},EY l→EY m→(∀n,hs l n↔hs m n)→l=m
 |[],[],_,_,_=>rfl
 |[],y::m,_,h,e=>absurd ((e y.Em).2 (FD.2 (.inl ⟨Int.le_refl _,h.1⟩))) (Hs _)
 |x::l,[],h,_,e=>absurd ((e x.Em).1 (FD.2 (.inl ⟨Int.le_refl _,h.1⟩))) (Hs _)
 |x::l,y::m,⟨h1,h2,h3⟩,⟨k1,k2,k3⟩,e=>by
  have a1:=FD.1 ((e x.Em).1 (FD.2 (.inl ⟨Int.le_refl _,h1⟩)));have a2:=FD.1 ((e y.Em).2 (FD.2 (.inl ⟨Int.le_refl _,k1⟩)));have SL:x.Em=y.Em:=by
   rcases a1 with a1|a1
   ·rcases a2 with a2|a2
    ·omega
    ·have:=Jk h2 a2;omega
   ·have:=Jk k2 a1;rcases a2 with a2|a2
    ·omega
    ·have:=Jk h2 a2;omega
  have SM:x.To=y.To:=by
   have b1: ¬x.To<y.To:=fun h=>by
    rcases FD.1 ((e x.To).2 (FD.2 (.inl ⟨by omega,h⟩))) with b|b
    ·omega
    ·have:=Jk h2 b;omega
   have b2: ¬y.To<x.To:=fun h=>by
    rcases FD.1 ((e y.To).1 (FD.2 (.inl ⟨by omega,h⟩))) with b|b
    ·omega
    ·have:=Jk k2 b;omega
   omega
  have Y9:x=y:=by cases x;cases y;simp only at SL SM;rw [SL,SM]
  subst Y9;congr 1;refine EY.gJ h3 k3 fun n=>⟨fun hn=> ?_,fun hn=> ?_⟩
  ·have:=Jk h2 hn;rcases FD.1 ((e n).1 (FD.2 (.inr hn))) with b|b
   ·omega
   ·exact b
  ·have:=Jk k2 hn;rcases FD.1 ((e n).2 (FD.2 (.inr hn))) with b|b
   ·omega
   ·exact b
theorem Y_ (x:Span):Io [] x=[x]:=rfl
theorem Za (i:List Span) (z x:Span):Io (i ++ [z]) x=if x.Em≤z.To then i ++ [⟨z.Em,if x.To>z.To then x.To else z.To⟩] else i ++ [z] ++ [x]:=by
 unfold Io;simp only [List.getLast?_concat];by_cases h:x.Em≤z.To
 ·rw [if_pos h,if_pos h,show (i ++ [z]).length-1=i.length by simp,List.set_append_right _ _ (by omega)]
  simp
 ·rw [if_neg h,if_neg h]
theorem Qe: ∀(r i:List Span) (z:Span),(∀x∈r,x.Em<x.To)→(r.Pairwise fun x y=>x.Em≤y.Em)→(∀x∈r,z.Em≤x.Em)→EY (i ++ [z])→EY (r.foldl Io (i ++ [z]))∧ ∀n,hs (r.foldl Io (i ++ [z])) n↔hs (i ++ [z]) n∨hs r n
 |[],i,z,_,_,_,hc=>⟨hc,fun n=>⟨.inl,fun h=>h.resolve_right (Hs n)⟩⟩
 |x::r,i,z,h1,h2,h3,hc=>by
  have hx:=h1 x (by simp)
  have hz:=h3 x (by simp)
  have hp:=List.pairwise_cons.1 h2;have Qf:=List.pairwise_append.1 hc.M3;have hzn:=hc.ne z (by simp)
  rw [List.foldl_cons,Za];by_cases h:x.Em≤z.To
  ·rw [if_pos h];have hm:z.To≤(if x.To>z.To then x.To else z.To)∧x.To≤(if x.To>z.To then x.To else z.To)∧((if x.To>z.To then x.To else z.To)=x.To∨(if x.To>z.To then x.To else z.To)=z.To):=by split<;>omega
   generalize (if x.To>z.To then x.To else z.To)=t at hm⊢;obtain ⟨c1,c2⟩:=Qe r i ⟨z.Em,t⟩ (fun y hy=>h1 y (by simp [hy])) hp.2 (fun y hy=>h3 y (by simp [hy])) (EY.of (fun y hy=>by
    rcases List.mem_append.1 hy with hy|hy
    ·exact hc.ne y (by simp [hy])
    ·obtain rfl:=List.mem_singleton.1 hy;show z.Em<t;omega) (List.pairwise_append.2 ⟨Qf.1,List.pairwise_singleton _ _,fun y hy w hw=>by
      obtain rfl:=List.mem_singleton.1 hw;exact Qf.2.2 y hy z (by simp)⟩))
   refine ⟨c1,fun n=> ?_⟩;rw [c2,OA,OA,FD,FD,FD];constructor
   ·rintro ((k|k)|k)
    ·exact .inl (.inl k)
    ·rcases k with k|k
     ·dsimp only at k;by_cases Zb:n<z.To
      ·exact .inl (.inr (.inl ⟨k.1,Zb⟩))
      ·exact .inr (.inl ⟨by omega,by omega⟩)
     ·exact absurd k (Hs n)
    ·exact .inr (.inr k)
   ·rintro ((k|k|k)|k|k)
    ·exact .inl (.inl k)
    ·exact .inl (.inr (.inl ⟨k.1,by dsimp only;omega⟩))
    ·exact absurd k (Hs n)
    ·exact .inl (.inr (.inl ⟨by dsimp only;omega,by dsimp only;omega⟩))
    ·exact .inr k
  ·rw [if_neg h];obtain ⟨c1,c2⟩:=Qe r (i ++ [z]) x (fun y hy=>h1 y (by simp [hy])) hp.2 (fun y hy=>hp.1 y hy) (EY.of (fun y hy=>by
    rcases List.mem_append.1 hy with hy|hy
    ·exact hc.ne y hy
    ·obtain rfl:=List.mem_singleton.1 hy;exact hx) (List.pairwise_append.2 ⟨hc.M3,List.pairwise_singleton _ _,fun y hy w hw=>by
      obtain rfl:=List.mem_singleton.1 hw;rcases List.mem_append.1 hy with hy|hy
      ·have:=Qf.2.2 y hy z (by simp)
       omega
      ·obtain rfl:=List.mem_singleton.1 hy;omega⟩))
   refine ⟨c1,fun n=> ?_⟩;rw [c2,OA,FD,FD];constructor
   ·rintro ((k|k|k)|k)
    ·exact .inl k
    ·exact .inr (.inl k)
    ·exact absurd k (Hs n)
    ·exact .inr (.inr k)
   ·rintro (k|k|k)
    ·exact .inl (.inl k)
    ·exact .inl (.inr (.inl k))
    ·exact .inr k
theorem SN {l:List Span} (hl:l.length≤100000) (hb: ∀x∈l,0≤x.Em∧x.Em<x.To∧x.To≤1000000): ∃j,Jr l=some j∧EY j∧ ∀n,hs j n↔hs l n:=by
 obtain ⟨r,h1,h2,h3⟩:=Y7 hl fun x hx=>by have:=hb x hx;omega
 refine ⟨_,h3,?_⟩;have hr: ∀x∈r,x.Em<x.To:=fun x hx=>(hb x (h1.mem_iff.1 hx)).2.1;cases r with
 |nil=>exact ⟨trivial,fun n=>SK h1⟩
 |cons x r=>
  obtain ⟨c1,c2⟩:=Qe r [] x (fun y hy=>hr y (by simp [hy])) (List.pairwise_cons.1 h2).2 (List.pairwise_cons.1 h2).1 ⟨hr x (by simp),fun y hy=>by simp at hy,trivial⟩
  rw [List.foldl_cons,Y_];refine ⟨c1,fun n=> ?_⟩;rw [show [x]=[] ++ [x] from rfl,c2,←SK h1,FD,List.nil_append,FD];exact ⟨fun h=>by
   rcases h with (h|h)|h
   ·exact .inl h
   ·exact absurd h (Hs n)
   ·exact .inr h,fun h=>by
   rcases h with h|h
   ·exact .inl (.inl h)
   ·exact .inr h⟩
theorem EY.M4 {l:List Span} (h:EY l) (hn: ∀n,hs l n→0≤n∧n<1000000): ∀x∈l,0≤x.Em∧x.Em<x.To∧x.To≤1000000:=fun x hx=>by
 have h1:=h.ne x hx;have h2:=hn x.Em ⟨x,hx,Int.le_refl _,h1⟩;have h3:=hn (x.To-1) ⟨x,hx,by omega,by omega⟩
 omega
theorem EY.SO {l:List Span} (h:EY l) (hn: ∀n,hs l n→0≤n∧n<1000000) (hl:l.length≤20):HI l:=⟨hl,h.M4 hn,h.M3⟩
theorem HI.bX {l:List Span} (h:HI l) {n:Int} (hn:hs l n):0≤n∧n<1000000:=by
 obtain ⟨x,hx,h1,h2⟩:=hn;have:=h.sp x hx;omega
theorem SP (a b:Int):J5 a b=some (if a<b then a else b):=by
 unfold J5;by_cases h:a<b
 ·rw [Bm h,if_pos h];rfl
 ·rw [D_ h,if_neg h];rfl
theorem Qg (a b:Int):Jx a b=some (if b<a then a else b):=by
 unfold Jx;by_cases h:b<a
 ·rw [Bm h,if_pos h];rfl
 ·rw [D_ h,if_neg h];rfl
def mix (x y:Span):Span:=⟨if x.Em<y.Em then x.Em else y.Em,if y.To<x.To then x.To else y.To⟩
def GA:List Span→Span→List Span
 |[],x=>[x]
 |y::l,x=>if y.Em≤x.To then GA l (mix x y) else x::y::l
def Gn (x y:Span):Bool:=decide (y.To<x.Em)
def FC (l:List Span) (x:Span):List Span:=l.takeWhile (Gn x) ++ GA (l.drop (l.takeWhile (Gn x)).length) x
theorem drop_cons {α :Type} {l:List α} {k:Nat} {y: α} {suf:List α} (h:l.drop k=y::suf):l.drop (k+1)=suf∧l[k]? =some y:=by
 constructor
 ·rw [←List.drop_drop,h];rfl
 ·have:=List.getElem?_drop (xs:=l) (i:=k) (j:=0);rw [h] at this;simpa using this.symm
theorem SQ (x:Span) (n:Nat): ∀(suf:List Span) (k:Nat) (s:List Span),k+suf.length=n→eA (fun k y (s:List Span)=>if Gn x y then LR.next (s ++ [y]) else LR.done (s,(k:Int))) (fun s=>(s,(n:Int))) k suf s=(s ++ suf.takeWhile (Gn x),((k+(suf.takeWhile (Gn x)).length:Nat):Int))
 |[],k,s,h=>by simp only [List.length_nil] at h;simp [eA,←h]
 |y::suf,k,s,h=>by
  simp only [List.length_cons] at h;simp only [eA];cases hb:Gn x y
  ·simp [hb]
  ·simp only [if_true];rw [SQ x n suf (k+1) _ (by omega)]
   simp [hb];omega
theorem SR (l:List Span): ∀(suf:List Span) (k:Nat) (x:Span),l.drop k=suf→k≤l.length→ ∃(k' :Nat) (z:Span),eA (fun k y (s:Span)=>if y.Em≤s.To then LR.next (mix s y) else LR.done ((k:Int),s.Em,s.To)) (fun s=>((l.length:Int),s.Em,s.To)) k suf x=((k' :Int),z.Em,z.To)∧k' ≤l.length∧GA suf x=z::l.drop k'
 |[],k,x,_,_=>⟨l.length,x,rfl,Nat.le_refl _,by simp [GA]⟩
 |y::suf,k,x,h,hk=>by
  obtain ⟨h1,h2⟩:=drop_cons h;have bH:k<l.length:=(List.getElem?_eq_some_iff.1 h2).1
  simp only [eA,GA];by_cases hc:y.Em≤x.To
  ·rw [if_pos hc,if_pos hc];exact SR l suf (k+1) (mix x y) h1 (by omega)
  ·rw [if_neg hc,if_neg hc];exact ⟨k,x,rfl,hk,by rw [h]⟩
theorem SS {α :Type} (p: α →Bool) (l:List α):(l.takeWhile p).length≤l.length:=by
 induction l with
 |nil=>simp
 |cons x xs ih=>simp only [List.takeWhile_cons];split<;>simp<;>omega
theorem SU {l:List Span} (hl:l.length≤1048576) (x:Span):Kk l x=some (FC l x):=by
 unfold Kk;have e0:=Bk l (Lt l x) (fun k (s:List Span)=>(s,k)) (fun k y (s:List Span)=>if Gn x y then LR.next (s ++ [y]) else LR.done (s,(k:Int))) (fun s=>(s,(l.length:Int))) (fun k s=>s.length≤k) (fun k hk s hs=>by
  refine ⟨?_,fun s' e=>by
   split at e
   ·obtain rfl:=LR.next.inj e;simp;omega
   ·cases e⟩
  simp only [Lt];rw [Bm (by omega),wS hk,AA (x:=(k:Int)+1) (by omega)]
  simp only [cond_true,Option.bind_some];unfold Gn;by_cases h:l[k].To<x.Em
  ·simp only [decide_eq_true h,cond_true,if_true];rw [D5 (by simp<;>omega) (by omega)];rfl
  ·simp only [decide_eq_false h,cond_false];rfl) (fun s _=>by simp [Lt]) [] (by simp)
 rw [SQ x l.length l 0 [] (by omega)] at e0
 rw [e0,Option.bind_some];dsimp only;have hw:=SS (Gn x) l;rw [Nat.zero_add,List.nil_append];obtain ⟨k',z,e1,bH,e2⟩:=SR l (l.drop (l.takeWhile (Gn x)).length) (l.takeWhile (Gn x)).length x rfl hw;have e3:=Bj l (Lu l) (fun k (s:Span)=>(k,s.Em,s.To)) (fun k y (s:Span)=>if y.Em≤s.To then LR.next (mix s y) else LR.done ((k:Int),s.Em,s.To)) (fun s=>((l.length:Int),s.Em,s.To)) (fun _ _=>True) (fun k hk s _=>by
  refine ⟨?_,fun _ _=>trivial⟩;simp only [Lu];rw [Bm (by omega),wS hk,AA (x:=(k:Int)+1) (by omega)]
  simp only [cond_true,Option.bind_some,SP,Qg];by_cases h:l[k].Em≤s.To
  ·simp only [decide_eq_true h,cond_true,if_pos h];rfl
  ·simp only [decide_eq_false h,cond_false,if_neg h];rfl) (fun s _=>by simp [Lu]) (l.length-(l.takeWhile (Gn x)).length) (l.takeWhile (Gn x)).length (by omega) x trivial
 rw [e1] at e3;rw [e3,Option.bind_some];dsimp only;rw [D5 (by simp<;>omega) (by omega),Option.bind_some,D9 (by omega) (by omega) (by omega),Option.bind_some]
 have e4:List.take ((l.length:Int).toNat-(k' :Int).toNat) (List.drop (k' :Int).toNat l)=l.drop k' :=by
  rw [Int.toNat_natCast,Int.toNat_natCast,List.take_of_length_le (by simp)]
 rw [e4,D5 (by simp<;>omega) (by omega),Option.bind_some]
 unfold FC;rw [e2];simp
theorem Qh: ∀(l:List Span) (x:Span),EY l→x.Em<x.To→(∀y∈l,x.Em≤y.To)→EY (GA l x)∧(∀n,hs (GA l x) n↔(x.Em≤n∧n<x.To)∨hs l n)∧(∀c,c<x.Em→(∀y∈l,c<y.Em)→ ∀w∈GA l x,c<w.Em)∧(GA l x).length≤l.length+1
 |[],x,_,hx,_=>⟨⟨hx,fun y hy=>by simp at hy,trivial⟩,fun n=>by simp only [GA];exact FD,fun c hc _ w hw=>by obtain rfl:=List.mem_singleton.1 hw;exact hc,by simp [GA]⟩
 |y::l,x,⟨h1,h2,h3⟩,hx,hy=>by
  have x4:=hy y (by simp)
  simp only [GA];by_cases h:y.Em≤x.To
  ·rw [if_pos h];have m1:(mix x y).Em≤x.Em∧(mix x y).Em≤y.Em∧((mix x y).Em=x.Em∨(mix x y).Em=y.Em):=by simp only [mix];split<;>omega
   have m2:x.To≤(mix x y).To∧y.To≤(mix x y).To∧((mix x y).To=x.To∨(mix x y).To=y.To):=by simp only [mix];split<;>omega
   obtain ⟨c1,c2,c3,c4⟩:=Qh l (mix x y) h3 (by omega) (fun w hw=>by
    have a1:=h2 w hw;have a2:=h3.ne w hw;omega)
   refine ⟨c1,fun n=> ?_,fun c hc hl w hw=>c3 c (by have:=hl y (by simp);omega) (fun v hv=>hl v (by simp [hv])) w hw,by simp only [List.length_cons];omega⟩
   rw [c2,FD];constructor
   ·rintro (k|k)
    ·by_cases k1:x.Em≤n∧n<x.To
     ·exact .inl k1
     ·exact .inr (.inl (by omega))
    ·exact .inr (.inr k)
   ·rintro (k|k|k)
    ·exact .inl (by omega)
    ·exact .inl (by omega)
    ·exact .inr k
  ·rw [if_neg h];refine ⟨⟨hx,fun w hw=> ?_,h1,h2,h3⟩,fun n=>FD,fun c hc hl w hw=> ?_,by simp⟩
   ·rcases List.mem_cons.1 hw with rfl|hw
    ·omega
    ·have:=h2 w hw;omega
   ·rcases List.mem_cons.1 hw with rfl|hw
    ·exact hc
    ·exact hl w hw
theorem Qi: ∀(l:List Span) (x:Span),EY l→x.Em<x.To→EY (FC l x)∧(∀n,hs (FC l x) n↔(x.Em≤n∧n<x.To)∨hs l n)∧(∀c,c<x.Em→(∀y∈l,c<y.Em)→ ∀w∈FC l x,c<w.Em)∧(FC l x).length≤l.length+1
 |[],x,h,hx=>Qh [] x h hx (fun y hy=>by simp at hy)
 |y::l,x,⟨h1,h2,h3⟩,hx=>by
  by_cases hb:y.To<x.Em
  ·have e:FC (y::l) x=y::FC l x:=by simp [FC,Gn,hb]
   obtain ⟨c1,c2,c3,c4⟩:=Qi l x h3 hx;rw [e];refine ⟨⟨h1,c3 _ hb h2,c1⟩,fun n=> ?_,fun c hc hl w hw=> ?_,by simp only [List.length_cons];omega⟩
   ·rw [FD,c2,FD];constructor
    ·rintro (k|k|k)
     ·exact .inr (.inl k)
     ·exact .inl k
     ·exact .inr (.inr k)
    ·rintro (k|k|k)
     ·exact .inr (.inl k)
     ·exact .inl k
     ·exact .inr (.inr k)
   ·rcases List.mem_cons.1 hw with rfl|hw
    ·exact hl w (by simp)
    ·exact c3 c hc (fun v hv=>hl v (by simp [hv])) w hw
  ·have e:FC (y::l) x=GA (y::l) x:=by simp [FC,Gn,hb]
   rw [e];exact Qh (y::l) x ⟨h1,h2,h3⟩ hx fun w hw=>by
    rcases List.mem_cons.1 hw with rfl|hw
    ·omega
    ·have:=h2 w hw;have:=h3.ne w hw;omega
theorem fold_add: ∀(b a:List Span),EY a→(∀x∈b,x.Em<x.To)→EY (b.foldl FC a)∧(∀n,hs (b.foldl FC a) n↔hs a n∨hs b n)
 |[],a,h,_=>⟨h,fun n=>⟨.inl,fun k=>k.resolve_right (Hs n)⟩⟩
 |x::b,a,h,hb=>by
  obtain ⟨c1,c2,_,_⟩:=Qi a x h (hb x (by simp))
  obtain ⟨d1,d2⟩:=fold_add b (FC a x) c1 fun y hy=>hb y (by simp [hy])
  refine ⟨d1,fun n=> ?_⟩;rw [List.foldl_cons,d2,c2,FD];constructor
  ·rintro ((k|k)|k)
   ·exact .inr (.inl k)
   ·exact .inl k
   ·exact .inr (.inr k)
  ·rintro (k|k|k)
   ·exact .inl (.inr k)
   ·exact .inl (.inl k)
   ·exact .inr k
theorem Zc {a b:List Span} (ha:a.length≤100) (hb:b.length≤100) (Zd:EY a) (Ze: ∀x∈b,x.Em<x.To):LA a b=some (b.foldl FC a):=by
 unfold LA;rw [D5 (by simp<;>omega) (by omega),Option.bind_some,List.nil_append]
 rw [Bk b (Lz b) (fun k (s:List Span)=>(s,k)) (fun _ y (s:List Span)=>LR.next (FC s y)) id (fun k s=>EY s∧s.length≤100+k) (fun k hk s hs=>by
  have hm:=Ze b[k] (List.getElem_mem hk);obtain ⟨c1,_,_,c4⟩:=Qi s b[k] hs.1 hm;refine ⟨?_,fun s' e=>by obtain rfl:=LR.next.inj e;exact ⟨c1,by omega⟩⟩
  simp only [Lz];rw [Bm (by omega),wS hk,AA (x:=(k:Int)+1) (by omega)]
  simp only [cond_true,Option.bind_some];rw [SU (by omega)];rfl) (fun s _=>by simp [Lz]) a ⟨Zd,by omega⟩,Bl _ (fun _ _ _=>rfl)]
 rfl
theorem Zf {n:Int} (h0:0≤n) (h1:n≤1000):La n=some []:=by
 unfold La;rw [D_ (by omega),cond_false,Option.bind_some,show IntKind.i64.wrap (0-0)=0 from rfl,AA (by omega)]
 by_cases h:0<n-0
 ·rw [Bm h,cond_true,show n-0=((n.toNat:Nat):Int) by omega,D4 (by omega) (by omega),Option.bind_some,D9 (by omega) (by omega) (by omega)]
  rfl
 ·rw [D_ h];rfl
theorem Zg {a b:List Span} (ha:a.length≤100) (hb:b.length≤100):Ld [a,b]=some (a ++ b):=by
 unfold Ld;have hm: ∀(k:Nat) (hk:k<[a,b].length),([a,b][k]).length≤100:=fun k hk=>by
  have:=List.getElem_mem hk;simp only [List.mem_cons,List.not_mem_nil,or_false] at this;rcases this with h|h<;>rw [h]<;>assumption
 rw [Bk [a,b] (Lb [a,b]) (fun k (s:Int)=>(s,k)) (fun _ y s=> .next (s+(y.length:Int))) id (fun k s=>0≤s∧s≤100*k) (fun k hk s hs=>by
  have:=hm k hk;refine ⟨?_,fun s' e=>by obtain rfl:=LR.next.inj e;omega⟩
  have BQ:k<2:=hk;simp only [Lb];rw [Bm (by simp<;>omega),wS hk,AA (x:=(k:Int)+1) (by omega)]
  simp only [cond_true,Option.bind_some];rw [AA (by omega),D_ (by omega)];rfl) (fun s _=>by simp [Lb]) 0 (by simp),Bl _ (fun _ _ _=>rfl)]
 simp only [id,List.foldl_cons,List.foldl_nil,Option.bind_some];rw [Zf (by omega) (by omega),Option.bind_some]
 rw [Bk [a,b] (Lc [a,b]) (fun k (s:List Span)=>(s,k)) (fun _ y s=> .next (s ++ y)) id (fun k s=>s.length≤100*k) (fun k hk s hs=>by
  have:=hm k hk;refine ⟨?_,fun s' e=>by obtain rfl:=LR.next.inj e;simp only [List.length_append];omega⟩
  have BQ:k<2:=hk;simp only [Lc];rw [Bm (by simp<;>omega),wS hk,AA (x:=(k:Int)+1) (by omega)]
  simp only [cond_true,Option.bind_some];rw [D5 (by omega) (by omega)];rfl) (fun s _=>by simp [Lc]) [] (by simp),Bl _ (fun _ _ _=>rfl)]
 rfl
theorem Zh {l:List Span} (hl:l.length≤1000):Ko l l=some true:=by
 unfold Ko;rw [bne_self_eq_false,cond_false,wU l (L7 l l) (fun k (_:Unit)=>k) (fun _ _ s=> .next s) (fun _=> .next ()) (fun k hk s=>by
  simp only [L7];rw [Bm (by omega),wS hk,AA (by omega)]
  simp;rfl) (fun s=>by simp [L7]) (),Bl (fun s _=>s) (fun _ _ _=>rfl)]
 rfl
def Gp (p:Int→Bool):Nat→Nat
 |0=>0
 |N+1=>Gp p N+(p N).toNat
theorem SV (p q:Int→Bool) (N:Nat):Gp (fun n=>p n||q n) N+Gp (fun n=>p n&&q n) N=Gp p N+Gp q N:=by
 induction N with
 |zero=>rfl
 |succ N ih=>
  simp only [Gp];cases p N<;>cases q N<;>simp only [Bool.or_false,Bool.or_true,Bool.and_false,Bool.and_true,Bool.toNat_true,Bool.toNat_false]<;>omega
theorem OB {p:Int→Bool} (h: ∀n,p n=false) (N:Nat):Gp p N=0:=by
 induction N with
 |zero=>rfl
 |succ N ih=>simp only [Gp,ih,h];rfl
theorem SX (x:Span) (h0:0≤x.Em) (h1:x.Em<x.To) (N:Nat):(Gp (fun n=>ES n x) N:Int)=if (N:Int)≤x.Em then 0 else if (N:Int)≤x.To then N-x.Em else x.To-x.Em:=by
 induction N with
 |zero=>simp [Gp,h0]
 |succ N ih=>
  simp only [Gp];have e:ES (N:Int) x=decide (x.Em≤(N:Int)∧(N:Int)<x.To):=by
   unfold ES;rw [Bool.decide_and]
  rw [e];by_cases h:x.Em≤(N:Int)∧(N:Int)<x.To
  ·rw [Bm h,Bool.toNat_true]
   push_cast
   rw [ih];repeat' split
   all_goals omega
  ·rw [D_ h,Bool.toNat_false]
   push_cast
   rw [Int.add_zero,ih];repeat' split
   all_goals omega
def HT (l:List Span):Int:=(l.map fun x=>x.To-x.Em).sum
theorem SY (N:Nat): ∀(l:List Span),EY l→(∀x∈l,0≤x.Em∧x.To≤N)→HT l=(Gp (fun n=>l.any (ES n)) N:Int)
 |[],_,_=>by rw [OB (p:=fun n=>([]:List Span).any (ES n)) (fun n=>rfl)];rfl
 |x::l,⟨h1,h2,h3⟩,hb=>by
  have hx:=hb x (by simp)
  have e1:=SV (fun n=>ES n x) (fun n=>l.any (ES n)) N;have e2:=OB (p:=fun n=>ES n x&&l.any (ES n)) (fun n=>by
   by_cases k:hs l n
   ·have:=Jk h2 k;unfold ES;rw [D_ (show¬n<x.To by omega)]
    simp
   ·have:l.any (ES n)=false:=by
     rw [Bool.eq_false_iff];exact fun q=>k (M2.1 q)
    simp [this]) N
  have e3:=SX x hx.1 h1 N;have e4:=SY N l h3 fun y hy=>hb y (by simp [hy])
  have e5:(fun n=>(x::l).any (ES n))=fun n=>ES n x||l.any (ES n):=rfl;have e6:HT (x::l)=(x.To-x.Em)+HT l:=by simp [HT]
  rw [e5,e6,e4];rw [if_neg (by omega)] at e3
  have e7:(Gp (fun n=>ES n x) N:Int)=x.To-x.Em:=by
   rw [e3];split<;>omega
  omega
theorem SZ: ∀(l:List Span) (s:Int),(∀x∈l,0≤x.Em∧x.Em<x.To∧x.To≤1000000)→0≤s→s+1000000*(l.length:Int)≤4000000000000000000→l.foldl (fun n x=>IntKind.i64.wrap (n+IntKind.i64.wrap (x.To-x.Em))) s=s+HT l∧0≤HT l∧HT l≤1000000*(l.length:Int)
 |[],s,_,_,_=>by simp [HT]
 |x::l,s,h,h0,h1=>by
  have hx:=h x (by simp)
  simp only [List.length_cons] at h1
  push_cast at h1
  have e6:HT (x::l)=(x.To-x.Em)+HT l:=by simp [HT]
  obtain ⟨a1,a2,a3⟩:=SZ l (s+(x.To-x.Em)) (fun y hy=>h y (by simp [hy])) (by omega) (by omega)
  rw [List.foldl_cons,AA (x:=x.To-x.Em) (by omega),AA (by omega),a1,e6]
  simp only [List.length_cons]
  push_cast
  omega
theorem HI.IJ {l:List Span} (h:HI l):IJ l=(Gp (fun n=>l.any (ES n)) 1000000:Int)∧0≤Go.GB.IJ l∧Go.GB.IJ l≤20000000:=by
 obtain ⟨a1,a2,a3⟩:=SZ l 0 h.sp (by omega) (by have:=h.len;omega)
 have e:=SY 1000000 l h.cn fun x hx=>by have:=h.sp x hx;exact ⟨this.1,this.2.2⟩
 have hl:=h.len;unfold Go.GB.IJ;rw [a1,Int.zero_add];exact ⟨e,a2,by omega⟩
def tell (l:List Span):List Span×Bool:=if l.length≤20 then (l,true) else ([],false)
theorem S0 (l:List Span):Js l=some (tell l):=Y8
theorem Zi (l:List Span):L5 l=some (tell l):=by
 unfold L5 tell;by_cases h:l.length≤20
 ·rw [D_ (by omega),if_pos h];rfl
 ·rw [Bm (by omega),if_neg h];rfl
theorem S1 {l m:List Span} {c:Bool} (h:tell l=(m,c)):m.length≤20∧(c=true→m=l):=by
 unfold tell at h;split at h
 ·obtain ⟨rfl,rfl⟩:=Prod.mk.inj h;exact ⟨by assumption,fun _=>rfl⟩
 ·obtain ⟨rfl,rfl⟩:=Prod.mk.inj h;exact ⟨by simp,fun h=>by simp at h⟩
def OC (a b:List Span):List Span×Bool:=if Im a&&Im b then tell (b.foldl FC a) else ([],false)
theorem Zj {α :Type} {A B:Bool} {k:Option α} {z: α} {v: α} (h:A=true→B=true→k=some v):((some A).bind fun Jt=>(bif (!Jt) then some true else (some B).bind fun Ht=>some (!Ht))).bind (fun Ez=>bif Ez then some z else k)=some (if A&&B then v else z):=by
 cases A
 ·rfl
 ·cases B
  ·rfl
  ·simp only [Option.bind_some,Bool.not_true,cond_false,Bool.and_self,if_true];exact h rfl rfl
theorem Zk {a b:List Span} (ha:a.length≤100) (hb:b.length≤100):Lg a b=some (OC a b):=by
 unfold Lg OC;rw [Oz (by omega),Oz (by omega)]
 refine Zj fun h1 h2=> ?_;have p1:=JZ.1 h1;have p2:=JZ.1 h2;obtain ⟨j,e,j1,j2⟩:=SN (l:=a ++ b) (by simp<;>omega) (fun x hx=>by
  rcases List.mem_append.1 hx with hx|hx
  ·exact p1.sp x hx
  ·exact p2.sp x hx)
 obtain ⟨f1,f2⟩:=fold_add b a p1.cn fun x hx=>(p2.sp x hx).2.1;have M5:j=b.foldl FC a:=j1.gJ f1 fun n=>by rw [j2,f2,OA]
 rw [Zg ha hb,Option.bind_some,e,Option.bind_some,M5,S0];rfl
theorem S2 {α :Type} [DecidableEq α]: ∀(P o:List α),P.Nodup→(∀x∈P,x∈o)→P.length≤o.length
 |[],o,_,_=>by simp
 |x::P,o,hP,hs=>by
  obtain ⟨hx,Qj⟩:=List.nodup_cons.1 hP;have h1:=S2 P (o.erase x) Qj (fun y hy=>(List.mem_erase_of_ne (fun e=>by subst e;exact hx hy)).2 (hs y (by simp [hy])))
  have h2:x∈o:=hs x (by simp)
  have h3:=List.length_erase_of_mem h2;have h4:=List.length_pos_of_mem h2;simp only [List.length_cons];omega
def M6 (n:Nat):List Int:=(List.range n).map fun (k:Nat)=>(k:Int)
theorem Zl (n:Nat):(M6 n).length=n:=by simp [M6]
theorem Zm {n:Nat} {x:Int}:x∈M6 n↔0≤x∧x<n:=by
 simp only [M6,List.mem_map,List.mem_range];constructor
 ·rintro ⟨k,hk,rfl⟩;omega
 ·rintro ⟨h0,h1⟩;exact ⟨x.toNat,by omega,by omega⟩
theorem M7: ∀{a b:List Int},a.Pairwise (· < ·)→b.Pairwise (· < ·)→(∀x,x∈a↔x∈b)→a=b
 |[],[],_,_,_=>rfl
 |[],y::b,_,_,h=>by have:=(h y).2 (by simp);simp at this
 |x::a,[],_,_,h=>by have:=(h x).1 (by simp);simp at this
 |x::a,y::b,ha,hb,h=>by
  obtain ⟨a1,a2⟩:=List.pairwise_cons.1 ha;obtain ⟨b1,b2⟩:=List.pairwise_cons.1 hb;have e:x=y:=by
   have h1:=(h x).1 (by simp)
   have h2:=(h y).2 (by simp)
   rcases List.mem_cons.1 h1 with h1|h1
   ·exact h1
   ·rcases List.mem_cons.1 h2 with h2|h2
    ·exact h2.symm
    ·have:=b1 x h1;have:=a1 y h2;omega
  subst e;congr 1;refine M7 a2 b2 fun z=>⟨fun hz=> ?_,fun hz=> ?_⟩
  ·rcases List.mem_cons.1 ((h z).1 (List.mem_cons_of_mem _ hz)) with e|e
   ·have:=a1 z hz;omega
   ·exact e
  ·rcases List.mem_cons.1 ((h z).2 (List.mem_cons_of_mem _ hz)) with e|e
   ·have:=b1 z hz;omega
   ·exact e
theorem Qk {a:List Int} (h:a.Pairwise (· < ·)):a.Nodup:=h.imp fun {x y} x4 e=>by omega
theorem S3 (zs:List Int):(gi zs).Pairwise (· ≤ ·):=by
 have:=List.pairwise_mergeSort (le:=fun x y:Int=>decide (x≤y)) (fun a b c h1 h2=>by simp at*;omega) (fun a b=>by simp<;>omega) zs
 exact this.imp fun h=>by simpa using h
theorem IK {zs:List Int} {i:Nat} (h:i<zs.length):zs.toArray[i]! =zs[i]:=by
 rw [getElem!_pos _ i (by simpa using h)];simp
theorem Zn {zs:List Int} {x:Int}:x∈Lib.compact zs↔x∈zs:=by
 unfold Lib.compact Lib.compactUpTo;rw [List.mem_map];constructor
 ·rintro ⟨i,hi,rfl⟩;obtain ⟨h1,_⟩:=List.mem_filter.1 hi;have h1:=List.mem_range.1 h1;rw [IK h1];exact List.getElem_mem h1
 ·intro hx;obtain ⟨i,hi,rfl⟩:=List.getElem_of_mem hx;have key: ∀(n i:Nat) (hi:i<zs.length),i≤n→ ∃a,a∈List.filter (Lib.keeps zs.toArray) (List.range zs.length)∧zs.toArray[a]! =zs[i]:=by
   intro n;induction n with
   |zero=>
    intro i hi hn;obtain rfl:i=0:=by omega
    exact ⟨0,List.mem_filter.2 ⟨List.mem_range.2 hi,by simp [Lib.keeps]⟩,IK hi⟩
   |succ n ih=>
    intro i hi hn;by_cases hk:Lib.keeps zs.toArray i=true
    ·exact ⟨i,List.mem_filter.2 ⟨List.mem_range.2 hi,hk⟩,IK hi⟩
    ·have h0:i≠0:=by rintro rfl;simp [Lib.keeps] at hk
     simp only [Lib.keeps,decide_eq_true_eq,not_or,Decidable.not_not] at hk;obtain ⟨a,h1,h2⟩:=ih (i-1) (by omega) (by omega)
     refine ⟨a,h1,?_⟩;rw [h2];have:=hk.2;rw [IK hi,IK (show i-1<zs.length by omega)] at this
     exact this.symm
  exact key i i hi (Nat.le_refl _)
theorem Zo {zs:List Int} (h:zs.Pairwise (· ≤ ·)):(Lib.compact zs).Pairwise (· < ·):=by
 unfold Lib.compact Lib.compactUpTo;rw [List.pairwise_map];have h1:(List.filter (Lib.keeps zs.toArray) (List.range zs.length)).Pairwise (· < ·):=List.pairwise_lt_range.filter _;refine h1.imp_of_mem fun {i j} hi hj jx=> ?_;obtain ⟨i1,_⟩:=List.mem_filter.1 hi;obtain ⟨j1,j2⟩:=List.mem_filter.1 hj;have i1:=List.mem_range.1 i1;have j1:=List.mem_range.1 j1;simp only [Lib.keeps,decide_eq_true_eq] at j2;rw [IK i1,IK j1];rw [IK j1,IK (show j-1<zs.length by omega)] at j2
 have aK:zs[j]≠zs[j-1]:=by rcases j2 with h|h;· omega
                           ·exact h
 have hp:=List.pairwise_iff_getElem.1 h;have a1:=hp (j-1) j (by omega) j1 (by omega)
 have a2:zs[i]≤zs[j-1]:=by
  by_cases e:i=j-1
  ·subst e;exact Int.le_refl _
  ·exact hp i (j-1) i1 (by omega) (by omega)
 omega
theorem Zp {zs rs:List Int} (hr:rs.Pairwise (· < ·)) (h: ∀x,x∈rs↔x∈zs):Lib.compact (gi zs)=rs:=
 M7 (Zo (S3 zs)) hr fun x=>by rw [Zn,(Bx zs).mem_iff,h]
theorem Zq {zs rs:List Int} (hl:zs.length<1152921504606846976) (hr:rs.Pairwise (· < ·)) (h: ∀x,x∈rs↔x∈zs):((slices_Sort_int zs).bind fun b=>slices_Compact_int b)=some rs:=by
 unfold slices_Sort_int slices_Compact_int xg xh;rw [if_pos hl,Option.bind_some,if_pos (by rw [ql];exact hl),Zp hr h]
def EA (l:List Int) (x:Int):Bool:=decide (x∈l)
theorem Hb {l:List Int} {x:Int}:EA l x=true↔x∈l:=by simp [EA]
theorem S4 {l:List Int} {x:Int} {i:Nat} (h:i<l.length):x∈l.drop i↔l[i]=x∨x∈l.drop (i+1):=by
 rw [List.drop_eq_getElem_cons h,List.mem_cons];exact or_congr_left eq_comm
theorem S5 {l:List Int} (hl:l.length≤1048576) (x:Int):Kd l x=some (EA l x):=by
 unfold Kd Nj;obtain ⟨y,e,hy⟩:=wR (f:=Ni l x) (fun i:Int=>l.length-i.toNat) (fun i=>0≤i∧i≤l.length∧(x∈l↔x∈l.drop i.toNat)) (fun y=>match y with| .next ()=>x∉l| .done k=>x∈l∧0≤k) (by
  rintro i ⟨i0,i1,i2⟩;simp only [Ni];by_cases hi:i<l.length
  ·have ax:i.toNat<l.length:=by omega
   rw [Bm hi,D8 i0 hi];simp only [cond_true,Option.bind_some];rw [S4 ax] at i2;by_cases hx:x=l[i.toNat]
   ·rw [show (x==l[i.toNat])=true from beq_iff_eq.2 hx];exact ⟨_,rfl,i2.2 (.inl hx.symm),i0⟩
   ·rw [show (x==l[i.toNat])=false from beq_eq_false_iff_ne.2 hx,cond_false,AA (by omega)]
    refine ⟨_,rfl,⟨by omega,by omega,?_⟩,by omega⟩
    rw [show (i+1).toNat=i.toNat+1 by omega,i2]
    exact or_iff_right (fun h=>hx h.symm)
  ·rw [D_ hi];rw [List.drop_eq_nil_of_le (by omega)] at i2
   exact ⟨_,rfl,fun h=>by simpa using i2.1 h⟩) 0 ⟨by omega,by omega,by simp⟩
 rw [e];cases y with
 |next u=>
  cases u
  have:EA l x=false:=by simpa [EA] using hy
  rw [this];rfl
 |done k=>
  have:EA l x=true:=by simpa [EA] using hy.1
  rw [this];simp only [Option.bind_some];rw [Bm hy.2]
theorem S6 {l:List Int} (hl:l.length≤1048576) (x:Int):Kj l x=some (EA l x):=by
 unfold Kj;obtain ⟨y,e,hy⟩:=wR (f:=Nx l x) (fun i:Int=>l.length-i.toNat) (fun i=>0≤i∧i≤l.length∧(x∈l↔x∈l.drop i.toNat)) (fun y=>match y with| .next ()=>x∉l| .done k=>x∈l∧k=true) (by
  rintro i ⟨i0,i1,i2⟩;simp only [Nx];by_cases hi:i<l.length
  ·have ax:i.toNat<l.length:=by omega
   rw [Bm hi,D8 i0 hi];simp only [cond_true,Option.bind_some];rw [S4 ax] at i2;by_cases hx:l[i.toNat]=x
   ·rw [show (l[i.toNat]==x)=true from beq_iff_eq.2 hx];exact ⟨_,rfl,i2.2 (.inl hx),rfl⟩
   ·rw [show (l[i.toNat]==x)=false from beq_eq_false_iff_ne.2 hx,cond_false,AA (by omega)]
    refine ⟨_,rfl,⟨by omega,by omega,?_⟩,by omega⟩
    rw [show (i+1).toNat=i.toNat+1 by omega,i2]
    exact or_iff_right hx
  ·rw [D_ hi];rw [List.drop_eq_nil_of_le (by omega)] at i2
   exact ⟨_,rfl,fun h=>by simpa using i2.1 h⟩) 0 ⟨by omega,by omega,by simp⟩
 rw [e];cases y with
 |next u=>
  cases u
  have:EA l x=false:=by simpa [EA] using hy
  rw [this];rfl
 |done k=>
  have:EA l x=true:=by simpa [EA] using hy.1
  rw [this,hy.2];rfl
def FJ (N:Int) (p:Int→Bool):List Int:=((List.range N.toNat).filter fun (k:Nat)=>p (k:Int)).map fun (k:Nat)=>(k:Int)
theorem J0 (N:Int) (p:Int→Bool):(FJ N p).Pairwise (· < ·):=by
 unfold FJ;rw [List.pairwise_map];exact (List.pairwise_lt_range.filter _).imp fun h=>by omega
theorem HU {N:Int} {p:Int→Bool} {x:Int}:x∈FJ N p↔(0≤x∧x<N)∧p x=true:=by
 simp only [FJ,List.mem_map,List.mem_filter,List.mem_range];constructor
 ·rintro ⟨k,⟨h1,h2⟩,rfl⟩;exact ⟨⟨by omega,by omega⟩,h2⟩
 ·rintro ⟨⟨h1,h2⟩,h3⟩;exact ⟨x.toNat,⟨by omega,by rw [show ((x.toNat:Nat):Int)=x by omega];exact h3⟩,by omega⟩
theorem IL (N:Int) (p:Int→Bool):(FJ N p).length≤N.toNat:=by
 unfold FJ;rw [List.length_map];exact Nat.le_trans (List.length_filter_le _ _) (by simp)
theorem Ql {k:Nat} {p:Int→Bool}:FJ ((k:Int)+1) p=FJ (k:Int) p ++ (if p (k:Int) then [(k:Int)] else []):=by
 unfold FJ;rw [show ((k:Int)+1).toNat=k+1 by omega,Int.toNat_natCast,List.range_succ,List.filter_append,List.map_append]
 cases h:p (k:Int)<;>simp [h]
theorem OD {N:Int} (h0:0≤N) (h1:N≤1000) {p:Int→Bool} {f:List Int×Int→Option (LR (List Int×Int) (List Int))}
 (hf: ∀(x:List Int) (k:Int),0≤k→k<N→x.length≤1000→f (x,k)=some (.next (x ++ (if p k then [k] else []),k+1))) (hz: ∀x,f (x,N)=some (.done x)):eM f ([],0)=some (FJ N p):=by
 refine D3 (fun x:List Int×Int=>N.toNat-x.2.toNat) (fun x=>0≤x.2∧x.2≤N∧x.1=FJ x.2 p) _ ?_ _ ⟨by simp,h0,by simp [FJ]⟩
 rintro ⟨x,k⟩ ⟨i0,i1,i2⟩;simp only at i0 i1 i2;obtain ⟨k,rfl⟩:=Int.eq_ofNat_of_zero_le i0;by_cases hk:(k:Int)<N
 ·have hl:=IL (k:Int) p;refine ⟨_,hf x k i0 hk (by rw [i2];omega),⟨by simp only;omega,by simp only;omega,?_⟩,by simp only;omega⟩
  simp only;rw [i2,Ql]
 ·obtain rfl:(k:Int)=N:=by omega
  refine ⟨_,hz x,?_⟩;simp only;rw [i2]
abbrev hb (l:List Span) (n:Int):Bool:=l.any (ES n)
structure HV (l:List Span) (n:Int):Prop where
 sp:HI l
 lt: ∀m,hs l m→m<n
def F0 (l:List Span):Span:=l.getD (l.length-1) ⟨0,0⟩
theorem M8 {l:List Span} (h:0<l.length):F0 l∈l:=by
 unfold F0;rw [List.getD_eq_getElem?_getD,List.getElem?_eq_getElem (by omega)]
 exact List.getElem_mem _
theorem Zr {l:List Span} (h:HI l) {x:Span} (hx:x∈l):x.To≤(F0 l).To:=by
 obtain ⟨i,hi,rfl⟩:=List.getElem_of_mem hx;unfold F0;rw [List.getD_eq_getElem?_getD,List.getElem?_eq_getElem (by omega)]
 simp only [Option.getD_some];by_cases e:i=l.length-1
 ·subst e;exact Int.le_refl _
 ·have h1:=List.pairwise_iff_getElem.1 h.KJ i (l.length-1) hi (by omega) (by omega)
  have h2:=(h.sp _ (List.getElem_mem (l:=l) (n:=l.length-1) (by omega))).2.1
  omega
theorem Zs {l:List Span} (h:HI l) {n:Int}:HV l n↔(l.length=0∨(F0 l).To≤n):=by
 constructor
 ·rintro ⟨_,h2⟩;by_cases h0:l.length=0
  ·exact .inl h0
  ·right;have hm:=M8 (l:=l) (by omega)
   have:=(h.sp _ hm).2.1;have:=h2 ((F0 l).To-1) ⟨_,hm,by omega,by omega⟩
   omega
 ·intro h2;refine ⟨h,fun m ⟨x,hx,h3,h4⟩=> ?_⟩;have h5:=Zr h hx;rcases h2 with h2|h2
  ·rw [List.eq_nil_of_length_eq_zero h2] at hx;simp at hx
  ·omega
theorem Zt {l:List Span} (hl:l.length≤1048576) (n:Int) {g:List Span→Option Bool} (hg:g l=some (Im l)):
 ∃b,((g l).bind fun b3=>(bif b3 then (bif ((l.length:Int)==0) then some true else (idx l (IntKind.i64.wrap ((l.length:Int)-1))).bind fun EM=>some (decide (EM.To≤n))) else some false))=some b∧(b=true↔HV l n):=by
 rw [hg,Option.bind_some];cases h:Im l
 ·exact ⟨false,rfl,by simp;intro hb;have:=JZ.2 hb.sp;rw [h] at this;simp at this⟩
 ·have hs:=JZ.1 h;rw [Zs hs,cond_true];by_cases h0:l.length=0
  ·refine ⟨true,?_,by simp [h0]⟩
   rw [h0];rfl
  ·refine ⟨decide ((F0 l).To≤n),?_,by simp [h0]⟩
   rw [show ((l.length:Int)==0)=false by rw [beq_eq_false_iff_ne];omega,cond_false,AA (by omega),D8 (by omega) (by omega),Option.bind_some]
   unfold F0;rw [List.getD_eq_getElem?_getD,List.getElem?_eq_getElem (by omega)]
   have e:((l.length:Int)-1).toNat=l.length-1:=by omega
   simp only [Option.getD_some,e]
theorem S7 {l:List Span} (hl:l.length≤1048576) (n:Int): ∃b,Ke l n=some b∧(b=true↔HV l n):=Zt hl n (Oz hl)
structure Ip (s:EB):Prop where
 Fk:0≤s.Next∧s.Next≤60
 J1:HV s.Es s.Next
 KJ:s.Ep.Pairwise (· < ·)
 mem: ∀x∈s.Ep,(0≤x∧x<s.Next)∧ ¬hs s.Es x
theorem S8: ∀{l:List Int},(∀i (h:i<l.length),0<i→l[i-1]'(by omega)<l[i])→l.Pairwise (· < ·)
 |[],_=> .nil
 |[x],_=>List.pairwise_singleton _ _
 |x::y::l,h=>by
  have ih:=S8 (l:=y::l) fun i hi h0=>by
   have:=h (i+1) (by simp only [List.length_cons] at hi⊢;omega) (by omega)
   obtain ⟨j,rfl⟩: ∃j,i=j+1:=⟨i-1,by omega⟩
   simpa using this
  have h1:x<y:=h 1 (by simp) (by omega)
  refine List.pairwise_cons.2 ⟨fun z hz=> ?_,ih⟩;rcases List.mem_cons.1 hz with rfl|hz
  ·exact h1
  ·have:=(List.pairwise_cons.1 ih).1 z hz;omega
theorem Zu {l:List Int} (h:l.Pairwise (· < ·)) {i:Nat} (hi:i<l.length) (h0:0<i):l[i-1]'(by omega)<l[i]:=
 List.pairwise_iff_getElem.1 h _ _ _ _ (by omega)
theorem Zv {s:EB} (h1:s.Es.length≤1048576) (h2:s.Ep.length≤1048576): ∃b,Kf s=some b∧(b=true↔Ip s):=by
 unfold Kf;rw [Oy,Option.bind_some];cases e1:GV s.Next 0 60
 ·exact ⟨false,rfl,by simp;intro g;have:=Jj.2 g.Fk;rw [e1] at this;simp at this⟩
 ·have hn:=Jj.1 e1;obtain ⟨b,e2,iI⟩:=S7 h1 s.Next;simp only [Bool.not_true,cond_false];rw [e2];simp only [Option.bind_some];cases b
  ·exact ⟨false,rfl,by simp;intro g;have:=iI.2 g.J1;simp at this⟩
  ·have KK:=iI.1 rfl;simp only [Bool.not_true,cond_false];obtain ⟨y,e,hy⟩:=wR (f:=Nl s) (fun i:Int=>s.Ep.length-i.toNat) (fun i=>0≤i∧i≤s.Ep.length∧ ∀j (h:j<s.Ep.length),(j:Int)<i→((0≤s.Ep[j]∧s.Ep[j]<s.Next)∧ ¬hs s.Es s.Ep[j])∧(0<j→s.Ep[j-1]'(by omega)<s.Ep[j]))
    (fun y=>match y with| .next ()=>Ip s| .done k=>k=false∧ ¬Ip s) (by
    rintro i ⟨i0,i1,i2⟩;simp only [Nl];by_cases hi:i<s.Ep.length
    ·have ax:i.toNat<s.Ep.length:=by omega
     rw [Bm hi,D8 i0 hi];simp only [cond_true,Option.bind_some];rw [AA (x:=s.Next-1) (by omega),Oy,M1 h1]
     simp only [Option.bind_some];by_cases c1:GV s.Ep[i.toNat] 0 (s.Next-1)=true
     ·have OE:=Jj.1 c1
      rw [c1];simp only [Bool.not_true,cond_false];cases c2:s.Es.any (ES s.Ep[i.toNat])
      ·have S9: ¬hs s.Es s.Ep[i.toNat]:=fun h=>by rw [M2.2 h] at c2;simp at c2
       simp only [cond_false];by_cases c3:0<i
       ·rw [Bm c3,cond_true,AA (x:=i-1) (by omega),D8 (by omega) (by omega)]
        simp only [Option.bind_some];have e3:s.Ep[(i-1).toNat]'(by omega)=s.Ep[i.toNat-1]'(by omega):=by congr 1;omega
        rw [e3];by_cases c4:s.Ep[i.toNat]≤s.Ep[i.toNat-1]'(by omega)
        ·rw [Bm c4,cond_true];refine ⟨_,rfl,rfl,fun g=> ?_⟩;have:=Zu g.KJ ax (by omega);omega
        ·rw [D_ c4,cond_false,AA (by omega)]
         refine ⟨_,rfl,⟨by omega,by omega,fun j hj Zw=> ?_⟩,by omega⟩
         by_cases M5:(j:Int)<i
         ·exact i2 j hj M5
         ·obtain rfl:j=i.toNat:=by omega
          exact ⟨⟨⟨OE.1,by omega⟩,S9⟩,fun _=>by omega⟩
       ·rw [D_ c3];simp only [cond_false,Option.bind_some];rw [AA (by omega)]
        refine ⟨_,rfl,⟨by omega,by omega,fun j hj Zw=> ?_⟩,by omega⟩
        obtain rfl:j=i.toNat:=by omega
        exact ⟨⟨⟨OE.1,by omega⟩,S9⟩,fun h=>by omega⟩
      ·simp only [cond_true,Option.bind_some];exact ⟨_,rfl,rfl,fun g=>(g.mem _ (List.getElem_mem ax)).2 (M2.1 c2)⟩
     ·have OE:GV s.Ep[i.toNat] 0 (s.Next-1)=false:=by simpa using c1
      rw [OE];simp only [Bool.not_false,cond_true,Option.bind_some];refine ⟨_,rfl,rfl,fun g=>c1 (Jj.2 ?_)⟩;have:=(g.mem _ (List.getElem_mem ax)).1;omega
    ·rw [D_ hi];refine ⟨_,rfl,⟨hn,KK,S8 fun j hj h0=>(i2 j hj (by omega)).2 h0,fun x hx=> ?_⟩⟩
     obtain ⟨j,hj,rfl⟩:=List.getElem_of_mem hx;exact (i2 j hj (by omega)).1) 0 ⟨by omega,by omega,fun j _ h=>by omega⟩
   rw [e];cases y with
   |next u=>cases u;exact ⟨true,rfl,by simpa using hy⟩
   |done k=>
    obtain ⟨rfl,hy⟩:=hy;exact ⟨false,rfl,by simpa using hy⟩
noncomputable def KL (s:EB):Bool:= @decide (Ip s) (Classical.propDecidable _)
theorem Qm {s:EB}:KL s=true↔Ip s:=by simp [KL]
theorem Zx {s:EB} (h1:s.Es.length≤1048576) (h2:s.Ep.length≤1048576):Kf s=some (KL s):=by
 obtain ⟨b,e,h⟩:=Zv h1 h2;rw [e,show b=KL s by rw [Bool.eq_iff_iff,h,Qm]]
noncomputable def KM (l:List Span) (n:Int):Bool:= @decide (HV l n) (Classical.propDecidable _)
theorem Qn {l:List Span} {n:Int}:KM l n=true↔HV l n:=by simp [KM]
theorem Zy {l:List Span} (h1:l.length≤1048576) (n:Int):Ke l n=some (KM l n):=by
 obtain ⟨b,e,h⟩:=S7 h1 n;rw [e,show b=KM l n by rw [Bool.eq_iff_iff,h,Qn]]
theorem Ip.lens {s:EB} (g:Ip s):s.Es.length≤20∧s.Ep.length≤60:=by
 refine ⟨g.J1.sp.len,?_⟩;have:=S2 _ (M6 60) (Qk g.KJ) fun x hx=>Zm.2 (by have:=(g.mem x hx).1;have:=g.Fk;omega)
 rwa [Zl] at this
noncomputable def OF (s:EB):List Int:=FJ s.Next fun n=> !hb s.Es n&& !EA s.Ep n
theorem M9 {x:List Int} {k:Int} (hx:x.length≤1000) (c:Bool):(bif c then (app 8 x ([k]:List Int)).bind fun Gb=>some Gb else some x)=some (x ++ (if c then [k] else [])):=by
 cases c
 ·simp
 ·rw [cond_true,D5 (by simp only [List.length_cons,List.length_nil];omega) (by omega)];rfl
theorem Zz {s:EB} (FM:0≤s.Next∧s.Next≤60) (h1:s.Es.length≤1048576) (h2:s.Ep.length≤1048576):I4 s=some (OF s):=by
 unfold I4;rw [OD (p:=fun n=> !hb s.Es n&& !EA s.Ep n) FM.1 (by omega) (fun x k k0 k1 hx=>by
  simp only [Lj];rw [Bm k1,M1 h1,S5 h2];have e:((some (s.Es.any (ES k))).bind fun Fz=>(bif (!Fz) then (some (EA s.Ep k)).bind fun Ju=>some ((!Ju)) else some (false)))=some (!hb s.Es k&& !EA s.Ep k):=by
   cases h:s.Es.any (ES k)<;>simp [hb,h]
  rw [e];simp only [cond_true,Option.bind_some];rw [M9 hx,AA (by omega)]
  rfl) (fun x=>by simp only [Lj];rw [D_ (by omega)];rfl)]
 rfl
theorem S_ {p:Int→Bool}: ∀(l:List Int),(dV p l<0→l.filter (fun n=> !p n)=l)∧(0≤dV p l→l.take (dV p l).toNat=(l.take ((dV p l).toNat+1)).filter fun n=> !p n)
 |[]=>by simp
 |x::l=>by
  obtain ⟨ZA,ZB⟩:=S_ (p:=p) l;have zF:=qg p l;unfold dV;by_cases hx:p x=true
  ·simp [hx]
  ·have bG:p x=false:=by simpa using hx
   simp only [bG,Bool.false_eq_true,if_false];by_cases J2:dV p l<0
   ·rw [if_pos J2];refine ⟨fun _=> ?_,fun h=>by omega⟩
    rw [List.filter_cons,bG,Bool.not_false,if_pos rfl,ZA J2]
   ·rw [if_neg J2];refine ⟨fun h=>by omega,fun _=> ?_⟩
    have:=ZB (by omega)
    rw [show (dV p l+1).toNat=(dV p l).toNat+1 by omega]
    simp only [List.take_succ_cons,List.filter_cons,bG,Bool.not_false,if_true];rw [←this]
theorem ZC {l:List Int} (hl:l.length≤1000) {h:List Span} (hh:h.length≤1048576):Li l h=some (l.filter fun n=> !hb h n):=by
 have hg: ∀x,I3 x h=some (hb h x):=fun x=>by unfold I3;rw [M1 hh];rfl
 unfold Li;rw [YT (by omega) (hb h) (fun x _=>hg x),Option.bind_some]
 have zF:=qg (hb h) l;obtain ⟨f1,f2⟩:=S_ (p:=hb h) l;by_cases J2:dV (hb h) l<0
 ·rw [show (dV (hb h) l== -1)=true from beq_iff_eq.2 (by omega),cond_true,f1 J2]
 ·rw [show (dV (hb h) l== -1)=false from beq_eq_false_iff_ne.2 (by omega),cond_false]
  have f2:=f2 (by omega)
  revert f2 zF J2;generalize dV (hb h) l=i0;intro zF J2 f2;obtain ⟨a,rfl⟩:=Int.eq_ofNat_of_zero_le (show 0≤i0 by omega)
  simp only [Int.toNat_natCast] at*;rw [AA (by omega)]
  obtain ⟨⟨y,j⟩,e,Qo,ZD,ZE,NW⟩:=wR (f:=Nr h) (fun x:List Int×Int×Int=>l.length-x.2.2.toNat) (fun x=>0≤x.2.1∧x.2.1<x.2.2∧x.2.2≤l.length∧x.1.length=l.length∧x.1.take x.2.1.toNat=((l.take x.2.2.toNat).filter fun n=> !hb h n)∧x.1.drop x.2.2.toNat=l.drop x.2.2.toNat)
   (fun r=>0≤r.2∧r.2≤l.length∧r.1.length=l.length∧r.1.take r.2.toNat=l.filter fun n=> !hb h n) (by
   rintro ⟨x,i,j⟩ ⟨M_,q1,q2,q3,q4,q5⟩;simp only at M_ q1 q2 q3 q4 q5;simp only [Nr];by_cases hj:j<l.length
   ·have ZF:j.toNat<x.length:=by omega
    have dP:j.toNat<l.length:=by omega
    have e1:x[j.toNat]=l[j.toNat]:=by
     have:=congrArg (fun z=>z[0]?) q5;simp only [List.getElem?_drop,Nat.add_zero] at this;rw [List.getElem?_eq_getElem ZF,List.getElem?_eq_getElem dP] at this;exact Option.some.inj this
    have e2:x.drop (j+1).toNat=l.drop (j+1).toNat:=by
     have:=congrArg (List.drop 1) q5;rw [List.drop_drop,List.drop_drop] at this;rw [show (j+1).toNat=j.toNat+1 by omega];exact this
    have e3:l.take (j+1).toNat=l.take j.toNat ++ [l[j.toNat]]:=by
     rw [show (j+1).toNat=j.toNat+1 by omega,List.take_succ_eq_append_getElem dP]
    rw [Bm (by omega),D8 (by omega) (by omega),e1]
    simp only [cond_true,Option.bind_some];rw [hg];simp only [Option.bind_some];cases hp:hb h l[j.toNat]
    ·simp only [Bool.not_false,cond_true];rw [D8 M_ (by omega)]
     simp only [Option.bind_some];rw [AA (x:=i+1) (by omega),AA (x:=j+1) (by omega)]
     refine ⟨_,rfl,⟨by simp only;omega,by simp only;omega,by simp only;omega,by simp only;rw [List.length_set];exact q3,?_,?_⟩,by simp only;omega⟩
     ·simp only;rw [e3,List.filter_append,←q4,show (i+1).toNat=i.toNat+1 by omega,List.take_succ_eq_append_getElem (by rw [List.length_set];omega),List.getElem_set_self,List.take_set_of_le (Nat.le_refl _)]
      simp [hp]
     ·simp only;rw [List.drop_set_of_lt (by omega)];exact e2
    ·simp only [Bool.not_true,cond_false,Option.bind_some];rw [AA (x:=j+1) (by omega)]
     refine ⟨_,rfl,⟨M_,by simp only;omega,by simp only;omega,q3,?_,e2⟩,by simp only;omega⟩
     simp only;rw [e3,List.filter_append,←q4];simp [hp]
   ·rw [D_ (by omega)]
    refine ⟨_,rfl,M_,by simp only;omega,q3,?_⟩
    simp only;rw [q4,List.take_of_length_le (by omega)]) (l,(a:Int),(a:Int)+1) ⟨by simp only;omega,by simp only;omega,by simp only;omega,rfl,by simp only [Int.toNat_natCast];rw [show ((a:Int)+1).toNat=a+1 by omega];exact f2,rfl⟩
  simp only at Qo ZD ZE NW;rw [e];simp only [Option.bind_some];rw [D9 Qo (by omega) (by omega)]
  simp only [Option.bind_some];have ht:(y.take j.toNat).length=j.toNat:=by rw [List.length_take];omega
  rw [D9 (by omega) Qo (by simp only [iY,List.length_append,ht,List.length_replicate];omega)]
  simp only [Option.bind_some,iY,Int.toNat_zero,List.drop_zero,Nat.sub_zero];rw [List.append_assoc,List.take_left' ht,NW]
def Fh (h:List Span):Int:=if h.length=0 then -1 else (F0 h).To-1
theorem ZG {h:List Span} (hh:h.length≤1048576) (aw:0<h.length→ -1000≤(F0 h).To∧(F0 h).To≤1000000):((bif (decide (0<(h.length:Int))) then (idx h (IntKind.i64.wrap ((h.length:Int)-1))).bind fun LL=>some ((IntKind.i64.wrap (LL.To-1))) else some (-1)))=some (Fh h):=by
 unfold Fh;by_cases h0:0<h.length
 ·have e:((h.length:Int)-1).toNat=h.length-1:=by omega
  have e2:h[h.length-1]'(by omega)=F0 h:=by
   unfold F0;rw [List.getD_eq_getElem?_getD,List.getElem?_eq_getElem (by omega)];rfl
  rw [Bm (by omega),cond_true,AA (by omega),D8 (by omega) (by omega),Option.bind_some,if_neg (by omega)]
  simp only [e,e2];have:=aw h0
  rw [AA (by omega)]
 ·rw [D_ (by omega),if_pos (by omega)];rfl
def Fi (s:EB) (l:List Span):List Span:=l.foldl FC s.Es
noncomputable def Qp (s:EB) (h:List Span):List Int:=FJ s.Next fun n=>hb h n&& !hb s.Es n
noncomputable def F9 (s:EB) (h:List Span):List Int:=FJ s.Next fun n=> !hb h n&&(!EA s.Ep n&&decide (n+3≤Fh h))
noncomputable def IM (s:EB) (h:List Span):List Int:=FJ s.Next fun n=> !hb h n&&(EA s.Ep n||decide (n+3≤Fh h))
theorem EY.ZH {h:List Span} (hc:EY h) (hn: ∀n,hs h n→0≤n∧n<60):0<h.length→ -1000≤(F0 h).To∧(F0 h).To≤1000000:=fun h0=>by
 have:=hc.M4 (fun n hh=>by have:=hn n hh;omega) _ (M8 h0)
 omega
theorem Qq {s:EB} {l:List Span} (g:Ip s) (hl:HV l s.Next):EY (Fi s l)∧(∀n,hs (Fi s l) n↔hs s.Es n∨hs l n)∧(∀n,hs (Fi s l) n→0≤n∧n<s.Next):=by
 obtain ⟨f1,f2⟩:=fold_add l s.Es g.J1.sp.cn hl.sp.cn.ne;refine ⟨f1,f2,fun n h=> ?_⟩;rcases (f2 n).1 h with h|h
 ·exact ⟨(g.J1.sp.bX h).1,g.J1.lt n h⟩
 ·exact ⟨(hl.sp.bX h).1,hl.lt n h⟩
theorem ZI (l:List Span) (x:Span):(FC l x).length≤l.length+1:=by
 have hm: ∀(l:List Span) (x:Span),(GA l x).length≤l.length+1:=by
  intro l;induction l with
  |nil=>intro x;simp [GA]
  |cons y l ih=>
   intro x;unfold GA;split
   ·have:=ih (mix x y);simp only [List.length_cons];omega
   ·simp
 have h1:=hm (l.drop (l.takeWhile (Gn x)).length) x;have h2:=SS (Gn x) l;unfold FC;rw [List.length_append];rw [List.length_drop] at h1;omega
theorem Qr: ∀(b a:List Span),(b.foldl FC a).length≤a.length+b.length
 |[],a=>by simp
 |x::b,a=>by
  have h1:=Qr b (FC a x);have h2:=ZI a x;simp only [List.foldl_cons,List.length_cons];omega
theorem ZJ {s:EB} {l:List Span} (g:Ip s) (hl:HV l s.Next):LK s l=some ((⟨s.Next,Fi s l,IM s (Fi s l)⟩:EB),Qp s (Fi s l),F9 s (Fi s l),decide ((Fi s l).length≤20)):=by
 obtain ⟨g1,g2⟩:=g.lens;have ZK:=hl.sp.len;obtain ⟨j1,j2,j3⟩:=Qq g hl;have hlen:(Fi s l).length≤40:=by have:=Qr l s.Es;unfold Fi;omega
 have FM:=g.Fk;unfold LK;rw [Zc (by omega) (by omega) g.J1.sp.cn hl.sp.cn.ne]
 have hj:List.foldl FC s.Es l=Fi s l:=rfl;rw [hj];simp only [Option.bind_some];revert j1 j2 j3 hlen;generalize Fi s l=h;intro j1 j2 j3 hlen;rw [OD (p:=fun n=>hb h n&& !hb s.Es n) FM.1 (by omega) (fun x k k0 k1 hx=>by
  simp only [Ny];rw [Bm k1,Qd (by omega),Qd (l:=s.Es) (by omega)]
  have e:((some (h.any (ES k))).bind fun I7=>(bif I7 then (some (s.Es.any (ES k))).bind fun Hg=>some ((!Hg)) else some (false)))=some (hb h k&& !hb s.Es k):=by
   cases h' :h.any (ES k)<;>simp [hb,h']
  rw [e];simp only [cond_true,Option.bind_some];rw [M9 hx,AA (by omega)]
  rfl) (fun x=>by simp only [Ny];rw [D_ (by omega)];rfl)]
 simp only [Option.bind_some];rw [ZG (by omega) (j1.ZH fun n hn=>by have:=j3 n hn;omega)]
 simp only [Option.bind_some];have OG: -1≤Fh h∧Fh h≤1000000:=by
  unfold Fh;split
  ·omega
  ·have h0:0<h.length:=by omega
   have:=j1.M4 (fun n hn=>by have:=j3 n hn;omega) _ (M8 h0)
   omega
 have key:eM (Nz s h (Fh h)) ([],0,[])=some (F9 s h,IM s h):=by
  refine D3 (fun x:List Int×Int×List Int=>s.Next.toNat-x.2.1.toNat) (fun x=>0≤x.2.1∧x.2.1≤s.Next∧x.1=FJ x.2.1 (fun n=> !hb h n&&(!EA s.Ep n&&decide (n+3≤Fh h)))∧x.2.2=FJ x.2.1 (fun n=> !hb h n&&(EA s.Ep n||decide (n+3≤Fh h)))) _ ?_ _ ⟨by simp,FM.1,by simp [FJ],by simp [FJ]⟩
  rintro ⟨x,k,y⟩ ⟨i0,i1,i2,i3⟩;simp only at i0 i1 i2 i3;obtain ⟨k,rfl⟩:=Int.eq_ofNat_of_zero_le i0;simp only [Nz] at*;by_cases hk:(k:Int)<s.Next
  ·have hx:x.length≤1000:=by rw [i2];have:=IL (k:Int) (fun n=> !hb h n&&(!EA s.Ep n&&decide (n+3≤Fh h)));omega
   have hy:y.length≤1000:=by rw [i3];have:=IL (k:Int) (fun n=> !hb h n&&(EA s.Ep n||decide (n+3≤Fh h)));omega
   rw [Bm hk,cond_true,Qd (by omega),S6 (by omega)]
   simp only [Option.bind_some];rw [AA (x:=(k:Int)+3) (by omega),AA (x:=(k:Int)+1) (by omega)]
   have r1:=Ql (k:=k) (p:=fun n=> !hb h n&&(!EA s.Ep n&&decide (n+3≤Fh h)));have r2:=Ql (k:=k) (p:=fun n=> !hb h n&&(EA s.Ep n||decide (n+3≤Fh h)));rw [←i2] at r1;rw [←i3] at r2;refine ⟨.next (FJ ((k:Int)+1) (fun n=> !hb h n&&(!EA s.Ep n&&decide (n+3≤Fh h))),(k:Int)+1,FJ ((k:Int)+1) (fun n=> !hb h n&&(EA s.Ep n||decide (n+3≤Fh h)))),?_,⟨by simp only;omega,by simp only;omega,rfl,rfl⟩,by simp only;omega⟩
   rw [r1,r2];have ZL:h.any (ES (k:Int))=hb h k:=rfl;rw [ZL];have ZM:app 8 x ([(k:Int)]:List Int)=some (x ++ [(k:Int)]):=D5 (by simp only [List.length_cons,List.length_nil];omega) (by omega)
   have ZN:app 8 y ([(k:Int)]:List Int)=some (y ++ [(k:Int)]):=D5 (by simp only [List.length_cons,List.length_nil];omega) (by omega)
   cases hb h k<;>cases EA s.Ep k<;>cases decide ((k:Int)+3≤Fh h)<;>simp [ZM,ZN]
  ·have e:(k:Int)=s.Next:=by omega
   rw [D_ (by omega)]
   exact ⟨_,rfl,by rw [i2,i3,e];rfl⟩
 rw [key];simp only [Option.bind_some];rw [show decide ((h.length:Int)≤20)=decide (h.length≤20) by rw [Bool.eq_iff_iff,decide_eq_true_eq,decide_eq_true_eq];omega]
 rfl
noncomputable def FQ (s:EB) (l:List Span):EB×List Int×List Int×Bool:=
 if KL s&&(KM l s.Next&&decide ((Fi s l).length≤20)) then (⟨s.Next,Fi s l,IM s (Fi s l)⟩,Qp s (Fi s l),F9 s (Fi s l),true) else (⟨0,[],[]⟩,[],[],false)
theorem ZO {s:EB} {l:List Span} (h1:s.Es.length≤1048576) (h2:s.Ep.length≤1048576) (h3:l.length≤1048576):Lp s l=some (FQ s l):=by
 unfold Lp FQ;rw [Zx h1 h2];cases e1:KL s
 ·rfl
 ·have g:=Qm.1 e1;simp only [Option.bind_some,Bool.not_true,cond_false];rw [Zy h3];cases e2:KM l s.Next
  ·rfl
  ·have hl:=Qn.1 e2;obtain ⟨g1,g2⟩:=g.lens;have ZK:=hl.sp.len;obtain ⟨j1,j2,j3⟩:=Qq g hl;have FM:=g.Fk;simp only [Option.bind_some,Bool.not_true,cond_false];rw [Zk (by omega) (by omega)]
   have ZP:OC s.Es l=tell (Fi s l):=by
    unfold OC;rw [JZ.2 g.J1.sp,JZ.2 hl.sp];rfl
   rw [ZP];unfold tell;by_cases HW:(Fi s l).length≤20
   ·rw [if_pos HW];simp only [Option.bind_some,Bool.not_true,cond_false,HW,decide_true,Bool.and_self,if_true];revert j1 j2 j3 HW;generalize Fi s l=h;intro j1 j2 j3 HW;have OG: -1≤Fh h∧Fh h≤1000000:=by
     unfold Fh;split
     ·omega
     ·have h0:0<h.length:=by omega
      have:=j1.M4 (fun n hn=>by have:=j3 n hn;omega) _ (M8 h0)
      omega
    rw [OD (p:=fun n=>hb h n&& !hb s.Es n) FM.1 (by omega) (fun x k k0 k1 hx=>by
     simp only [Ns];rw [Bm k1,M1 (by omega),M1 (l:=s.Es) (by omega)]
     have e:((some (h.any (ES k))).bind fun I7=>(bif I7 then (some (s.Es.any (ES k))).bind fun Hg=>some ((!Hg)) else some (false)))=some (hb h k&& !hb s.Es k):=by
      cases h' :h.any (ES k)<;>simp [hb,h']
     rw [e];simp only [cond_true,Option.bind_some];rw [M9 hx,AA (by omega)]
     rfl) (fun x=>by simp only [Ns];rw [D_ (by omega)];rfl)]
    simp only [Option.bind_some];have jj:Nq s.Ep=some s.Ep:=by
     unfold Nq;rw [D5 (by simp only [List.length_nil];omega) (by omega)];rfl
    rw [jj];simp only [Option.bind_some];rw [ZC (by omega) (by omega)]
    simp only [Option.bind_some];have hfl:(s.Ep.filter fun n=> !hb h n).length≤60:=Nat.le_trans (List.length_filter_le _ _) g2;have Na:((bif (decide (0<(h.length:Int))) then (idx h (IntKind.i64.wrap ((h.length:Int)-1))).bind fun FV=>(I4 (⟨s.Next,h,s.Ep.filter fun n=> !hb h n⟩:EB)).bind fun Jo=>(eM (Ln FV Jo) ([],0)).bind fun ZQ=>some (ZQ) else some ([])))=some (F9 s h):=by
     by_cases h0:0<h.length
     ·have e:((h.length:Int)-1).toNat=h.length-1:=by omega
      have e2:h[h.length-1]'(by omega)=F0 h:=by
       unfold F0;rw [List.getD_eq_getElem?_getD,List.getElem?_eq_getElem (by omega)];rfl
      rw [Bm (by omega),cond_true,AA (by omega),D8 (by omega) (by omega),Option.bind_some]
      simp only [e,e2];rw [Zz (s:=⟨s.Next,h,s.Ep.filter fun n=> !hb h n⟩) FM (by simp only;omega) (by simp only;omega),Option.bind_some]
      have fV:(F0 h).To-1=Fh h:=by unfold Fh;rw [if_neg (by omega)]
      have a_:(OF ⟨s.Next,h,s.Ep.filter fun n=> !hb h n⟩).length≤60:=Nat.le_trans (IL _ _) (by simp only;omega)
      have Qs: ∀x∈OF ⟨s.Next,h,s.Ep.filter fun n=> !hb h n⟩,0≤x∧x<s.Next:=fun x hx=>(HU.1 hx).1;have key: ∀(b:List Int),b.length≤60→(∀x∈b,0≤x∧x<s.Next)→eM (Ln (F0 h) b) ([],0)=some (b.filter fun n=>decide (n+3≤Fh h)):=fun b ac6 ZS=>by
       refine D3 (fun x:List Int×Int=>b.length-x.2.toNat) (fun x=>0≤x.2∧x.2≤b.length∧x.1=(b.take x.2.toNat).filter fun n=>decide (n+3≤Fh h)) _ ?_ _ ⟨by simp,by simp,by simp⟩
       rintro ⟨x,k⟩ ⟨i0,i1,i2⟩;simp only at i0 i1 i2;simp only [Ln];by_cases hk:k<b.length
       ·have ax:k.toNat<b.length:=by omega
        have hm:=ZS _ (List.getElem_mem ax);have cu:x.length≤1000:=by
         rw [i2];exact Nat.le_trans (List.length_filter_le _ _) (by rw [List.length_take];omega)
        rw [Bm hk,D8 i0 hk];simp only [cond_true,Option.bind_some];rw [AA (x:=b[k.toNat]+3) (by omega),fV,AA (x:=Fh h) (by omega),M9 cu]
        simp only [Option.bind_some];rw [AA (by omega)]
        refine ⟨_,rfl,⟨by simp only;omega,by simp only;omega,?_⟩,by simp only;omega⟩
        simp only;rw [show (k+1).toNat=k.toNat+1 by omega,List.take_succ_eq_append_getElem ax,List.filter_append,←i2]
        refine congrArg (x ++ ·) ?_;by_cases hc:b[k.toNat]+3≤Fh h<;>simp [hc]
       ·rw [D_ hk];refine ⟨_,rfl,?_⟩;simp only;rw [i2,List.take_of_length_le (by omega)]
      rw [key _ a_ Qs,Option.bind_some];refine congrArg some ?_;refine M7 ((J0 _ _).filter _) (J0 _ _) fun x=> ?_;rw [List.mem_filter];unfold OF F9;rw [HU,HU];simp only [Bool.and_eq_true,Bool.not_eq_true',decide_eq_true_eq,EA,decide_eq_false_iff_not,List.mem_filter];constructor
      ·rintro ⟨⟨q1,q2,q3⟩,q4⟩;exact ⟨q1,q2,fun hm=>q3 ⟨hm,q2⟩,q4⟩
      ·rintro ⟨q1,q2,q3,q4⟩;exact ⟨⟨q1,q2,fun hm=>q3 hm.1⟩,q4⟩
     ·rw [D_ (by omega)]
      show some ([]:List Int)=_;refine congrArg some ?_;refine M7 .nil (J0 _ _) fun x=> ?_;unfold F9;rw [HU];have:Fh h= -1:=by unfold Fh;rw [if_pos (by omega)]
      simp only [List.not_mem_nil,Bool.and_eq_true,decide_eq_true_eq,this,false_iff];rintro ⟨q1,_,_,q4⟩;omega
    rw [Na];simp only [Option.bind_some];have hll:(F9 s h).length≤60:=Nat.le_trans (IL _ _) (by omega)
    rw [D5 (by omega) (by omega)]
    simp only [Option.bind_some];have ZT:slices_Sort_int ((s.Ep.filter fun n=> !hb h n) ++ F9 s h)=some (IM s h):=by
     unfold slices_Sort_int xg;rw [if_pos (by rw [List.length_append];omega)]
     refine congrArg some ?_;have qW:((s.Ep.filter fun n=> !hb h n) ++ F9 s h).Nodup:=by
      refine List.nodup_append.2 ⟨(Qk g.KJ).filter _,Qk (J0 _ _),fun x hx y hy e=> ?_⟩;subst e;have h1:=(List.mem_filter.1 hx).1;have h2:=(HU.1 hy).2;simp only [Bool.and_eq_true,Bool.not_eq_true',EA,decide_eq_false_iff_not] at h2;exact h2.2.1 h1
     have ZU:(gi ((s.Ep.filter fun n=> !hb h n) ++ F9 s h)).Pairwise (· < ·):=by
      have p1:=S3 ((s.Ep.filter fun n=> !hb h n) ++ F9 s h);have p2:=(Bx ((s.Ep.filter fun n=> !hb h n) ++ F9 s h)).nodup_iff.2 qW;exact (p1.and p2).imp fun h=>by omega
     refine M7 ZU (J0 _ _) fun x=> ?_;rw [(Bx _).mem_iff,List.mem_append,List.mem_filter];unfold F9 IM;rw [HU,HU];simp only [Bool.and_eq_true,Bool.or_eq_true,Bool.not_eq_true',decide_eq_true_eq,EA,decide_eq_false_iff_not];constructor
     ·rintro (⟨q1,q2⟩|⟨q1,q2,q3,q4⟩)
      ·exact ⟨(g.mem x q1).1,q2,.inl q1⟩
      ·exact ⟨q1,q2,.inr q4⟩
     ·rintro ⟨q1,q2,q3⟩;by_cases hm:x∈s.Ep
      ·exact .inl ⟨hm,q2⟩
      ·exact .inr ⟨q1,q2,hm,q3.resolve_left hm⟩
    rw [ZT];rfl
   ·rw [if_neg HW];simp only [Option.bind_some,Bool.not_false,cond_true,HW,decide_false,Bool.and_false];rfl
structure Jl (l:List Int) (N:Int):Prop where
 mem: ∀x∈l,0≤x∧x<N
 nd:l.Nodup
theorem ZV: ∀{l:List Int},(∀i (h:i<l.length),l[i]∉l.take i)→l.Nodup:=by
 intro l h;rw [List.Nodup,List.pairwise_iff_getElem];intro i j hi hj jx e;apply h j hj;rw [←e];exact List.mem_take_iff_getElem.2 ⟨i,by omega,rfl⟩
theorem Qt {l:List Int} (h:l.Nodup) {i:Nat} (hi:i<l.length):l[i]∉l.take i:=fun hm=>by
 obtain ⟨j,hj,e⟩:=List.mem_take_iff_getElem.1 hm;have:=List.pairwise_iff_getElem.1 h j i (by omega) hi (by omega)
 exact this e
theorem Ta {l:List Int} {N:Int} {f:Int→Option (LR Int (LR Unit Bool))}
 (hf: ∀(i:Nat) (h:i<l.length),f (i:Int)=some (if GV l[i] 0 (N-1)&& !EA (l.take i) l[i] then .next ((i:Int)+1) else .done (.done false))) (hz:f (l.length:Int)=some (.done (.next ()))):
 ∃b,((eM f 0).bind fun y=>match y with|LR.next ()=>some true|LR.done z=>some z)=some b∧(b=true↔Jl l N):=by
 obtain ⟨y,e,hy⟩:=wR (f:=f) (fun i:Int=>l.length-i.toNat) (fun i=>0≤i∧i≤l.length∧ ∀j (h:j<l.length),(j:Int)<i→(0≤l[j]∧l[j]<N)∧l[j]∉l.take j)
  (fun y=>match y with| .next ()=>Jl l N| .done k=>k=false∧ ¬Jl l N) (by
  rintro i ⟨i0,i1,i2⟩;obtain ⟨i,rfl⟩:=Int.eq_ofNat_of_zero_le i0;by_cases hi:i<l.length
  ·refine ⟨_,hf i hi,?_⟩;by_cases c:(GV l[i] 0 (N-1)&& !EA (l.take i) l[i])=true
   ·rw [if_pos c];simp only [Bool.and_eq_true,Bool.not_eq_true',Jj,EA,decide_eq_false_iff_not] at c;refine ⟨⟨by omega,by omega,fun j hj ax=> ?_⟩,by omega⟩
    by_cases e:j<i
    ·exact i2 j hj (by omega)
    ·obtain rfl:j=i:=by omega
     exact ⟨⟨c.1.1,by omega⟩,c.2⟩
   ·rw [if_neg c];refine ⟨rfl,fun g=>c ?_⟩;simp only [Bool.and_eq_true,Bool.not_eq_true',Jj,EA,decide_eq_false_iff_not];have:=g.mem _ (List.getElem_mem hi);exact ⟨by omega,Qt g.nd hi⟩
  ·obtain rfl:i=l.length:=by omega
   refine ⟨_,hz,⟨fun x hx=> ?_,ZV fun j hj=>(i2 j hj (by omega)).2⟩⟩
   obtain ⟨j,hj,rfl⟩:=List.getElem_of_mem hx;exact (i2 j hj (by omega)).1) 0 ⟨by omega,by omega,fun j _ h=>by omega⟩
 rw [e];cases y with
 |next u=>cases u;exact ⟨true,rfl,by simpa using hy⟩
 |done k=>
  obtain ⟨rfl,hy⟩:=hy;exact ⟨false,rfl,by simpa using hy⟩
noncomputable def Hc (l:List Int) (N:Int):Bool:= @decide (Jl l N) (Classical.propDecidable _)
theorem IN {l:List Int} {N:Int}:Hc l N=true↔Jl l N:=by simp [Hc]
theorem Qu {l:List Int} (hl:l.length≤1048576) {N:Int} (FM: -1000≤N∧N≤10000):Jq l N=some (Hc l N):=by
 unfold Jq;obtain ⟨b,e,h⟩:=Ta (l:=l) (N:=N) (f:=KU l N) (fun i hi=>by
  simp only [KU];rw [Bm (by omega),wS hi]
  simp only [cond_true,Option.bind_some];rw [AA (x:=N-1) (by omega),Oy]
  simp only [Option.bind_some];cases c:GV l[i] 0 (N-1)
  ·rfl
  ·simp only [Bool.not_true,cond_false];rw [D9 (by omega) (by omega) (by omega)]
   simp only [Option.bind_some,Int.toNat_zero,List.drop_zero,Nat.sub_zero,Int.toNat_natCast];rw [S5 (by rw [List.length_take];omega),Option.bind_some,Option.bind_some,AA (by omega)]
   cases EA (l.take i) l[i]<;>rfl) (by simp only [KU];rw [D_ (by omega)];rfl)
 exact e.trans (congrArg some (by rw [Bool.eq_iff_iff,h,IN]))
theorem Qv {l:List Int} (hl:l.length≤1048576) {N:Int} (FM: -1000≤N∧N≤10000):Jw l N=some (Hc l N):=by
 unfold Jw;obtain ⟨b,e,h⟩:=Ta (l:=l) (N:=N) (f:=Ls l N) (fun i hi=>by
  simp only [Ls];rw [Bm (by omega),wS hi]
  simp only [cond_true,Option.bind_some];rw [AA (x:=N-1) (by omega),SE]
  simp only [Option.bind_some];cases c:GV l[i] 0 (N-1)
  ·rfl
  ·simp only [Bool.not_true,cond_false];rw [D9 (by omega) (by omega) (by omega)]
   simp only [Option.bind_some,Int.toNat_zero,List.drop_zero,Nat.sub_zero,Int.toNat_natCast];rw [S6 (by rw [List.length_take];omega),Option.bind_some,Option.bind_some,AA (by omega)]
   cases EA (l.take i) l[i]<;>rfl) (by simp only [Ls];rw [D_ (by omega)];rfl)
 exact e.trans (congrArg some (by rw [Bool.eq_iff_iff,h,IN]))
def Fy (s:Int×Int) (n:Int):Int×Int:=(max s.1 (s.2-n),max s.2 n)
def Fp (l:List Int):Int×Int:=l.foldl Fy (0,-1)
theorem OH {N:Int}: ∀(l:List Int) (s:Int×Int),(0≤s.1∧s.1≤N)→(-1≤s.2∧s.2<N)→(∀x∈l,0≤x∧x<N)→(0≤(l.foldl Fy s).1∧(l.foldl Fy s).1≤N)∧(-1≤(l.foldl Fy s).2∧(l.foldl Fy s).2<N)
 |[],s,h1,h2,_=>⟨h1,h2⟩
 |x::l,s,h1,h2,hx=>by
  have:=hx x (by simp)
  exact OH l (Fy s x) (by simp only [Fy];omega) (by simp only [Fy];omega) fun y hy=>hx y (by simp [hy])
theorem Qw {l:List Int} {i:Nat} (h:i<l.length):Fp (l.take (i+1))=Fy (Fp (l.take i)) l[i]:=by
 unfold Fp;rw [List.take_succ_eq_append_getElem h,List.foldl_append];rfl
theorem ZW {l:List Int} (hl:l.length≤1048576):LS l=some (if Hc l 60 then ((Fp l).1,true) else (0,false)):=by
 unfold LS;rw [Qu hl (by omega)]
 cases c:Hc l 60
 ·rfl
 ·have g:=IN.1 c;simp only [Option.bind_some,Bool.not_true,cond_false,if_true];have key:eM (NB l) (0,0,0)=some (Fp l).1:=by
   refine D3 (fun x:Int×Int×Int=>l.length-x.2.2.toNat) (fun x=>0≤x.2.2∧x.2.2≤l.length∧x.1=(Fp (l.take x.2.2.toNat)).1∧x.2.1=max 0 (Fp (l.take x.2.2.toNat)).2) _ ?_ _ ⟨by simp,by simp,rfl,rfl⟩
   rintro ⟨m,t,i⟩ ⟨i0,i1,i2,i3⟩;simp only at i0 i1 i2 i3;simp only [NB];by_cases hi:i<l.length
   ·have ax:i.toNat<l.length:=by omega
    have hx:=g.mem _ (List.getElem_mem ax);have cA:=OH (N:=60) (l.take i.toNat) (0,-1) (by simp) (by simp) fun x hx=>g.mem x (List.mem_of_mem_take hx)
    have hs:=Qw ax;have e:(Fp (l.take i.toNat))=(l.take i.toNat).foldl Fy (0,-1):=rfl;rw [←e] at cA;rw [Bm hi,D8 i0 hi];simp only [cond_true,Option.bind_some];have e1:(if l[i.toNat]>t then l[i.toNat] else t)=max t l[i.toNat]:=by split<;>omega
    rw [e1,AA (x:=max t l[i.toNat]-l[i.toNat]) (by omega),AA (x:=i+1) (by omega)]
    refine ⟨_,rfl,⟨by simp only;omega,by simp only;omega,?_,?_⟩,by simp only;omega⟩
    ·simp only;rw [show (i+1).toNat=i.toNat+1 by omega,hs]
     simp only [Fy];split<;>omega
    ·simp only;rw [show (i+1).toNat=i.toNat+1 by omega,hs]
     simp only [Fy];omega
   ·rw [D_ hi];refine ⟨_,rfl,?_⟩;rw [List.take_of_length_le (by omega)] at i2
    simp only [i2]
  rw [key];rfl
theorem ZX {l:List Int} (hl:l.length≤1048576):LU l=some (if Hc l 60 then ((Fp l).1,true) else (0,false)):=by
 unfold LU;rw [Qv hl (by omega)]
 cases c:Hc l 60
 ·rfl
 ·have g:=IN.1 c;simp only [Option.bind_some,Bool.not_true,cond_false,if_true];have key:eM (NC l) (0,-1,0)=some (Fp l).1:=by
   refine D3 (fun x:Int×Int×Int=>l.length-x.2.2.toNat) (fun x=>0≤x.2.2∧x.2.2≤l.length∧x.1=(Fp (l.take x.2.2.toNat)).1∧x.2.1=(Fp (l.take x.2.2.toNat)).2) _ ?_ _ ⟨by simp,by simp,by simp [Fp],by simp [Fp]⟩
   rintro ⟨m,t,i⟩ ⟨i0,i1,i2,i3⟩;simp only at i0 i1 i2 i3;simp only [NC];by_cases hi:i<l.length
   ·have ax:i.toNat<l.length:=by omega
    have hx:=g.mem _ (List.getElem_mem ax);have cA:=OH (N:=60) (l.take i.toNat) (0,-1) (by simp) (by simp) fun x hx=>g.mem x (List.mem_of_mem_take hx)
    have hs:=Qw ax;have e:(Fp (l.take i.toNat))=(l.take i.toNat).foldl Fy (0,-1):=rfl;rw [←e] at cA;rw [Bm hi,D8 i0 hi];simp only [cond_true,Option.bind_some];rw [AA (x:=t-l[i.toNat]) (by omega),Qg,Qg]
    simp only [Option.bind_some];rw [AA (x:=i+1) (by omega)]
    refine ⟨_,rfl,⟨by simp only;omega,by simp only;omega,?_,?_⟩,by simp only;omega⟩
    ·simp only;rw [show (i+1).toNat=i.toNat+1 by omega,hs]
     simp only [Fy];split<;>omega
    ·simp only;rw [show (i+1).toNat=i.toNat+1 by omega,hs]
     simp only [Fy];split<;>omega
   ·rw [D_ hi];refine ⟨_,rfl,?_⟩;rw [List.take_of_length_le (by omega)] at i2
    simp only [i2]
  rw [key];rfl
def E2 (n:Int):List Span:=[⟨n,n+1⟩]
noncomputable def Ge:List Int→EB→List Int→Option (EB×List Int)
 |[],s,out=>some (s,out)
 |n::r,s,out=>if (FQ s (E2 n)).2.2.2 then Ge r (FQ s (E2 n)).1 (out ++ (FQ s (E2 n)).2.2.1) else none
theorem Tb {n N:Int} (h:0≤n∧n<N) (FM:N≤60):HV (E2 n) N:=by
 refine ⟨⟨by simp [E2],fun x hx=> ?_,by simp [E2]⟩,fun m ⟨x,hx,h1,h2⟩=> ?_⟩
 ·simp only [E2,List.mem_singleton] at hx;subst hx;simp only;omega
 ·simp only [E2,List.mem_singleton] at hx;subst hx;simp only at h1 h2;omega
theorem ZY {n m:Int}:hs (E2 n) m↔m=n:=by
 constructor
 ·rintro ⟨x,hx,h1,h2⟩;simp only [E2,List.mem_singleton] at hx;subst hx;simp only at h1 h2;omega
 ·rintro rfl;exact ⟨_,List.mem_singleton.2 rfl,by simp only;omega,by simp only;omega⟩
structure PI (N:Int) (P:List Int) (s:EB) (out:List Int):Prop where
 g:Ip s
 Fk:s.Next=N
 heard: ∀n,hs s.Es n↔n∈P
 lost: ∀x,x∈s.Ep↔(0≤x∧x<N)∧x∉P∧x+3≤(Fp P).2
 OI: ∀x∈out,(0≤x∧x<N)∧(x∉P∧x+3≤(Fp P).2∨x∈P∧3≤(Fp P).1)
 all: ∀x∈s.Ep,x∈out
theorem ZZ {h:List Span} (hc:EY h) (hp: ∀n,hs h n→0≤n∧n<60):(Fh h= -1∧ ∀n,¬hs h n)∨(hs h (Fh h)∧ ∀n,hs h n→n≤Fh h):=by
 unfold Fh;by_cases h0:h.length=0
 ·left;rw [if_pos h0];obtain rfl:=List.eq_nil_of_length_eq_zero h0;exact ⟨rfl,Hs⟩
 ·right;rw [if_neg h0];have hm:=M8 (l:=h) (by omega)
  have hb:=hc.M4 (fun n hn=>by have:=hp n hn;omega)
  have hl:=hb _ hm;refine ⟨⟨_,hm,by omega,by omega⟩,fun n ⟨x,hx,h1,h2⟩=> ?_⟩
  obtain ⟨i,hi,rfl⟩:=List.getElem_of_mem hx;have e:F0 h=h[h.length-1]'(by omega):=by
   unfold F0;rw [List.getD_eq_getElem?_getD,List.getElem?_eq_getElem (by omega)];rfl
  by_cases Z0:i=h.length-1
  ·subst Z0;rw [e];omega
  ·have q1:=List.pairwise_iff_getElem.1 hc.M3 i (h.length-1) hi (by omega) (by omega)
   rw [e] at hl⊢;omega
theorem Tc: ∀(l:List Int) (s:Int×Int),s.2≤(l.foldl Fy s).2∧(∀x∈l,x≤(l.foldl Fy s).2)∧((l.foldl Fy s).2=s.2∨(l.foldl Fy s).2∈l)
 |[],s=>⟨Int.le_refl _,by simp,.inl rfl⟩
 |x::l,s=>by
  obtain ⟨h1,h2,h3⟩:=Tc l (Fy s x);simp only [Fy] at h1 h3;refine ⟨by simp only [List.foldl_cons,Fy];omega,fun y hy=> ?_,?_⟩
  ·simp only [List.foldl_cons,Fy];rcases List.mem_cons.1 hy with rfl|hy
   ·omega
   ·exact h2 y hy
  ·simp only [List.foldl_cons,Fy];rcases h3 with h3|h3
   ·by_cases hc:s.2≤x
    ·right;rw [h3];simp;left;omega
    ·left;rw [h3];omega
   ·right;exact List.mem_cons_of_mem _ h3
theorem PI.top {N:Int} {P:List Int} {h:List Span} (hc:EY h) (FM:N≤60) (hP: ∀x∈P,0≤x∧x<N) (hh: ∀n,hs h n↔n∈P):Fh h=(Fp P).2:=by
 obtain ⟨q1,q2,q3⟩:=Tc P (0,-1);have e:P.foldl Fy (0,-1)=Fp P:=rfl;rw [e] at q1 q2 q3;simp only at q1 q3;rcases ZZ hc (fun n hn=>by have:=hP n ((hh n).1 hn);omega) with ⟨h1,h2⟩|⟨h1,h2⟩
 ·rw [h1];rcases q3 with q3|q3
  ·exact q3.symm
  ·exact absurd ((hh _).2 q3) (h2 _)
 ·have a1:=q2 _ ((hh _).1 h1);rcases q3 with q3|q3
  ·have:=hP _ ((hh _).1 h1);omega
  ·have:=h2 _ ((hh _).2 q3);omega
theorem PI.step {N:Int} {P:List Int} {s:EB} {out:List Int} (I:PI N P s out) (hP: ∀x∈P,0≤x∧x<N) {n:Int} (hn:0≤n∧n<N) (Td:n∉P) (af:(FQ s (E2 n)).2.2.2=true):
 PI N (P ++ [n]) (FQ s (E2 n)).1 (out ++ (FQ s (E2 n)).2.2.1)∧(FQ s (E2 n)).2.2.1.length≤60:=by
 have FM:=I.g.Fk;rw [I.Fk] at FM;have KK:HV (E2 n) s.Next:=by rw [I.Fk];exact Tb hn FM.2
 obtain ⟨j1,j2,j3⟩:=Qq I.g KK;have hh: ∀m,hs (Fi s (E2 n)) m↔m∈P ++ [n]:=fun m=>by
  rw [j2,I.heard,ZY];simp
 have Qj: ∀x∈P ++ [n],0≤x∧x<N:=fun x hx=>by
  rcases List.mem_append.1 hx with h|h
  ·exact hP x h
  ·rw [List.mem_singleton.1 h];exact hn
 have OG:=PI.top j1 FM.2 Qj hh
 have iT:Fp (P ++ [n])=Fy (Fp P) n:=by simp [Fp]
 have Te: ∀x,hb (Fi s (E2 n)) x=false↔x∉P ++ [n]:=fun x=>by
  rw [←hh,←M2];simp
 unfold FQ at af⊢;split at af
 ·rename_i hc;simp only [Bool.and_eq_true,decide_eq_true_eq] at hc;rw [if_pos (by simp only [Bool.and_eq_true,decide_eq_true_eq];exact hc)]
  simp only;have Na: ∀x,x∈IM s (Fi s (E2 n))↔(0≤x∧x<N)∧x∉P ++ [n]∧x+3≤(Fp (P ++ [n])).2:=fun x=>by
   unfold IM;rw [HU,I.Fk,OG];simp only [Bool.and_eq_true,Bool.or_eq_true,Bool.not_eq_true',decide_eq_true_eq,EA];rw [Te];constructor
   ·rintro ⟨a1,a2,a3⟩;refine ⟨a1,a2,?_⟩;rcases a3 with a3|a3
    ·have:=((I.lost x).1 a3).2.2;rw [iT];simp only [Fy];omega
    ·exact a3
   ·rintro ⟨a1,a2,a3⟩;exact ⟨a1,a2,.inr a3⟩
  have bq: ∀x,x∈F9 s (Fi s (E2 n))↔(0≤x∧x<N)∧x∉P ++ [n]∧x∉s.Ep∧x+3≤(Fp (P ++ [n])).2:=fun x=>by
   unfold F9;rw [HU,I.Fk,OG];simp only [Bool.and_eq_true,Bool.not_eq_true',decide_eq_true_eq,EA,decide_eq_false_iff_not];rw [Te]
  refine ⟨⟨⟨by simp only;rw [I.Fk];exact FM,⟨j1.SO (fun m hm=>by have:=j3 m hm;rw [I.Fk] at this;omega) hc.2.2,fun m hm=>(j3 m hm).2⟩,(show (IM s (Fi s (E2 n))).Pairwise (· < ·) from J0 _ _),fun x hx=> ?_⟩,I.Fk,hh,Na,fun x hx=> ?_,fun x hx=> ?_⟩,Nat.le_trans (IL _ _) (by rw [I.Fk];omega)⟩
  ·simp only at hx⊢;obtain ⟨a1,a2,_⟩:=(Na x).1 hx;rw [I.Fk];exact ⟨a1,fun h=>a2 ((hh x).1 h)⟩
  ·rcases List.mem_append.1 hx with hx|hx
   ·obtain ⟨a1,a2⟩:=I.OI x hx;refine ⟨a1,?_⟩;rw [iT];simp only [Fy];rcases a2 with ⟨a2,a3⟩|⟨a2,a3⟩
    ·by_cases e:x=n
     ·subst e;right;exact ⟨by simp,by omega⟩
     ·left;exact ⟨by simp [a2,e],by omega⟩
    ·right;exact ⟨by simp [a2],by omega⟩
   ·obtain ⟨a1,a2,_,a4⟩:=(bq x).1 hx;exact ⟨a1,.inl ⟨a2,a4⟩⟩
  ·simp only at hx;rw [List.mem_append];by_cases hm:x∈s.Ep
   ·exact .inl (I.all x hm)
   ·obtain ⟨a1,a2,a3⟩:=(Na x).1 hx;exact .inr ((bq x).2 ⟨a1,a2,hm,a3⟩)
 ·simp at af
theorem Qx {N:Int}: ∀(r P:List Int) (s:EB) (out:List Int),PI N P s out→(∀x∈P ++ r,0≤x∧x<N)→(P ++ r).Nodup→ ∀s' o,Ge r s out=some (s',o)→PI N (P ++ r) s' o
 |[],P,s,out,I,_,_,s',o,e=>by
  simp only [Ge,Option.some.injEq,Prod.mk.injEq] at e;obtain ⟨rfl,rfl⟩:=e;simpa using I
 |n::r,P,s,out,I,hm,hn,s',o,e=>by
  unfold Ge at e;split at e
  ·rename_i af;have Td:n∉P:=fun h=>by
    have:=(List.nodup_append.1 hn).2.2 n h n (by simp)
    exact this rfl
   obtain ⟨I',_⟩:=I.step (fun x hx=>hm x (by simp [hx])) (hm n (by simp)) Td af
   have:=Qx r (P ++ [n]) _ _ I' (by simpa using hm) (by simpa using hn) s' o e
   simpa using this
  ·simp at e
theorem Qy {l:List Int} (hl:l.length≤1048576) (x:Int):JB l x=some (l.any (· ==x)):=by
 unfold JB;have key:eM (ND l x) 0=some (if l.any (· ==x) then .done true else .next ()):=by
  refine D3 (fun i:Int=>l.length-i.toNat) (fun i=>0≤i∧i≤l.length∧l.any (· ==x)=(l.drop i.toNat).any (· ==x)) _ ?_ _ ⟨by omega,by omega,by simp⟩
  rintro i ⟨i0,i1,i2⟩;simp only [ND];by_cases hi:i<l.length
  ·rw [Bm hi,D8 i0 hi];rw [List.drop_eq_getElem_cons (show i.toNat<l.length by omega),List.any_cons] at i2
   simp only [cond_true,Option.bind_some];cases hx:(l[i.toNat]'(by omega)==x)
   ·rw [hx,Bool.false_or] at i2;rw [cond_false,AA (by omega)]
    refine ⟨_,rfl,⟨by omega,by omega,?_⟩,by omega⟩
    rw [show (i+1).toNat=i.toNat+1 by omega];exact i2
   ·rw [hx,Bool.true_or] at i2;rw [i2];exact ⟨_,rfl,rfl⟩
  ·rw [D_ hi];rw [List.drop_eq_nil_of_le (by omega)] at i2
   rw [i2];exact ⟨_,rfl,rfl⟩
 rw [key];cases l.any (· ==x)<;>rfl
theorem Z1 {l:List Int} (hl:l.length≤1048576):LW l l=some true:=by
 unfold LW;rw [bne_self_eq_false,cond_false];have key:eM (LV l l) 0=some (.next ()):=by
  refine Eb (l:=l) (fun k hk=> ?_) (by simp [LV])
  simp only [LV];rw [Bm (by omega),wS hk]
  simp only [cond_true,Option.bind_some,bne_self_eq_false,cond_false];rw [AA (by omega)]
 rw [key];rfl
theorem Z2 {s:EB} {l:List Span} (h:(FQ s l).2.2.2=true):(FQ s l).1.Next=s.Next:=by
 unfold FQ at h⊢;split at h
 ·rename_i hc;rw [if_pos hc]
 ·simp at h
theorem Tf (n:Int) (r:List Int) (s:EB) (out:List Int):Ge (n::r) s out=if (FQ s (E2 n)).2.2.2 then Ge r (FQ s (E2 n)).1 (out ++ (FQ s (E2 n)).2.2.1) else none:=rfl
theorem Z3 {l:List Int} {N:Int} (FM:0≤N∧N≤60) (hl:l.length≤60) (hc:Jl l N) {s0:EB} (I0:PI N [] s0 []):
 eM (Nv l) ([],0,s0.Next,s0.Es,s0.Ep)=some (match Ge l s0 [] with|some (_,o)=> .next o|none=> .done ([],false)):=by
 generalize hQ:Ge l s0 []=Q;refine D3 (fun x:List Int×Int×Int×List Span×List Int=>l.length-x.2.1.toNat) (fun x=>0≤x.2.1∧x.2.1≤l.length∧x.1.length≤60*x.2.1.toNat∧PI N (l.take x.2.1.toNat) ⟨x.2.2.1,x.2.2.2.1,x.2.2.2.2⟩ x.1∧Ge (l.drop x.2.1.toNat) ⟨x.2.2.1,x.2.2.2.1,x.2.2.2.2⟩ x.1=Q) _ ?_ _ ⟨by simp,by simp,by simp,I0,hQ⟩
 rintro ⟨out,i,Fk,hd,ls⟩ ⟨i0,i1,i2,i3,i4⟩;simp only at i0 i1 i2 i3 i4;simp only [Nv];obtain ⟨g1,g2⟩:=i3.g.lens;simp only at g1 g2;by_cases hi:i<l.length
 ·have ax:i.toNat<l.length:=by omega
  have hn:=hc.mem _ (List.getElem_mem ax);rw [List.drop_eq_getElem_cons ax] at i4;rw [Bm hi,D8 i0 hi];simp only [cond_true,Option.bind_some];rw [AA (x:=l[i.toNat]+1) (by omega)]
  have st:=i3.step (fun x hx=>hc.mem x (List.mem_of_mem_take hx)) hn (Qt hc.nd ax);rw [show ([(⟨l[i.toNat],l[i.toNat]+1⟩:Span)]:List Span)=E2 l[i.toNat] from rfl,ZO (by simp only;omega) (by simp only;omega) (by simp [E2])]
  rw [Tf] at i4;revert st i4;rcases FQ ⟨Fk,hd,ls⟩ (E2 l[i.toNat]) with ⟨s1,fr,lo,ok⟩;intro i4 st;simp only at st i4;simp only [Option.bind_some];cases ok
  ·rw [←i4];exact ⟨_,rfl,rfl⟩
  ·obtain ⟨I',hlen⟩:=st rfl;simp only [if_true] at i4;simp only [Bool.not_true,cond_false];rw [D5 (by omega) (by omega)]
   simp only [Option.bind_some];rw [AA (by omega)]
   refine ⟨_,rfl,⟨by simp only;omega,by simp only;omega,by simp only [List.length_append];omega,?_,?_⟩,by simp only;omega⟩
   ·simp only;rw [show (i+1).toNat=i.toNat+1 by omega,List.take_succ_eq_append_getElem ax]
    exact I'
   ·simp only;rw [show (i+1).toNat=i.toNat+1 by omega]
    exact i4
 ·rw [D_ hi];rw [List.drop_eq_nil_of_le (by omega)] at i4
  rw [←i4];exact ⟨_,rfl,rfl⟩
theorem Z4 {lost:List Int} {N:Nat} (hl: ∀x∈lost,0≤x∧x<N) (h60:lost.length≤60): ∀(e:List Bool),e.length=N→ ∃e',eM (LN lost) (e,0)=some e' ∧e'.length=N∧ ∀k:Nat,k<N→e'.getD k false=(e.getD k false||EA lost (k:Int)):=by
 intro e he;obtain ⟨r,e1,r1,r2⟩:=wR (f:=LN lost) (fun x:List Bool×Int=>lost.length-x.2.toNat) (fun x=>0≤x.2∧x.2≤lost.length∧x.1.length=N∧ ∀k:Nat,k<N→x.1.getD k false=(e.getD k false||EA (lost.take x.2.toNat) (k:Int))) (fun r=>r.length=N∧ ∀k:Nat,k<N→r.getD k false=(e.getD k false||EA lost (k:Int))) (by
  rintro ⟨x,i⟩ ⟨i0,i1,i2,i3⟩;simp only at i0 i1 i2 i3;simp only [LN];by_cases hi:i<lost.length
  ·have ax:i.toNat<lost.length:=by omega
   have hn:=hl _ (List.getElem_mem ax);rw [Bm hi,D8 i0 hi];simp only [cond_true,Option.bind_some];rw [D8 hn.1 (by omega),Option.bind_some,AA (by omega)]
   refine ⟨_,rfl,⟨by simp only;omega,by simp only;omega,by simp only;rw [List.length_set];exact i2,fun k hk=> ?_⟩,by simp only;omega⟩
   simp only;rw [show (i+1).toNat=i.toNat+1 by omega,List.take_succ_eq_append_getElem ax]
   have e2:EA (lost.take i.toNat ++ [lost[i.toNat]]) (k:Int)=(EA (lost.take i.toNat) (k:Int)||decide ((k:Int)=lost[i.toNat])):=by
    rw [Bool.eq_iff_iff,Bool.or_eq_true,Hb,Hb,List.mem_append,List.mem_singleton,decide_eq_true_eq]
   rw [e2,←Bool.or_assoc,←i3 k hk];simp only [List.getD_eq_getElem?_getD,List.getElem?_set];by_cases e3:lost[i.toNat].toNat=k
   ·rw [if_pos e3,if_pos (by omega),Bm (show (k:Int)=lost[i.toNat] by omega)];simp
   ·rw [if_neg e3,D_ (show¬(k:Int)=lost[i.toNat] by omega)];simp
  ·rw [D_ hi];rw [List.take_of_length_le (by omega)] at i3
   exact ⟨_,rfl,i2,i3⟩) (e,0) ⟨by simp,by simp,he,fun k hk=>by simp [EA]⟩
 exact ⟨r,e1,r1,r2⟩
theorem Z5 {l:List Int} {N:Nat} (FM:N≤60) (hl:l.length≤60) (hc:Jl l (N:Int)) {s0:EB} (I0:PI (N:Int) [] s0 []):
 ∃y,eM (LO l) (List.replicate N false,0,s0.Next,s0.Es,s0.Ep)=some y∧(match Ge l s0 [] with|some (_,o)=> ∃e,y= .next e∧e.length=N∧ ∀k:Nat,k<N→e.getD k false=EA o (k:Int)|none=>y= .done ([],false)):=by
 generalize hQ:Ge l s0 []=Q;refine wR (f:=LO l) (fun x:List Bool×Int×Int×List Span×List Int=>l.length-x.2.1.toNat) (fun x=>0≤x.2.1∧x.2.1≤l.length∧ ∃out:List Int,x.1.length=N∧(∀k:Nat,k<N→x.1.getD k false=EA out (k:Int))∧PI (N:Int) (l.take x.2.1.toNat) ⟨x.2.2.1,x.2.2.2.1,x.2.2.2.2⟩ out∧Ge (l.drop x.2.1.toNat) ⟨x.2.2.1,x.2.2.2.1,x.2.2.2.2⟩ out=Q) _ ?_ _ ⟨by simp,by simp,[],by simp,fun k hk=>by simp [EA,List.getD_eq_getElem?_getD,hk],I0,hQ⟩
 rintro ⟨ev,i,Fk,hd,ls⟩ ⟨i0,i1,out,i2,i5,i3,i4⟩;simp only at i0 i1 i2 i3 i4 i5;simp only [LO];obtain ⟨g1,g2⟩:=i3.g.lens;simp only at g1 g2;by_cases hi:i<l.length
 ·have ax:i.toNat<l.length:=by omega
  have hn:=hc.mem _ (List.getElem_mem ax);rw [List.drop_eq_getElem_cons ax] at i4;have KK:HV (E2 l[i.toNat]) Fk:=by have:=i3.Fk;simp only at this;rw [this];exact Tb hn (by omega)
  rw [Bm hi,D8 i0 hi];simp only [cond_true,Option.bind_some];rw [AA (x:=l[i.toNat]+1) (by omega)]
  rw [show ([(⟨l[i.toNat],l[i.toNat]+1⟩:Span)]:List Span)=E2 l[i.toNat] from rfl,ZJ i3.g KK];simp only [Option.bind_some];rw [Tf] at i4;by_cases HW:(Fi ⟨Fk,hd,ls⟩ (E2 l[i.toNat])).length≤20
  ·have hF:FQ ⟨Fk,hd,ls⟩ (E2 l[i.toNat])=(⟨Fk,Fi ⟨Fk,hd,ls⟩ (E2 l[i.toNat]),IM ⟨Fk,hd,ls⟩ (Fi ⟨Fk,hd,ls⟩ (E2 l[i.toNat]))⟩,Qp ⟨Fk,hd,ls⟩ (Fi ⟨Fk,hd,ls⟩ (E2 l[i.toNat])),F9 ⟨Fk,hd,ls⟩ (Fi ⟨Fk,hd,ls⟩ (E2 l[i.toNat])),true):=by
    unfold FQ;rw [if_pos (by simp only [Bool.and_eq_true,decide_eq_true_eq];exact ⟨Qm.2 i3.g,Qn.2 KK,HW⟩)]
   obtain ⟨I',hlen⟩:=i3.step (fun x hx=>hc.mem x (List.mem_of_mem_take hx)) hn (Qt hc.nd ax) (by rw [hF])
   rw [hF] at I' hlen
   simp only [hF,if_true] at i4;simp only at I' hlen
   rw [Bm HW];simp only [Bool.not_true,cond_false];obtain ⟨e',e1,e2,e3⟩:=Z4 (N:=N) (fun x hx=>(I'.OI x (List.mem_append_right _ hx)).1) hlen ev i2;rw [e1,Option.bind_some,AA (by omega)]
   refine ⟨_,rfl,⟨by simp only;omega,by simp only;omega,out ++ F9 ⟨Fk,hd,ls⟩ (Fi ⟨Fk,hd,ls⟩ (E2 l[i.toNat])),e2,fun k hk=> ?_,?_,?_⟩,by simp only;omega⟩
   ·rw [e3 k hk,i5 k hk,Bool.eq_iff_iff,Bool.or_eq_true,Hb,Hb,Hb,List.mem_append]
   ·simp only;rw [show (i+1).toNat=i.toNat+1 by omega,List.take_succ_eq_append_getElem ax]
    exact I'
   ·simp only;rw [show (i+1).toNat=i.toNat+1 by omega]
    exact i4
  ·have hF:(FQ ⟨Fk,hd,ls⟩ (E2 l[i.toNat])).2.2.2=false:=by
    unfold FQ;rw [if_neg (by simp only [Bool.and_eq_true,decide_eq_true_eq];exact fun h=>HW h.2.2)]
   rw [hF] at i4;rw [D_ HW];simp only [Bool.not_false,cond_true];refine ⟨_,rfl,?_⟩;rw [←i4];rfl
 ·rw [D_ hi];rw [List.drop_eq_nil_of_le (by omega)] at i4
  refine ⟨_,rfl,?_⟩;rw [←i4];exact ⟨ev,rfl,i2,i5⟩
noncomputable def IP (N:Int) (l:List Int):List Int×Bool:=
 if GV N 0 60&&Hc l N then (match Ge l ⟨N,[],[]⟩ [] with|some (_,o)=>(FJ N (EA o),true)|none=>([],false)) else ([],false)
theorem Tg {N:Int} (FM:0≤N∧N≤60):PI N [] ⟨N,[],[]⟩ []:=by
 refine ⟨⟨FM,⟨⟨by simp,by simp,by simp⟩,fun m h=>absurd h (Hs m)⟩,.nil,by simp⟩,rfl,fun n=>by simp [Hs],fun x=> ?_,by simp,by simp⟩
 simp only [List.not_mem_nil,not_false_eq_true,true_and,false_iff];rintro ⟨h1,h2⟩;have:(Fp []).2= -1:=rfl;omega
theorem Th {N:Int} {l:List Int} (hl:l.length≤60) (FM: -1000≤N∧N≤1000):Lr N l=some (IP N l)∧LQ N l=some (IP N l):=by
 unfold Lr LQ IP Nh Nw;rw [Oy,SE];cases e1:GV N 0 60
 ·exact ⟨rfl,rfl⟩
 ·have Nb:=Jj.1 e1
  simp only [Option.bind_some,Bool.not_true,cond_false];rw [Qu (by omega) (by omega),Qv (by omega) (by omega)]
  simp only [Option.bind_some];cases e2:Hc l N
  ·exact ⟨rfl,rfl⟩
  ·have hc:=IN.1 e2;obtain ⟨n,rfl⟩:=Int.eq_ofNat_of_zero_le Nb.1;simp only [Bool.not_true,cond_false,Bool.and_self,if_true];have I0:=Tg Nb;have k1:=Z3 Nb hl hc I0
   obtain ⟨y,k2,k3⟩:=Z5 (N:=n) (by omega) hl hc I0
   simp only at k1 k2;rw [k1];have hP:=fun s' o e=>Qx l [] _ [] I0 (by simpa using hc.mem) (by simpa using hc.nd) s' o e
   revert k3 hP;cases hp:Ge l ⟨(n:Int),[],[]⟩ [] with
   |none=>
    intro k3 hP;simp only at k3;subst k3;refine ⟨rfl,?_⟩;rw [D4 (by omega) (by omega)]
    simp only [Option.bind_some];rw [k2];rfl
   |some Qz=>
    obtain ⟨s',o⟩:=Qz;intro k3 hP;have I:=hP s' o rfl
    simp only at k3;obtain ⟨ev,rfl,v1,v2⟩:=k3;have Qs: ∀x∈o,0≤x∧x<(n:Int):=fun x hx=>(I.OI x hx).1;constructor
    ·simp only [Option.bind_some];have BS:o.length<1152921504606846976:=by
      have key: ∀(r:List Int) (s:EB) (out:List Int),s.Next≤60→ ∀s' o,Ge r s out=some (s',o)→o.length≤out.length+60*r.length:=by
       intro r;induction r with
       |nil=>intro s out _ s' o e;simp only [Ge,Option.some.injEq,Prod.mk.injEq] at e;rw [←e.2];simp
       |cons m r ih=>
        intro s out hs s' o e
        unfold Ge at e;split at e
        ·rename_i af;have:=ih _ _ (by rw [Z2 af];exact hs) s' o e
         have hlen:(FQ s (E2 m)).2.2.1.length≤60:=by
          unfold FQ;split
          ·have:=IL s.Next fun n=> !hb (Fi s (E2 m)) n&&(!EA s.Ep n&&decide (n+3≤Fh (Fi s (E2 m))));show (F9 s (Fi s (E2 m))).length≤60;unfold F9;omega
          ·simp
         simp only [List.length_append,List.length_cons] at this⊢;omega
        ·simp at e
      have:=key l _ [] (by simp only;omega) s' o hp
      simp at this;omega
     rw [←Option.bind_assoc,Zq (rs:=FJ (n:Int) (EA o)) BS (J0 _ _) (fun x=>by
      rw [HU,Hb];exact ⟨fun h=>h.2,fun h=>⟨Qs x h,h⟩⟩)]
     rfl
    ·rw [D4 (by omega) (by omega)]
     simp only [Option.bind_some];rw [k2];simp only [Option.bind_some];rw [OD (N:=(n:Int)) (p:=EA o) (by omega) (by omega) (fun x k k0 k1 hx=>by
      simp only [NA];have hg:ev[k.toNat]'(by omega)=EA o k:=by
       have:=v2 k.toNat (by omega)
       rw [List.getD_eq_getElem?_getD,List.getElem?_eq_getElem (by omega),show ((k.toNat:Nat):Int)=k by omega] at this
       exact this
      rw [Bm (by omega),D8 k0 (by omega),hg]
      simp only [cond_true,Option.bind_some];rw [M9 hx,AA (by omega)]
      rfl) (fun x=>by simp only [NA];rw [D_ (by omega)];rfl)]
     rfl
def FU (l:List Int):List Span:=l.map fun n=>⟨n,n+1⟩
noncomputable def IQ (l:List Int):List Span×Bool:=if Hc l 60 then tell ((FU l).foldl FC []) else ([],false)
theorem Ti (a:List Int) (n:Int):FU (a ++ [n])=FU a ++ [⟨n,n+1⟩]:=by simp only [FU,List.map_append,List.map_cons,List.map_nil]
theorem Z6 {l:List Int} {n:Int}:hs (FU l) n↔n∈l:=by
 constructor
 ·rintro ⟨x,hx,h1,h2⟩;obtain ⟨m,hm,rfl⟩:=List.mem_map.1 hx;simp only at h1 h2;rw [show n=m by omega];exact hm
 ·intro h;exact ⟨_,List.mem_map.2 ⟨n,h,rfl⟩,by simp only;omega,by simp only;omega⟩
theorem Tj {l:List Int} (hl:l.length≤60):L3 l=some (IQ l)∧L6 l=some (IQ l):=by
 unfold L3 L6 IQ;rw [Qu (by omega) (by omega),Qv (by omega) (by omega)]
 cases c:Hc l 60
 ·exact ⟨rfl,rfl⟩
 ·have g:=IN.1 c;simp only [Option.bind_some,Bool.not_true,cond_false,if_true];have hb: ∀x∈FU l,0≤x.Em∧x.Em<x.To∧x.To≤1000000:=fun x hx=>by
   obtain ⟨m,hm,rfl⟩:=List.mem_map.1 hx;have:=g.mem m hm;simp only;omega
  have hlen:(FU l).length=l.length:=by simp [FU]
  obtain ⟨f1,f2⟩:=fold_add (FU l) [] (by simp [EY]) (fun x hx=>(hb x hx).2.1)
  constructor
  ·have key:eM (NF l) ([],0)=some (FU l):=by
    refine D3 (fun x:List Span×Int=>l.length-x.2.toNat) (fun x=>0≤x.2∧x.2≤l.length∧x.1=FU (l.take x.2.toNat)) _ ?_ _ ⟨by simp,by simp,by simp [FU]⟩
    rintro ⟨x,i⟩ ⟨i0,i1,i2⟩;simp only at i0 i1 i2;simp only [NF];by_cases hi:i<l.length
    ·have ax:i.toNat<l.length:=by omega
     have hn:=g.mem _ (List.getElem_mem ax);have cu:x.length≤60:=by rw [i2];simp only [FU,List.length_map,List.length_take];omega
     rw [Bm hi,D8 i0 hi];simp only [cond_true,Option.bind_some];rw [AA (x:=l[i.toNat]+1) (by omega),D5 (by simp only [List.length_cons,List.length_nil];omega) (by omega),Option.bind_some,AA (by omega)]
     refine ⟨_,rfl,⟨by simp only;omega,by simp only;omega,?_⟩,by simp only;omega⟩
     simp only;rw [show (i+1).toNat=i.toNat+1 by omega,List.take_succ_eq_append_getElem ax,i2,Ti]
    ·rw [D_ hi];rw [List.take_of_length_le (by omega)] at i2
     exact ⟨_,rfl,i2⟩
   rw [key,Option.bind_some];obtain ⟨j,e1,c1,c2⟩:=SN (l:=FU l) (by omega) hb
   have M5:j=(FU l).foldl FC []:=EY.gJ c1 f1 fun n=>by rw [c2,f2];simp [Hs]
   rw [e1,Option.bind_some,S0,M5];rfl
  ·have key:eM (NG l) ([],0)=some ((FU l).foldl FC []):=by
    refine D3 (fun x:List Span×Int=>l.length-x.2.toNat) (fun x=>0≤x.2∧x.2≤l.length∧x.1=(FU (l.take x.2.toNat)).foldl FC []) _ ?_ _ ⟨by simp,by simp,by simp [FU]⟩
    rintro ⟨x,i⟩ ⟨i0,i1,i2⟩;simp only at i0 i1 i2;simp only [NG];by_cases hi:i<l.length
    ·have ax:i.toNat<l.length:=by omega
     have hn:=g.mem _ (List.getElem_mem ax);have cu:x.length≤60:=by
      rw [i2];have:=Qr (FU (l.take i.toNat)) [];simp only [FU,List.length_map,List.length_take,List.length_nil] at this⊢;omega
     rw [Bm hi,D8 i0 hi];simp only [cond_true,Option.bind_some];rw [AA (x:=l[i.toNat]+1) (by omega),SU (by omega),Option.bind_some,AA (by omega)]
     refine ⟨_,rfl,⟨by simp only;omega,by simp only;omega,?_⟩,by simp only;omega⟩
     simp only;rw [show (i+1).toNat=i.toNat+1 by omega,List.take_succ_eq_append_getElem ax,i2,Ti,List.foldl_append];rfl
    ·rw [D_ hi];rw [List.take_of_length_le (by omega)] at i2
     exact ⟨_,rfl,i2⟩
   rw [key,Option.bind_some,Zi];rfl
theorem Tk: ∀{l:List Int} {N:Nat},l.Nodup→(∀x∈l,0≤x∧x<N)→Gp (fun n=>EA l n) N=l.length
 |[],N,_,_=>by rw [OB (fun n=>by simp [EA])];rfl
 |a::l,N,hn,hm=>by
  obtain ⟨h1,h2⟩:=List.nodup_cons.1 hn;have ih:=Tk (l:=l) (N:=N) h2 fun x hx=>hm x (by simp [hx])
  have ha:=hm a (by simp)
  have e1:(fun n=>EA (a::l) n)=fun n=>ES n ⟨a,a+1⟩||EA l n:=by
   funext n
   rw [Bool.eq_iff_iff,Bool.or_eq_true,Hb,Hb,List.mem_cons];simp only [ES,Bool.and_eq_true,decide_eq_true_eq];constructor
   ·rintro (h|h)
    ·left;omega
    ·exact .inr h
   ·rintro (h|h)
    ·left;omega
    ·exact .inr h
  have e2:=SV (fun n=>ES n ⟨a,a+1⟩) (fun n=>EA l n) N;have e3:Gp (fun n=>ES n ⟨a,a+1⟩&&EA l n) N=0:=OB (fun n=>by
   rw [Bool.eq_false_iff];intro h;simp only [ES,Bool.and_eq_true,decide_eq_true_eq,Hb] at h;have:n=a:=by omega
   subst this;exact h1 h.2) N
  have e4:=SX ⟨a,a+1⟩ ha.1 (by simp only;omega) N
  simp only at e4;rw [e1];have e5:Gp (fun n=>ES n ⟨a,a+1⟩) N=1:=by
   split at e4
   ·omega
   ·split at e4
    ·omega
    ·omega
  rw [List.length_cons];omega
theorem Z7 {l:List Int} (_hl:l.length≤60) {v:List Span} (h:IQ l=(v,true)):JC v=some ((l.length:Int),true):=by
 unfold IQ at h;split at h
 ·rename_i c;have g:=IN.1 c;obtain ⟨t1,t2⟩:=S1 h;have t2:=t2 rfl;have hb: ∀x∈FU l,x.Em<x.To:=fun x hx=>by
   obtain ⟨m,hm,rfl⟩:=List.mem_map.1 hx;simp only;omega
  obtain ⟨f1,f2⟩:=fold_add (FU l) [] (by simp [EY]) hb
  rw [←t2] at f1 f2;have hh: ∀n,hs v n↔n∈l:=fun n=>by rw [f2,Z6];simp [Hs]
  have kU:HI v:=f1.SO (fun n hn=>by have:=g.mem n ((hh n).1 hn);omega) t1
  rw [Y3 (by omega),JZ.2 kU]
  simp only [if_true];have hw:=kU.IJ.1;have e:(fun n=>v.any (ES n))=fun n=>EA l n:=by
   funext n
   rw [Bool.eq_iff_iff,M2,hh,Hb]
  rw [e,Tk g.nd (fun x hx=>by have:=g.mem x hx;omega)] at hw
  rw [hw]
 ·simp at h
theorem Tl {c:EW} {b n:Int} (h:Fw c b) (hb:b≤1000000000000000000) (hn:0≤n∧n≤60):db (J8 c n) fun r=>(r.1.length:Int)≤n∧Fw r.2 (b+400):=by
 unfold J8;refine db.then (P:=fun r=>(r.1.length:Int)≤n∧Fw ⟨r.2.1,r.2.2.1,r.2.2.2⟩ (b+200)) ?_ ?_
 ·refine db.eM (fun x=>n.toNat-x.2.1.toNat) (fun x=>0≤x.2.1∧x.2.1≤n∧(x.1.length:Int)≤x.2.1∧Fw ⟨x.2.2.1,x.2.2.2.1,x.2.2.2.2⟩ (b+2*x.2.1)) ?_ ⟨by simp,by simp only;omega,by simp,h.mono (by simp)⟩
  rintro ⟨l,i,C,A,S⟩ ⟨i0,i1,i2,i3⟩;dsimp only at i0 i1 i2 i3;unfold OK;dsimp only;refine db.D7 (fun hc=> ?_) (fun hc=> ?_)
  ·have hm:i<n:=by simpa using hc
   refine db.then (P:=fun r=>(r.1.length:Int)≤i+1∧Fw ⟨r.2.1,r.2.2.1,r.2.2.2⟩ (b+2*i+2)) ?_ ?_
   ·refine db.then (Qc i3 (by omega)) ?_
    rintro ⟨v,c_v⟩ Tm;dsimp only at Tm⊢;refine db.then (P:=fun r=>(r.length:Int)≤i+1) ?_ (fun r hr=> .ret ⟨hr,Tm.eta⟩);cases v
    ·simp only [Bool.not_false,cond_true];rw [D5 (by simp only [List.length_cons,List.length_nil];omega) (by omega),Option.bind_some]
     exact .ret (by simp only [List.length_append,List.length_cons,List.length_nil];omega)
    ·exact .ret (by omega)
   rintro ⟨l',C,A,S⟩ ⟨q1,q2⟩;dsimp only at q1 q2⊢;rw [AA (x:=i+1) (by omega)]
   exact .ret ⟨⟨(by first|omega|(dsimp only;omega)),(by first|omega|(dsimp only;omega)),q1,q2.mono (by dsimp only;omega)⟩,(by first|omega|(dsimp only;omega))⟩
  ·exact .ret ⟨(by first|omega|(dsimp only;omega)),i3.mono (by first|omega|(dsimp only;omega))⟩
 rintro ⟨l,C,A,S⟩ ⟨l1,IS⟩;dsimp only at l1 IS⊢;refine db.then (ug (by assumption) (by omega)) ?_
 rintro ⟨y,Tn⟩ ⟨J3,Jm,Jn⟩;dsimp only at J3 Jm Jn⊢;have hy:=Jm (by omega)
 refine db.then (P:=fun r=>(r.1.length:Int)≤n∧Fw ⟨r.2.1,r.2.2.1,r.2.2.2⟩ (b+300)) ?_ ?_
 ·refine db.eM (fun x=>x.2.1.toNat) (fun x=>0≤x.2.1∧x.2.1≤8∧(x.1.length:Int)≤n∧Fw ⟨x.2.2.1,x.2.2.2.1,x.2.2.2.2⟩ (b+202+4*(8-x.2.1))) ?_ ⟨J3,by simp only;omega,l1,Jn.eta.mono (by simp only;omega)⟩
  rintro ⟨l,i,C,A,S⟩ ⟨i0,i1,i2,i3⟩;dsimp only at i0 i1 i2 i3;unfold OL;dsimp only;refine db.then (P:=fun r=>r=true→0<i∧1<(l.length:Int)) ?_ ?_
  ·refine db.D7 (fun hc=> ?_) (fun hc=> ?_)
   ·exact .ret fun h=>⟨by simpa using hc,by simpa using h⟩
   ·exact .ret fun h=>by simp at h
  intro t ht;refine db.D7 (fun hc=> ?_) (fun hc=> ?_)
  ·obtain ⟨t1,t2⟩:=ht hc;rw [AA (x:=(l.length:Int)-1) (by omega)]
   refine db.then (ug i3 (by omega)) ?_
   rintro ⟨p,c_p⟩ ⟨Tp,Tq,Ts⟩;dsimp only at Tp Tq Ts⊢;have hp:=Tq (by omega)
   refine db.then (ug Ts (by omega)) ?_
   rintro ⟨q,c_q⟩ ⟨Z8,Tt,q_c⟩;dsimp only at Z8 Tt q_c⊢;have hq:=Tt (by omega)
   rw [AA (x:=p+1) (by omega),AA (x:=p+1+q) (by omega),SP,Option.bind_some]
   have hj:0≤(if (l.length:Int)-1<p+1+q then (l.length:Int)-1 else p+1+q)∧(if (l.length:Int)-1<p+1+q then (l.length:Int)-1 else p+1+q)<l.length:=by split<;>omega
   revert hj;generalize (if (l.length:Int)-1<p+1+q then (l.length:Int)-1 else p+1+q)=j;intro hj;rw [D8 Tp (by omega),Option.bind_some,D8 hj.1 hj.2,Option.bind_some,Option.bind_some,D8 (l:=l.set _ _) hj.1 (by rw [List.length_set];exact hj.2),Option.bind_some,AA (x:=i-1) (by omega)]
   exact .ret ⟨⟨(by first|omega|(dsimp only;omega)),(by first|omega|(dsimp only;omega)),by dsimp only;rw [List.length_set,List.length_set];exact i2,q_c.eta.mono (by dsimp only;omega)⟩,(by first|omega|(dsimp only;omega))⟩
  ·exact .ret ⟨i2,i3.mono (by first|omega|(dsimp only;omega))⟩
 rintro ⟨l,C,A,S⟩ ⟨l1,IS⟩;dsimp only at l1 IS⊢;refine db.then (P:=fun r=>(r.1=true→0<l.length)∧Fw ⟨r.2.1,r.2.2.1,r.2.2.2⟩ (b+302)) ?_ ?_
 ·refine db.D7 (fun hc=> ?_) (fun hc=> ?_)
  ·refine db.then (Qc (by assumption) (by omega)) ?_
   rintro ⟨z,Z9⟩ Nc;dsimp only at Nc⊢;exact .ret ⟨fun _=>by simpa using hc,Nc.eta.mono (by omega)⟩
  ·exact .ret ⟨fun h=>by simp at h,IS.mono (by omega)⟩
 rintro ⟨t,C,A,S⟩ ⟨ht,IS⟩;dsimp only at ht IS⊢;refine db.then (P:=fun r=>(r.1.length:Int)≤n∧Fw ⟨r.2.1,r.2.2.1,r.2.2.2⟩ (b+304)) ?_ ?_
 ·refine db.D7 (fun hc=> ?_) (fun hc=> ?_)
  ·have h0:=ht hc;rw [AA (by omega),D8 (by omega) (by omega),Option.bind_some]
   refine db.then (YX (by assumption) (by omega) (by simp)) ?_
   rintro ⟨z,Z9⟩ ⟨Z_,Nc⟩;dsimp only at Z_ Nc⊢;rw [D8 (by omega) (by omega),Option.bind_some]
   exact .ret ⟨by dsimp only;rw [List.length_set];exact l1,Nc.eta.mono (by omega)⟩
  ·exact .ret ⟨l1,IS.mono (by omega)⟩
 rintro ⟨l,C,A,S⟩ ⟨l1,IS⟩;exact .ret ⟨l1,IS.mono (by omega)⟩
theorem aac {a:List Int} (hl:a.length≤1048576) (hb: ∀x∈a,0≤x∧x≤255):db (KS a) fun r=>(0≤r.1∧r.1≤20)∧r.2.length≤16:=by
 unfold KS;refine db.then (ug (SI hl hb) (by omega)) ?_
 rintro ⟨x,c_x⟩ ⟨Tu,Tv,OJ⟩;dsimp only at Tu Tv OJ⊢;have hx:=Tv (by omega)
 refine db.then (ug (by assumption) (by omega)) ?_
 rintro ⟨y,Tn⟩ ⟨J3,Jm,Jn⟩;dsimp only at J3 Jm Jn⊢;have hy:=Jm (by omega)
 refine db.then (Tl Jn (by omega) ⟨Tu,by omega⟩) ?_
 rintro ⟨l,c⟩ ⟨l1,_⟩;dsimp only at l1⊢;exact .ret ⟨by rw [AA (by omega)];omega,by dsimp only;omega⟩
theorem aad {a:List Int} (hl:a.length≤1048576) (hb: ∀x∈a,0≤x∧x≤255):db (LX a) fun r=>r.length≤21:=by
 unfold LX;refine db.then (Qc (SI hl hb) (by omega)) ?_
 rintro ⟨x,c_x⟩ OJ;dsimp only at OJ⊢;refine db.D7 (fun hc=> ?_) (fun hc=> ?_)
 ·refine db.then (P:=fun r=>r.length≤21) ?_ (fun r hr=> .ret hr);refine db.eM (fun x=>50-x.2.toNat) (fun x=>0≤x.2∧(x.2≤42∧x.2 % 2=0)∧2*(x.1.length:Int)≤x.2) ?_ ⟨by simp,by simp,by simp⟩
  rintro ⟨l,i⟩ ⟨i0,i1,i2⟩;dsimp only at i0 i1 i2;unfold OY;dsimp only;refine db.D7 (fun hc=> ?_) (fun hc=> ?_)
  ·have hm:i<42:=by simpa using hc
   rw [D5 (by simp only [List.length_cons,List.length_nil];omega) (by omega),Option.bind_some,AA (by omega)]
   exact .ret ⟨⟨(by first|omega|(dsimp only;omega)),(by first|omega|(dsimp only;omega)),by simp only [List.length_append,List.length_cons,List.length_nil];omega⟩,(by first|omega|(dsimp only;omega))⟩
  ·exact .ret (by omega)
 ·refine db.then (ug OJ (by omega)) ?_
  rintro ⟨y,Tn⟩ ⟨J3,Jm,Jn⟩;dsimp only at J3 Jm Jn⊢;have hy:=Jm (by omega)
  refine db.then (Tl Jn (by omega) ⟨J3,by omega⟩) ?_
  rintro ⟨l,c⟩ ⟨l1,_⟩;dsimp only at l1⊢;exact .ret (by omega)
theorem QA {N:Int} {l o:List Int} (h:IP N l=(o,true)):(0≤N∧N≤60)∧Jl l N∧ ∃s o',PI N l s o' ∧o=FJ N (EA o'):=by
 unfold IP at h;split at h
 ·rename_i c;simp only [Bool.and_eq_true,Jj] at c;have hc:=IN.1 c.2;revert h;cases hp:Ge l ⟨N,[],[]⟩ [] with
  |none=>intro h;simp at h
  |some Qz=>
   obtain ⟨s',o'⟩:=Qz;intro h;simp only [Prod.mk.injEq,and_true] at h;exact ⟨c.1,hc,s',o',Qx l [] _ [] (Tg c.1) (by simpa using hc.mem) (by simpa using hc.nd) s' o' hp,h.symm⟩
 ·simp at h
theorem aae {N:Int} {l o:List Int} (hl:l.length≤60) (h:IP N l=(o,true)) (d:Int) (hd:d=(Fp l).1):
 ((eM (L_ l o d) (0)).bind fun y=>match y with|LR.next ()=>((eM (Mb l) (-1,0)).bind fun Hh=>(eM (Md l o Hh) (0)).bind fun y=>match y with|LR.next ()=>some (LR.next ())|LR.done z=>some z)|LR.done z=>some z)=some (LR.next ():LR Unit Bool):=by
 obtain ⟨FM,hc,s,o',I,ho⟩:=QA h;have BS:o.length≤60:=by rw [ho];exact Nat.le_trans (IL _ _) (by omega)
 have Tw: ∀x,x∈o↔(0≤x∧x<N)∧x∈o' :=fun x=>by rw [ho,HU,Hb]
 have li: ∀(z:List Int) (x:Int),z.any (· ==x)=EA z x:=fun z x=>by
  rw [Bool.eq_iff_iff,Hb];simp
 have k0:eM (L_ l o d) 0=some (.next ()):=by
  refine D3 (fun i:Int=>o.length-i.toNat) (fun i=>0≤i∧i≤o.length) _ ?_ _ ⟨by omega,by omega⟩
  rintro i ⟨i0,i1⟩;simp only [L_];by_cases hi:i<o.length
  ·have ax:i.toNat<o.length:=by omega
   have hm:=(Tw _).1 (List.getElem_mem ax);rw [Bm hi,D8 i0 hi];simp only [cond_true,Option.bind_some];rw [Qy (by omega),li,AA (by omega)]
   by_cases yI:d<3
   ·rw [Bm yI];have:EA l o[i.toNat]=false:=by
     simp only [EA,decide_eq_false_iff_not];intro hx;rcases (I.OI _ hm.2).2 with h2|h2
     ·exact h2.1 hx
     ·omega
    rw [this];exact ⟨_,rfl,⟨by omega,by omega⟩,by omega⟩
   ·rw [D_ yI];exact ⟨_,rfl,⟨by omega,by omega⟩,by omega⟩
  ·rw [D_ hi];exact ⟨_,rfl,rfl⟩
 have k1:eM (Mb l) (-1,0)=some (Fp l).2:=by
  refine D3 (fun x:Int×Int=>l.length-x.2.toNat) (fun x=>0≤x.2∧x.2≤l.length∧x.1=(Fp (l.take x.2.toNat)).2) _ ?_ _ ⟨by simp,by simp,rfl⟩
  rintro ⟨t,i⟩ ⟨i0,i1,i2⟩;simp only at i0 i1 i2;simp only [Mb];by_cases hi:i<l.length
  ·have ax:i.toNat<l.length:=by omega
   have hs:=Qw ax;rw [Bm hi,D8 i0 hi];simp only [cond_true,Option.bind_some];rw [AA (x:=i+1) (by omega)]
   refine ⟨.next (max t l[i.toNat],i+1),?_,⟨by simp only;omega,by simp only;omega,?_⟩,by simp only;omega⟩
   ·by_cases gW:t<l[i.toNat]
    ·rw [Bm gW,show max t l[i.toNat]=l[i.toNat] by omega];rfl
    ·rw [D_ gW,show max t l[i.toNat]=t by omega];rfl
   ·simp only;rw [show (i+1).toNat=i.toNat+1 by omega,hs,i2];rfl
  ·rw [D_ hi];refine ⟨_,rfl,?_⟩;rw [List.take_of_length_le (by omega)] at i2
   exact i2
 have cA:=OH (N:=N) l (0,-1) (by simp<;>omega) (by simp<;>omega) hc.mem
 have el:l.foldl Fy (0,-1)=Fp l:=rfl;rw [el] at cA;have k2:eM (Md l o (Fp l).2) 0=some (.next ()):=by
  refine D3 (fun i:Int=>100-i.toNat) (fun i=>0≤i∧i≤70) _ ?_ _ ⟨by omega,by omega⟩
  rintro i ⟨i0,i1⟩;simp only [Md];rw [AA (x:=i+3) (by omega)]
  by_cases hi:i+3≤(Fp l).2
  ·rw [Bm hi,cond_true,Qy (by omega),Qy (by omega),li,li]
   simp only [Option.bind_some];rw [AA (by omega)]
   refine ⟨.next (i+1),?_,⟨by omega,by omega⟩,by omega⟩
   by_cases hx:i∈l
   ·rw [show EA l i=true from Hb.2 hx];rfl
   ·have:EA o i=true:=Hb.2 ((Tw i).2 ⟨⟨i0,by omega⟩,I.all i ((I.lost i).2 ⟨⟨i0,by omega⟩,hx,hi⟩)⟩)
    rw [show EA l i=false by simpa [EA] using hx,this];rfl
  ·rw [D_ hi];exact ⟨_,rfl,rfl⟩
 rw [k0];simp only [Option.bind_some];rw [k1];simp only [Option.bind_some];rw [k2];rfl
theorem aaf (a b:List Int) (ha:a.length<2^47) (hb:b.length<2^47) (aag: ∀x∈a,0≤x∧x≤255) (aah: ∀x∈b,0≤x∧x≤255):Mf a b=some true:=by
 unfold Mf;rw [AA (by omega)]
 by_cases hlen:1048576<(a.length:Int)+b.length
 ·rw [Bm hlen];rfl
 ·rw [D_ hlen,cond_false];obtain ⟨⟨N,l⟩,e1,FM,l1⟩:=aac (a:=a) (by omega) aag
  obtain ⟨q,e2,l2⟩:=aad (a:=b) (by omega) aah
  simp only at FM l1;rw [e1,e2];simp only [Option.bind_some];rw [(Th (by omega) (by omega)).1,(Th (by omega) (by omega)).2,ZW (by omega),ZX (by omega),(Tj (by omega)).1,(Tj (by omega)).2]
  simp only [Option.bind_some];have hso: ∀o c,IP N l=(o,c)→o.length≤60:=fun o c h=>by
   cases c
   ·have:o=[]:=by
     unfold IP at h;split at h
     ·split at h
      ·simp at h
      ·simp at h;exact h
     ·simp at h;exact h
    rw [this];simp
   ·obtain ⟨Nb,_,s,o',_,ho⟩:=QA h;rw [ho];exact Nat.le_trans (IL _ _) (by omega)
  have hsa: ∀v c,IQ q=(v,c)→v.length≤20:=fun v c h=>by
   unfold IQ at h;split at h
   ·exact (S1 h).1
   ·simp at h;rw [h.1];simp
  have tail: ∀(v:List Span) (c:Bool),IQ q=(v,c)→(((Ko v v).bind fun aai=>some ((!aai))).bind fun aaj=>(bif aaj then some false else (bif c then (JC v).bind fun x=>(bif x.2 then some (x.1==(q.length:Int)) else some false) else some true)))=some true:=fun v c h=>by
   rw [Zh (by have:=hsa v c h;omega)]
   simp only [Bool.not_true,cond_false,Option.bind_some];cases c
   ·rfl
   ·rw [Z7 (by omega) h]
    simp
  rcases hE:IP N l with ⟨o,c⟩;rcases hA:IQ q with ⟨v,c2⟩;have ho:=hso o c hE;have tl:=tail v c2 hA;rw [Z1 (l:=o) (by omega)]
  simp only [beq_self_eq_true,Bool.not_true,cond_false,Option.bind_some];cases c
  ·cases Hc l 60
   ·simp only [Bool.false_eq_true,if_false,cond_false,bne_self_eq_false,Option.bind_some];exact tl
   ·simp only [if_true,Bool.not_true,cond_false,bne_self_eq_false,Option.bind_some];exact tl
  ·obtain ⟨Nb,gW,_⟩:=QA hE;have hcm:Hc l 60=true:=IN.2 ⟨fun x hx=>by have:=gW.mem x hx;omega,gW.nd⟩
   rw [hcm];simp only [if_true,Bool.not_true,cond_false,cond_true,bne_self_eq_false];exact (congrArg (fun o=>Option.bind o _) (aae (by omega) hE _ rfl)).trans tl
end Go.GB
