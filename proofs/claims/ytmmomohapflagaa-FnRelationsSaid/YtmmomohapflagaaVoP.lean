/-
  The plain law and all that it needs.
-/
import Derived.Test.YtmmomohapflagaaVoF
import Derived.Test.YtmmomohapflagaaVaF
import Derived.Test.YtmmomohapflagaaVaG
open Go Go.VS
namespace Go.EG
structure Dx (c:Df) (b:Int):Prop where
 len:c.Code.length≤1048576
 bytes: ∀x∈c.Code,0≤x∧x≤255
 lo:0≤c.At
 hi:c.At≤b
theorem Dx.mono {c:Df} {b d:Int} (h:Dx c b) (hd:b≤d):Dx c d:=⟨h.len,h.bytes,h.lo,by have:=h.hi;omega⟩
theorem M7 (k:Int):0≤zF .u64 k 255∧zF .u64 k 255≤255:=by
 have h:(BitVec.ofInt IntKind.u64.bits k&&&BitVec.ofInt IntKind.u64.bits 255).toNat≤255:=by
  rw [BitVec.toNat_and];exact Nat.and_le_right
 unfold zF;rw [IntWalk.u64_in _ (by omega)]
 omega
theorem JV {c:Df} {b:Int} (h:Dx c b) (hb:b≤4611686018427387904): ∃x d,FA c=some (x,d)∧(0≤x∧x≤255)∧Dx d (b+1):=by
 obtain ⟨h1,h2,h3,h4⟩:=h;unfold FA;rw [zP (x:=c.At+1) (by omega)]
 have e: ∃Dh,(bif (decide (c.At<(c.Code.length:Int))) then (idx c.Code c.At).bind fun El=>some ((IntKind.i64.wrap El)) else some (0))=some Dh∧0≤Dh∧Dh≤255:=by
  by_cases hc:c.At<c.Code.length
  ·rw [show decide (c.At<(c.Code.length:Int))=true by simpa using hc]
   obtain ⟨n,hn⟩:=Int.eq_ofNat_of_zero_le h3;rw [hn,wm (show n<c.Code.length by omega)]
   have:=h2 _ (List.getElem_mem (show n<c.Code.length by omega))
   simp only [cond_true,Option.bind_some];rw [zP (by omega)]
   exact ⟨_,rfl,this⟩
  ·rw [show decide (c.At<(c.Code.length:Int))=false by simpa using hc]
   exact ⟨0,rfl,by omega,by omega⟩
 obtain ⟨Dh,e1,e2⟩:=e;rw [e1,Option.bind_some];cases decide (c.At+1≤(c.Code.length:Int))
 ·refine ⟨_,_,rfl,?_,⟨h1,h2,by simp only;omega,by simp only;omega⟩⟩
  have:=M7 (uk .u64 (IntKind.u64.wrap ((IntKind.u64.wrap ((IntKind.u64.wrap (c.Du*6364136223846793005))+(IntKind.u64.wrap Dh)))+1442695040888963407)) 40);rw [zP (by omega)]
  exact this
 ·exact ⟨_,_,rfl,e2,⟨h1,h2,by simp only;omega,by simp only;omega⟩⟩
theorem JW {x n:Int} (hx:0≤x) (hn:1<n): ∃r,md x n=some r∧0≤r∧r<n:=by
 unfold md;rw [if_neg (by omega)]
 refine ⟨_,rfl,?_,?_⟩
 ·rw [Int.tmod_eq_emod_of_nonneg hx];exact Int.emod_nonneg _ (by omega)
 ·rw [Int.tmod_eq_emod_of_nonneg hx];exact Int.emod_lt_of_pos _ (by omega)
theorem IJ {c:Df} {b n:Int} (h:Dx c b) (hb:b≤4000000000000000000): ∃x d,DX c n=some (x,d)∧(0≤x∧(1≤n→x<n))∧Dx d (b+2):=by
 unfold DX;by_cases hn:n≤1
 ·rw [show decide (n≤1)=true by simpa using hn]
  exact ⟨0,c,rfl,⟨by omega,by omega⟩,h.mono (by omega)⟩
 ·rw [show decide (n≤1)=false by simpa using hn]
  obtain ⟨x,d,e1,e2,e3⟩:=JV h (by omega)
  simp only [cond_false];rw [e1,Option.bind_some];cases decide (200<n)
  ·simp only [cond_false,Option.bind_some];obtain ⟨r,r1,r2,r3⟩:=JW (x:=x) e2.1 (show 1<n by omega)
   rw [r1];exact ⟨r,_,rfl,⟨r2,fun _=>r3⟩,e3.mono (by omega)⟩
  ·simp only [cond_true];obtain ⟨y,d',f1,f2,f3⟩:=JV e3 (by omega)
   rw [f1];simp only [Option.bind_some];rw [zP (x:=x*256) (by omega),zP (by omega)]
   obtain ⟨r,r1,r2,r3⟩:=JW (x:=x*256+y) (by omega) (show 1<n by omega)
   rw [r1];exact ⟨r,_,rfl,⟨r2,fun _=>r3⟩,f3.mono (by omega)⟩
theorem M8 {c:Df} {b n:Int} (h:Dx c b) (hb:b≤4000000000000000000): ∃x d,EO c n=some (x,d)∧Dx d (b+2):=by
 obtain ⟨x,d,e1,_,e3⟩:=IJ (n:=n) h hb;unfold EO;rw [e1];exact ⟨_,_,rfl,e3⟩
theorem M9 {c:Df} {b:Int} {l:List Int} (h:Dx c b) (hb:b≤4000000000000000000) (hl:l≠[]): ∃x d,Fe c l=some (x,d)∧x∈l∧Dx d (b+2):=by
 obtain ⟨x,d,e1,e2,e3⟩:=IJ (n:=(l.length:Int)) h hb;have cW:1≤l.length:=by cases l with|nil=>exact absurd rfl hl|cons _ _=>simp
 unfold Fe;rw [e1];obtain ⟨n,rfl⟩:=Int.eq_ofNat_of_zero_le e2.1;have hn:n<l.length:=by have:=e2.2 (by omega);omega
 simp only [Option.bind_some];rw [wm hn];exact ⟨_,_,rfl,List.getElem_mem hn,e3⟩
theorem JX {l:List Int} (hl:l.length≤1048576) (hb: ∀x∈l,0≤x∧x≤255):Dx ⟨l,0,0⟩ 0:=⟨hl,hb,by simp,by simp⟩
theorem tE {c:Df} {b n:Int} (h:Dx c b) (hb:b≤4000000000000000000):c9 (DX c n) fun r=>0≤r.1∧(1≤n→r.1<n)∧Dx r.2 (b+2):=by
 obtain ⟨x,d,e,⟨h1,h2⟩,h3⟩:=IJ (n:=n) h hb;exact ⟨_,e,h1,h2,h3⟩
theorem HP {c:Df} {b n:Int} (h:Dx c b) (hb:b≤4000000000000000000):c9 (EO c n) fun r=>Dx r.2 (b+2):=by
 obtain ⟨x,d,e,h3⟩:=M8 (n:=n) h hb;exact ⟨_,e,h3⟩
theorem JY {c:Df} {b:Int} {l:List Int} (h:Dx c b) (hb:b≤4000000000000000000) (hl:l≠[]):c9 (Fe c l) fun r=>r.1∈l∧Dx r.2 (b+2):=by
 obtain ⟨x,d,e,h2,h3⟩:=M9 h hb hl;exact ⟨_,e,h2,h3⟩
def EF {α :Type} (p:Nat→ α →Bool):Nat→List α →Bool
 |_,[]=>true
 |k,x::xs=>p k x&&EF p (k+1) xs
theorem JZ {α σ ρ :Type} {g:Nat→ α → σ →LR σ ρ} {fin: σ → ρ} (p:Nat→ α →Bool) (r: ρ) (h: ∀k x s,g k x s=if p k x then .next s else .done r) (l:List α) (k:Nat) (s: σ):eu g fin k l s=if EF p k l then fin s else r:=by
 induction l generalizing k with
 |nil=>simp [eu,EF]
 |cons x xs ih=>
  rw [show EF p k (x::xs)=(p k x&&EF p (k+1) xs) from rfl];simp only [eu,h];by_cases hp:p k x=true
  ·rw [if_pos hp,hp,Bool.true_and];exact ih (k+1)
  ·have M_:p k x=false:=by simpa using hp
   rw [if_neg hp,M_,Bool.false_and];rfl
theorem J0 {α :Type} {p:Nat→ α →Bool}: ∀{l:List α} {k:Nat},EF p k l=true↔ ∀i x,l[i]? =some x→p (k+i) x=true
 |[],k=>by simp [EF]
 |x::xs,k=>by
  simp only [EF,Bool.and_eq_true,J0 (l:=xs)];constructor
  ·rintro ⟨h1,h2⟩ i y hy;cases i with
   |zero=>
    obtain rfl:x=y:=by simpa using hy
    exact h1
   |succ i=>
    have:=h2 i y (by simpa using hy)
    rwa [show k+1+i=k+(i+1) by omega] at this
  ·intro h;refine ⟨h 0 x rfl,fun i y hy=> ?_⟩;have:=h (i+1) y (by simpa using hy)
   rwa [show k+(i+1)=k+1+i by omega] at this
def DI (x:Span):Bool:=decide (0≤x.C9∧x.C9<x.To∧x.To≤1000000)
theorem HQ (x:Span):Fg x=some (DI x):=by
 unfold Fg DI;by_cases h1:0≤x.C9
 ·rw [Aw h1,cond_true];by_cases h2:x.C9<x.To
  ·rw [Aw h2,cond_true];simp only [h1,h2,true_and]
  ·rw [C0 h2,cond_false,C0 (fun h=>h2 h.2.1)]
 ·rw [C0 h1,cond_false,C0 (fun h=>h1 h.1)]
theorem IK (x:Span):FD x=some (DI x):=HQ x
def Ep (l:List Span) (k:Nat) (x:Span):Bool:=DI x&&(decide (k=0)|| !decide (x.C9≤(l.getD (k-1) ⟨0,0⟩).To))
def D3 (l:List Span):Bool:=decide (l.length≤20)&&EF (Ep l) 0 l
theorem J1 {l:List Span} {k:Nat} (hk:k<l.length) (hl:l.length≤1048576):((some (DI l[k])).bind fun Gj=>(bif (!Gj) then some true else (bif (decide (0<(k:Int))) then (idx l (IntKind.i64.wrap ((k:Int)-1))).bind fun FE=>some (decide (l[k].C9≤FE.To)) else some false)))=some (!Ep l k l[k]):=by
 unfold Ep;rw [Option.bind_some];cases DI l[k]
 ·rfl
 ·simp only [Bool.not_true,cond_false,Bool.true_and];by_cases h:k=0
  ·subst h;simp
  ·rw [Aw (by omega),cond_true,zP (by omega),show (k:Int)-1=((k-1:Nat):Int) by omega,wm (by omega),C0 h,List.getD_eq_getElem?_getD,List.getElem?_eq_getElem (by omega:k-1<l.length)]
   simp
theorem HR {l:List Span} (hl:l.length≤1048576):EW l=some (D3 l):=by
 unfold EW D3;by_cases h:l.length≤20
 ·rw [C0 (by omega),cond_false,Aw h,Av l (Gi l) (fun k (_:Unit)=>k) (fun k x s=>if Ep l k x then .next s else .done (.done false)) (fun _=> .next ()) (fun k hk s=>by
   simp only [Gi];rw [Aw (by omega),wm hk]
   simp only [cond_true,Option.bind_some,HQ];have:=J1 hk hl;simp only [Option.bind_some] at this;rw [this,Option.bind_some,zP (by omega)]
   cases Ep l k l[k]<;>rfl) (fun s=>by simp [Gi]) (),JZ _ _ (fun _ _ _=>rfl)]
  cases EF (Ep l) 0 l<;>rfl
 ·rw [Aw (by omega),C0 h];rfl
theorem J2 {l:List Span} (hl:l.length≤1048576):FP l=some (D3 l):=by
 unfold FP D3;rw [Av l (Gz l) (fun k (_:Unit)=>k) (fun k x s=>if Ep l k x then .next s else .done (.done false)) (fun _=> .next ()) (fun k hk s=>by
  simp only [Gz];rw [Aw (by omega),wm hk]
  simp only [cond_true,Option.bind_some,IK];have:=J1 hk hl;simp only [Option.bind_some] at this;rw [this,Option.bind_some,zP (by omega)]
  cases Ep l k l[k]<;>rfl) (fun s=>by simp [Gz]) (),JZ _ _ (fun _ _ _=>rfl)]
 cases EF (Ep l) 0 l
 ·simp
 ·simp only [if_true,Option.bind_some,Bool.and_true];by_cases h:l.length≤20
  ·rw [Aw h,Aw (by omega)]
  ·rw [C0 h,C0 (by omega)]
structure Na (l:List Span):Prop where
 len:l.length≤20
 sp: ∀x∈l,0≤x.C9∧x.C9<x.To∧x.To≤1000000
 Pv:l.Pairwise fun x y=>x.To<y.C9
theorem Nb {l:List Span}:D3 l=true↔Na l:=by
 unfold D3;rw [Bool.and_eq_true,decide_eq_true_eq,J0];have key:(∀(i:Nat) (x:Span),l[i]? =some x→Ep l (0+i) x=true)↔(∀x∈l,0≤x.C9∧x.C9<x.To∧x.To≤1000000)∧l.Pairwise fun x y=>x.To<y.C9:=by
  constructor
  ·intro h;have h1: ∀x∈l,0≤x.C9∧x.C9<x.To∧x.To≤1000000:=fun x hx=>by
    obtain ⟨i,hi⟩:=List.mem_iff_getElem?.1 hx;have:=h i x hi;simp only [Ep,DI,Bool.and_eq_true,decide_eq_true_eq] at this;exact this.1
   have h2: ∀i (hi:i+1<l.length),l[i].To<l[i+1].C9:=fun i hi=>by
    have:=h (i+1) l[i+1] (List.getElem?_eq_getElem hi);simp only [Ep,Bool.and_eq_true,Bool.or_eq_true,decide_eq_true_eq,Bool.not_eq_true',decide_eq_false_iff_not,Nat.zero_add,Nat.add_sub_cancel] at this;rw [List.getD_eq_getElem?_getD,List.getElem?_eq_getElem (by omega:i<l.length)] at this
    have:=this.2;simp only [Option.getD_some] at this;omega
   refine ⟨h1,List.pairwise_iff_getElem.2 fun i j hi hj ji=> ?_⟩;have: ∀d,∀(hd:i+1+d<l.length),l[i].To<l[i+1+d].C9:=fun d=>by
    induction d with
    |zero=>intro hd;exact h2 i hd
    |succ d ih=>
     intro hd;have a1:=ih (by omega)
     have a2:=h2 (i+1+d) (by omega)
     have a3:=h1 _ (List.getElem_mem (show i+1+d<l.length by omega))
     have:l[i+1+d+1]=l[i+1+(d+1)]:=rfl;rw [this] at a2;omega
   have:=this (j-(i+1)) (by omega)
   simp only [show i+1+(j-(i+1))=j by omega] at this
   exact this
  ·rintro ⟨h1,h2⟩ i x hi;obtain ⟨eE,e⟩:=List.getElem?_eq_some_iff.1 hi;simp only [Ep,DI,Bool.and_eq_true,Bool.or_eq_true,decide_eq_true_eq,Bool.not_eq_true',decide_eq_false_iff_not,Nat.zero_add];refine ⟨h1 x (List.mem_of_getElem? hi),?_⟩;by_cases h0:i=0
   ·exact .inl h0
   ·right;rw [List.getD_eq_getElem?_getD,List.getElem?_eq_getElem (by omega:i-1<l.length)]
    have:=List.pairwise_iff_getElem.1 h2 (i-1) i (by omega) eE (by omega)
    rw [e] at this;simp only [Option.getD_some];omega
 rw [key];exact ⟨fun h=>⟨h.1,h.2.1,h.2.2⟩,fun h=>⟨h.1,h.2,h.3⟩⟩
def G5 (l:List Span):Int:=l.foldl (fun n x=>IntKind.i64.wrap (n+IntKind.i64.wrap (x.To-x.C9))) 0
theorem J3 {l:List Span} (hl:l.length≤1048576):GD l=some (G5 l):=by
 unfold GD G5;rw [Av l (GC l) (fun k (s:Int)=>(s,k)) (fun _ x s=> .next (IntKind.i64.wrap (s+IntKind.i64.wrap (x.To-x.C9)))) id (fun k hk s=>by
  simp only [GC];rw [Aw (by omega),wm hk,zP (x:=(k:Int)+1) (by omega)]
  rfl) (fun s=>by simp [GC]) 0,CX _ (fun _ _ _=>rfl)]
 rfl
theorem sLen {l:List Span} (hl:l.length≤1048576):Hj l=some (G5 l):=J3 hl
theorem Nc {l:List Span} (hl:l.length≤1048576):FU l=some (if D3 l then (G5 l,true) else (0,false)):=by
 unfold FU;rw [HR hl,J3 hl];cases D3 l<;>rfl
theorem Nd {l:List Span} (hl:l.length≤1048576):FV l=some (if D3 l then (G5 l,true) else (0,false)):=by
 unfold FV;rw [J2 hl,sLen hl];cases D3 l<;>rfl
def Er (n:Int) (x:Span):Bool:=decide (x.C9≤n)&&decide (n<x.To)
theorem Nf {l:List Span} (hl:l.length<2^60) {g:Span→Option Bool} (p:Span→Bool) (hg: ∀x∈l,g x=some (p x)):Gw l g=some (dP p l):=by
 unfold Gw;rw [C1 p (f:=HZ l g) (fun _=>rfl) hl hg];have:=pQ p l;by_cases h:dP p l<0
 ·rw [if_pos h];simp;omega
 ·rw [if_neg h];rfl
theorem Ng {l:List Span} (hl:l.length<2^60) {g:Span→Option Bool} (p:Span→Bool) (hg: ∀x∈l,g x=some (p x)):Gx l g=some (l.any p):=by
 unfold Gx;rw [Nf hl p hg,Option.bind_some,Ax]
theorem Nh {l:List Span} (hl:l.length≤1048576) (n:Int):Gy l n=some (l.any (Er n)):=by
 unfold Gy;rw [Ng (by omega) (Er n) (fun x _=>by unfold Hh Er;cases decide (x.C9≤n)<;>rfl)]
 rfl
theorem Ni {l:List Span} (hl:l.length≤1048576) (n:Int):GB l n=some (l.any (Er n)):=by
 unfold GB;rw [Av l (GA l n) (fun k (_:Unit)=>k) (fun _ x s=>if !Er n x then .next s else .done (.done true)) (fun _=> .next ()) (fun k hk s=>by
  have e:(bif decide (l[k].C9≤n) then some (decide (n<l[k].To)) else some false)=some (Er n l[k]):=by
   unfold Er;cases decide (l[k].C9≤n)<;>rfl
  simp only [GA];rw [Aw (by omega),wm hk,zP (by omega)]
  simp only [cond_true,Option.bind_some];rw [e];cases Er n l[k]<;>rfl) (fun s=>by simp [GA]) (),CW _ _ (fun _ _ _=>rfl)]
 have:(l.all fun x=> !Er n x)= !l.any (Er n):=by
  induction l with
  |nil=>rfl
  |cons x xs ih=>simp only [List.all_cons,List.any_cons,ih (by simp only [List.length_cons] at hl;omega),Bool.not_or]
 rw [this];cases l.any (Er n)<;>rfl
theorem Nj {l:List Span} (hl:l.length≤1048576) (n:Int):FO l n=some (if D3 l then (l.any (Er n),true) else (false,false)):=by
 unfold FO;rw [HR hl,Nh hl];cases D3 l<;>rfl
theorem Nk {l:List Span} (hl:l.length≤1048576) (n:Int):FQ l n=some (if D3 l then (l.any (Er n),true) else (false,false)):=by
 unfold FQ;rw [J2 hl,Ni hl];cases D3 l<;>rfl
def F9 (out:List Span) (x:Span):List Span:=
 match out.getLast? with
 |some z=>if x.C9≤z.To then out.set (out.length-1) ⟨z.C9,if x.To>z.To then x.To else z.To⟩ else out ++ [x]
 |none=>out ++ [x]
theorem Nl (out:List Span) (x:Span):(F9 out x).length≤out.length+1:=by
 unfold F9;split
 ·split
  ·simp
  ·simp
 ·simp
theorem Nn {l:List Span} (hl:l.length≤100000) (hb: ∀x∈l,-2305843009213693952≤x.C9∧x.C9≤2305843009213693952): ∃r:List Span,r.Perm l∧(r.Pairwise fun x y=>x.C9≤y.C9)∧EX l=some (r.foldl F9 []):=by
 obtain ⟨r,h1,h2,h3⟩:=C5 (sz:=2) (z:=IY) (dec:=IZ) (fun _=>rfl) (l:=l) (fun x hx=>⟨rfl,hb x hx⟩) (by omega)
 refine ⟨r,h2,h3,?_⟩;have hr:r.length=l.length:=h2.length_eq;unfold EX HU HV;rw [CV (by simp<;>omega) (by omega),Option.bind_some,List.nil_append,h1,Option.bind_some]
 rw [Au r (Gl r) (fun k (s:List Span)=>(s,k)) (fun _ x s=> .next (F9 s x)) id (fun k s=>s.length≤k) (fun k hk s hs=>by
  refine ⟨?_,fun s' e=>by obtain rfl:=LR.next.inj e;have:=Nl s r[k];omega⟩
  simp only [Gl];rw [Aw (by omega),wm hk,zP (x:=(k:Int)+1) (by omega),zP (x:=(s.length:Int)-1) (by omega)]
  simp only [cond_true,Option.bind_some];unfold F9;by_cases h0:s.length=0
  ·have:s=[]:=List.length_eq_zero_iff.1 h0;subst this;rw [C0 (by simp),CV (by simp) (by omega)]
   rfl
  ·rw [Aw (by omega),cond_true,CZ (by omega) (by omega),Option.bind_some]
   have e1:((s.length:Int)-1).toNat=s.length-1:=by omega
   simp only [e1,List.getLast?_eq_getElem?,List.getElem?_eq_getElem (show s.length-1<s.length by omega),Option.bind_some]
   by_cases h1:r[k].C9≤s[s.length-1].To
   ·simp only [decide_eq_true h1,cond_true,if_pos h1,Option.bind_some];rfl
   ·simp only [decide_eq_false h1,cond_false,if_neg h1];rw [CV (by simp<;>omega) (by omega)];rfl) (fun s _=>by simp [Gl]) [] (by simp),CX _ (fun _ _ _=>rfl)]
 rfl
def Es (x y:Span):Span:=⟨if y.C9>x.C9 then y.C9 else x.C9,if y.To<x.To then y.To else x.To⟩
def D7 (x y:Span):List Span:=if (Es x y).C9<(Es x y).To then [Es x y] else []
def G6 (a b:List Span):List Span:=a.flatMap fun x=>b.flatMap (D7 x)
theorem IL (x y:Span):(D7 x y).length≤1:=by unfold D7;split<;>simp
theorem J4 {α β :Type} (f: α →List β) (l:List α) (s:List β):l.foldl (fun s x=>s ++ f x) s=s ++ l.flatMap f:=by
 induction l generalizing s with
 |nil=>simp
 |cons x xs ih=>simp [ih]
theorem Np {α β :Type} (f: α →List β) (c:Nat) (l:List α) (h: ∀x∈l,(f x).length≤c):(l.flatMap f).length≤c*l.length:=by
 induction l with
 |nil=>simp
 |cons x xs ih=>
  have h1:=h x (by simp)
  have h2:=ih fun y hy=>h y (by simp [hy])
  simp only [List.flatMap_cons,List.length_append,List.length_cons,Nat.mul_add,Nat.mul_one];omega
theorem Nq {b:List Span} (x:Span) (hb:b.length≤1000) {s0:List Span} (hs:s0.length≤1000000):fu (FF b x) (s0,0)=some (s0 ++ b.flatMap (D7 x)):=by
 have:=Au b (FF b x) (fun k (s:List Span)=>(s,k)) (fun _ y s=> .next (s ++ D7 x y)) id (fun k s=>s.length≤1000000+k) (fun k hk s hs=>by
  refine ⟨?_,fun s' e=>by obtain rfl:=LR.next.inj e;have:=IL x b[k];simp only [List.length_append];omega⟩
  simp only [FF];rw [Aw (by omega),wm hk,zP (x:=(k:Int)+1) (by omega)]
  simp only [cond_true,Option.bind_some];unfold D7;by_cases h:(Es x b[k]).C9<(Es x b[k]).To
  ·have h' :=h
   simp only [Es] at h';rw [Aw h',if_pos h,CV (by simp<;>omega) (by omega)];rfl
  ·have h' :=h
   simp only [Es] at h';rw [C0 h',if_neg h,List.append_nil];rfl) (fun s _=>by simp [FF]) s0 (by omega)
 rw [this,CX _ (fun _ _ _=>rfl),J4];rfl
theorem Nr {a b:List Span} (ha:a.length≤100) (hb:b.length≤100):Gr a b=EX (G6 a b):=by
 unfold Gr;rw [Au a (Gq a b) (fun k (s:List Span)=>(s,k)) (fun _ x s=> .next (s ++ b.flatMap (D7 x))) id (fun k s=>s.length≤100*k) (fun k hk s hs=>by
  refine ⟨?_,fun s' e=>by
   obtain rfl:=LR.next.inj e
   have:=Np (D7 a[k]) 1 b fun y _=>IL a[k] y;simp only [List.length_append];omega⟩
  simp only [Gq];rw [Aw (by omega),wm hk,zP (x:=(k:Int)+1) (by omega)]
  simp only [cond_true,Option.bind_some];rw [Nq _ (by omega) (by omega)]
  rfl) (fun s _=>by simp [Gq]) [] (by simp),CX _ (fun _ _ _=>rfl),J4]
 simp only [id,List.nil_append,Option.bind_some,G6];cases EX (a.flatMap fun x=>b.flatMap (D7 x))<;>rfl
theorem Ns {l:List Span}:Gs l=some (if l.length≤20 then (l,true) else ([],false)):=by
 unfold Gs;by_cases h:l.length≤20
 ·rw [C0 (by omega),if_pos h];rfl
 ·rw [Aw (by omega),if_neg h];rfl
theorem Nt {a b:List Span} (ha:a.length≤100) (hb:b.length≤100):FH a b=if D3 a&&D3 b then (EX (G6 a b)).bind fun m=>some (if m.length≤20 then (m,true) else ([],false)) else some ([],false):=by
 unfold FH;rw [HR (by omega),HR (by omega),Nr ha hb]
 cases D3 a
 ·rfl
 ·cases D3 b
  ·rfl
  ·simp only [Bool.not_true,cond_false,Option.bind_some,Bool.and_self,if_true,Ns]
theorem Nu {c:Df} {b:Int} (h:Dx c b) (hb:b≤2000000000000000000):c9 (Gc c) fun r=>True∧Dx r.2 (b+10):=by
 unfold Gc;refine c9.then (HP (by assumption) (by omega)) ?_
 rintro ⟨y,J5⟩ Ga;dsimp only at Ga⊢;refine c9.CY (fun hc=> ?_) (fun hc=> ?_)
 ·refine c9.then (JY (by assumption) (by omega) (by simp)) ?_
  rintro ⟨u,IM⟩ ⟨Nv,u_c⟩;dsimp only at Nv u_c⊢;refine c9.then (JY (by assumption) (by omega) (by simp)) ?_
  rintro ⟨v,IN⟩ ⟨Nw,EL⟩;dsimp only at Nw EL⊢;exact .ret ⟨trivial,EL.mono (by omega)⟩
 ·refine c9.then (tE (by assumption) (by omega)) ?_
  rintro ⟨u,IM⟩ ⟨G7,G8,u_c⟩;dsimp only at G7 G8 u_c⊢;refine c9.then (tE (by assumption) (by omega)) ?_
  rintro ⟨v,IN⟩ ⟨G9,G_,EL⟩;dsimp only at G9 G_ EL⊢;exact .ret ⟨trivial,EL.mono (by omega)⟩
theorem Nx {c:Df} {b:Int} (h:Dx c b) (hb:b≤1000000000000000000):c9 (FI c) fun r=>r.1.length≤21∧Dx r.2 (b+500):=by
 unfold FI;refine c9.then (tE (by assumption) (by omega)) ?_
 rintro ⟨x,Ny⟩ ⟨IP,HS,IQ⟩;dsimp only at IP HS IQ⊢;have Pw:=HS (by omega)
 refine c9.then (HP (by assumption) (by omega)) ?_
 rintro ⟨y,J5⟩ Ga;dsimp only at Ga⊢;refine c9.then (P:=fun r=>(0≤r.1∧r.1≤21)∧Dx ⟨r.2.1,r.2.2.1,r.2.2.2⟩ (b+10)) ?_ ?_
 ·refine c9.CY (fun hc=> ?_) (fun hc=> ?_)
  ·refine c9.then (tE (by assumption) (by omega)) ?_
   rintro ⟨z,J6⟩ ⟨Nz,J7,Fy⟩;dsimp only at Nz J7 Fy⊢;have Px:=J7 (by omega)
   rw [zP (by omega)]
   exact .ret ⟨(by first|omega|(dsimp only;omega)),Fy.mono (by omega)⟩
  ·exact .ret ⟨(by first|omega|(dsimp only;omega)),Ga.mono (by omega)⟩
 ·rintro ⟨n,co,a,IS⟩ ⟨hn,ek⟩;dsimp only at hn ek⊢;refine c9.then (tE (by assumption) (by omega)) ?_
  rintro ⟨t,Py⟩ ⟨NA,NB,J8⟩;dsimp only at NA NB J8⊢;refine c9.then (P:=fun r=>r.1.length≤21∧Dx ⟨r.2.1,r.2.2.1,r.2.2.2⟩ (b+300)) (c9.fu (fun s=>s.2.1.toNat) (fun s=>((0≤s.2.1∧s.2.1≤21)∧s.1.length+s.2.1.toNat≤21)∧Dx ⟨s.2.2.2.1,s.2.2.2.2.1,s.2.2.2.2.2⟩ (b+20+10*(21-s.2.1))) ?_ ⟨⟨(by first|omega|(dsimp only;omega)),by simp only [List.length_nil];omega⟩,J8.mono (by first|omega|(dsimp only;omega))⟩) ?_
  ·rintro ⟨l,n,w,co,a,IS⟩ ⟨⟨h1,h2⟩,ek⟩;dsimp only at h1 h2 ek⊢;unfold HX;dsimp only;refine c9.CY (fun hc=> ?_) (fun hc=> ?_)
   ·simp only [decide_eq_true_eq] at hc;refine c9.then (tE (by assumption) (by omega)) ?_
    rintro ⟨u,IM⟩ ⟨G7,G8,u_c⟩;dsimp only at G7 G8 u_c⊢;rw [CV (by simp<;>omega) (by omega),Option.bind_some,zP (x:=n-1) (by omega)]
    refine c9.then (tE (by assumption) (by omega)) ?_
    rintro ⟨v,IN⟩ ⟨G9,G_,EL⟩;dsimp only at G9 G_ EL⊢;exact .ret ⟨⟨⟨(by first|omega|(dsimp only;omega)),by simp only [List.length_append,List.length_singleton];omega⟩,EL.mono (by first|omega|(dsimp only;omega))⟩,(by first|omega|(dsimp only;omega))⟩
   ·simp only [decide_eq_false_iff_not,Int.not_lt] at hc;exact .ret ⟨(by first|omega|(dsimp only;omega)),ek.mono (by first|omega|(dsimp only;omega))⟩
  ·rintro ⟨l,co,a,IS⟩ ⟨h1,ek⟩;dsimp only at h1 ek⊢;refine c9.then (P:=fun r=>(r.1=true→0<l.length)∧Dx ⟨r.2.1,r.2.2.1,r.2.2.2⟩ (b+400)) ?_ ?_
   ·refine c9.CY (fun hc=> ?_) (fun hc=> ?_)
    ·simp only [decide_eq_true_eq] at hc;refine c9.then (HP (by assumption) (by omega)) ?_
     rintro ⟨z,J6⟩ Fy;dsimp only at Fy⊢;exact .ret ⟨fun _=>by omega,Fy.mono (by omega)⟩
    ·exact .ret ⟨fun h=>by simp at h,ek.mono (by omega)⟩
   ·rintro ⟨q,co,a,IS⟩ ⟨hq,ek⟩;dsimp only at hq ek⊢;refine c9.then (P:=fun r=>r.length≤21) ?_ (fun r hr=> .ret ⟨hr,ek.mono (by omega)⟩)
    refine c9.CY (fun hc=> ?_) (fun hc=> ?_)
    ·have hq:=hq hc;rw [CZ (by omega) (by omega),Option.bind_some,Option.bind_some]
     exact .ret (by simp only [List.length_set];omega)
    ·exact .ret h1
def Dq (a b:Span):Int:=
 if a.To<b.C9 then 1 else if a.To=b.C9 then 2 else if a.C9=b.C9∧a.To=b.To then 3 else if a.C9=b.C9∧a.To<b.To then 4
 else if a.To=b.To∧b.C9<a.C9 then 5 else if b.C9<a.C9∧a.To<b.To then 6 else if a.C9<b.C9∧b.C9<a.To∧a.To<b.To then 7 else 0
theorem Ha {p q:Prop} [Decidable p] [Decidable q]:(bif decide p then some (decide q) else some false)=some (decide (p∧q)):=by
 by_cases hp:p
 ·rw [Aw hp,cond_true];simp only [hp,true_and]
 ·rw [C0 hp,cond_false,C0 (fun h=>hp h.1)]
theorem IT {α :Type} {p:Prop} [Decidable p] (a b: α):(bif decide p then a else b)=if p then a else b:=by
 by_cases h:p
 ·rw [Aw h,if_pos h];rfl
 ·rw [C0 h,if_neg h];rfl
theorem EM (a b:Int):(a==b)=decide (a=b):=by
 by_cases h:a=b
 ·rw [Aw h,h,beq_self_eq_true]
 ·rw [C0 h,beq_eq_false_iff_ne.2 h]
theorem IU (a b:Span):FB a b=some (Dq a b):=by
 have e3:((a.C9==b.C9)&&((a.To==b.To)&&true))=decide (a.C9=b.C9∧a.To=b.To):=by
  rw [EM,EM,Bool.and_true,Bool.decide_and]
 have e7:(bif (decide (a.C9<b.C9)) then (bif (decide (b.C9<a.To)) then some (decide (a.To<b.To)) else some false) else some false)=some (decide (a.C9<b.C9∧b.C9<a.To∧a.To<b.To)):=by
  rw [Ha,Ha]
 unfold FB Dq;rw [e3,e7,EM,EM,EM,Ha,Ha,Ha];simp only [Option.bind_some,IT];repeat' split
 all_goals first|rfl|omega
theorem J9 (a b:Span):Gg a b=some (Dq a b):=IU a b
def Ek (a b:Span):Int:=if 0<Dq a b then Dq a b else ([0,8,9,3,10,11,12,13]:List Int).getD (Dq b a).toNat 0
theorem HT (a b:Span):0≤Dq a b∧Dq a b≤7:=by
 unfold Dq;repeat' split
 all_goals omega
theorem J_ {a b:Span} (ha:a.C9<a.To) (hb:b.C9<b.To):(1≤Dq a b∧Dq a b≤7∧Dq a b≠3∧Dq b a=0)∨(Dq a b=3∧Dq b a=3)∨(Dq a b=0∧1≤Dq b a∧Dq b a≤7∧Dq b a≠3):=by
 unfold Dq;repeat' split
 all_goals omega
theorem NC {a b:Span} (ha:a.C9<a.To) (hb:b.C9<b.To):(a.To≤b.C9∨b.To≤a.C9)↔(Dq a b=1∨Dq a b=2∨Dq b a=1∨Dq b a=2):=by
 unfold Dq;repeat' split
 all_goals omega
theorem Fz {x:Span}:DI x=true↔0≤x.C9∧x.C9<x.To∧x.To≤1000000:=by
 unfold DI;rw [decide_eq_true_eq]
theorem Ka (a b:Span):FC a b=some (if DI a&&DI b then (Ek a b,true) else (0,false)):=by
 unfold FC;rw [HQ,HQ];cases DI a
 ·rfl
 ·cases DI b
  ·rfl
  ·simp only [Option.bind_some,Bool.not_true,cond_false,Bool.and_self,if_true];have h1:=HT a b;have h2:=HT b a;rw [IU,IU];simp only [Option.bind_some,Ek];by_cases h:0<Dq a b
   ·rw [Aw h,if_pos h];rfl
   ·rw [C0 h,if_neg h,CZ (by omega) (by simp<;>omega),Option.bind_some,List.getD_eq_getElem?_getD,List.getElem?_eq_getElem (by simp<;>omega)]
    rfl
theorem ND (a b:Span):Gh a b=some (if DI a&&DI b then (Ek a b,true) else (0,false)):=by
 unfold Gh;rw [IK,IK];cases ha:DI a
 ·rfl
 ·cases hb:DI b
  ·rfl
  ·simp only [Option.bind_some,Bool.not_true,cond_false,Bool.and_self,if_true];have h1:=HT a b;have h2:=HT b a;have h3:=J_ (Fz.1 ha).2.1 (Fz.1 hb).2.1;rw [J9,J9];simp only [Option.bind_some,Ek];by_cases h:0<Dq a b
   ·rw [Aw h,if_pos h];rfl
   ·rw [C0 h,if_neg h,cond_false];have hz:1≤Dq b a∧Dq b a≤7∧Dq b a≠3:=by omega
    generalize Dq b a=k at hz;rw [zP (by omega),zP (by omega)]
    have hk:k=1∨k=2∨k=4∨k=5∨k=6∨k=7:=by omega
    rcases hk with rfl|rfl|rfl|rfl|rfl|rfl<;>rfl
def IV (r:Int):Int:=if r=3 then 3 else if r<3 then r+7 else if r<8 then r+6 else if r<10 then r-7 else r-6
theorem NE {a b:Span} (ha:a.C9<a.To) (hb:b.C9<b.To):(1≤Ek a b∧Ek a b≤13)∧Ek b a=IV (Ek a b)∧((Ek a b=1∨Ek a b=2∨Ek a b=8∨Ek a b=9)↔(a.To≤b.C9∨b.To≤a.C9)):=by
 rw [NC ha hb];have h:=J_ ha hb;unfold Ek;generalize Dq a b=x at h;generalize Dq b a=y at h;rcases h with ⟨h1,h2,h3,rfl⟩|⟨rfl,rfl⟩|⟨rfl,h1,h2,h3⟩
 ·have hk:x=1∨x=2∨x=4∨x=5∨x=6∨x=7:=by omega
  rcases hk with rfl|rfl|rfl|rfl|rfl|rfl<;>decide
 ·decide
 ·have hk:y=1∨y=2∨y=4∨y=5∨y=6∨y=7:=by omega
  rcases hk with rfl|rfl|rfl|rfl|rfl|rfl<;>decide
theorem Kb {x:Span} (h:DI x=true):D3 [x]=true:=by
 have:=Fz.1 h;exact Nb.2 ⟨by simp,fun y hy=>by obtain rfl:=List.mem_singleton.1 hy;exact this,List.pairwise_singleton _ _⟩
theorem NF {a b:Span} (ha:DI a=true) (hb:DI b=true):FH [a] [b]=some (D7 a b,true):=by
 have h1:=Fz.1 ha;have h2:=Fz.1 hb;have e:G6 [a] [b]=D7 a b:=by simp [G6]
 have hl:=IL a b;rw [Nt (by simp) (by simp),Kb ha,Kb hb,e]
 obtain ⟨r,r1,_,r2⟩:=Nn (l:=D7 a b) (by omega) (fun x hx=>by
  unfold D7 at hx;split at hx
  ·obtain rfl:=List.mem_singleton.1 hx;simp only [Es];split<;>omega
  ·simp at hx)
 have NG:r.foldl F9 []=D7 a b:=by
  cases hc:D7 a b with
  |nil=>rw [hc] at r1;rw [r1.eq_nil];rfl
  |cons z zs=>
   have:zs=[]:=by rw [hc] at hl;simpa using hl
   subst this;rw [hc] at r1;rw [List.perm_singleton.1 r1];rfl
 rw [r2,NG,Bool.and_self,if_pos rfl,Option.bind_some,if_pos (by omega)]
theorem NH (a b:Span) (ha:a.C9<a.To) (hb:b.C9<b.To):((((D7 a b).length:Int)==0)=true)↔(a.To≤b.C9∨b.To≤a.C9):=by
 unfold D7;have:(Es a b).C9<(Es a b).To↔ ¬(a.To≤b.C9∨b.To≤a.C9):=by
  simp only [Es];repeat' split
  all_goals omega
 by_cases h:(Es a b).C9<(Es a b).To
 ·rw [if_pos h];have:=this.1 h;simp only [List.length_singleton];exact ⟨fun h=>by simp at h,fun h=>absurd h this⟩
 ·rw [if_neg h];exact ⟨fun _=>Classical.byContradiction fun h' =>h (this.2 h'),fun _=>rfl⟩
theorem NI {a:List Int} (h:Dx ⟨a,0,0⟩ 0):c9 (Ge a) fun _=>True:=by
 unfold Ge;refine c9.then (tE (by assumption) (by omega)) ?_
 rintro ⟨u,IM⟩ ⟨G7,G8,u_c⟩;dsimp only at G7 G8 u_c⊢;refine c9.then (tE (by assumption) (by omega)) ?_
 rintro ⟨v,IN⟩ ⟨G9,G_,EL⟩;dsimp only at G9 G_ EL⊢;refine c9.then (tE (by assumption) (by omega)) ?_
 rintro ⟨w,Pz⟩ ⟨NJ,NK,NL⟩;dsimp only at NJ NK NL⊢;refine c9.then (tE (by assumption) (by omega)) ?_
 rintro ⟨x,Ny⟩ ⟨IP,HS,IQ⟩;dsimp only at IP HS IQ⊢;refine c9.then (HP (by assumption) (by omega)) ?_
 rintro ⟨y,J5⟩ Ga;dsimp only at Ga⊢;refine c9.CY (fun hc=> ?_) (fun hc=> ?_)
 ·refine c9.then (Nu (by assumption) (by omega)) ?_
  rintro ⟨z,J6⟩ ⟨NM,Fy⟩;dsimp only at NM Fy⊢;exact .ret trivial
 ·exact .ret trivial
theorem NN (a0 a1:List Int) (l0:a0.length<2^47) (l1:a1.length<2^47) (r0: ∀x∈a0,0≤x∧x≤255) (r1: ∀x∈a1,0≤x∧x≤255):GF a0 a1=some true:=by
 unfold GF;rw [zP (by omega)]
 by_cases hs:1048576<(a0.length:Int)+(a1.length:Int)
 ·rw [Aw hs];rfl
 ·rw [C0 hs,cond_false];have k0:=JX (by omega) r0
  have k1:=JX (by omega) r1
  obtain ⟨⟨a,b⟩,e,_⟩:=NI k0;rw [e,Option.bind_some];dsimp only;rw [Ka,ND,Ka];obtain ⟨⟨l,c⟩,e1,hl,hc⟩:=Nx k1 (by omega)
  dsimp only at hl hc;obtain ⟨⟨n,c'⟩,e2,_⟩:=tE hc (by omega) (n:=40)
  have d1:Gv a1=some (l,IntKind.i64.wrap (n-1)):=by unfold Gv;rw [e1,Option.bind_some];dsimp only;rw [e2];rfl
  have d2:FT a1=some l:=by unfold FT Hi;rw [e1];rfl
  have rest: ∀m:Int,((FO l m).bind fun (Hk,Hl)=>(FQ l m).bind fun (Hm,Hn)=>(FT a1).bind fun E1=>(FU E1).bind fun (Ho,Hp)=>(FV E1).bind fun (Hq,Hr)=>(bif (Hl==Hn) then (bif (Hk==Hm) then (bif (Hp==Hr) then some (Ho==Hq) else some false) else some false) else some false))=some true:=fun m=>by
   rw [Nj (by omega),Nk (by omega),d2]
   simp only [Option.bind_some];rw [Nc (by omega),Nd (by omega)]
   simp only [Option.bind_some,beq_self_eq_true,cond_true]
  cases ha:DI a
  ·simp only [Bool.false_and,if_false,Option.bind_some,beq_self_eq_true,Bool.not_true,cond_false,bne_self_eq_false,Bool.false_eq_true];rw [d1,Option.bind_some];exact rest _
  ·cases hb:DI b
   ·simp only [Bool.and_false,if_false,Option.bind_some,beq_self_eq_true,Bool.not_true,cond_false,bne_self_eq_false,Bool.false_eq_true];rw [d1,Option.bind_some];exact rest _
   ·rw [NF ha hb];simp only [Bool.and_self,if_true,Option.bind_some,beq_self_eq_true,Bool.not_true,cond_false,cond_true,bne_self_eq_false];have h1:=(Fz.1 ha).2.1;have h2:=(Fz.1 hb).2.1;obtain ⟨q1,q2,q3⟩:=NE h1 h2;have q4:=NH a b h1 h2;rw [q2];generalize Ek a b=r at q1 q3;have NO:(bif (r==3) then some (3:Int) else ((bif (decide (r<3)) then some ((IntKind.i64.wrap (r+7))) else ((bif (decide (r<8)) then some ((IntKind.i64.wrap (r+6))) else ((bif (decide (r<10)) then some ((IntKind.i64.wrap (r-7))) else some ((IntKind.i64.wrap (r-6))))).bind fun Ec=>some (Ec))).bind fun EZ=>some (EZ))).bind fun E0=>some (E0))=some (IV r):=by
     unfold IV;rw [zP (by omega),zP (by omega),zP (by omega),zP (by omega),EM]
     simp only [IT];repeat' split
     all_goals rfl
    have NP:(bif (r==1) then some true else (bif (r==2) then some true else (bif (r==8) then some true else some (r==9))))=some (decide (r=1∨r=2∨r=8∨r=9)):=by
     rw [EM,EM,EM,EM];simp only [IT];repeat' split
     all_goals (congr 1;first|(rw [eq_comm,decide_eq_true_eq];omega)|(rw [decide_eq_decide];omega))
    rw [NO];simp only [Option.bind_some];rw [NP];simp only [Option.bind_some];rw [C0 (show¬r<1 by omega),C0 (show¬13<r by omega)]
    have NQ:(((D7 a b).length:Int)==0)=decide (r=1∨r=2∨r=8∨r=9):=by
     rw [Bool.eq_iff_iff,q4,decide_eq_true_eq,q3]
    rw [NQ];simp only [cond_false,bne_self_eq_false,beq_self_eq_true,Bool.not_true,Option.bind_some];rw [d1,Option.bind_some];exact rest _
end Go.EG
