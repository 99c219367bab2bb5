/-
  The plain law and all that it needs.
-/
import Derived.Test.YtmmomohapflagaaVjF
import Derived.Test.YtmmomohapflagaaVaF
open Go Go.VS
namespace Go.Gq
def ER (n a b:Int):Bool:=decide (a≤n)&&decide (n≤b)
theorem Ja (n a b:Int):Ha n a b=some (ER n a b):=by
 unfold Ha ER;cases decide (a≤n)<;>rfl
theorem Ky (n a b:Int):Hg n a b=some (ER n a b):=by
 unfold Hg ER;cases decide (a≤n)<;>rfl
theorem Kz {n a b:Int}:ER n a b=true↔a≤n∧n≤b:=by simp [ER]
theorem jU {α :Type} {l:List α} {i:Int} {x: α}:idx l i=some x↔0≤i∧i<l.length∧l[i.toNat]? =some x:=by
 unfold idx;constructor
 ·intro h;split at h
  ·rename_i h0;have:=(List.getElem?_eq_some_iff.1 h).1;exact ⟨h0,by omega,h⟩
  ·simp at h
 ·rintro ⟨h0,h1,h2⟩;rw [if_pos h0];exact h2
theorem Od {α :Type} (l:List α) (i:Int):(ER i 0 ((l.length:Int)-1)=true∧ ∃x,idx l i=some x)∨(ER i 0 ((l.length:Int)-1)=false∧idx l i=none):=by
 by_cases h:0≤i∧i<l.length
 ·exact .inl ⟨by rw [Kz];omega,_,CR h.1 h.2⟩
 ·refine .inr ⟨by cases hb:ER i 0 ((l.length:Int)-1);rfl;rw [Kz] at hb;omega,?_⟩
  cases hx:idx l i with
  |none=>rfl
  |some x=>have:=jU.1 hx;omega
theorem Dn {a b:Int} (h:a=b):(a==b)=true:=by simp [h]
theorem Dd {a b:Int} (h:a≠b):(a==b)=false:=by simpa using h
theorem HE {a b:Int} (h:a≠b):(a !=b)=true:=by simpa using h
theorem HF {a b:Int} (h:a=b):(a !=b)=false:=by simp [h]
structure El (c:Du) (b:Int):Prop where
 len:c.Code.length≤1048576
 bytes: ∀x∈c.Code,0≤x∧x≤255
 lo:0≤c.Ds
 hi:c.Ds≤b
theorem El.mono {c:Du} {b d:Int} (h:El c b) (hd:b≤d):El c d:=⟨h.len,h.bytes,h.lo,by have:=h.hi;omega⟩
theorem Zl (k:Int):0≤y6 .u64 k 255∧y6 .u64 k 255≤255:=by
 have h:(BitVec.ofInt IntKind.u64.bits k&&&BitVec.ofInt IntKind.u64.bits 255).toNat≤255:=by
  rw [BitVec.toNat_and];exact Nat.and_le_right
 unfold y6;rw [IntWalk.u64_in _ (by omega)]
 omega
theorem Us {c:Du} {b:Int} (h:El c b) (hb:b≤4611686018427387904): ∃x d,KE c=some (x,d)∧(0≤x∧x≤255)∧El d (b+1):=by
 obtain ⟨h1,h2,h3,h4⟩:=h;unfold KE;rw [zj (x:=c.Ds+1) (by omega)]
 have e: ∃EL,(bif (decide (c.Ds<(c.Code.length:Int))) then (idx c.Code c.Ds).bind fun DP=>some ((IntKind.i64.wrap DP)) else some (0))=some EL∧0≤EL∧EL≤255:=by
  by_cases hc:c.Ds<c.Code.length
  ·rw [show decide (c.Ds<(c.Code.length:Int))=true by simpa using hc]
   obtain ⟨n,hn⟩:=Int.eq_ofNat_of_zero_le h3;rw [hn,vT (show n<c.Code.length by omega)]
   have:=h2 _ (List.getElem_mem (show n<c.Code.length by omega))
   simp only [cond_true,Option.bind_some];rw [zj (by omega)]
   exact ⟨_,rfl,this⟩
  ·rw [show decide (c.Ds<(c.Code.length:Int))=false by simpa using hc]
   exact ⟨0,rfl,by omega,by omega⟩
 obtain ⟨EL,e1,e2⟩:=e;rw [e1,Option.bind_some];cases decide (c.Ds+1≤(c.Code.length:Int))
 ·refine ⟨_,_,rfl,?_,⟨h1,h2,by simp only;omega,by simp only;omega⟩⟩
  have:=Zl (tY .u64 (IntKind.u64.wrap ((IntKind.u64.wrap ((IntKind.u64.wrap (c.Dw*6364136223846793005))+(IntKind.u64.wrap EL)))+1442695040888963407)) 40);rw [zj (by omega)]
  exact this
 ·exact ⟨_,_,rfl,e2,⟨h1,h2,by simp only;omega,by simp only;omega⟩⟩
theorem Ut {x n:Int} (hx:0≤x) (hn:1<n): ∃r,md x n=some r∧0≤r∧r<n:=by
 unfold md;rw [if_neg (by omega)]
 refine ⟨_,rfl,?_,?_⟩
 ·rw [Int.tmod_eq_emod_of_nonneg hx];exact Int.emod_nonneg _ (by omega)
 ·rw [Int.tmod_eq_emod_of_nonneg hx];exact Int.emod_lt_of_pos _ (by omega)
theorem Jb {c:Du} {b n:Int} (h:El c b) (hb:b≤4000000000000000000): ∃x d,Fa c n=some (x,d)∧(0≤x∧(1≤n→x<n))∧El d (b+2):=by
 unfold Fa;by_cases hn:n≤1
 ·rw [show decide (n≤1)=true by simpa using hn]
  exact ⟨0,c,rfl,⟨by omega,by omega⟩,h.mono (by omega)⟩
 ·rw [show decide (n≤1)=false by simpa using hn]
  obtain ⟨x,d,e1,e2,e3⟩:=Us h (by omega)
  simp only [cond_false];rw [e1,Option.bind_some];cases decide (200<n)
  ·simp only [cond_false,Option.bind_some];obtain ⟨r,r1,r2,r3⟩:=Ut (x:=x) e2.1 (show 1<n by omega)
   rw [r1];exact ⟨r,_,rfl,⟨r2,fun _=>r3⟩,e3.mono (by omega)⟩
  ·simp only [cond_true];obtain ⟨y,d',f1,f2,f3⟩:=Us e3 (by omega)
   rw [f1];simp only [Option.bind_some];rw [zj (x:=x*256) (by omega),zj (by omega)]
   obtain ⟨r,r1,r2,r3⟩:=Ut (x:=x*256+y) (by omega) (show 1<n by omega)
   rw [r1];exact ⟨r,_,rfl,⟨r2,fun _=>r3⟩,f3.mono (by omega)⟩
theorem RZ {c:Du} {b n:Int} (h:El c b) (hb:b≤4000000000000000000): ∃x d,Jd c n=some (x,d)∧El d (b+2):=by
 obtain ⟨x,d,e1,_,e3⟩:=Jb (n:=n) h hb;unfold Jd;rw [e1];exact ⟨_,_,rfl,e3⟩
theorem Uu {c:Du} {b:Int} {l:List Int} (h:El c b) (hb:b≤4000000000000000000) (hl:l≠[]): ∃x d,JU c l=some (x,d)∧x∈l∧El d (b+2):=by
 obtain ⟨x,d,e1,e2,e3⟩:=Jb (n:=(l.length:Int)) h hb;have c9:1≤l.length:=by cases l with|nil=>exact absurd rfl hl|cons _ _=>simp
 unfold JU;rw [e1];obtain ⟨n,rfl⟩:=Int.eq_ofNat_of_zero_le e2.1;have hn:n<l.length:=by have:=e2.2 (by omega);omega
 simp only [Option.bind_some];rw [vT hn];exact ⟨_,_,rfl,List.getElem_mem hn,e3⟩
theorem R0 {l:List Int} (hl:l.length≤1048576) (hb: ∀x∈l,0≤x∧x≤255):El ⟨l,0,0⟩ 0:=⟨hl,hb,by simp,by simp⟩
def ED (g:C5) (h:Hello):C5:=if g.C2.length<30 then {g with C2:=g.C2 ++ [h]} else g
def G9 (g:C5) (h:Hello):C5:=
 if h.Kind=1 then (if g.CY≠2∧g.CX<1000 then ED {g with CY:=1,C1:=h.X,Y:=g.CX+1,CX:=g.CX+1} ⟨2,h.X,g.CX+1⟩ else g)
 else if h.Kind=2 then (if g.C0=1∧g.X=h.X then ED {g with C0:=2,CZ:=h.Y,C3:=g.C3 ++ [⟨3,h.X,h.Y⟩]} ⟨3,h.X,h.Y⟩
  else if g.C0=2∧g.X=h.X∧g.CZ=h.Y then ED g ⟨3,h.X,h.Y⟩ else g)
 else (if g.CY=1∧g.C1=h.X∧g.Y=h.Y then {g with CY:=2,C4:=g.C4 ++ [⟨3,h.X,h.Y⟩]} else g)
def Em (g:C5) (k:Int):C5:={g with C2:=g.C2.take k.toNat ++ g.C2.drop (k.toNat+1)}
def stepG (g:C5) (s:Dc):Bool×C5:=
 if s.Kind=1 then (if s.K≠0∨g.CW=1000 then (false,g) else (true,ED {g with CW:=g.CW+1,C0:=1,X:=g.CW+1,CZ:=0} ⟨1,g.CW+1,0⟩))
 else if s.Kind=2 then (match idx g.C2 s.K with|some h=>(true,G9 (Em g s.K) h)|none=>(false,g))
 else if s.Kind=3 then (match idx g.C2 s.K with|some _=>(true,Em g s.K)|none=>(false,g))
 else if s.Kind=4 then (match idx g.C2 s.K with|some h=>if g.C2.length=30 then (false,g) else (true,{g with C2:=g.C2 ++ [h]})|none=>(false,g))
 else if s.Kind=5 then (if s.K≠0∨g.CY≠1 then (false,g) else (true,{g with CY:=0,C1:=0,Y:=0}))
 else if s.Kind=6 then (if s.K=0 then (true,{g with C0:=0,X:=0,CZ:=0}) else if s.K=1 then (true,{g with CY:=0,C1:=0,Y:=0}) else (false,g))
 else (false,g)
structure GI (n:Nat) (g:C5):Prop where
 Fl:0≤g.CW∧g.CW≤100+n
 E1:0≤g.CX∧g.CX≤n
 D3:g.C3.length≤n
 D4:g.C4.length≤n
 Eb:g.C2.length≤30
 EK:(g.C0=0∧g.X=0∧g.CZ=0)∨(g.C0=1∧1≤g.X∧g.X=g.CW∧g.CZ=0)∨(g.C0=2∧1≤g.X∧g.X=g.CW∧1≤g.CZ∧g.CZ≤g.CX∧(⟨3,g.X,g.CZ⟩:Hello)∈g.C3)
 ES:(g.CY=0∧g.C1=0∧g.Y=0)∨((g.CY=1∨g.CY=2)∧1≤g.C1∧g.C1≤g.CW∧1≤g.Y∧g.Y=g.CX)
 gv: ∃f:Int→Int,(∀h∈g.C2,1≤h.X∧h.X≤g.CW∧((h.Kind=1∧h.Y=0)∨((h.Kind=2∨h.Kind=3)∧1≤h.Y∧h.Y≤g.CX∧h.X=f h.Y∧(h.Kind=3→h∈g.C3))))∧
  (∀h∈g.C3,h.Kind=3∧1≤h.X∧h.X≤g.CW∧1≤h.Y∧h.Y≤g.CX∧h.X=f h.Y∧(g.C0=1→h.X<g.X))
 JR:g.C3.Pairwise fun x y=>x.X<y.X
 If: ∀h∈g.C4,h∈g.C3∧(g.CY=1→h.Y<g.Y)
 JS:g.C4.Pairwise fun x y=>x.Y<y.Y
theorem P0 {g:C5} {h x:Hello} (hx:x∈(ED g h).C2):x∈g.C2∨x=h:=by
 unfold ED at hx;split at hx
 ·simpa using hx
 ·exact .inl hx
theorem P1 {g:C5} (h:Hello) (hl:g.C2.length≤30):(ED g h).C2.length≤30:=by
 unfold ED;split
 ·simp;omega
 ·exact hl
theorem P2 (g:C5) (h:Hello):ED g h={g with C2:=(ED g h).C2}:=by
 unfold ED;split<;>rfl
theorem GI.line {n m:Nat} {g:C5} (i:GI n g) (hm:n≤m) {l:List Hello} (hl:l.length≤30) (h: ∀x∈l,x∈g.C2):GI m {g with C2:=l}:=by
 obtain ⟨f,f1,f2⟩:=i.gv;have:=i.Fl;have:=i.E1;have:=i.D3;have:=i.D4;exact ⟨⟨by simp only;omega,by simp only;omega⟩,⟨by simp only;omega,by simp only;omega⟩,by simp only;omega,by simp only;omega,hl,i.EK,i.ES,⟨f,fun x hx=>f1 x (h x hx),f2⟩,i.JR,i.If,i.JS⟩
theorem GI.up {n m:Nat} {g:C5} (i:GI n g) (hm:n≤m):GI m g:=i.line hm i.Eb fun _ h=>h
theorem Zm {n:Nat} {g:C5} (i:GI n g) (k:Int):GI n (Em g k):=by
 refine i.line (Nat.le_refl _) (by have:=i.Eb;simp;omega) fun x hx=> ?_
 rcases List.mem_append.1 hx with h|h
 ·exact List.mem_of_mem_take h
 ·exact List.mem_of_mem_drop h
theorem Zn {n:Nat} {g:C5} (i:GI n g):GI n {g with C0:=0,X:=0,CZ:=0}:=by
 obtain ⟨f,f1,f2⟩:=i.gv;exact ⟨i.Fl,i.E1,i.D3,i.D4,i.Eb,.inl ⟨rfl,rfl,rfl⟩,i.ES,⟨f,f1,fun h hh=>by obtain ⟨a1,a2,a3,KA,a5,a6,_⟩:=f2 h hh;exact ⟨a1,a2,a3,KA,a5,a6,fun h' =>by simp at h'⟩⟩,i.JR,i.If,i.JS⟩
theorem Uv {n:Nat} {g:C5} (i:GI n g):GI n {g with CY:=0,C1:=0,Y:=0}:=
 ⟨i.Fl,i.E1,i.D3,i.D4,i.Eb,i.EK,.inl ⟨rfl,rfl,rfl⟩,i.gv,i.JR,fun h hh=>⟨(i.If h hh).1,fun h' =>by simp at h'⟩,i.JS⟩
theorem Zo {n:Nat} {g:C5} (i:GI n g):GI (n+1) (ED {g with CW:=g.CW+1,C0:=1,X:=g.CW+1,CZ:=0} ⟨1,g.CW+1,0⟩):=by
 obtain ⟨f,f1,f2⟩:=i.gv;have hx:=i.Fl;have hy:=i.E1;have:=i.D3;have:=i.D4;rw [P2];refine ⟨⟨by simp only;omega,by simp only;omega⟩,⟨by simp only;omega,by simp only;omega⟩,by simp only;omega,by simp only;omega,P1 _ i.Eb,.inr (.inl ⟨rfl,by simp only;omega,rfl,rfl⟩),?_,⟨f,fun x bz=> ?_,fun h hh=> ?_⟩,i.JR,i.If,i.JS⟩
 ·rcases i.ES with h|⟨h1,h2,h3,h4,h5⟩
  ·exact .inl h
  ·exact .inr ⟨h1,h2,by simp only;omega,h4,h5⟩
 ·rcases P0 bz with h|rfl
  ·obtain ⟨a1,a2,a3⟩:=f1 x h;exact ⟨a1,by simp only;omega,a3⟩
  ·exact ⟨by simp only;omega,by simp only;omega,.inl ⟨rfl,rfl⟩⟩
 ·obtain ⟨a1,a2,a3,KA,a5,a6,_⟩:=f2 h hh;exact ⟨a1,a2,by simp only;omega,KA,a5,a6,fun _=>by simp only;omega⟩
theorem Zp {n:Nat} {g:C5} (i:GI n g) {l:List Hello} (hl:l.length≤30) (hm: ∀x∈l,x∈g.C2) {h:Hello} (hh:h∈g.C2):GI (n+1) (G9 {g with C2:=l} h):=by
 have i' :=i.line (Nat.le_succ n) hl hm
 obtain ⟨f,f1,f2⟩:=i.gv;obtain ⟨b1,b2,b3⟩:=f1 h hh;have hx:=i.Fl;have hy:=i.E1;have Fx:=i.D3;have Fy:=i.D4;unfold G9;by_cases k1:h.Kind=1
 ·rw [if_pos k1];by_cases hc:g.CY≠2∧g.CX<1000
  ·rw [if_pos hc,P2];refine ⟨⟨by simp only;omega,by simp only;omega⟩,⟨by simp only;omega,by simp only;omega⟩,by simp only;omega,by simp only;omega,P1 _ hl,?_,.inr ⟨.inl rfl,b1,b2,by simp only;omega,rfl⟩,⟨fun y=>if y=g.CX+1 then h.X else f y,fun x bz=> ?_,fun x bz=> ?_⟩,i.JR,fun x bz=>⟨(i.If x bz).1,fun _=> ?_⟩,i.JS⟩
   ·rcases i.EK with h' |h' |⟨h1,h2,h3,h4,h5,h6⟩
    ·exact .inl h'
    ·exact .inr (.inl h')
    ·exact .inr (.inr ⟨h1,h2,h3,h4,by simp only;omega,h6⟩)
   ·rcases P0 bz with h' |rfl
    ·obtain ⟨a1,a2,a3⟩:=f1 x (hm x h');refine ⟨a1,a2,?_⟩;rcases a3 with a3|⟨c1,c2,c3,c4,R1⟩
     ·exact .inl a3
     ·exact .inr ⟨c1,c2,by simp only;omega,by simp only;rw [if_neg (by omega)];exact c4,R1⟩
    ·exact ⟨b1,b2,.inr ⟨.inl rfl,by simp only;omega,by simp only;omega,by simp only;rw [if_pos trivial],fun h' =>by simp at h'⟩⟩
   ·obtain ⟨a1,a2,a3,KA,a5,a6,Uw⟩:=f2 x bz;exact ⟨a1,a2,a3,KA,by simp only;omega,by simp only;rw [if_neg (by omega)];exact a6,Uw⟩
   ·have:=f2 x (i.If x bz).1;simp only;omega
  ·rw [if_neg hc];exact i'
 rw [if_neg k1];rcases b3 with b3|⟨c1,c2,c3,c4,R1⟩
 ·exact absurd b3.1 k1
 by_cases k2:h.Kind=2
 ·rw [if_pos k2];by_cases hc:g.C0=1∧g.X=h.X
  ·rw [if_pos hc,P2];refine ⟨⟨by simp only;omega,by simp only;omega⟩,⟨by simp only;omega,by simp only;omega⟩,by simp<;>omega,by simp only;omega,P1 _ hl,?_,i.ES,⟨f,fun x bz=> ?_,fun x bz=> ?_⟩,?_,fun x bz=>⟨by simp only;exact List.mem_append_left _ (i.If x bz).1,(i.If x bz).2⟩,i.JS⟩
   ·rcases i.EK with h' |⟨h1,h2,h3,h4⟩|⟨h1,_⟩
    ·omega
    ·exact .inr (.inr ⟨rfl,h2,h3,c2,c3,by simp only;rw [hc.2];exact List.mem_append_right _ (by simp)⟩)
    ·omega
   ·rcases P0 bz with h' |rfl
    ·obtain ⟨a1,a2,a3⟩:=f1 x (hm x h');refine ⟨a1,a2,?_⟩;rcases a3 with a3|⟨d1,d2,d3,d4,d5⟩
     ·exact .inl a3
     ·exact .inr ⟨d1,d2,d3,d4,fun h3=>List.mem_append_left _ (d5 h3)⟩
    ·exact ⟨b1,b2,.inr ⟨.inr rfl,c2,c3,c4,fun _=>List.mem_append_right _ (by simp)⟩⟩
   ·rcases List.mem_append.1 bz with h' |h'
    ·obtain ⟨a1,a2,a3,KA,a5,a6,Uw⟩:=f2 x h';exact ⟨a1,a2,a3,KA,a5,a6,fun h' =>by simp at h'⟩
    ·simp at h';subst h';exact ⟨rfl,b1,b2,c2,c3,c4,fun h' =>by simp at h'⟩
   ·simp only;rw [List.pairwise_append];refine ⟨i.JR,by simp,fun x bz y ei=> ?_⟩
    simp at ei;subst ei;have:=(f2 x bz).2.2.2.2.2.2 hc.1;simp only;omega
  ·rw [if_neg hc];by_cases hd:g.C0=2∧g.X=h.X∧g.CZ=h.Y
   ·rw [if_pos hd,P2];have Zq:(⟨3,h.X,h.Y⟩:Hello)∈g.C3:=by
     rcases i.EK with h' |h' |⟨_,_,_,_,_,h6⟩
     ·omega
     ·omega
     ·rw [←hd.2.1,←hd.2.2];exact h6
    refine ⟨⟨by simp only;omega,by simp only;omega⟩,⟨by simp only;omega,by simp only;omega⟩,by simp only;omega,by simp only;omega,P1 _ hl,i.EK,i.ES,⟨f,fun x bz=> ?_,f2⟩,i.JR,i.If,i.JS⟩
    rcases P0 bz with h' |rfl
    ·exact f1 x (hm x h')
    ·exact ⟨b1,b2,.inr ⟨.inr rfl,c2,c3,c4,fun _=>Zq⟩⟩
   ·rw [if_neg hd];exact i'
 ·rw [if_neg k2];have k3:h.Kind=3:=by omega
  by_cases hc:g.CY=1∧g.C1=h.X∧g.Y=h.Y
  ·rw [if_pos hc];have cr:=R1 k3;have heq:(⟨3,h.X,h.Y⟩:Hello)=h:=by cases h;simp only at k3;subst k3;rfl
   refine ⟨⟨by simp only;omega,by simp only;omega⟩,⟨by simp only;omega,by simp only;omega⟩,by simp only;omega,by simp<;>omega,hl,i.EK,?_,⟨f,fun x bz=>f1 x (hm x bz),f2⟩,i.JR,fun x bz=> ?_,?_⟩
   ·rcases i.ES with h' |⟨_,h2⟩
    ·omega
    ·exact .inr ⟨.inr rfl,h2⟩
   ·rcases List.mem_append.1 bz with h' |h'
    ·exact ⟨(i.If x h').1,fun h' =>by simp at h'⟩
    ·simp at h';rw [heq] at h';subst h';exact ⟨cr,fun h' =>by simp at h'⟩
   ·simp only;rw [List.pairwise_append];refine ⟨i.JS,by simp,fun x bz y ei=> ?_⟩
    simp at ei;subst ei;have:=(i.If x bz).2 hc.1;simp only;omega
  ·rw [if_neg hc];exact i'
theorem Ux {n:Nat} {g:C5} (i:GI n g) (s:Dc):GI (n+1) (stepG g s).2:=by
 have same:GI (n+1) g:=i.up (Nat.le_succ n);unfold stepG;split
 ·split
  ·exact same
  ·exact Zo i
 split
 ·split
  ·rename_i h hh;have hl:(g.C2.take s.K.toNat ++ g.C2.drop (s.K.toNat+1)).length≤30:=by have:=i.Eb;simp;omega
   refine Zp i hl (fun x hx=> ?_) (List.mem_of_getElem? (jU.1 hh).2.2);rcases List.mem_append.1 hx with h|h
   ·exact List.mem_of_mem_take h
   ·exact List.mem_of_mem_drop h
  ·exact same
 split
 ·split
  ·exact (Zm i _).up (Nat.le_succ n)
  ·exact same
 split
 ·split
  ·rename_i h hh;split
   ·exact same
   ·refine i.line (Nat.le_succ n) (by have:=i.Eb;simp;omega) fun x hx=> ?_
    rcases List.mem_append.1 hx with h' |h'
    ·exact h'
    ·simp at h';subst h';exact List.mem_of_getElem? (jU.1 hh).2.2
  ·exact same
 split
 ·split
  ·exact same
  ·exact (Uv i).up (Nat.le_succ n)
 split
 ·split
  ·exact (Zn i).up (Nat.le_succ n)
  ·split
   ·exact (Uv i).up (Nat.le_succ n)
   ·exact same
 ·exact same
theorem Zr {g:C5} (s:Dc) (h:(stepG g s).1=false):(stepG g s).2=g:=by
 unfold stepG at h⊢;repeat' split
 all_goals first|rfl|simp_all
theorem P3 (g:C5) (h:Hello):Jn g h=some (ED g h):=by
 unfold Jn ED;by_cases hl:g.C2.length<30
 ·rw [z8 (by omega),if_pos hl,cond_true,CP (by simp<;>omega) (by omega)];rfl
 ·rw [CS (by omega),if_neg hl];rfl
theorem KB (g:C5) (h:Hello):Jg g h=some (ED g h):=by
 unfold Jg ED;by_cases hl:g.C2.length<30
 ·rw [z8 (by omega),if_pos hl,cond_true,CP (by simp<;>omega) (by omega)];rfl
 ·rw [CS (by omega),if_neg hl];rfl
theorem Oe {a b:Int}:(a==b)=decide (a=b):=by
 by_cases h:a=b<;>simp [h]
theorem Zs {g:C5} (ha:g.C3.length≤200) (hb:g.C4.length≤200) (hy:0≤g.CX∧g.CX≤1000) {h:Hello} (hk:h.Kind=1∨h.Kind=2∨h.Kind=3):Mm g h=some (G9 g h):=by
 unfold Mm G9;rw [zj (by omega)]
 by_cases k1:h.Kind=1
 ·rw [Dn k1,if_pos k1,cond_true];by_cases h2:g.CY=2
  ·rw [HF h2,if_neg (by omega)];rfl
  ·rw [HE h2];by_cases h3:g.CX<1000
   ·simp only [cond_true,Option.bind_some,z8 h3,P3];rw [if_pos ⟨h2,h3⟩]
   ·simp only [cond_true,cond_false,Option.bind_some,CS h3];rw [if_neg (fun h=>h3 h.2)]
 rw [Dd k1,if_neg k1,cond_false];by_cases k2:h.Kind=2
 ·rw [Dn k2,if_pos k2,cond_true];by_cases c1:g.C0=1
  ·by_cases c2:g.X=h.X
   ·rw [Dn c1,Dn c2,if_pos ⟨c1,c2⟩];simp only [cond_true,Option.bind_some];rw [CP (by simp<;>omega) (by omega),Option.bind_some,P3];rfl
   ·rw [Dn c1,Dd c2,if_neg (fun h=>c2 h.2),if_neg (by omega),Dd (show g.C0≠2 by omega)];rfl
  ·rw [Dd c1,if_neg (fun h=>c1 h.1)];by_cases d1:g.C0=2
   ·by_cases d2:g.X=h.X
    ·by_cases d3:g.CZ=h.Y
     ·rw [Dn d1,Dn d2,Dn d3,if_pos ⟨d1,d2,d3⟩];simp only [cond_true,cond_false,Option.bind_some,P3]
     ·rw [Dn d1,Dn d2,Dd d3,if_neg (fun h=>d3 h.2.2)];rfl
    ·rw [Dn d1,Dd d2,if_neg (fun h=>d2 h.2.1)];rfl
   ·rw [Dd d1,if_neg (fun h=>d1 h.1)];rfl
 have k3:h.Kind=3:=by omega
 rw [Dd k2,if_neg k2,Dn k3,cond_false,cond_true];by_cases d1:g.CY=1
 ·by_cases d2:g.C1=h.X
  ·by_cases d3:g.Y=h.Y
   ·rw [Dn d1,Dn d2,Dn d3,if_pos ⟨d1,d2,d3⟩];simp only [cond_true,Option.bind_some];rw [CP (by simp<;>omega) (by omega)];rfl
   ·rw [Dn d1,Dn d2,Dd d3,if_neg (fun h=>d3 h.2.2)];rfl
  ·rw [Dn d1,Dd d2,if_neg (fun h=>d2 h.2.1)];rfl
 ·rw [Dd d1,if_neg (fun h=>d1 h.1)];rfl
theorem Uy {l:List Hello} (hl:l.length≤200) (x y:Int):KI l x y=some (l ++ [⟨3,x,y⟩]):=by
 unfold KI;rw [Dd (by omega),cond_false,CP (by simp<;>omega) (by omega)];rfl
theorem Uz {g:C5} (ha:g.C3.length≤200) (hb:g.C4.length≤200) (hy:0≤g.CX∧g.CX≤1000) {h:Hello} (_hk:h.Kind=1∨h.Kind=2∨h.Kind=3):L9 g h=some (G9 g h):=by
 unfold L9 G9;rw [zj (by omega)]
 by_cases k1:h.Kind=1
 ·rw [Dn k1,if_pos k1,cond_true];by_cases h2:g.CY=2
  ·rw [Dn h2,if_neg (by omega)];rfl
  ·rw [Dd h2];by_cases h3:g.CX=1000
   ·rw [Dn h3,if_neg (by omega)];rfl
   ·rw [Dd h3,if_pos ⟨h2,by omega⟩]
    simp only [cond_false,Option.bind_some,KB]
 rw [Dd k1,if_neg k1,cond_false];by_cases k2:h.Kind=2
 ·rw [Dn k2,if_pos k2,cond_true];by_cases c1:g.C0=1
  ·by_cases c2:g.X=h.X
   ·rw [Dn c1,Dn c2,if_pos ⟨c1,c2⟩];simp only [cond_true,Option.bind_some,Uy ha,beq_self_eq_true,KB]
   ·rw [Dn c1,Dd c2,if_neg (fun h=>c2 h.2),if_neg (by omega)]
    simp only [cond_true,cond_false,Option.bind_some,Dd (show g.C0≠2 by omega)]
  ·rw [Dd c1,if_neg (fun h=>c1 h.1)];simp only [cond_false,Option.bind_some];by_cases d1:g.C0=2
   ·by_cases d2:g.X=h.X
    ·by_cases d3:g.CZ=h.Y
     ·rw [Dn d1,Dn d2,Dn d3,if_pos ⟨d1,d2,d3⟩];simp only [cond_true,Option.bind_some,KB]
     ·rw [Dn d1,Dn d2,Dd d3,if_neg (fun h=>d3 h.2.2)];rfl
    ·rw [Dn d1,Dd d2,if_neg (fun h=>d2 h.2.1)];rfl
   ·rw [Dd d1,if_neg (fun h=>d1 h.1)];rfl
 rw [Dd k2,if_neg k2,cond_false];by_cases d1:g.CY=1
 ·by_cases d2:g.C1=h.X
  ·by_cases d3:g.Y=h.Y
   ·rw [Dn d1,Dn d2,Dn d3,if_pos ⟨d1,d2,d3⟩];simp only [cond_true,Option.bind_some,Uy hb]
   ·rw [Dn d1,Dn d2,Dd d3,if_neg (fun h=>d3 h.2.2)];rfl
  ·rw [Dn d1,Dd d2,if_neg (fun h=>d2 h.2.1)];rfl
 ·rw [Dd d1,if_neg (fun h=>d1 h.1)];rfl
theorem P4 {l:List Hello} {i:Int} {h:Hello} (hx:idx l i=some h) (hl:l.length≤1048576):Ml l i (i+1)=some (l.take i.toNat ++ l.drop (i.toNat+1))∧eu l 0 i=some (l.take i.toNat)∧eu l (i+1) (l.length:Int)=some (l.drop (i.toNat+1)):=by
 obtain ⟨a1,a2,_⟩:=jU.1 hx;obtain ⟨k,rfl⟩:=Int.eq_ofNat_of_zero_le a1;have s1:eu l 0 (k:Int)=some (l.take k):=by simp [eu];omega
 have s2:eu l ((k:Int)+1) (l.length:Int)=some (l.drop (k+1)):=by
  simp only [eu];rw [if_pos (by omega)]
  congr 1;rw [show ((k:Int)+1).toNat=k+1 by omega]
  simp only [Int.toNat_natCast];exact List.take_of_length_le (by simp)
 have s3: ∃z,eu l (k:Int) ((k:Int)+1)=some z:=by
  simp only [eu];rw [if_pos (by omega)]
  exact ⟨_,rfl⟩
 obtain ⟨z,s3⟩:=s3;refine ⟨?_,s1,s2⟩;unfold Ml;rw [s3,Option.bind_some,Dd (by omega),cond_false,s1,Option.bind_some,s2,Option.bind_some,CP (by simp<;>omega) (by omega)]
 rfl
theorem Zt {n:Nat} {g:C5} (i:GI n g) {h:Hello} (hh:h∈g.C2):h.Kind=1∨h.Kind=2∨h.Kind=3:=by
 obtain ⟨f,f1,_⟩:=i.gv;have:=(f1 h hh).2.2;omega
theorem Zu {n:Nat} (hn:n≤150) {g:C5} (i:GI n g) (s:Dc):HL g s=some ((stepG g s).2,(stepG g s).1):=by
 have ha:=i.D3;have hb:=i.D4;have G_:=i.Eb;have hy:=i.E1;have hx:=i.Fl;unfold HL stepG;by_cases k1:s.Kind=1
 ·rw [if_pos k1,Dn k1,cond_true];by_cases hk:s.K=0
  ·rw [HF hk];by_cases h3:g.CW=1000
   ·rw [if_pos (.inr h3),Dn h3];rfl
   ·rw [if_neg (by omega),Dd h3]
    simp only [cond_false,Option.bind_some];rw [zj (by omega),KB];rfl
  ·rw [HE hk,if_pos (.inl hk)];rfl
 rw [if_neg k1,Dd k1,cond_false];by_cases k5:s.Kind=5
 ·rw [if_neg (by omega),if_neg (by omega),if_neg (by omega),if_pos k5,Dn k5,cond_true]
  by_cases hk:s.K=0
  ·rw [HF hk];by_cases h3:g.CY=1
   ·rw [if_neg (by omega),HF h3];rfl
   ·rw [if_pos (.inr h3),HE h3];rfl
  ·rw [HE hk,if_pos (.inl hk)];rfl
 rw [Dd k5,cond_false];by_cases k6:s.Kind=6
 ·rw [if_neg (by omega),if_neg (by omega),if_neg (by omega),if_neg k5,if_pos k6,Dn k6,cond_true]
  by_cases hk:s.K=0
  ·rw [Dn hk,if_pos hk];rfl
  ·rw [Dd hk,if_neg hk];by_cases h1:s.K=1
   ·rw [Dn h1,if_pos h1];rfl
   ·rw [Dd h1,if_neg h1];rfl
 rw [Dd k6,cond_false,Ja,if_neg k5,if_neg k6];simp only [Option.bind_some];rcases Od g.C2 s.K with ⟨a1,h,a2⟩|⟨a1,a2⟩
 ·obtain ⟨b1,b2,b3⟩:=jU.1 a2;obtain ⟨d1,d2,d3⟩:=P4 a2 (by omega)
  have o1:app 24 ([]:List Hello) (g.C2.take s.K.toNat)=some (g.C2.take s.K.toNat):=by rw [CP (by simp<;>omega) (by omega)];rfl
  have o2:app 24 (g.C2.take s.K.toNat) (g.C2.drop (s.K.toNat+1))=some (g.C2.take s.K.toNat ++ g.C2.drop (s.K.toNat+1)):=CP (by simp<;>omega) (by omega)
  rw [CS (by omega),CS (by omega),zj (x:=s.K+1) (by omega)]
  simp only [a2,cond_false,Option.bind_some];by_cases k2:s.Kind=2
  ·rw [if_pos k2,k2];simp only [show ER 2 2 4=true from by decide,Bool.not_true,cond_false,cond_true,Dd (show (2:Int)≠4 by omega),beq_self_eq_true,d2,d3,o1,o2,Option.bind_some]
   rw [show (⟨g.C0,g.CY,g.X,g.Y,g.C1,g.CZ,g.CW,g.CX,g.C2.take s.K.toNat ++ g.C2.drop (s.K.toNat+1),g.C3,g.C4⟩:C5)=Em g s.K from rfl,Uz (g:=Em g s.K) (by simp only [Em];omega) (by simp only [Em];omega) (by simp only [Em];omega) (Zt i (List.mem_of_getElem? b3))]
   rfl
  rw [if_neg k2];by_cases k3:s.Kind=3
  ·rw [if_pos k3,k3];simp only [show ER 3 2 4=true from by decide,Bool.not_true,cond_false,Dd (show (3:Int)≠4 by omega),Dd (show (3:Int)≠2 by omega),d2,d3,o1,o2,Option.bind_some]
   rfl
  rw [if_neg k3];by_cases k4:s.Kind=4
  ·rw [if_pos k4,k4];simp only [show ER 4 2 4=true from by decide,Bool.not_true,cond_false,cond_true,beq_self_eq_true]
   by_cases hl:g.C2.length=30
   ·rw [Dn (show (g.C2.length:Int)=30 by omega),if_pos hl];rfl
   ·rw [Dd (show (g.C2.length:Int)≠30 by omega),if_neg hl,cond_false,KB,Option.bind_some]
    unfold ED;rw [if_pos (by omega)]
  rw [if_neg k4];have:ER s.Kind 2 4=false:=by
   cases hb:ER s.Kind 2 4
   ·rfl
   ·rw [Kz] at hb;omega
  simp only [this,Bool.not_false,cond_true]
 ·have eR:s.K<0∨ ¬s.K<0∧(g.C2.length:Int)≤s.K:=by
   have: ¬(ER s.K 0 ((g.C2.length:Int)-1)=true):=by simp [a1]
   rw [Kz] at this;omega
  have e:(bif (decide (s.K<0)) then some (true) else (bif (decide ((g.C2.length:Int)≤s.K)) then some (true) else some (!ER s.Kind 2 4)))=some true:=by
   rcases eR with a1|⟨a1,R2⟩
   ·rw [z8 a1];rfl
   ·rw [CS a1,z8 R2];rfl
  rw [e,a2];simp only [cond_true,Option.bind_some];split
  ·rfl
  ·split
   ·rfl
   ·split<;>rfl
def Ec:C5→List Dc→C5×List Bool
 |g,[]=>(g,[])
 |g,s::l=>((Ec (stepG g s).2 l).1,(stepG g s).1::(Ec (stepG g s).2 l).2)
theorem R3: ∀(l:List Dc) (n:Nat) (g:C5),GI n g→GI (n+l.length) (Ec g l).1∧(Ec g l).2.length=l.length
 |[],n,g,i=>⟨i,rfl⟩
 |s::l,n,g,i=>by
  obtain ⟨h1,h2⟩:=R3 l (n+1) _ (Ux i s);simp only [Ec,List.length_cons];rw [show n+(l.length+1)=n+1+l.length by omega]
  exact ⟨h1,by rw [h2]⟩
theorem UA {n:Nat} (hn:n≤150) {g:C5} (i:GI n g):He g=some g:=by
 have:=i.Eb;have:=i.D3;have:=i.D4;unfold He;rw [CP (by simp<;>omega) (by omega),Option.bind_some,CP (by simp<;>omega) (by omega),Option.bind_some,CP (by simp<;>omega) (by omega),Option.bind_some]
 rfl
theorem UB {L:List Dc} (hL:L.length≤120): ∀(n k:Nat),k+n=L.length→ ∀(g:C5) (d:List Bool),GI k g→d.length=k→
 eT (KJ L) (d,(k:Int),g.C0,g.CY,g.X,g.Y,g.C1,g.CZ,g.CW,g.CX,g.C2,g.C3,g.C4)=some (d ++ (Ec g (L.drop k)).2,(Ec g (L.drop k)).1.C0,(Ec g (L.drop k)).1.CY,(Ec g (L.drop k)).1.X,(Ec g (L.drop k)).1.Y,(Ec g (L.drop k)).1.C1,(Ec g (L.drop k)).1.CZ,(Ec g (L.drop k)).1.CW,(Ec g (L.drop k)).1.CX,(Ec g (L.drop k)).1.C2,(Ec g (L.drop k)).1.C3,(Ec g (L.drop k)).1.C4)
 |0,k,hk,g,d,i,hd=>by
  rw [pf];simp only [KJ];rw [CS (by omega),List.drop_eq_nil_of_le (by omega)]
  simp [Ec]
 |n+1,k,hk,g,d,i,hd=>by
  have aw:k<L.length:=by omega
  rw [pf];simp only [KJ];rw [z8 (by omega),vT aw]
  simp only [cond_true,Option.bind_some];rw [show (⟨g.C0,g.CY,g.X,g.Y,g.C1,g.CZ,g.CW,g.CX,g.C2,g.C3,g.C4⟩:C5)=g from rfl,UA (by omega) i,Option.bind_some,Zu (by omega) i]
  simp only [Option.bind_some];have e:(bif (stepG g L[k]).1 then some ((stepG g L[k]).2.C0,(stepG g L[k]).2.CY,(stepG g L[k]).2.X,(stepG g L[k]).2.Y,(stepG g L[k]).2.C1,(stepG g L[k]).2.CZ,(stepG g L[k]).2.CW,(stepG g L[k]).2.CX,(stepG g L[k]).2.C2,(stepG g L[k]).2.C3,(stepG g L[k]).2.C4) else some (g.C0,g.CY,g.X,g.Y,g.C1,g.CZ,g.CW,g.CX,g.C2,g.C3,g.C4))=some ((stepG g L[k]).2.C0,(stepG g L[k]).2.CY,(stepG g L[k]).2.X,(stepG g L[k]).2.Y,(stepG g L[k]).2.C1,(stepG g L[k]).2.CZ,(stepG g L[k]).2.CW,(stepG g L[k]).2.CX,(stepG g L[k]).2.C2,(stepG g L[k]).2.C3,(stepG g L[k]).2.C4):=by
   cases h:(stepG g L[k]).1
   ·rw [Zr _ h];rfl
   ·rfl
  rw [e,Option.bind_some];dsimp only;rw [CP (by simp<;>omega) (by omega),Option.bind_some,zj (by omega)]
  have:=UB hL n (k+1) (by omega) (stepG g L[k]).2 (d ++ [(stepG g L[k]).1]) (Ux i _) (by simp [hd])
  rw [show ((k:Int)+1)=((k+1:Nat):Int) by omega,Option.bind_some]
  dsimp only;rw [this,List.drop_eq_getElem_cons aw];simp [Ec]
def DH:C5:=⟨0,0,0,0,0,0,100,0,[],[],[]⟩
def Gj:C5:=⟨0,0,0,0,0,0,0,0,[],[],[]⟩
theorem R4:GI 0 DH:=
 ⟨by simp [DH],by simp [DH],by simp [DH],by simp [DH],by simp [DH],.inl ⟨rfl,rfl,rfl⟩,.inl ⟨rfl,rfl,rfl⟩,⟨fun _=>0,by simp [DH],by simp [DH]⟩,by simp [DH],by simp [DH],by simp [DH]⟩
def Gp (l:List Dc):C5×List Bool×Bool:=if l.length≤120 then ((Ec DH l).1,(Ec DH l).2,true) else (Gj,[],false)
theorem Zv (l:List Dc):Md l=some (Gp l):=by
 unfold Md Gp;by_cases hl:l.length≤120
 ·rw [CS (by omega),if_pos hl,cond_false]
  have:=UB hl l.length 0 (by omega) DH [] R4 rfl
  simp only [List.drop_zero,List.nil_append] at this;unfold IE;rw [Option.bind_some];change (eT (KJ l) ([],((0:Nat):Int),DH.C0,DH.CY,DH.X,DH.Y,DH.C1,DH.CZ,DH.CW,DH.CX,DH.C2,DH.C3,DH.C4)).bind _=_;rw [this,Option.bind_some];dsimp only;rw [show (⟨(Ec DH l).1.C0,(Ec DH l).1.CY,(Ec DH l).1.X,(Ec DH l).1.Y,(Ec DH l).1.C1,(Ec DH l).1.CZ,(Ec DH l).1.CW,(Ec DH l).1.CX,(Ec DH l).1.C2,(Ec DH l).1.C3,(Ec DH l).1.C4⟩:C5)=(Ec DH l).1 from rfl,UA (n:=0+l.length) (by omega) (R3 l 0 DH R4).1]
  rfl
 ·rw [z8 (by omega),if_neg hl];rfl
theorem Zw {a b:List Hello} (ha:a.length≤200) (hb:b.length≤200):Mj [a,b]=some (a ++ b):=by
 have e1:eT (KM [a,b]) (0,0)=some ((a.length:Int)+b.length):=by
  rw [pf];simp only [KM];rw [z8 (by simp),show idx [a,b] (0:Int)=some a from by simp [idx]]
  simp only [cond_true,Option.bind_some];rw [zj (x:=0+(a.length:Int)) (by omega),CS (by omega),zj (x:=(0:Int)+1) (by omega)]
  simp only [cond_false,Option.bind_some];rw [pf];simp only [KM];rw [z8 (by simp),show idx [a,b] (0+1:Int)=some b from by simp [idx]]
  simp only [cond_true,Option.bind_some];rw [zj (x:=0+(a.length:Int)+b.length) (by omega),CS (by omega),zj (x:=(0:Int)+1+1) (by omega)]
  simp only [cond_false,Option.bind_some];rw [pf];simp only [KM];rw [CS (by simp)]
  simp
 have e2:Mi ((a.length:Int)+b.length)=some []:=by
  unfold Mi;rw [CS (by omega),zj (x:=0-0) (by omega),zj (x:=(a.length:Int)+b.length-(0-0)) (by omega)]
  simp only [cond_false,Option.bind_some];by_cases h:(0:Int)<(a.length:Int)+b.length-(0-0)
  ·rw [z8 h,cond_true,show (a.length:Int)+b.length-(0-0)=((a.length+b.length:Nat):Int) by omega,CO (by omega) (by omega),Option.bind_some]
   simp [eu];omega
  ·rw [CS h];rfl
 have e3:eT (KN [a,b]) ([],0)=some (a ++ b):=by
  rw [pf];simp only [KN];rw [z8 (by simp),show idx [a,b] (0:Int)=some a from by simp [idx]]
  simp only [cond_true,Option.bind_some];rw [CP (by simp<;>omega) (by omega),Option.bind_some,zj (x:=(0:Int)+1) (by omega),Option.bind_some]
  dsimp only;rw [pf];simp only [KN];rw [z8 (by simp),show idx [a,b] (0+1:Int)=some b from by simp [idx]]
  simp only [cond_true,Option.bind_some];rw [CP (by simp<;>omega) (by omega),Option.bind_some,zj (x:=(0:Int)+1+1) (by omega),Option.bind_some]
  dsimp only;rw [pf];simp only [KN];rw [CS (by simp)]
  simp
 unfold Mj;rw [e1,Option.bind_some,e2,Option.bind_some,e3,Option.bind_some]
theorem Og {l:List Hello} (hl:l.length≤1048576):IK l l=some true:=by
 unfold IK;rw [CU (l:=l) (fun k hk=>by
  simp only [Ox];rw [z8 (by omega),vT hk,zj (by omega)]
  simp) (by simp [Ox])]
 simp
theorem P5 {g:C5} (h1:g.C2.length≤1048576) (h2:g.C3.length≤1048576) (h3:g.C4.length≤1048576):IL g g=some true:=by
 unfold IL;simp only [beq_self_eq_true,cond_true,Og h1,Og h2,Og h3,Option.bind_some]
theorem Zx {l:List Hello} (hl:l.length≤1048576) (x:Hello): ∃b,Nk l x=some b∧(b=true↔x∈l):=by
 unfold Nk OB;have key:c7 (eT (OA l x) 0) fun y=>match y with| .next ()=>x∉l| .done i=>0≤i∧x∈l:=by
  refine c7.eT (fun i:Int=>l.length-i.toNat) (fun i=>0≤i∧i≤l.length∧ ∀y∈l.take i.toNat,y≠x) ?_ ⟨by omega,by omega,by simp⟩
  rintro i ⟨i0,i1,i2⟩;simp only [OA];by_cases hi:i<l.length
  ·have aw:i.toNat<l.length:=by omega
   rw [z8 hi,CR i0 hi];simp only [cond_true,Option.bind_some];by_cases he:x=l[i.toNat]
   ·have:((x.Kind==l[i.toNat].Kind)&&((x.X==l[i.toNat].X)&&((x.Y==l[i.toNat].Y)&&true)))=true:=by rw [←he];simp
    rw [this];exact ⟨_,rfl,i0,by rw [he];exact List.getElem_mem _⟩
   ·have:((x.Kind==l[i.toNat].Kind)&&((x.X==l[i.toNat].X)&&((x.Y==l[i.toNat].Y)&&true)))=false:=by
     cases hb:((x.Kind==l[i.toNat].Kind)&&((x.X==l[i.toNat].X)&&((x.Y==l[i.toNat].Y)&&true)))
     ·rfl
     ·simp only [Bool.and_eq_true,beq_iff_eq,and_true] at hb;exact absurd (by
       generalize l[i.toNat]=y at hb;cases x;cases y;simp only at hb;obtain ⟨rfl,rfl,rfl⟩:=hb;rfl) he
    rw [this,cond_false,zj (by omega)]
    refine ⟨_,rfl,⟨by omega,by omega,fun y hy=> ?_⟩,by omega⟩
    rw [show (i+1).toNat=i.toNat+1 by omega,List.take_succ_eq_append_getElem aw] at hy
    rcases List.mem_append.1 hy with h' |h'
    ·exact i2 y h'
    ·simp at h';rw [h'];exact fun h=>he h.symm
  ·rw [CS hi];refine ⟨_,rfl,fun hx=> ?_⟩;rw [List.take_of_length_le (by omega)] at i2
   exact i2 x hx rfl
 obtain ⟨y,e1,e2⟩:=key;rw [e1,Option.bind_some];rcases y with ⟨⟩|i
 ·exact ⟨_,rfl,by simpa using e2⟩
 ·exact ⟨_,rfl,by simp [e2.1,e2.2]⟩
theorem Zy {l:List Hello} (hl:l.length≤300) (x:Hello):(x∈l→Jq l x=some (true,true))∧(x∉l→Jq l x=some (false,true)):=by
 unfold Jq;obtain ⟨b,e1,e2⟩:=Zx (l:=l) (by omega) x
 rw [CS (by omega),cond_false,e1]
 cases b
 ·exact ⟨fun h=>absurd (e2.2 h) (by simp),fun _=>rfl⟩
 ·exact ⟨fun _=>rfl,fun h=>absurd (e2.1 rfl) h⟩
theorem UC {α :Type} {l:List α} {i:Int} (h0:0≤i) (h:i≤l.length):eu l 0 i=some (l.take i.toNat):=by
 simp [eu];omega
theorem At (a b:Int) (A B:List Hello) (h:a≠1000):stepG ⟨0,0,0,0,0,0,a,b,[],A,B⟩ ⟨1,0⟩=(true,⟨1,0,a+1,0,0,0,a+1,b,[⟨1,a+1,0⟩],A,B⟩):=by
 simp [stepG,ED,h]
theorem mv (a b:Int) (A B:List Hello) (h:b<1000):stepG ⟨1,0,a,0,0,0,a,b,[⟨1,a,0⟩],A,B⟩ ⟨2,0⟩=(true,⟨1,1,a,b+1,a,0,a,b+1,[⟨2,a,b+1⟩],A,B⟩):=by
 simp [stepG,G9,ED,Em,idx,h]
theorem mw (a b:Int) (A B:List Hello):stepG ⟨1,1,a,b,a,0,a,b,[⟨2,a,b⟩],A,B⟩ ⟨2,0⟩=(true,⟨2,1,a,b,a,b,a,b,[⟨3,a,b⟩],A ++ [⟨3,a,b⟩],B⟩):=by
 simp [stepG,G9,ED,Em,idx]
theorem rH (a b:Int) (A B:List Hello):stepG ⟨2,1,a,b,a,b,a,b,[⟨3,a,b⟩],A,B⟩ ⟨2,0⟩=(true,⟨2,2,a,b,a,b,a,b,[],A,B ++ [⟨3,a,b⟩]⟩):=by
 simp [stepG,G9,Em,idx]
def DO (g:C5):C5:=⟨2,2,g.CW+1,g.CX+1,g.CW+1,g.CX+1,g.CW+1,g.CX+1,[],g.C3 ++ [⟨3,g.CW+1,g.CX+1⟩],g.C4 ++ [⟨3,g.CW+1,g.CX+1⟩]⟩
def DC (g:C5) (h:Hello):Prop:=(h.Kind=1∧(1≤h.X∧h.X≤g.CW)∧h.Y=0)∨((h.Kind=2∨h.Kind=3)∧(1≤h.X∧h.X≤g.CW)∧1≤h.Y∧h.Y≤g.CX)
instance (g:C5) (h:Hello):Decidable (DC g h):=by unfold DC;infer_instance
theorem P6 {g g' :C5} {h:Hello} (i:DC g h) (h1:g.CW≤g'.CW) (h2:g.CX≤g'.CX):DC g' h:=by
 unfold DC at i⊢;omega
structure ET (g:C5):Prop where
 Fl:0≤g.CW∧g.CW≤1000
 E1:0≤g.CX∧g.CX≤1000
 Eb:g.C2.length≤30
 D3:g.C3.length≤300
 D4:g.C4.length≤300
 EK:(g.C0=0∧g.X=0∧g.CZ=0)∨(g.C0=1∧(1≤g.X∧g.X≤g.CW)∧g.CZ=0)∨(g.C0=2∧(1≤g.X∧g.X≤g.CW)∧1≤g.CZ∧g.CZ≤g.CX)
 ES:(g.CY=0∧g.C1=0∧g.Y=0)∨((g.CY=1∨g.CY=2)∧(1≤g.C1∧g.C1≤g.CW)∧1≤g.Y∧g.Y≤g.CX)
 line: ∀h∈g.C2,DC g h
 op: ∀h∈g.C3 ++ g.C4,h.Kind=3∧DC g h
theorem HG (a l h:Int):ER a l h=decide (l≤a∧a≤h):=by
 rw [Bool.eq_iff_iff,Kz,decide_eq_true_eq]
theorem R5 (g:C5) (x y:Int):Hh g x y=some (decide ((1≤x∧x≤g.CW)∧1≤y∧y≤g.CX)):=by
 unfold Hh;rw [Ky,Ky,HG,HG];simp only [Option.bind_some];by_cases h1:1≤x∧x≤g.CW
 ·rw [z8 h1];by_cases h2:1≤y∧y≤g.CX
  ·rw [z8 h2,z8 ⟨h1,h2⟩];rfl
  ·rw [CS h2,CS (fun h=>h2 h.2)];rfl
 ·rw [CS h1,CS (show¬((1≤x∧x≤g.CW)∧1≤y∧y≤g.CX) from fun h=>h1 h.1)];rfl
theorem UE (g:C5) (h:Hello):Jl g h=some (decide (DC g h)):=by
 unfold Jl;rw [Ky,R5,HG];simp only [Option.bind_some];by_cases k1:h.Kind=1
 ·rw [Dn k1,cond_true];by_cases h1:1≤h.X∧h.X≤g.CW
  ·rw [z8 h1,cond_true];by_cases h2:h.Y=0
   ·rw [Dn h2,z8 (show DC g h from .inl ⟨k1,h1,h2⟩)]
   ·rw [Dd h2,CS (show¬DC g h by unfold DC;omega)]
  ·rw [CS h1,cond_false,CS (show¬DC g h by unfold DC;omega)]
 ·rw [Dd k1,cond_false];by_cases k:h.Kind=2∨h.Kind=3
  ·have e:(bif (h.Kind==2) then some (decide ((1≤h.X∧h.X≤g.CW)∧1≤h.Y∧h.Y≤g.CX)) else bif h.Kind==3 then some (decide ((1≤h.X∧h.X≤g.CW)∧1≤h.Y∧h.Y≤g.CX)) else some false)=some (decide ((1≤h.X∧h.X≤g.CW)∧1≤h.Y∧h.Y≤g.CX)):=by
    rcases k with k|k
    ·rw [Dn k];rfl
    ·rw [Dd (show h.Kind≠2 by omega),Dn k];rfl
   rw [e];congr 1;rw [Bool.eq_iff_iff,decide_eq_true_eq,decide_eq_true_eq];unfold DC;omega
  ·rw [Dd (show h.Kind≠2 by omega),Dd (show h.Kind≠3 by omega),CS (show¬DC g h by unfold DC;omega)];rfl
theorem R6 (n last:Int) (z:Bool):Ig n last z=some (if z then decide (n=0) else decide (1≤n∧n≤last)):=by
 unfold Ig;rw [Ja,HG];cases z
 ·rfl
 ·simp only [cond_true,if_true,Oe]
theorem UF (g:C5) (h:Hello):KR g h=some (decide (DC g h)):=by
 unfold KR;rw [Ja,HG,R6,R6];simp only [Option.bind_some,Bool.false_eq_true,if_false,Oe,decide_eq_true_eq];by_cases k:1≤h.Kind∧h.Kind≤3
 ·rw [z8 k,cond_true];by_cases h1:1≤h.X∧h.X≤g.CW
  ·rw [z8 h1,cond_true];congr 1;rw [Bool.eq_iff_iff,decide_eq_true_eq];split
   ·rw [decide_eq_true_eq];unfold DC;omega
   ·rw [decide_eq_true_eq];unfold DC;omega
  ·rw [CS h1,cond_false,CS (show¬DC g h by unfold DC;omega)]
 ·rw [CS k,cond_false,CS (show¬DC g h by unfold DC;omega)]
theorem Zz {l:List Hello} (hl:l.length<2^60) {g:Hello→Option Bool} (p:Hello→Bool) (hg: ∀x∈l,g x=some (p x)):Mk l g=some (dS p l):=by
 unfold Mk;rw [CT p (f:=Qi l g) (fun _=>rfl) hl hg];have:=pC p l;by_cases h:dS p l<0
 ·rw [if_pos h];simp;omega
 ·rw [if_neg h];rfl
theorem UG {l:List Hello} (hl:l.length<2^60) {g:Hello→Option Bool} (p:Hello→Bool) (hg: ∀x∈l,g x=some (p x)):KO l g=some (l.any p):=by
 unfold KO;rw [Zz hl p hg,Option.bind_some,z9]
def Fm (g:C5):Prop:=(g.C0=0∧g.X=0∧g.CZ=0)∨(g.C0=1∧(1≤g.X∧g.X≤g.CW)∧g.CZ=0)∨(g.C0=2∧(1≤g.X∧g.X≤g.CW)∧1≤g.CZ∧g.CZ≤g.CX)
def Gk (g:C5):Prop:=(g.CY=0∧g.C1=0∧g.Y=0)∨((g.CY=1∨g.CY=2)∧(1≤g.C1∧g.C1≤g.CW)∧1≤g.Y∧g.Y≤g.CX)
instance (g:C5):Decidable (Fm g):=by unfold Fm;infer_instance
instance (g:C5):Decidable (Gk g):=by unfold Gk;infer_instance
theorem UH {l:List Hello} {p:Hello→Bool} {Q:Hello→Prop} (h: ∀x∈l,p x=true↔ ¬Q x):l.any p=false↔ ∀x∈l,Q x:=by
 rw [List.any_eq_false];constructor
 ·intro h1 x hx;by_cases hq:Q x
  ·exact hq
  ·exact absurd ((h x hx).2 hq) (h1 x hx)
 ·intro h1 x hx hp;exact (h x hx).1 hp (h1 x hx)
theorem ZA {g:C5} (hl:g.C2.length≤1000) (ha:g.C3.length≤200) (hb:g.C4.length≤200): ∃b,GR g=some b∧(b=true↔ET g):=by
 unfold GR;rw [Ky,Ky,HG,HG];simp only [Option.bind_some];by_cases hx:0≤g.CW∧g.CW≤1000
 rotate_left
 ·rw [CS hx];exact ⟨false,rfl,by simpa using fun h:ET g=>hx h.Fl⟩
 rw [z8 hx];by_cases hy:0≤g.CX∧g.CX≤1000
 rotate_left
 ·rw [CS hy];exact ⟨false,rfl,by simpa using fun h:ET g=>hy h.E1⟩
 rw [z8 hy];by_cases G_:g.C2.length≤30
 rotate_left
 ·rw [z8 (show (30:Int)<(g.C2.length:Int) by omega)];exact ⟨false,rfl,by simpa using fun h:ET g=>G_ h.Eb⟩
 rw [CS (show¬(30:Int)<(g.C2.length:Int) by omega),CS (show¬(300:Int)<(g.C3.length:Int) by omega),CS (show¬(300:Int)<(g.C4.length:Int) by omega)]
 simp only [Bool.not_true,cond_false,Option.bind_some];have ZB:(((bif (g.C0==0) then ((bif (g.X==0) then some ((g.CZ==0)) else some (false))).bind fun D8=>some (D8) else ((bif (g.C0==1) then ((Hg g.X 1 g.CW).bind fun Gd=>(bif Gd then some ((g.CZ==0)) else some (false))).bind fun Jm=>some (Jm) else ((bif (g.C0==2) then (Hh g g.X g.CZ).bind fun Dv=>some (Dv) else some (false))).bind fun E2=>some (E2))).bind fun Ee=>some (Ee))).bind fun Ed=>some (Ed))=some (decide (Fm g)):=by
  rw [Ky,R5,HG];simp only [Option.bind_some,Oe];by_cases h0:g.C0=0
  ·rw [z8 h0,cond_true];by_cases h1:g.X=0
   ·rw [z8 h1,cond_true];by_cases h2:g.CZ=0
    ·rw [z8 h2,z8 (show Fm g from .inl ⟨h0,h1,h2⟩)];rfl
    ·rw [CS h2,CS (show¬Fm g by unfold Fm;omega)];rfl
   ·rw [CS h1,CS (show¬Fm g by unfold Fm;omega)];rfl
  ·rw [CS h0,cond_false];by_cases h1:g.C0=1
   ·rw [z8 h1,cond_true];by_cases h2:1≤g.X∧g.X≤g.CW
    ·rw [z8 h2,cond_true];by_cases h3:g.CZ=0
     ·rw [z8 h3,z8 (show Fm g from .inr (.inl ⟨h1,h2,h3⟩))];rfl
     ·rw [CS h3,CS (show¬Fm g by unfold Fm;omega)];rfl
    ·rw [CS h2,CS (show¬Fm g by unfold Fm;omega)];rfl
   ·rw [CS h1,cond_false];by_cases h2:g.C0=2
    ·rw [z8 h2,cond_true];by_cases h3:(1≤g.X∧g.X≤g.CW)∧1≤g.CZ∧g.CZ≤g.CX
     ·rw [z8 h3,z8 (show Fm g from .inr (.inr ⟨h2,h3⟩))];rfl
     ·rw [CS h3,CS (show¬Fm g by unfold Fm;omega)];rfl
    ·rw [CS h2,CS (show¬Fm g by unfold Fm;omega)];rfl
 have ZC:(((bif (g.CY==0) then ((bif (g.C1==0) then some ((g.Y==0)) else some (false))).bind fun DX=>some (DX) else ((bif (g.CY==1) then some ((g.CY==1)) else some ((g.CY==2)))).bind fun Et=>((bif Et then (Hh g g.C1 g.Y).bind fun Fz=>some (Fz) else some (false))).bind fun D0=>some (D0))).bind fun DR=>some (DR))=some (decide (Gk g)):=by
  rw [R5];simp only [Option.bind_some,Oe];by_cases h0:g.CY=0
  ·rw [z8 h0,cond_true];by_cases h1:g.C1=0
   ·rw [z8 h1,cond_true];by_cases h2:g.Y=0
    ·rw [z8 h2,z8 (show Gk g from .inl ⟨h0,h1,h2⟩)];rfl
    ·rw [CS h2,CS (show¬Gk g by unfold Gk;omega)];rfl
   ·rw [CS h1,CS (show¬Gk g by unfold Gk;omega)];rfl
  ·rw [CS h0,cond_false];have e1:(bif decide (g.CY=1) then some (decide (g.CY=1)) else some (decide (g.CY=2)))=some (decide (g.CY=1∨g.CY=2)):=by
    by_cases h1:g.CY=1
    ·rw [z8 h1,z8 (show g.CY=1∨g.CY=2 from .inl h1)];rfl
    ·rw [CS h1,cond_false];congr 1;rw [Bool.eq_iff_iff,decide_eq_true_eq,decide_eq_true_eq];omega
   rw [e1,Option.bind_some];by_cases h2:g.CY=1∨g.CY=2
   ·rw [z8 h2,cond_true];by_cases h3:(1≤g.C1∧g.C1≤g.CW)∧1≤g.Y∧g.Y≤g.CX
    ·rw [z8 h3,z8 (show Gk g from .inr ⟨h2,h3⟩)];rfl
    ·rw [CS h3,CS (show¬Gk g by unfold Gk;omega)];rfl
   ·rw [CS h2,CS (show¬Gk g by unfold Gk;omega)];rfl
 rw [ZB,ZC,Zw ha hb,UG (by omega) (fun h=> !decide (DC g h)) (fun h _=>by unfold Oq;rw [UE];rfl)]
 simp only [Option.bind_some];rw [UG (l:=g.C3 ++ g.C4) (by rw [List.length_append];omega) (fun h=> !decide (h.Kind=3∧DC g h)) (fun h _=>by
  unfold KP;rw [UE];by_cases k:h.Kind=3
  ·rw [HF k,cond_false,Option.bind_some];congr 2;rw [Bool.eq_iff_iff,decide_eq_true_eq,decide_eq_true_eq];exact ⟨fun h=>⟨k,h⟩,fun h=>h.2⟩
  ·rw [HE k,CS (show¬(h.Kind=3∧DC g h) from fun q=>k q.1)];rfl)]
 simp only [Option.bind_some];by_cases EK:Fm g
 rotate_left
 ·rw [CS EK];exact ⟨false,rfl,by simpa using fun h:ET g=>EK h.EK⟩
 rw [z8 EK];by_cases ES:Gk g
 rotate_left
 ·rw [CS ES];exact ⟨false,rfl,by simpa using fun h:ET g=>ES h.ES⟩
 rw [z8 ES];simp only [cond_true];have a1:=UH (l:=g.C2) (p:=fun h=> !decide (DC g h)) (Q:=DC g) (fun x _=>by simp)
 have a2:=UH (l:=g.C3 ++ g.C4) (p:=fun h=> !decide (h.Kind=3∧DC g h)) (Q:=fun h=>h.Kind=3∧DC g h) (fun x _=>by rw [Bool.not_eq_true',decide_eq_false_iff_not])
 cases c1:g.C2.any fun h=> !decide (DC g h)
 ·simp only [Bool.not_false,cond_true];cases c2:(g.C3 ++ g.C4).any fun h=> !decide (h.Kind=3∧DC g h)
  ·exact ⟨true,rfl,by simpa using ⟨hx,hy,G_,by omega,by omega,EK,ES,a1.1 c1,a2.1 c2⟩⟩
  ·refine ⟨false,rfl,?_⟩;simp only [Bool.false_eq_true,false_iff];intro h;rw [a2.2 h.op] at c2;simp at c2
 ·refine ⟨false,rfl,?_⟩;simp only [Bool.false_eq_true,false_iff];intro h;rw [a1.2 h.line] at c1;simp at c1
theorem ZD {g:C5} (hl:g.C2.length≤1000) (ha:g.C3.length≤200) (hb:g.C4.length≤200): ∃b,HQ g=some b∧(b=true↔ET g):=by
 unfold HQ;rw [Ja,Ja,Ja,Ja,HG,HG,HG,HG];simp only [Option.bind_some,R6];by_cases h0:0≤g.C0∧g.C0≤2
 rotate_left
 ·rw [CS h0];exact ⟨false,rfl,by simpa using fun h:ET g=>h0 (by have:=h.EK;omega)⟩
 rw [z8 h0];by_cases h1:0≤g.CY∧g.CY≤2
 rotate_left
 ·rw [CS h1];exact ⟨false,rfl,by simpa using fun h:ET g=>h1 (by have:=h.ES;omega)⟩
 rw [z8 h1];by_cases hx:0≤g.CW∧g.CW≤1000
 rotate_left
 ·rw [CS hx];exact ⟨false,rfl,by simpa using fun h:ET g=>hx h.Fl⟩
 rw [z8 hx];by_cases hy:0≤g.CX∧g.CX≤1000
 rotate_left
 ·rw [CS hy];exact ⟨false,rfl,by simpa using fun h:ET g=>hy h.E1⟩
 rw [z8 hy];by_cases G_:g.C2.length≤30
 rotate_left
 ·rw [z8 (show (30:Int)<(g.C2.length:Int) by omega)];exact ⟨false,rfl,by simpa using fun h:ET g=>G_ h.Eb⟩
 rw [CS (show¬(30:Int)<(g.C2.length:Int) by omega),CS (show¬(300:Int)<(g.C3.length:Int) by omega),CS (show¬(300:Int)<(g.C4.length:Int) by omega)]
 simp only [Bool.not_true,cond_false,Option.bind_some,Oe,decide_eq_true_eq];by_cases q1:(if g.C0=0 then decide (g.X=0) else decide (1≤g.X∧g.X≤g.CW))=true
 rotate_left
 ·rw [Bool.not_eq_true] at q1;rw [q1];refine ⟨false,rfl,?_⟩;simp only [Bool.false_eq_true,false_iff];intro h;have:=h.EK;split at q1<;>rw [decide_eq_false_iff_not] at q1<;>omega
 by_cases q2:(if g.C0<2 then decide (g.CZ=0) else decide (1≤g.CZ∧g.CZ≤g.CX))=true
 rotate_left
 ·rw [Bool.not_eq_true] at q2;rw [q1,q2];refine ⟨false,rfl,?_⟩;simp only [Bool.false_eq_true,false_iff];intro h;have:=h.EK;split at q2<;>rw [decide_eq_false_iff_not] at q2<;>omega
 by_cases q3:(if g.CY=0 then decide (g.C1=0) else decide (1≤g.C1∧g.C1≤g.CW))=true
 rotate_left
 ·rw [Bool.not_eq_true] at q3;rw [q1,q2,q3];refine ⟨false,rfl,?_⟩;simp only [Bool.false_eq_true,false_iff];intro h;have:=h.ES;split at q3<;>rw [decide_eq_false_iff_not] at q3<;>omega
 by_cases q4:(if g.CY=0 then decide (g.Y=0) else decide (1≤g.Y∧g.Y≤g.CX))=true
 rotate_left
 ·rw [Bool.not_eq_true] at q4;rw [q1,q2,q3,q4];refine ⟨false,rfl,?_⟩;simp only [Bool.false_eq_true,false_iff];intro h;have:=h.ES;split at q4<;>rw [decide_eq_false_iff_not] at q4<;>omega
 rw [q1,q2,q3,q4];simp only [Bool.not_true,cond_false,Option.bind_some];have EK:Fm g:=by
  unfold Fm;split at q1<;>split at q2<;>rw [decide_eq_true_eq] at q1 q2<;>omega
 have ES:Gk g:=by
  unfold Gk;split at q3<;>split at q4<;>rw [decide_eq_true_eq] at q3 q4<;>omega
 have k1:c7 (eT (Ou g) 0) fun y=>match y with| .next ()=> ∀h∈g.C2,DC g h| .done b=>b=false∧ ¬ ∀h∈g.C2,DC g h:=by
  refine c7.eT (fun i:Int=>g.C2.length-i.toNat) (fun i=>0≤i∧i≤g.C2.length∧ ∀y∈g.C2.take i.toNat,DC g y) ?_ ⟨by omega,by omega,by simp⟩
  rintro i ⟨i0,i1,i2⟩;simp only [Ou];by_cases hi:i<g.C2.length
  ·have aw:i.toNat<g.C2.length:=by omega
   rw [z8 hi,CR i0 hi];simp only [cond_true,Option.bind_some,UF];by_cases hh:DC g g.C2[i.toNat]
   ·rw [z8 hh,zj (by omega)]
    refine ⟨_,rfl,⟨by omega,by omega,fun y hy=> ?_⟩,by omega⟩
    rw [show (i+1).toNat=i.toNat+1 by omega,List.take_succ_eq_append_getElem aw] at hy
    rcases List.mem_append.1 hy with h' |h'
    ·exact i2 y h'
    ·simp only [List.mem_singleton] at h';rw [h'];exact hh
   ·rw [CS hh];exact ⟨_,rfl,rfl,fun h=>hh (h _ (List.getElem_mem aw))⟩
  ·rw [CS hi];refine ⟨_,rfl,?_⟩
   rwa [List.take_of_length_le (by omega)] at i2
 have k2: ∀l:List Hello,l.length≤1000→c7 (eT (Ov g l) 0) fun y=>match y with| .next ()=> ∀h∈l,h.Kind=3∧DC g h| .done b=>b=false∧ ¬ ∀h∈l,h.Kind=3∧DC g h:=by
  intro l hl;refine c7.eT (fun i:Int=>l.length-i.toNat) (fun i=>0≤i∧i≤l.length∧ ∀y∈l.take i.toNat,y.Kind=3∧DC g y) ?_ ⟨by omega,by omega,by simp⟩
  rintro i ⟨i0,i1,i2⟩;simp only [Ov];by_cases hi:i<l.length
  ·have aw:i.toNat<l.length:=by omega
   rw [z8 hi,CR i0 hi];simp only [cond_true,Option.bind_some,UF];by_cases hk:l[i.toNat].Kind=3
   ·rw [HF hk];by_cases hh:DC g l[i.toNat]
    ·rw [z8 hh,zj (by omega)]
     refine ⟨_,rfl,⟨by omega,by omega,fun y hy=> ?_⟩,by omega⟩
     rw [show (i+1).toNat=i.toNat+1 by omega,List.take_succ_eq_append_getElem aw] at hy
     rcases List.mem_append.1 hy with h' |h'
     ·exact i2 y h'
     ·simp only [List.mem_singleton] at h';rw [h'];exact ⟨hk,hh⟩
    ·rw [CS hh];exact ⟨_,rfl,rfl,fun h=>hh (h _ (List.getElem_mem aw)).2⟩
   ·rw [HE hk];exact ⟨_,rfl,rfl,fun h=>hk (h _ (List.getElem_mem aw)).1⟩
  ·rw [CS hi];refine ⟨_,rfl,?_⟩
   rwa [List.take_of_length_le (by omega)] at i2
 obtain ⟨y,e1,e2⟩:=k1;rw [e1,Option.bind_some];rcases y with ⟨⟩|b
 ·simp only;rw [CP (by simp<;>omega) (by omega),Option.bind_some,List.nil_append,CP (by omega) (by omega),Option.bind_some]
  obtain ⟨z,f1,f2⟩:=k2 (g.C3 ++ g.C4) (by rw [List.length_append];omega)
  rw [f1,Option.bind_some];rcases z with ⟨⟩|b
  ·exact ⟨true,rfl,by simpa using ⟨hx,hy,G_,by omega,by omega,EK,ES,e2,f2⟩⟩
  ·obtain ⟨rfl,f2⟩:=f2;exact ⟨false,rfl,by simpa using fun h:ET g=>f2 h.op⟩
 ·obtain ⟨rfl,e2⟩:=e2;exact ⟨false,rfl,by simpa using fun h:ET g=>e2 h.line⟩
theorem Oh {g:C5} (hl:g.C2.length≤1000) (ha:g.C3.length≤200) (hb:g.C4.length≤200):(ET g∧GR g=some true∧HQ g=some true)∨(¬ET g∧GR g=some false∧HQ g=some false):=by
 obtain ⟨b,e1,e2⟩:=ZA hl ha hb;obtain ⟨c,f1,f2⟩:=ZD hl ha hb;have:c=b:=by rw [Bool.eq_iff_iff];exact f2.trans e2.symm
 subst this;cases c
 ·exact .inr ⟨fun h=>by have:=e2.2 h;simp at this,e1,f1⟩
 ·exact .inl ⟨e2.1 rfl,e1,f1⟩
structure GW (g:C5):Prop where
 Fl:0≤g.CW∧g.CW≤1000
 E1:0≤g.CX∧g.CX≤1000
 D3:g.C3.length≤150
 D4:g.C4.length≤150
 Eb:g.C2.length≤30
 R7: ∀h∈g.C2,h.Kind=1∨h.Kind=2∨h.Kind=3
theorem P7 (g:C5) (h:Hello):(ED g h).C3=g.C3∧(ED g h).C4=g.C4∧(ED g h).CW=g.CW∧(ED g h).CX=g.CX:=by
 unfold ED;split<;>exact ⟨rfl,rfl,rfl,rfl⟩
theorem UI (g:C5) (s:Dc): ∃a b:List Hello,(stepG g s).2.C3=g.C3 ++ a∧(stepG g s).2.C4=g.C4 ++ b∧a.length≤1∧b.length≤1∧g.CW≤(stepG g s).2.CW∧g.CX≤(stepG g s).2.CX:=by
 have one: ∀g' :C5,g'.C3=g.C3→g'.C4=g.C4→g.CW≤g'.CW→g.CX≤g'.CX→ ∃a b:List Hello,g'.C3=g.C3 ++ a∧g'.C4=g.C4 ++ b∧a.length≤1∧b.length≤1∧g.CW≤g'.CW∧g.CX≤g'.CX:=
  fun g' h1 h2 h3 h4=>⟨[],[],by simp [h1],by simp [h2],by simp,by simp,h3,h4⟩
 have same: ∃a b:List Hello,g.C3=g.C3 ++ a∧g.C4=g.C4 ++ b∧a.length≤1∧b.length≤1∧g.CW≤g.CW∧g.CX≤g.CX:=one g rfl rfl (Int.le_refl _) (Int.le_refl _);unfold stepG;split
 ·split
  ·exact same
  ·obtain ⟨h1,h2,h3,h4⟩:=P7 {g with CW:=g.CW+1,C0:=1,X:=g.CW+1,CZ:=0} ⟨1,g.CW+1,0⟩;exact one _ h1 h2 (by simp only [h3];omega) (by simp only [h4];omega)
 ·split
  ·split
   ·rename_i h _;unfold G9;split
    ·split
     ·obtain ⟨h1,h2,h3,h4⟩:=P7 {(Em g s.K) with CY:=1,C1:=h.X,Y:=(Em g s.K).CX+1,CX:=(Em g s.K).CX+1} ⟨2,h.X,(Em g s.K).CX+1⟩;exact one _ h1 h2 (by simp only [h3];exact Int.le_refl _) (by simp only [h4];show g.CX≤g.CX+1;omega)
     ·exact one _ rfl rfl (Int.le_refl _) (Int.le_refl _)
    ·split
     ·split
      ·obtain ⟨h1,h2,h3,h4⟩:=P7 {(Em g s.K) with C0:=2,CZ:=h.Y,C3:=(Em g s.K).C3 ++ [⟨3,h.X,h.Y⟩]} ⟨3,h.X,h.Y⟩;exact ⟨[⟨3,h.X,h.Y⟩],[],h1,by rw [h2];simp [Em],by simp,by simp,by simp only [h3];exact Int.le_refl _,by simp only [h4];exact Int.le_refl _⟩
      ·split
       ·obtain ⟨h1,h2,h3,h4⟩:=P7 (Em g s.K) ⟨3,h.X,h.Y⟩;exact one _ h1 h2 (by rw [h3];exact Int.le_refl _) (by rw [h4];exact Int.le_refl _)
       ·exact one _ rfl rfl (Int.le_refl _) (Int.le_refl _)
     ·split
      ·exact ⟨[],[⟨3,h.X,h.Y⟩],by simp [Em],rfl,by simp,by simp,Int.le_refl _,Int.le_refl _⟩
      ·exact one _ rfl rfl (Int.le_refl _) (Int.le_refl _)
   ·exact same
  ·split
   ·split
    ·exact one _ rfl rfl (Int.le_refl _) (Int.le_refl _)
    ·exact same
   ·split
    ·split
     ·split
      ·exact same
      ·exact one _ rfl rfl (Int.le_refl _) (Int.le_refl _)
     ·exact same
    ·split
     ·split
      ·exact same
      ·exact one _ rfl rfl (Int.le_refl _) (Int.le_refl _)
     ·split
      ·split
       ·exact one _ rfl rfl (Int.le_refl _) (Int.le_refl _)
       ·split
        ·exact one _ rfl rfl (Int.le_refl _) (Int.le_refl _)
        ·exact same
      ·exact same
theorem R8 {g:C5} (i:GW g) (s:Dc):(stepG g s).2.C3.length≤151∧(stepG g s).2.C4.length≤151:=by
 obtain ⟨a,b,h1,h2,h3,h4,_,_⟩:=UI g s;have:=i.D3;have:=i.D4;rw [h1,h2,List.length_append,List.length_append];omega
theorem KC {g:C5} (i:GW g) (s:Dc):Jp g s=some (stepG g s):=by
 obtain ⟨Fx,Fy⟩:=R8 i s;have ha:=i.D3;have hb:=i.D4;have G_:=i.Eb;have hy:=i.E1;have hx:=i.Fl;have e2:IntKind.i64.wrap ((g.C2.length:Int)-1)=(g.C2.length:Int)-1:=zj (by omega)
 unfold Jp;unfold stepG at Fx Fy⊢;simp only [Ky,e2,Option.bind_some];by_cases k1:s.Kind=1
 ·simp only [if_pos k1] at Fx Fy⊢;simp only [Dn k1,cond_true,Option.bind_some];by_cases hk:s.K=0
  ·rw [HF hk];by_cases h3:g.CW=1000
   ·rw [if_pos (.inr h3)];simp only [cond_false,Option.bind_some,Dn h3,cond_true]
   ·rw [if_neg (by omega)] at Fx Fy⊢
    simp only [cond_false,Option.bind_some,Dd h3,P3];rw [zj (by omega)]
    rw [z8 (by simp only at Fx;omega),z8 (by simp only at Fy;omega)]
    rfl
  ·rw [HE hk,if_pos (.inl hk)];rfl
 simp only [if_neg k1] at Fx Fy⊢;by_cases k2:s.Kind=2
 ·simp only [if_pos k2] at Fx Fy⊢;simp only [Dd k1,Dn k2,Dd (show s.Kind≠5 by omega),cond_true,cond_false,Option.bind_some]
  rcases Od g.C2 s.K with ⟨a1,h,a2⟩|⟨a1,a2⟩
  ·obtain ⟨b1,b2,b3⟩:=jU.1 a2;simp only [a1,a2,Bool.not_true,cond_false,Option.bind_some] at Fx Fy⊢;rw [zj (x:=s.K+1) (by omega),(P4 a2 (by omega)).1]
   simp only [Option.bind_some];rw [show (⟨g.C0,g.CY,g.X,g.Y,g.C1,g.CZ,g.CW,g.CX,g.C2.take s.K.toNat ++ g.C2.drop (s.K.toNat+1),g.C3,g.C4⟩:C5)=Em g s.K from rfl,Zs (g:=Em g s.K) (by simp only [Em];omega) (by simp only [Em];omega) (by simp only [Em];omega) (i.R7 _ (List.mem_of_getElem? b3))]
   simp only [Option.bind_some];rw [z8 (by omega),z8 (by omega)]
   rfl
  ·simp only [a1,a2,Bool.not_false,cond_true,Option.bind_some]
 simp only [if_neg k2] at Fx Fy⊢;by_cases k3:s.Kind=3
 ·simp only [if_pos k3] at Fx Fy⊢;simp only [Dd k1,Dd k2,Dn k3,Dd (show s.Kind≠5 by omega),cond_true,cond_false,Option.bind_some]
  rcases Od g.C2 s.K with ⟨a1,h,a2⟩|⟨a1,a2⟩
  ·obtain ⟨b1,b2,b3⟩:=jU.1 a2;simp only [a1,a2,Bool.not_true,cond_false,Option.bind_some];rw [zj (x:=s.K+1) (by omega),(P4 a2 (by omega)).1]
   simp only [Option.bind_some];rw [z8 (by omega),z8 (by omega)]
   rfl
  ·simp only [a1,a2,Bool.not_false,cond_true,Option.bind_some]
 simp only [if_neg k3] at Fx Fy⊢;by_cases k4:s.Kind=4
 ·simp only [if_pos k4] at Fx Fy⊢;simp only [Dd k1,Dd k2,Dd k3,Dn k4,Dd (show s.Kind≠5 by omega),cond_true,cond_false,Option.bind_some]
  rcases Od g.C2 s.K with ⟨a1,h,a2⟩|⟨a1,a2⟩
  ·simp only [a1,a2,Bool.not_true,cond_false,Option.bind_some];by_cases hl:g.C2.length=30
   ·rw [Dn (show (g.C2.length:Int)=30 by omega),if_pos hl];rfl
   ·rw [Dd (show (g.C2.length:Int)≠30 by omega),if_neg hl,cond_false,CP (by simp<;>omega) (by omega)]
    simp only [Option.bind_some];rw [z8 (by omega),z8 (by omega)]
    rfl
  ·simp only [a1,a2,Bool.not_false,cond_true,Option.bind_some]
 simp only [if_neg k4] at Fx Fy⊢;by_cases k5:s.Kind=5
 ·simp only [if_pos k5] at Fx Fy⊢;simp only [Dd k1,Dd k2,Dd k3,Dd k4,Dn k5,cond_true,cond_false,Option.bind_some];by_cases hk:s.K=0
  ·rw [HF hk];by_cases h3:g.CY=1
   ·rw [if_neg (by omega),HF h3]
    simp only [cond_false,Option.bind_some];rw [z8 (by omega),z8 (by omega)]
    rfl
   ·rw [if_pos (.inr h3),HE h3];simp only [cond_false,cond_true,Option.bind_some]
  ·rw [HE hk,if_pos (.inl hk)];rfl
 simp only [if_neg k5] at Fx Fy⊢;by_cases k6:s.Kind=6
 ·simp only [if_pos k6] at Fx Fy⊢;simp only [Dd k1,Dd k2,Dd k3,Dd k4,Dd k5,Dn k6,cond_true,cond_false,Option.bind_some];by_cases hk:s.K=0
  ·rw [Dn hk,if_pos hk];simp only [cond_true,Option.bind_some];rw [z8 (by omega),z8 (by omega)]
   rfl
  ·rw [Dd hk,if_neg hk];by_cases h1:s.K=1
   ·rw [Dn h1,if_pos h1];simp only [cond_true,cond_false,Option.bind_some];rw [z8 (by omega),z8 (by omega)]
    rfl
   ·rw [Dd h1,if_neg h1];rfl
 simp only [if_neg k6,Dd k1,Dd k2,Dd k3,Dd k4,Dd k5,Dd k6,cond_false,Option.bind_some]
theorem KD {g:C5} (i:GW g) (s:Dc):HL g s=some ((stepG g s).2,(stepG g s).1):=by
 have ha:=i.D3;have hb:=i.D4;have G_:=i.Eb;have hy:=i.E1;have hx:=i.Fl;unfold HL stepG;by_cases k1:s.Kind=1
 ·rw [if_pos k1,Dn k1,cond_true];by_cases hk:s.K=0
  ·rw [HF hk];by_cases h3:g.CW=1000
   ·rw [if_pos (.inr h3),Dn h3];rfl
   ·rw [if_neg (by omega),Dd h3]
    simp only [cond_false,Option.bind_some];rw [zj (by omega),KB];rfl
  ·rw [HE hk,if_pos (.inl hk)];rfl
 rw [if_neg k1,Dd k1,cond_false];by_cases k5:s.Kind=5
 ·rw [if_neg (by omega),if_neg (by omega),if_neg (by omega),if_pos k5,Dn k5,cond_true]
  by_cases hk:s.K=0
  ·rw [HF hk];by_cases h3:g.CY=1
   ·rw [if_neg (by omega),HF h3];rfl
   ·rw [if_pos (.inr h3),HE h3];rfl
  ·rw [HE hk,if_pos (.inl hk)];rfl
 rw [Dd k5,cond_false];by_cases k6:s.Kind=6
 ·rw [if_neg (by omega),if_neg (by omega),if_neg (by omega),if_neg k5,if_pos k6,Dn k6,cond_true]
  by_cases hk:s.K=0
  ·rw [Dn hk,if_pos hk];rfl
  ·rw [Dd hk,if_neg hk];by_cases h1:s.K=1
   ·rw [Dn h1,if_pos h1];rfl
   ·rw [Dd h1,if_neg h1];rfl
 rw [Dd k6,cond_false,Ja,if_neg k5,if_neg k6];simp only [Option.bind_some];rcases Od g.C2 s.K with ⟨a1,h,a2⟩|⟨a1,a2⟩
 ·obtain ⟨b1,b2,b3⟩:=jU.1 a2;obtain ⟨d1,d2,d3⟩:=P4 a2 (by omega)
  have o1:app 24 ([]:List Hello) (g.C2.take s.K.toNat)=some (g.C2.take s.K.toNat):=by rw [CP (by simp<;>omega) (by omega)];rfl
  have o2:app 24 (g.C2.take s.K.toNat) (g.C2.drop (s.K.toNat+1))=some (g.C2.take s.K.toNat ++ g.C2.drop (s.K.toNat+1)):=CP (by simp<;>omega) (by omega)
  rw [CS (by omega),CS (by omega),zj (x:=s.K+1) (by omega)]
  simp only [a2,cond_false,Option.bind_some];by_cases k2:s.Kind=2
  ·rw [if_pos k2,k2];simp only [show ER 2 2 4=true from by decide,Bool.not_true,cond_false,cond_true,Dd (show (2:Int)≠4 by omega),beq_self_eq_true,d2,d3,o1,o2,Option.bind_some]
   rw [show (⟨g.C0,g.CY,g.X,g.Y,g.C1,g.CZ,g.CW,g.CX,g.C2.take s.K.toNat ++ g.C2.drop (s.K.toNat+1),g.C3,g.C4⟩:C5)=Em g s.K from rfl,Uz (g:=Em g s.K) (by simp only [Em];omega) (by simp only [Em];omega) (by simp only [Em];omega) (i.R7 _ (List.mem_of_getElem? b3))]
   rfl
  rw [if_neg k2];by_cases k3:s.Kind=3
  ·rw [if_pos k3,k3];simp only [show ER 3 2 4=true from by decide,Bool.not_true,cond_false,Dd (show (3:Int)≠4 by omega),Dd (show (3:Int)≠2 by omega),d2,d3,o1,o2,Option.bind_some]
   rfl
  rw [if_neg k3];by_cases k4:s.Kind=4
  ·rw [if_pos k4,k4];simp only [show ER 4 2 4=true from by decide,Bool.not_true,cond_false,cond_true,beq_self_eq_true]
   by_cases hl:g.C2.length=30
   ·rw [Dn (show (g.C2.length:Int)=30 by omega),if_pos hl];rfl
   ·rw [Dd (show (g.C2.length:Int)≠30 by omega),if_neg hl,cond_false,KB,Option.bind_some]
    unfold ED;rw [if_pos (by omega)]
  rw [if_neg k4];have:ER s.Kind 2 4=false:=by
   cases hb:ER s.Kind 2 4
   ·rfl
   ·rw [Kz] at hb;omega
  simp only [this,Bool.not_false,cond_true]
 ·have eR:s.K<0∨ ¬s.K<0∧(g.C2.length:Int)≤s.K:=by
   have: ¬(ER s.K 0 ((g.C2.length:Int)-1)=true):=by simp [a1]
   rw [Kz] at this;omega
  have e:(bif (decide (s.K<0)) then some (true) else (bif (decide ((g.C2.length:Int)≤s.K)) then some (true) else some (!ER s.Kind 2 4)))=some true:=by
   rcases eR with a1|⟨a1,R2⟩
   ·rw [z8 a1];rfl
   ·rw [CS a1,z8 R2];rfl
  rw [e,a2];simp only [cond_true,Option.bind_some];split
  ·rfl
  ·split
   ·rfl
   ·split<;>rfl
theorem tc {c:Du} {b n:Int} (h:El c b) (hb:b≤4000000000000000000):c7 (Fa c n) fun r=>0≤r.1∧(1≤n→r.1<n)∧El r.2 (b+2):=by
 obtain ⟨x,d,e,⟨h1,h2⟩,h3⟩:=Jb (n:=n) h hb;exact ⟨_,e,h1,h2,h3⟩
theorem ZE {c:Du} {b n:Int} (h:El c b) (hb:b≤4000000000000000000):c7 (Jd c n) fun r=>El r.2 (b+2):=by
 obtain ⟨x,d,e,h3⟩:=RZ (n:=n) h hb;exact ⟨_,e,h3⟩
theorem ZF {c:Du} {b:Int} {l:List Int} (h:El c b) (hb:b≤4000000000000000000) (hl:l≠[]):c7 (JU c l) fun r=>r.1∈l∧El r.2 (b+2):=by
 obtain ⟨x,d,e,h2,h3⟩:=Uu h hb hl;exact ⟨_,e,h2,h3⟩
theorem P8 {g:C5} {h:Hello} (i:ET g) (hh:DC g h):ET (ED g h):=by
 unfold ED;split
 ·exact ⟨i.Fl,i.E1,by simp<;>omega,i.D3,i.D4,i.EK,i.ES,fun x hx=>by
   rcases List.mem_append.1 hx with hx|hx
   ·exact i.line x hx
   ·simp only [List.mem_singleton] at hx;rw [hx];exact hh,i.op⟩
 ·exact i
theorem UJ {g:C5} (i:ET g) (k:Int):ET (Em g k):=by
 refine ⟨i.Fl,i.E1,?_,i.D3,i.D4,i.EK,i.ES,fun x hx=> ?_,i.op⟩
 ·have:=i.Eb;simp [Em];omega
 ·rcases List.mem_append.1 hx with h|h
  ·exact i.line x (List.mem_of_mem_take h)
  ·exact i.line x (List.mem_of_mem_drop h)
theorem UK {g:C5} {k x y:Int} (hk:k=2∨k=3) (hx:1≤x∧x≤g.CW) (hy:1≤y∧y≤g.CX):DC g ⟨k,x,y⟩:= .inr ⟨hk,hx,hy⟩
theorem ZG {g:C5} (i:ET g) (ha:g.C3.length≤150) (hb:g.C4.length≤150) {h:Hello} (hh:DC g h):ET (G9 g h):=by
 have hx:=i.Fl;have hy:=i.E1;have ZH:=i.EK;have ZI:=i.ES;have hX:1≤h.X∧h.X≤g.CW:=by unfold DC at hh;omega
 have hY:h.Kind≠1→1≤h.Y∧h.Y≤g.CX:=by unfold DC at hh;omega
 unfold G9;split
 ·rename_i k;split
  ·rename_i c;refine P8 ⟨hx,⟨by simp only;omega,by simp only;omega⟩,i.Eb,i.D3,i.D4,by simp only;omega,.inr ⟨.inl rfl,hX,by simp only;omega,by simp only;omega⟩,fun x hm=>P6 (i.line x hm) (Int.le_refl _) (by simp only;omega),fun x hm=>⟨(i.op x hm).1,P6 (i.op x hm).2 (Int.le_refl _) (by simp only;omega)⟩⟩ ?_
   exact UK (.inl rfl) hX ⟨(by first|omega|(dsimp only;omega)),(by first|omega|(dsimp only;omega))⟩
  ·exact i
 ·rename_i k1;have hY:=hY k1;have h3:DC g ⟨3,h.X,h.Y⟩:=UK (.inr rfl) hX hY;split
  ·split
   ·rename_i k2 c;refine P8 ⟨hx,hy,i.Eb,by simp<;>omega,i.D4,.inr (.inr ⟨rfl,by simp only;omega,hY⟩),i.ES,i.line,fun x hm=> ?_⟩ h3
    simp only [List.mem_append,List.mem_singleton] at hm;rcases hm with (hm|hm)|hm
    ·exact i.op x (List.mem_append_left _ hm)
    ·rw [hm];exact ⟨rfl,h3⟩
    ·exact i.op x (List.mem_append_right _ hm)
   ·split
    ·exact P8 i h3
    ·exact i
  ·split
   ·rename_i k2 c;refine ⟨hx,hy,i.Eb,i.D3,by simp<;>omega,i.EK,.inr ⟨.inr rfl,by simp only;omega,by simp only;omega⟩,i.line,fun x hm=> ?_⟩
    simp only [List.mem_append,List.mem_singleton] at hm;rcases hm with hm|hm|hm
    ·exact i.op x (List.mem_append_left _ hm)
    ·exact i.op x (List.mem_append_right _ hm)
    ·rw [hm];exact ⟨rfl,h3⟩
   ·exact i
theorem UL {g:C5} (i:ET g) (ha:g.C3.length≤150) (hb:g.C4.length≤150) (s:Dc) (_h:(stepG g s).1=true):ET (stepG g s).2:=by
 have hx:=i.Fl;have hy:=i.E1;have ZH:=i.EK;have ZI:=i.ES;unfold stepG;split
 ·rename_i k;split
  ·exact i
  ·rename_i c;refine P8 ⟨⟨by simp only;omega,by simp only;omega⟩,hy,i.Eb,i.D3,i.D4,.inr (.inl ⟨rfl,⟨by simp only;omega,by simp only;omega⟩,rfl⟩),by simp only;omega,fun x hm=>P6 (i.line x hm) (by simp only;omega) (Int.le_refl _),fun x hm=>⟨(i.op x hm).1,P6 (i.op x hm).2 (by simp only;omega) (Int.le_refl _)⟩⟩ ?_
   exact .inl ⟨rfl,⟨by simp only;omega,by simp only;omega⟩,rfl⟩
 ·split
  ·split
   ·rename_i x bz;have hm:=List.mem_of_getElem? (jU.1 bz).2.2;exact ZG (UJ i s.K) ha hb (i.line _ hm)
   ·exact i
  ·split
   ·split
    ·exact UJ i s.K
    ·exact i
   ·split
    ·split
     ·rename_i x bz;have hm:=List.mem_of_getElem? (jU.1 bz).2.2;split
      ·exact i
      ·rename_i c;have G_:=i.Eb;exact ⟨hx,hy,by simp<;>omega,i.D3,i.D4,i.EK,i.ES,fun y ei=>by
        rcases List.mem_append.1 ei with h|h
        ·exact i.line y h
        ·simp only [List.mem_singleton] at h;rw [h];exact i.line x hm,i.op⟩
     ·exact i
    ·split
     ·split
      ·exact i
      ·exact ⟨hx,hy,i.Eb,i.D3,i.D4,i.EK,.inl ⟨rfl,rfl,rfl⟩,i.line,i.op⟩
     ·split
      ·split
       ·exact ⟨hx,hy,i.Eb,i.D3,i.D4,.inl ⟨rfl,rfl,rfl⟩,i.ES,i.line,i.op⟩
       ·split
        ·exact ⟨hx,hy,i.Eb,i.D3,i.D4,i.EK,.inl ⟨rfl,rfl,rfl⟩,i.line,i.op⟩
        ·exact i
      ·exact i
structure JT (g:C5):Prop where
 D3:g.C3.length≤121
 D4:g.C4.length≤121
 Eb:g.C2.length≤31
 E1:0≤g.CX∧g.CX≤121
theorem UM {c:Du} {q:Int} (h:El c q) (hq:q≤1000000000000000000):c7 (KH c) fun r=>r.1.length≤121∧El r.2 (q+5100):=by
 unfold KH;obtain ⟨x,d,e1,e2,e3⟩:=Jb (n:=30) h (by omega)
 have gU:=e2.2 (by omega)
 rw [e1,Option.bind_some];simp only;obtain ⟨b,d2,g1,g2⟩:=RZ (n:=12) e3 (by omega)
 rw [g1,Option.bind_some];simp only;have start: ∃(n:Int) (e:Du),0≤n∧n≤121∧El e (q+2000)∧(bif b then (Fa d2 3).bind fun (De,DK)=>some ((IntKind.i64.wrap (119+De)),DK.Code,DK.Ds,DK.Dw) else some (x,d2.Code,d2.Ds,d2.Dw))=some (n,e.Code,e.Ds,e.Dw):=by
  cases b
  ·exact ⟨x,d2,by omega,by omega,g2.mono (by omega),rfl⟩
  ·obtain ⟨y,d3,m1,m2,m3⟩:=Jb (n:=3) g2 (by omega)
   have:=m2.2 (by omega)
   refine ⟨119+y,d3,by omega,by omega,m3.mono (by omega),?_⟩
   rw [cond_true,m1,Option.bind_some];simp only;rw [zj (by omega)]
 obtain ⟨n,e,ZJ,acB,ce,e4⟩:=start;rw [e4,Option.bind_some];simp only;have key:c7 (eT Ok ([],n,e.Code,e.Ds,e.Dw)) fun y=>y.1.length≤121∧El ⟨y.2.1,y.2.2.1,y.2.2.2⟩ (q+5000):=by
  refine c7.eT (fun x=>x.2.1.toNat) (fun x=>0≤x.2.1∧(x.1.length:Int)+x.2.1≤121∧El ⟨x.2.2.1,x.2.2.2.1,x.2.2.2.2⟩ (q+5000-10*x.2.1)) ?_ ⟨ZJ,by simp only [List.length_nil];omega,ce.mono (by simp only;omega)⟩
  rintro ⟨l,n,C,A,S⟩ ⟨i1,i3,i4⟩;simp only at i1 i3 i4;simp only [Ok];by_cases hn:0<n
  ·rw [z8 hn];obtain ⟨y,d',f1,f2,f3⟩:=Uu (l:=[1,2,2,2,2,2,2,3,4,4,5,6]) i4 (by omega) (by simp)
   simp only [cond_true,f1,Option.bind_some,Ja];have h2: ∃(e:Du) (z:Int),El e (q+5000-10*n+4)∧(bif ER y 2 4 then (Fa d' 4).bind fun (KF,Je)=>some (Je.Code,Je.Ds,Je.Dw,KF) else some (d'.Code,d'.Ds,d'.Dw,0))=some (e.Code,e.Ds,e.Dw,z):=by
    cases ER y 2 4
    ·exact ⟨d',0,f3.mono (by omega),rfl⟩
    ·obtain ⟨z,e,m1,m2,m3⟩:=Jb (n:=4) f3 (by omega)
     refine ⟨e,z,m3.mono (by omega),?_⟩
     rw [cond_true,m1];rfl
   obtain ⟨e',z,v1,v2⟩:=h2;rw [v2,Option.bind_some];simp only;have h3: ∃(e:Du) (w:Int),El e (q+5000-10*n+6)∧(bif (y==6) then (Fa (⟨e'.Code,e'.Ds,e'.Dw⟩:Du) 2).bind fun (KG,Fz)=>some (Fz.Code,Fz.Ds,Fz.Dw,KG) else some (e'.Code,e'.Ds,e'.Dw,z))=some (e.Code,e.Ds,e.Dw,w):=by
    cases y==6
    ·exact ⟨e',z,v1.mono (by omega),rfl⟩
    ·obtain ⟨w,e,m1,m2,m3⟩:=Jb (n:=2) v1 (by omega)
     refine ⟨e,w,m3.mono (by omega),?_⟩
     rw [cond_true,show (⟨e'.Code,e'.Ds,e'.Dw⟩:Du)=e' from rfl,m1];rfl
   obtain ⟨e2,w,Oi,ZK⟩:=h3;rw [ZK,Option.bind_some];simp only;rw [CP (by simp<;>omega) (by omega),Option.bind_some,zj (x:=n-1) (by omega)]
   exact ⟨_,rfl,⟨by simp only;omega,by simp<;>omega,Oi.mono (by simp only;omega)⟩,by simp only;omega⟩
  ·rw [CS hn];exact ⟨_,rfl,by simp only;omega,i4.mono (by omega)⟩
 refine c7.then key ?_;rintro ⟨l,C,A,S⟩ ⟨k1,k3⟩;simp only at k1 k3⊢;by_cases hl:0<l.length
 ·rw [z8 (by omega)]
  obtain ⟨b',d4,o1,o2⟩:=RZ (n:=20) k3 (by omega)
  simp only [cond_true,o1,Option.bind_some];cases b'
  ·exact ⟨_,rfl,by simp only;omega,o2.mono (by omega)⟩
  ·obtain ⟨y,d5,m1,m2,m3⟩:=Jb (n:=8) o2 (by omega)
   obtain ⟨z,d6,q1,q2,q3⟩:=Jb (n:=4) m3 (by omega)
   simp only [cond_true,m1,q1,Option.bind_some];rw [CR (by omega) (by omega),Option.bind_some]
   exact ⟨_,rfl,by simp<;>omega,q3.mono (by omega)⟩
 ·rw [CS (by omega)]
  exact ⟨_,rfl,by simp only;omega,k3.mono (by omega)⟩
theorem R9 {c:Du} {q:Int} (h:El c q) (hq:q≤100000000000000000):c7 (JW c) fun r=>JT r.1∧El r.2 (q+6000):=by
 unfold JW;refine c7.then (UM h (by omega)) ?_
 rintro ⟨l,c1⟩ ⟨hl,cK⟩;dsimp only at hl cK⊢;rw [Zv,Option.bind_some];have base: ∃g:C5,JT g∧g.C2.length≤30∧(bif (!(Gp l).2.2) then (IE).bind fun Dv=>some (Dv.C0,Dv.CY,Dv.X,Dv.Y,Dv.C1,Dv.CZ,Dv.CW,Dv.CX,Dv.C2,Dv.C3,Dv.C4) else some ((Gp l).1.C0,(Gp l).1.CY,(Gp l).1.X,(Gp l).1.Y,(Gp l).1.C1,(Gp l).1.CZ,(Gp l).1.CW,(Gp l).1.CX,(Gp l).1.C2,(Gp l).1.C3,(Gp l).1.C4))=some (g.C0,g.CY,g.X,g.Y,g.C1,g.CZ,g.CW,g.CX,g.C2,g.C3,g.C4):=by
  unfold Gp;split
  ·rename_i c9;obtain ⟨i,_⟩:=R3 l 0 DH R4;have h1:=i.D3;have h2:=i.D4;have h3:=i.Eb;have h4:=i.E1;exact ⟨(Ec DH l).1,⟨by omega,by omega,by omega,by omega,by omega⟩,h3,rfl⟩
  ·exact ⟨DH,⟨by simp [DH],by simp [DH],by simp [DH],by simp [DH]⟩,by simp [DH],rfl⟩
 obtain ⟨g,hg,acC,e⟩:=base;rw [e,Option.bind_some];dsimp only;refine c7.then (tc (by assumption) (by omega)) ?_
 rintro ⟨x,c_x⟩ ⟨ZL,ZM,UN⟩;dsimp only at ZL ZM UN⊢;refine c7.then (P:=fun r:List Int×Int×Int×Int×Int×List Hello=>r.2.2.2.2.2.length≤31∧El ⟨r.1,r.2.1,r.2.2.1⟩ (q+6000)) ?_ ?_
 ·refine c7.then (P:=fun r:List Int×Int×Int×Int×Int×List Hello=>r.2.2.2.2.2.length≤31∧El ⟨r.1,r.2.1,r.2.2.1⟩ (q+6000)) ?_ (fun r hr=> .ret hr);refine c7.CQ (fun hc=> ?_) (fun hc=> ?_)
  ·refine c7.then (ZF (by assumption) (by omega) (by simp)) ?_
   rintro ⟨y,R_⟩ ⟨ZN,Jc⟩;dsimp only at ZN Jc⊢;exact .ret ⟨by dsimp only;omega,Jc.mono (by omega)⟩
  ·refine c7.then (P:=fun r:List Int×Int×Int×Int×List Hello=>r.2.2.2.2.length≤31∧El ⟨r.1,r.2.1,r.2.2.1⟩ (q+6000)) ?_ (fun r hr=> .ret hr);refine c7.CQ (fun hc=> ?_) (fun hc=> ?_)
   ·refine c7.then (tc (by assumption) (by omega)) ?_
    rintro ⟨y,R_⟩ ⟨Oj,L4,Jc⟩;dsimp only at Oj L4 Jc⊢;exact .ret ⟨by dsimp only;omega,Jc.mono (by omega)⟩
   ·refine c7.then (P:=fun r:List Int×Int×Int×List Hello=>r.2.2.2.length≤31∧El ⟨r.1,r.2.1,r.2.2.1⟩ (q+6000)) ?_ (fun r hr=> .ret hr);refine c7.CQ (fun hc=> ?_) (fun hc=> ?_)
    ·refine c7.then (tc (by assumption) (by omega)) ?_
     rintro ⟨y,R_⟩ ⟨Oj,L4,Jc⟩;dsimp only at Oj L4 Jc⊢;refine c7.then (tc (by assumption) (by omega)) ?_
     rintro ⟨z,ZO⟩ ⟨ZP,ZQ,P9⟩;dsimp only at ZP ZQ P9⊢;refine c7.then (tc (by assumption) (by omega)) ?_
     rintro ⟨w,c_w⟩ ⟨ZR,ZS,UO⟩;dsimp only at ZR ZS UO⊢;rw [CP (by simp<;>omega) (by omega),Option.bind_some]
     exact .ret ⟨by simp<;>omega,UO.mono (by omega)⟩
    ·exact .ret ⟨by dsimp only;omega,UN.mono (by omega)⟩
 ·rintro ⟨co,a,ZT,ES,Fl,acD⟩ ⟨h1,h2⟩;exact .ret ⟨⟨hg.D3,hg.D4,h1,hg.E1⟩,h2⟩
theorem ZU {l:List Int} (hl:l.length≤1048576) (hb: ∀x∈l,0≤x∧x≤255):c7 (Mg l) fun r=>JT r.1:=by
 unfold Mg;refine c7.then (R9 (R0 hl hb) (by omega)) ?_
 rintro ⟨g,c1⟩ ⟨hg,cK⟩;dsimp only at hg cK⊢;refine c7.then (UM cK (by omega)) ?_
 rintro ⟨s,c2⟩ ⟨hs,_⟩;dsimp only at hs⊢;by_cases h0:s.length=0
 ·rw [Dn (show (s.length:Int)=0 by omega)];exact .ret hg
 ·rw [Dd (show (s.length:Int)≠0 by omega),cond_false,CR (by omega) (by omega)];exact .ret hg
theorem ZV {l:List Int} (hl:l.length≤1048576) (hb: ∀x∈l,0≤x∧x≤255):c7 (KT l) fun r=>JT r:=by
 unfold KT Oy;refine c7.bind (c7.bind ?_);refine (R9 (R0 hl hb) (by omega)).use ?_
 rintro ⟨g,c1⟩ ⟨hg,_⟩;exact .ret (.ret hg)
theorem ZW {l:List Int} (hl:l.length≤1048576) (hb: ∀x∈l,0≤x∧x≤255):c7 (KZ l) fun r=>r.1.length≤121:=by
 unfold KZ;refine c7.then (R9 (R0 hl hb) (by omega)) ?_
 rintro ⟨g,c1⟩ ⟨hg,cK⟩;dsimp only at hg cK⊢;refine c7.then (P:=fun r=>(r.1=true→0<g.C3.length)∧El ⟨r.2.1,r.2.2.1,r.2.2.2⟩ 7000) ?_ ?_
 ·refine c7.CQ (fun hc=> ?_) (fun hc=> ?_)
  ·simp only [decide_eq_true_eq] at hc;refine c7.then (ZE (by assumption) (by omega)) ?_
   rintro ⟨z,ZO⟩ P9;dsimp only at P9⊢;exact .ret ⟨fun _=>by omega,P9.mono (by omega)⟩
  ·exact .ret ⟨fun h=>by simp at h,cK.mono (by omega)⟩
 ·rintro ⟨b,co,a,ZT⟩ ⟨h1,h2⟩;dsimp only at h1 h2⊢;refine c7.then (P:=fun _=>True) ?_ (fun r _=> .ret hg.D3);refine c7.CQ (fun hc=> ?_) (fun hc=> ?_)
  ·have h1:=h1 hc;refine c7.then (tc (by assumption) (by omega)) ?_
   rintro ⟨y,R_⟩ ⟨Oj,L4,Jc⟩;dsimp only at Oj L4 Jc⊢;have y_2:=L4 (by omega)
   rw [CR (by omega) (by omega)]
   exact .ret trivial
  ·exact .ret trivial
theorem UP {g:C5} (h1:g.C2.length≤1000) (h2:g.C3.length≤1000) (h3:g.C4.length≤1000):KL g=some g:=by
 unfold KL Mh;rw [CP (by simp<;>omega) (by omega),Option.bind_some,CP (by simp<;>omega) (by omega),Option.bind_some,CP (by simp<;>omega) (by omega),Option.bind_some]
 rfl
theorem P_ {g:C5} (h1:g.C2.length≤1000) (h2:g.C3.length≤1000) (h3:g.C4.length≤1000):He g=some g:=by
 unfold He;rw [CP (by simp<;>omega) (by omega),Option.bind_some,CP (by simp<;>omega) (by omega),Option.bind_some,CP (by simp<;>omega) (by omega),Option.bind_some]
 rfl
theorem ZX {g:C5} {h:Hello} (i:DC g h):h.Kind=1∨h.Kind=2∨h.Kind=3:=by unfold DC at i;omega
theorem GW.of {g:C5} (i:ET g) (d:JT g):GW g:=⟨i.Fl,i.E1,by have:=d.D3;omega,by have:=d.D4;omega,i.Eb,fun h hh=>ZX (i.line h hh)⟩
theorem ZY {g:C5} (d:JT g): ∃(z:C5) (ok:Bool),KU g=some (z,ok)∧KV g=some (z,ok)∧z.C2.length≤1000∧z.C3.length≤1000∧z.C4.length≤1000:=by
 have Fx:=d.D3;have Fy:=d.D4;have G_:=d.Eb;have nj:=d.E1;unfold KU KV;rw [UP (by omega) (by omega) (by omega),Option.bind_some]
 rcases Oh (g:=g) (by omega) (by omega) (by omega) with ⟨i,g1,g2⟩|⟨_,g1,g2⟩
 rotate_left
 ·rw [g1,g2];exact ⟨Gj,false,rfl,rfl,by simp [Gj],by simp [Gj],by simp [Gj]⟩
 have w:=GW.of i d;have hx:=i.Fl;have UQ:GW {g with C0:=0,X:=0,CZ:=0}:=⟨w.Fl,w.E1,w.D3,w.D4,w.Eb,w.R7⟩;have w0:GW ⟨0,0,0,0,0,0,g.CW,g.CX,[],g.C3,g.C4⟩:=⟨w.Fl,w.E1,w.D3,w.D4,by simp,by simp⟩
 have ZZ:stepG g ⟨6,0⟩=(true,{g with C0:=0,X:=0,CZ:=0}):=by simp [stepG]
 have Z0:stepG {g with C0:=0,X:=0,CZ:=0} ⟨6,1⟩=(true,{g with C0:=0,X:=0,CZ:=0,CY:=0,C1:=0,Y:=0}):=by simp [stepG]
 have UR:=KC w ⟨6,0⟩;have Qa:=KD w ⟨6,0⟩;have US:=KC UQ ⟨6,1⟩;have Qb:=KD UQ ⟨6,1⟩;rw [ZZ] at UR Qa;rw [Z0] at US Qb;have Z1:=P_ (g:=g) (by omega) (by omega) (by omega)
 have i1:=KC w0 ⟨1,0⟩;have t1:=KD w0 ⟨1,0⟩;rw [g1,g2,Z1];simp only [Option.bind_some,Bool.not_true,cond_false,UR,Qa,US,Qb];by_cases UT:g.CW=1000
 ·have e1:stepG ⟨0,0,0,0,0,0,g.CW,g.CX,[],g.C3,g.C4⟩ ⟨1,0⟩=(false,⟨0,0,0,0,0,0,g.CW,g.CX,[],g.C3,g.C4⟩):=by simp [stepG,UT]
  rw [e1] at i1 t1;refine ⟨Gj,false,?_,?_,by simp [Gj],by simp [Gj],by simp [Gj]⟩
  ·rw [pf];simp only [IM];rw [z8 (by simp),show idx ([⟨1,0⟩,⟨2,0⟩,⟨2,0⟩,⟨2,0⟩]:List Dc) 0=some ⟨1,0⟩ from by simp [idx]]
   simp only [cond_true,Option.bind_some,i1,Bool.not_false];rfl
  ·rw [pf];simp only [IN];rw [z8 (by simp),show idx ([1,2,2,2]:List Int) 0=some 1 from by simp [idx]]
   simp only [cond_true,Option.bind_some,t1,Bool.not_false];rfl
 ·have e1:=At g.CW g.CX g.C3 g.C4 UT;have e2:=mv (g.CW+1) g.CX g.C3 g.C4 (by omega)
  have e3:=mw (g.CW+1) (g.CX+1) g.C3 g.C4;have e4:=rH (g.CW+1) (g.CX+1) (g.C3 ++ [⟨3,g.CW+1,g.CX+1⟩]) g.C4;have w1:GW ⟨1,0,g.CW+1,0,0,0,g.CW+1,g.CX,[⟨1,g.CW+1,0⟩],g.C3,g.C4⟩:=⟨⟨by simp only;omega,by simp only;omega⟩,w.E1,w.D3,w.D4,by simp,by simp⟩
  have w2:GW ⟨1,1,g.CW+1,g.CX+1,g.CW+1,0,g.CW+1,g.CX+1,[⟨2,g.CW+1,g.CX+1⟩],g.C3,g.C4⟩:=⟨⟨by simp only;omega,by simp only;omega⟩,⟨by simp only;omega,by simp only;omega⟩,w.D3,w.D4,by simp,by simp⟩
  have w3:GW ⟨2,1,g.CW+1,g.CX+1,g.CW+1,g.CX+1,g.CW+1,g.CX+1,[⟨3,g.CW+1,g.CX+1⟩],g.C3 ++ [⟨3,g.CW+1,g.CX+1⟩],g.C4⟩:=⟨⟨by simp only;omega,by simp only;omega⟩,⟨by simp only;omega,by simp only;omega⟩,by simp<;>omega,w.D4,by simp,by simp⟩
  have i2:=KC w1 ⟨2,0⟩;have t2:=KD w1 ⟨2,0⟩;have i3:=KC w2 ⟨2,0⟩;have t3:=KD w2 ⟨2,0⟩;have i4:=KC w3 ⟨2,0⟩;have t4:=KD w3 ⟨2,0⟩;rw [e1] at i1 t1;rw [e2] at i2 t2;rw [e3] at i3 t3;rw [e4] at i4 t4;have el:(DO g).C2.length≤1000∧(DO g).C3.length≤1000∧(DO g).C4.length≤1000:=⟨by simp [DO],by simp [DO];omega,by simp [DO];omega⟩
  refine ⟨DO g,true,?_,?_,el⟩
  ·have run:eT IM (0,0,0,0,0,0,0,g.CW,g.CX,[],g.C3,g.C4)=some (.next ((DO g).C0,(DO g).CY,(DO g).X,(DO g).Y,(DO g).C1,(DO g).CZ,(DO g).CW,(DO g).CX,(DO g).C2,(DO g).C3,(DO g).C4)):=by
    rw [pf];simp only [IM];rw [z8 (by simp),show idx ([⟨1,0⟩,⟨2,0⟩,⟨2,0⟩,⟨2,0⟩]:List Dc) 0=some ⟨1,0⟩ from by simp [idx]]
    simp only [cond_true,Option.bind_some,i1,Bool.not_true,cond_false];rw [zj (by omega),pf]
    simp only [IM];rw [z8 (by simp),show idx ([⟨1,0⟩,⟨2,0⟩,⟨2,0⟩,⟨2,0⟩]:List Dc) (0+1)=some ⟨2,0⟩ from by simp [idx]]
    simp only [cond_true,Option.bind_some,i2,Bool.not_true,cond_false];rw [zj (by omega),pf]
    simp only [IM];rw [z8 (by simp),show idx ([⟨1,0⟩,⟨2,0⟩,⟨2,0⟩,⟨2,0⟩]:List Dc) (0+1+1)=some ⟨2,0⟩ from by simp [idx]]
    simp only [cond_true,Option.bind_some,i3,Bool.not_true,cond_false];rw [zj (by omega),pf]
    simp only [IM];rw [z8 (by simp),show idx ([⟨1,0⟩,⟨2,0⟩,⟨2,0⟩,⟨2,0⟩]:List Dc) (0+1+1+1)=some ⟨2,0⟩ from by simp [idx]]
    simp only [cond_true,Option.bind_some,i4,Bool.not_true,cond_false];rw [zj (by omega),pf]
    simp only [IM];rw [CS (by simp)]
    rfl
   rw [run];rfl
  ·have run:eT IN (0,0,0,0,0,0,0,g.CW,g.CX,[],g.C3,g.C4)=some (.next ((DO g).C0,(DO g).CY,(DO g).X,(DO g).Y,(DO g).C1,(DO g).CZ,(DO g).CW,(DO g).CX,(DO g).C2,(DO g).C3,(DO g).C4)):=by
    rw [pf];simp only [IN];rw [z8 (by simp),show idx ([1,2,2,2]:List Int) 0=some 1 from by simp [idx]]
    simp only [cond_true,Option.bind_some,t1,Bool.not_true,cond_false];rw [zj (by omega),pf]
    simp only [IN];rw [z8 (by simp),show idx ([1,2,2,2]:List Int) (0+1)=some 2 from by simp [idx]]
    simp only [cond_true,Option.bind_some,t2,Bool.not_true,cond_false];rw [zj (by omega),pf]
    simp only [IN];rw [z8 (by simp),show idx ([1,2,2,2]:List Int) (0+1+1)=some 2 from by simp [idx]]
    simp only [cond_true,Option.bind_some,t3,Bool.not_true,cond_false];rw [zj (by omega),pf]
    simp only [IN];rw [z8 (by simp),show idx ([1,2,2,2]:List Int) (0+1+1+1)=some 2 from by simp [idx]]
    simp only [cond_true,Option.bind_some,t4,Bool.not_true,cond_false];rw [zj (by omega),pf]
    simp only [IN];rw [CS (by simp)]
    rfl
   rw [run];simp only [Option.bind_some];rw [show (⟨(DO g).C0,(DO g).CY,(DO g).X,(DO g).Y,(DO g).C1,(DO g).CZ,(DO g).CW,(DO g).CX,(DO g).C2,(DO g).C3,(DO g).C4⟩:C5)=DO g from rfl,P_ el.1 el.2.1 el.2.2];rfl
theorem Z2 {l:List Hello} (hl:l.length≤300) (x:Hello): ∃b,Jq l x=some (b,true)∧K_ l x=some (b,true):=by
 obtain ⟨h1,h2⟩:=Zy hl x;have key:c7 (eT (OC l x) 0) fun y=>match y with| .next ()=>x∉l| .done i=>i=(true,true)∧x∈l:=by
  refine c7.eT (fun i:Int=>l.length-i.toNat) (fun i=>0≤i∧i≤l.length∧ ∀y∈l.take i.toNat,y≠x) ?_ ⟨by omega,by omega,by simp⟩
  rintro i ⟨i0,i1,i2⟩;simp only [OC];by_cases hi:i<l.length
  ·have aw:i.toNat<l.length:=by omega
   rw [z8 hi,CR i0 hi];simp only [cond_true,Option.bind_some];by_cases he:x=l[i.toNat]
   ·have:((x.Kind==l[i.toNat].Kind)&&((x.X==l[i.toNat].X)&&((x.Y==l[i.toNat].Y)&&true)))=true:=by rw [←he];simp
    rw [this];exact ⟨_,rfl,rfl,by rw [he];exact List.getElem_mem _⟩
   ·have:((x.Kind==l[i.toNat].Kind)&&((x.X==l[i.toNat].X)&&((x.Y==l[i.toNat].Y)&&true)))=false:=by
     cases hb:((x.Kind==l[i.toNat].Kind)&&((x.X==l[i.toNat].X)&&((x.Y==l[i.toNat].Y)&&true)))
     ·rfl
     ·simp only [Bool.and_eq_true,beq_iff_eq,and_true] at hb;exact absurd (by
       generalize l[i.toNat]=y at hb;cases x;cases y;simp only at hb;obtain ⟨rfl,rfl,rfl⟩:=hb;rfl) he
    rw [this,cond_false,zj (by omega)]
    refine ⟨_,rfl,⟨by omega,by omega,fun y hy=> ?_⟩,by omega⟩
    rw [show (i+1).toNat=i.toNat+1 by omega,List.take_succ_eq_append_getElem aw] at hy
    rcases List.mem_append.1 hy with h' |h'
    ·exact i2 y h'
    ·simp at h';rw [h'];exact fun h=>he h.symm
  ·rw [CS hi];refine ⟨_,rfl,fun hx=> ?_⟩;rw [List.take_of_length_le (by omega)] at i2
   exact i2 x hx rfl
 unfold K_;rw [CS (by omega),cond_false]
 obtain ⟨y,e1,e2⟩:=key;rw [e1,Option.bind_some];rcases y with ⟨⟩|i
 ·exact ⟨false,h2 e2,rfl⟩
 ·obtain ⟨rfl,e2⟩:=e2;exact ⟨true,h1 e2,rfl⟩
theorem Z3 {g:C5} (d:JT g): ∃b ok,KX g=some (b,ok)∧KY g=some (b,ok):=by
 have Fx:=d.D3;have Fy:=d.D4;have G_:=d.Eb;unfold KX KY;rcases Oh (g:=g) (by omega) (by omega) (by omega) with ⟨_,g1,g2⟩|⟨_,g1,g2⟩
 ·rw [g1,g2];simp only [Option.bind_some,Bool.not_true,cond_false];cases g.C0==2
  ·exact ⟨false,true,rfl,rfl⟩
  ·cases g.CY==2
   ·exact ⟨false,true,rfl,rfl⟩
   ·cases g.X==g.C1
    ·exact ⟨false,true,rfl,rfl⟩
    ·exact ⟨_,true,rfl,rfl⟩
 ·rw [g1,g2];exact ⟨false,false,rfl,rfl⟩
theorem Z4 {g:C5} (d:JT g) (s:Dc):(KQ g s=some (Gj,false)∧KS g s=some (Gj,false))∨
 (ET g∧(stepG g s).1=true∧KQ g s=some ((stepG g s).2,true)∧KS g s=some ((stepG g s).2,true)):=by
 have Fx:=d.D3;have Fy:=d.D4;have G_:=d.Eb;unfold KQ KS;rw [UP (by omega) (by omega) (by omega),Option.bind_some]
 rcases Oh (g:=g) (by omega) (by omega) (by omega) with ⟨i,g1,g2⟩|⟨_,g1,g2⟩
 ·have w:=GW.of i d;obtain ⟨l1,l2⟩:=R8 w s;rw [g1,g2,P_ (by omega) (by omega) (by omega)]
  simp only [Option.bind_some,Bool.not_true,cond_false];rw [KC w s,KD w s];simp only [Option.bind_some];cases h:(stepG g s).1
  ·exact .inl ⟨by simp [Gj],by simp [Gj]⟩
  ·have Qc:=UL i w.D3 w.D4 s h;have:=Qc.Eb;simp only [Bool.not_true,cond_false];rw [P_ (by omega) (by omega) (by omega)]
   exact .inr ⟨i,by first|trivial|rfl,by first|trivial|rfl,by first|trivial|rfl⟩
 ·rw [g1,g2];exact .inl ⟨rfl,rfl⟩
theorem Z5 (a b:List Int) (ha:a.length<2^47) (hb:b.length<2^47) (Z6: ∀x∈a,0≤x∧x≤255) (UU: ∀x∈b,0≤x∧x≤255):Nm a b=some true:=by
 unfold Nm;rw [zj (by omega)]
 by_cases hs:(1048576:Int)<(a.length:Int)+(b.length:Int)
 ·rw [z8 hs];rfl
 rw [CS hs];obtain ⟨⟨g,s⟩,e1,d1⟩:=ZU (l:=a) (by omega) Z6
 obtain ⟨y,e2,d2⟩:=ZV (l:=b) (by omega) UU
 obtain ⟨⟨l,x⟩,e3,d3⟩:=ZW (l:=b) (by omega) UU
 simp only at d1 d3;obtain ⟨z,ok,z1,z2,z3,z4,z5⟩:=ZY d2;obtain ⟨o1,o2,o3,o4⟩:=Z3 d2;obtain ⟨p,p1,p2⟩:=Z2 (l:=l) (by omega) x
 have second:((KT b).bind fun Dk=>(KU Dk).bind fun (Ep,HR)=>(KV Dk).bind fun (D9,D2)=>(KX Dk).bind fun (OF,OG)=>(KY Dk).bind fun (OH,GS)=>(KZ b).bind fun (Jr,FP)=>(Jq Jr FP).bind fun (OI,OJ)=>(K_ Jr FP).bind fun (OK,OL)=>(Nl).bind fun Er=>(bif (HR==D2) then (IL Ep D9).bind fun Nn=>(bif Nn then (bif (OG==GS) then (bif (OF==OH) then (bif (OJ==OL) then (bif (OI==OK) then (IE).bind fun EO=>(IL Er EO).bind fun Np=>some Np else some false) else some false) else some false) else some false) else some false) else some false))=some true:=by
  rw [e2,e3];simp only [Option.bind_some];rw [z1,z2,o3,o4];simp only [Option.bind_some];rw [p1,p2];simp only [Option.bind_some,beq_self_eq_true,cond_true];rw [P5 (by omega) (by omega) (by omega)]
  simp only [Option.bind_some,cond_true];unfold Nl IE;simp only [Option.bind_some];rw [P5 (by simp) (by simp) (by simp)];rfl
 have Fx:=d1.D3;have Fy:=d1.D4;have G_:=d1.Eb;obtain ⟨q,q1,q2⟩: ∃q,GR g=some q∧HQ g=some q:=by
  rcases Oh (g:=g) (by omega) (by omega) (by omega) with ⟨_,g1,g2⟩|⟨_,g1,g2⟩
  ·exact ⟨_,g1,g2⟩
  ·exact ⟨_,g1,g2⟩
 rw [cond_false,e1,Option.bind_some];simp only;rcases Z4 d1 s with ⟨s1,s2⟩|⟨i,h,s1,s2⟩
 ·rw [s1,s2];simp only [Option.bind_some];rw [P5 (by simp [Gj]) (by simp [Gj]) (by simp [Gj]),q1,q2]
  simp only [Option.bind_some,beq_self_eq_true,Bool.not_true,cond_false];exact second
 ·have w:=GW.of i d1;obtain ⟨u,v,h1,h2,h3,h4,h5,h6⟩:=UI g s;have Qc:=UL i w.D3 w.D4 s h;obtain ⟨l1,l2⟩:=R8 w s;have acE:=Qc.Eb;rw [s1,s2];generalize (stepG g s).2=k at*;simp only [Option.bind_some];have g1:GR k=some true:=by
   rcases Oh (g:=k) (by omega) (by omega) (by omega) with ⟨_,g1,_⟩|⟨hn,_,_⟩
   ·exact g1
   ·exact absurd Qc hn
  rw [P5 (by omega) (by omega) (by omega),q1,q2]
  simp only [Option.bind_some,beq_self_eq_true,Bool.not_true,cond_false,cond_true];rw [g1];simp only [Option.bind_some,Bool.not_true,cond_false];have acF:k.C3.length=g.C3.length+u.length:=by rw [h1,List.length_append]
  have acG:k.C4.length=g.C4.length+v.length:=by rw [h2,List.length_append]
  rw [CS (show¬k.CW<g.CW by omega),CS (show¬k.CX<g.CX by omega),CS (show¬(k.C3.length:Int)<(g.C3.length:Int) by omega),CS (show¬(k.C4.length:Int)<(g.C4.length:Int) by omega),UC (by omega) (by omega),UC (by omega) (by omega)]
  simp only [Option.bind_some,cond_false,Int.toNat_natCast];have Qa:k.C3.take g.C3.length=g.C3:=by rw [h1,List.take_left'];rfl
  have Qb:k.C4.take g.C4.length=g.C4:=by rw [h2,List.take_left'];rfl
  rw [Qa,Qb,Og (by omega)]
  simp only [Option.bind_some,Bool.not_true,cond_false];rw [Og (by omega)]
  simp only [Option.bind_some,Bool.not_true,cond_false];exact second
end Go.Gq
