/-
  The plain law and all that it needs.
-/
import Derived.Test.YtclgbpneokeaeaaVcF
import Derived.Test.YtclgbpneokeaeaaVaF
open Go Go.VS
namespace Go.EI
theorem II {α :Type} [DecidableEq α]: ∀(P o:List α),P.Nodup→(∀x∈P,x∈o)→P.length≤o.length
 |[],o,_,_=>by simp
 |x::P,o,hP,hs=>by
  obtain ⟨hx,NT⟩:=List.nodup_cons.1 hP;have h1:=II P (o.erase x) NT (fun y hy=>(List.mem_erase_of_ne (fun e=>by subst e;exact hx hy)).2 (hs y (by simp [hy])))
  have h2:x∈o:=hs x (by simp)
  have h3:=List.length_erase_of_mem h2;have h4:=List.length_pos_of_mem h2;simp only [List.length_cons];omega
structure DF (c:Ds) (b:Int):Prop where
 len:c.Code.length≤1048576
 bytes: ∀x∈c.Code,0≤x∧x≤255
 lo:0≤c.At
 hi:c.At≤b
theorem DF.mono {c:Ds} {b d:Int} (h:DF c b) (hd:b≤d):DF c d:=⟨h.len,h.bytes,h.lo,by have:=h.hi;omega⟩
theorem NU (k:Int):0≤zS .u64 k 255∧zS .u64 k 255≤255:=by
 have h:(BitVec.ofInt IntKind.u64.bits k&&&BitVec.ofInt IntKind.u64.bits 255).toNat≤255:=by
  rw [BitVec.toNat_and];exact Nat.and_le_right
 unfold zS;rw [IntWalk.u64_in _ (by omega)]
 omega
theorem Kp {c:Ds} {b:Int} (h:DF c b) (hb:b≤4611686018427387904): ∃x d,FC c=some (x,d)∧(0≤x∧x≤255)∧DF d (b+1):=by
 obtain ⟨h1,h2,h3,h4⟩:=h;unfold FC;rw [Aa (x:=c.At+1) (by omega)]
 have e: ∃Dt,(bif (decide (c.At<(c.Code.length:Int))) then (idx c.Code c.At).bind fun DK=>some ((IntKind.i64.wrap DK)) else some (0))=some Dt∧0≤Dt∧Dt≤255:=by
  by_cases hc:c.At<c.Code.length
  ·rw [show decide (c.At<(c.Code.length:Int))=true by simpa using hc]
   obtain ⟨n,hn⟩:=Int.eq_ofNat_of_zero_le h3;rw [hn,AJ (show n<c.Code.length by omega)]
   have:=h2 _ (List.getElem_mem (show n<c.Code.length by omega))
   simp only [cond_true,Option.bind_some];rw [Aa (by omega)]
   exact ⟨_,rfl,this⟩
  ·rw [show decide (c.At<(c.Code.length:Int))=false by simpa using hc]
   exact ⟨0,rfl,by omega,by omega⟩
 obtain ⟨Dt,e1,e2⟩:=e;rw [e1,Option.bind_some];cases decide (c.At+1≤(c.Code.length:Int))
 ·refine ⟨_,_,rfl,?_,⟨h1,h2,by simp only;omega,by simp only;omega⟩⟩
  have:=NU (uA .u64 (IntKind.u64.wrap ((IntKind.u64.wrap ((IntKind.u64.wrap (c.DA*6364136223846793005))+(IntKind.u64.wrap Dt)))+1442695040888963407)) 40);rw [Aa (by omega)]
  exact this
 ·exact ⟨_,_,rfl,e2,⟨h1,h2,by simp only;omega,by simp only;omega⟩⟩
theorem Kq {x n:Int} (hx:0≤x) (hn:1<n): ∃r,md x n=some r∧0≤r∧r<n:=by
 unfold md;rw [if_neg (by omega)]
 refine ⟨_,rfl,?_,?_⟩
 ·rw [Int.tmod_eq_emod_of_nonneg hx];exact Int.emod_nonneg _ (by omega)
 ·rw [Int.tmod_eq_emod_of_nonneg hx];exact Int.emod_lt_of_pos _ (by omega)
theorem IJ {c:Ds} {b n:Int} (h:DF c b) (hb:b≤4000000000000000000): ∃x d,Eh c n=some (x,d)∧(0≤x∧(1≤n→x<n))∧DF d (b+2):=by
 unfold Eh;by_cases hn:n≤1
 ·rw [show decide (n≤1)=true by simpa using hn]
  exact ⟨0,c,rfl,⟨by omega,by omega⟩,h.mono (by omega)⟩
 ·rw [show decide (n≤1)=false by simpa using hn]
  obtain ⟨x,d,e1,e2,e3⟩:=Kp h (by omega)
  simp only [cond_false];rw [e1,Option.bind_some];cases decide (200<n)
  ·simp only [cond_false,Option.bind_some];obtain ⟨r,r1,r2,r3⟩:=Kq (x:=x) e2.1 (show 1<n by omega)
   rw [r1];exact ⟨r,_,rfl,⟨r2,fun _=>r3⟩,e3.mono (by omega)⟩
  ·simp only [cond_true];obtain ⟨y,d',f1,f2,f3⟩:=Kp e3 (by omega)
   rw [f1];simp only [Option.bind_some];rw [Aa (x:=x*256) (by omega),Aa (by omega)]
   obtain ⟨r,r1,r2,r3⟩:=Kq (x:=x*256+y) (by omega) (show 1<n by omega)
   rw [r1];exact ⟨r,_,rfl,⟨r2,fun _=>r3⟩,f3.mono (by omega)⟩
theorem NV {c:Ds} {b n:Int} (h:DF c b) (hb:b≤4000000000000000000): ∃x d,FE c n=some (x,d)∧DF d (b+2):=by
 obtain ⟨x,d,e1,_,e3⟩:=IJ (n:=n) h hb;unfold FE;rw [e1];exact ⟨_,_,rfl,e3⟩
theorem NW {c:Ds} {b:Int} {l:List Int} (h:DF c b) (hb:b≤4000000000000000000) (hl:l≠[]): ∃x d,FD c l=some (x,d)∧x∈l∧DF d (b+2):=by
 obtain ⟨x,d,e1,e2,e3⟩:=IJ (n:=(l.length:Int)) h hb;have c8:1≤l.length:=by cases l with|nil=>exact absurd rfl hl|cons _ _=>simp
 unfold FD;rw [e1];obtain ⟨n,rfl⟩:=Int.eq_ofNat_of_zero_le e2.1;have hn:n<l.length:=by have:=e2.2 (by omega);omega
 simp only [Option.bind_some];rw [AJ hn];exact ⟨_,_,rfl,List.getElem_mem hn,e3⟩
theorem IK {l:List Int} (hl:l.length≤1048576) (hb: ∀x∈l,0≤x∧x≤255):DF ⟨l,0,0⟩ 0:=⟨hl,hb,by simp,by simp⟩
theorem DF.eta {c:Ds} {b:Int} (h:DF c b):DF ⟨c.Code,c.At,c.DA⟩ b:=h
theorem tQ {c:Ds} {b n:Int} (h:DF c b) (hb:b≤4000000000000000000):c5 (Eh c n) fun r=>0≤r.1∧(1≤n→r.1<n)∧DF r.2 (b+2):=by
 obtain ⟨x,d,e,⟨h1,h2⟩,h3⟩:=IJ (n:=n) h hb;exact ⟨_,e,h1,h2,h3⟩
theorem NX {c:Ds} {b n:Int} (h:DF c b) (hb:b≤4000000000000000000):c5 (FE c n) fun r=>DF r.2 (b+2):=by
 obtain ⟨x,d,e,h3⟩:=NV (n:=n) h hb;exact ⟨_,e,h3⟩
theorem NY {c:Ds} {b:Int} {l:List Int} (h:DF c b) (hb:b≤4000000000000000000) (hl:l≠[]):c5 (FD c l) fun r=>r.1∈l∧DF r.2 (b+2):=by
 obtain ⟨x,d,e,h2,h3⟩:=NW h hb hl;exact ⟨_,e,h2,h3⟩
def DJ (n a b:Int):Bool:=decide (a≤n)&&decide (n≤b)
theorem F0 (n a b:Int):Ek n a b=some (DJ n a b):=by
 unfold Ek DJ;cases decide (a≤n)<;>rfl
theorem GG (n a b:Int):EP n a b=some (DJ n a b):=by
 unfold EP DJ;cases decide (a≤n)<;>rfl
theorem Eg {n a b:Int}:DJ n a b=true↔a≤n∧n≤b:=by simp [DJ]
def PX (d w i:Nat):Nat:=(i % d)*w+i/d
theorem NZ {a b d w:Nat} (ha:a<d) (hb:b<w):a*w+b<d*w:=by
 have:=Nat.mul_le_mul_right w (show a+1≤d from ha);rw [Nat.add_mul,Nat.one_mul] at this;omega
theorem IL {a b w:Nat} (hb:b<w):(a*w+b)/w=a∧(a*w+b) % w=b:=by
 constructor
 ·rw [Nat.mul_comm,Nat.mul_add_div (by omega),Nat.div_eq_of_lt hb,Nat.add_zero]
 ·rw [Nat.mul_comm,Nat.mul_add_mod,Nat.mod_eq_of_lt hb]
theorem GI {d w i:Nat} (h:i<d*w):PX d w i<d*w:=by
 have hd:0<d:=Nat.pos_of_ne_zero (by rintro rfl;simp at h)
 exact NZ (Nat.mod_lt _ hd) (Nat.div_lt_of_lt_mul h)
theorem HA {d w i:Nat} (h:i<d*w):PX w d (PX d w i)=i:=by
 have hd:0<d:=Nat.pos_of_ne_zero (by rintro rfl;simp at h)
 obtain ⟨h1,h2⟩:=IL (a:=i % d) (b:=i/d) (w:=w) (Nat.div_lt_of_lt_mul h);unfold PX at*;rw [h1,h2,Nat.mul_comm];exact Nat.div_add_mod i d
theorem N0 {d w r c:Nat} (hc:c<w):PX w d (r*w+c)=c*d+r:=by
 obtain ⟨h1,h2⟩:=IL (a:=r) (b:=c) (w:=w) hc;unfold PX;rw [h1,h2]
def DU (s:List UInt8) (p:Nat→Nat):List UInt8:=(List.range s.length).map fun i=>s.getD (p i) 0
theorem D7 (s:List UInt8) (p:Nat→Nat):(DU s p).length=s.length:=by simp [DU]
theorem F1 {s:List UInt8} {p:Nat→Nat} {i:Nat} (h:i<s.length):(DU s p).getD i 0=s.getD (p i) 0:=by
 simp [DU,List.getD_eq_getElem?_getD,h]
theorem HB {a b:List UInt8} (h1:a.length=b.length) (h2: ∀h,h<a.length→a.getD h 0=b.getD h 0):a=b:=by
 apply List.ext_getElem h1;intro i ha hb;have:=h2 i ha;simpa [List.getD_eq_getElem?_getD,ha,hb] using this
theorem N1 {s:List UInt8} {d w:Nat} (h:s.length=d*w):DU (DU s (PX d w)) (PX w d)=s:=by
 refine HB (by rw [D7,D7]) fun i hi=> ?_
 rw [D7,D7] at hi;have h1:i<w*d:=by rw [Nat.mul_comm];omega
 have h2:=GI h1;rw [F1 (by rw [D7];exact hi),F1 (by rw [h,Nat.mul_comm];exact h2),HA h1]
theorem FA (l:List Int):(pN l).length=l.length:=by simp [pN]
theorem IM {l:List Int} {i:Nat}:(pN l).getD i 0=UInt8.ofNat (l.getD i 0).toNat:=by
 simp only [pN,List.getD_eq_getElem?_getD,List.getElem?_map];cases l[i]? <;>rfl
theorem IN (x:UInt8):UInt8.ofNat ((x.toNat:Int)).toNat=x:=by
 rw [Int.toNat_natCast];apply UInt8.toNat_inj.1;have:=x.toNat_lt;rw [UInt8.toNat_ofNat'];omega
theorem GJ {l:List UInt8} {i:Int} (h0:0≤i) (h:i<l.length):idx l i=some (l.getD i.toNat 0):=by
 rw [C9 h0 h];congr 1;rw [List.getD_eq_getElem?_getD,List.getElem?_eq_getElem (by omega)];rfl
theorem GK {l:List Int} {i:Int} (h0:0≤i) (h:i<l.length):idx l i=some (l.getD i.toNat 0):=by
 rw [C9 h0 h];congr 1;rw [List.getD_eq_getElem?_getD,List.getElem?_eq_getElem (by omega)];rfl
theorem IP {l:List Int} {a h:Nat} {v:Int} (ha:a<l.length):(l.set a v).getD h 0=if a=h then v else l.getD h 0:=by
 simp only [List.getD_eq_getElem?_getD,List.getElem?_set];by_cases e:a=h
 ·subst e;rw [if_pos rfl,if_pos rfl,if_pos ha];rfl
 ·rw [if_neg e,if_neg e]
theorem Kr: ∀{a b:List Int},a.Pairwise (· < ·)→b.Pairwise (· < ·)→(∀x,x∈a↔x∈b)→a=b
 |[],[],_,_,_=>rfl
 |[],y::b,_,_,h=>by have:=(h y).2 (by simp);simp at this
 |x::a,[],_,_,h=>by have:=(h x).1 (by simp);simp at this
 |x::a,y::b,ha,hb,h=>by
  obtain ⟨a1,a2⟩:=List.pairwise_cons.1 ha;obtain ⟨b1,b2⟩:=List.pairwise_cons.1 hb;have e:x=y:=by
   have h1:=(h x).1 (by simp)
   have h2:=(h y).2 (by simp)
   rcases List.mem_cons.1 h1 with h1|h1
   ·exact h1
   ·rcases List.mem_cons.1 h2 with h2|h2
    ·exact h2.symm
    ·have:=b1 x h1;have:=a1 y h2;omega
  subst e;congr 1;refine Kr a2 b2 fun z=>⟨fun hz=> ?_,fun hz=> ?_⟩
  ·rcases List.mem_cons.1 ((h z).1 (List.mem_cons_of_mem _ hz)) with e|e
   ·have:=a1 z hz;omega
   ·exact e
  ·rcases List.mem_cons.1 ((h z).2 (List.mem_cons_of_mem _ hz)) with e|e
   ·have:=b1 z hz;omega
   ·exact e
theorem N2 {a:List Int} (h:a.Pairwise (· < ·)):a.Nodup:=h.imp fun {x y} xB e=>by omega
theorem N3 (zs:List Int):(fP zs).Pairwise (· ≤ ·):=by
 have:=List.pairwise_mergeSort (le:=fun x y:Int=>decide (x≤y)) (fun a b c h1 h2=>by simp at*;omega) (fun a b=>by simp<;>omega) zs
 exact this.imp fun h=>by simpa using h
theorem EV {zs:List Int} {i:Nat} (h:i<zs.length):zs.toArray[i]! =zs[i]:=by
 rw [getElem!_pos _ i (by simpa using h)];simp
theorem N4 {zs:List Int} {x:Int}:x∈Lib.compact zs↔x∈zs:=by
 unfold Lib.compact Lib.compactUpTo;rw [List.mem_map];constructor
 ·rintro ⟨i,hi,rfl⟩;obtain ⟨h1,_⟩:=List.mem_filter.1 hi;have h1:=List.mem_range.1 h1;rw [EV h1];exact List.getElem_mem h1
 ·intro hx;obtain ⟨i,hi,rfl⟩:=List.getElem_of_mem hx;have key: ∀(n i:Nat) (hi:i<zs.length),i≤n→ ∃a,a∈List.filter (Lib.keeps zs.toArray) (List.range zs.length)∧zs.toArray[a]! =zs[i]:=by
   intro n;induction n with
   |zero=>
    intro i hi hn;obtain rfl:i=0:=by omega
    exact ⟨0,List.mem_filter.2 ⟨List.mem_range.2 hi,by simp [Lib.keeps]⟩,EV hi⟩
   |succ n ih=>
    intro i hi hn;by_cases hk:Lib.keeps zs.toArray i=true
    ·exact ⟨i,List.mem_filter.2 ⟨List.mem_range.2 hi,hk⟩,EV hi⟩
    ·have h0:i≠0:=by rintro rfl;simp [Lib.keeps] at hk
     simp only [Lib.keeps,decide_eq_true_eq,not_or,Decidable.not_not] at hk;obtain ⟨a,h1,h2⟩:=ih (i-1) (by omega) (by omega)
     refine ⟨a,h1,?_⟩;rw [h2];have:=hk.2;rw [EV hi,EV (show i-1<zs.length by omega)] at this
     exact this.symm
  exact key i i hi (Nat.le_refl _)
theorem N5 {zs:List Int} (h:zs.Pairwise (· ≤ ·)):(Lib.compact zs).Pairwise (· < ·):=by
 unfold Lib.compact Lib.compactUpTo;rw [List.pairwise_map];have h1:(List.filter (Lib.keeps zs.toArray) (List.range zs.length)).Pairwise (· < ·):=List.pairwise_lt_range.filter _;refine h1.imp_of_mem fun {i j} hi hj kW=> ?_;obtain ⟨i1,_⟩:=List.mem_filter.1 hi;obtain ⟨j1,j2⟩:=List.mem_filter.1 hj;have i1:=List.mem_range.1 i1;have j1:=List.mem_range.1 j1;simp only [Lib.keeps,decide_eq_true_eq] at j2;rw [EV i1,EV j1];rw [EV j1,EV (show j-1<zs.length by omega)] at j2
 have aM:zs[j]≠zs[j-1]:=by rcases j2 with h|h;· omega
                           ·exact h
 have hp:=List.pairwise_iff_getElem.1 h;have a1:=hp (j-1) j (by omega) j1 (by omega)
 have a2:zs[i]≤zs[j-1]:=by
  by_cases e:i=j-1
  ·subst e;exact Int.le_refl _
  ·exact hp i (j-1) i1 (by omega) (by omega)
 omega
theorem N6 {zs rs:List Int} (hr:rs.Pairwise (· < ·)) (h: ∀x,x∈rs↔x∈zs):Lib.compact (fP zs)=rs:=
 Kr (N5 (N3 zs)) hr fun x=>by rw [N4,(A7 zs).mem_iff,h]
theorem N7 {zs rs:List Int} (hl:zs.length<1152921504606846976) (hr:rs.Pairwise (· < ·)) (h: ∀x,x∈rs↔x∈zs):((slices_Sort_int zs).bind fun b=>slices_Compact_int b)=some rs:=by
 unfold slices_Sort_int slices_Compact_int wL wM;rw [if_pos hl,Option.bind_some,if_pos (by rw [p6];exact hl),N6 hr h]
def DY (n d:Int):Bool:=DJ n 0 120&&(DJ d 1 12&&(n % d==0))
theorem IQ (n d:Int):Fi n d=some (DY n d):=by
 unfold Fi DY;rw [GG,Option.bind_some];cases h1:DJ n 0 120
 ·rfl
 ·rw [cond_true,GG,Option.bind_some];cases h2:DJ d 1 12
  ·rfl
  ·rw [Eg] at h1 h2;rw [cond_true,Db h1.1 (by omega)];rfl
theorem IS (n d:Int):Fj n d=some (DY n d):=by
 unfold Fj DY;rw [F0,Option.bind_some];cases h2:DJ d 1 12
 ·simp
 ·rw [cond_true,F0,Option.bind_some];cases h1:DJ n 0 120
  ·rfl
  ·rw [Eg] at h1 h2;rw [cond_true,Db h1.1 (by omega)];rfl
structure SP (n d w:Nat):Prop where
 d1:1≤d
 d12:d≤12
 D8:n=d*w
 le:n≤120
theorem IT {n:Nat} {d:Int} (h:DY n d=true): ∃e w:Nat,d=e∧SP n e w∧w=n/e:=by
 simp only [DY,Bool.and_eq_true,Eg,beq_iff_eq] at h;obtain ⟨h1,h2,h3⟩:=h;refine ⟨d.toNat,n/d.toNat,by omega,⟨by omega,by omega,?_,by omega⟩,rfl⟩
 have h4:n % d.toNat=0:=by
  have:((n % d.toNat:Nat):Int)=0:=by
   rw [Int.natCast_emod,show ((d.toNat:Nat):Int)=d by omega];exact h3
  omega
 have:=Nat.div_add_mod n d.toNat;omega
theorem SP.w {n d w:Nat} (S:SP n d w):n/d=w∧((n:Int)/d=w):=by
 have h1:=S.d1;have h2:n/d=w:=by rw [S.D8];exact Nat.mul_div_cancel_left w h1
 exact ⟨h2,by rw [←Int.natCast_ediv,h2]⟩
theorem Ks {s:List UInt8} (hn:s.length≤120) {p:Nat→Nat} (_hp: ∀i,i<s.length→p i<s.length) {f:List Int×Int→Option (LR (List Int×Int) (List Int))}
 (hf: ∀(x:List Int) (i:Nat),x.length=s.length→i<s.length→f (x,(i:Int))=some (.next (x.set i ((s.getD (p i) 0).toNat:Int),(i:Int)+1)))
 (hz: ∀x:List Int,x.length=s.length→f (x,(s.length:Int))=some (.done x)) {x0:List Int} (h0:x0.length=s.length): ∃r,eO f (x0,0)=some r∧pN r=DU s p:=by
 have key:=wx (f:=f) (fun x:List Int×Int=>s.length-x.2.toNat) (fun x=>0≤x.2∧x.2≤s.length∧x.1.length=s.length∧ ∀i:Nat,(i:Int)<x.2→x.1.getD i 0=((s.getD (p i) 0).toNat:Int)) (fun r=>r.length=s.length∧ ∀i:Nat,i<s.length→r.getD i 0=((s.getD (p i) 0).toNat:Int)) (by
  rintro ⟨x,i⟩ ⟨i0,i1,i2,i3⟩;simp only at i0 i1 i2 i3;obtain ⟨k,rfl⟩:=Int.eq_ofNat_of_zero_le i0;by_cases hk:k<s.length
  ·refine ⟨_,hf x k i2 hk,⟨by simp only;omega,by simp only;omega,by simp only;rw [List.length_set];exact i2,fun j hj=> ?_⟩,by simp only;omega⟩
   simp only at hj⊢;rw [IP (by omega)]
   split
   ·rename_i e;subst e;rfl
   ·exact i3 j (by omega)
  ·obtain rfl:k=s.length:=by omega
   exact ⟨_,hz x i2,i2,fun j hj=>i3 j (by omega)⟩) (x0,0) ⟨by simp,by simp,h0,by intro i hi;simp only at hi;omega⟩
 obtain ⟨r,e,r1,r2⟩:=key;refine ⟨r,e,HB (by rw [FA,D7,r1]) fun i hi=> ?_⟩
 rw [FA] at hi;rw [IM,F1 (by omega),r2 i (by omega),IN]
theorem Kt {s:List UInt8} (hn:s.length≤120) {p:Nat→Nat} {g:Int→Option Int} (hg: ∀i:Nat,i<s.length→g (i:Int)=some (p i:Int)∧p i<s.length):FH s g=some (DU s p):=by
 unfold FH;rw [C6 (by omega) (by omega)]
 simp only [Option.bind_some];obtain ⟨r,e1,e2⟩:=Ks (s:=s) (p:=p) hn (fun i hi=>(hg i hi).2) (f:=Gd s g (List.replicate s.length 0)) (fun x i hx hi=>by
  obtain ⟨h1,h2⟩:=hg i hi;simp only [Gd];rw [Dc (by simp<;>omega),h1]
  simp only [cond_true,Option.bind_some];rw [GJ (by omega) (by omega),GK (by omega) (by omega)]
  simp only [Option.bind_some,Int.toNat_natCast];rw [Aa (by omega)]) (fun x hx=>by
  simp only [Gd];rw [Dd (by simp)];rfl) (x0:=List.replicate s.length 0) (by simp)
 rw [e1,Option.bind_some,e2]
theorem HC {d w n:Nat} (S:SP n d w) {i:Nat} (hi:i<n):md (i:Int) (d:Int)=some ((i % d:Nat):Int)∧dv .i64 (i:Int) (d:Int)=some ((i/d:Nat):Int)∧
 IntKind.i64.wrap (IntKind.i64.wrap (((i % d:Nat):Int)*(w:Int))+((i/d:Nat):Int))=(PX d w i:Int)∧PX d w i<n:=by
 have h1:=S.d1;have hle:=S.le;have hp:=GI (d:=d) (w:=w) (i:=i) (by rw [←S.D8];exact hi)
 rw [←S.D8] at hp;have e:((i % d:Nat):Int)*(w:Int)=(((i % d)*w:Nat):Int):=by simp
 have hb:(i % d)*w≤PX d w i:=Nat.le_add_right _ _;have iu:i/d≤PX d w i:=Nat.le_add_left _ _;refine ⟨?_,?_,?_,hp⟩
 ·rw [Db (by omega) (by omega)];simp
 ·rw [Da (by omega) (by omega) (by omega)];simp
 ·rw [e];clear e;unfold PX at*;generalize (i % d)*w=A at*;generalize i/d=B at*;rw [Aa (x:=(A:Int)) (by omega),Aa (by omega)];omega
def HD (s:List UInt8) (d:Int):List UInt8×Bool:=if DY s.length d then (DU s (PX d.toNat (s.length/d.toNat)),true) else ([],false)
theorem Ku (s:List UInt8) (d:Int):Gf s d=some (HD s d)∧Gh s d=some (HD s d):=by
 unfold Gf Gh HD;rw [IQ,IS];cases h:DY s.length d
 ·exact ⟨rfl,rfl⟩
 ·obtain ⟨e,w,rfl,S,hw⟩:=IT h;have hle:=S.le;have h1:=S.d1;obtain ⟨w1,w2⟩:=S.w;have HE:dv .i64 (s.length:Int) (e:Int)=some (w:Int):=by rw [Da (by omega) (by omega) (by omega),w2]
  simp only [Option.bind_some,Bool.not_true,cond_false,if_true,Int.toNat_natCast];rw [w1];constructor
  ·rw [Kt (p:=PX e w) hle fun i hi=> ?_]
   ·rfl
   ·obtain ⟨F2,n2,GL,IU⟩:=HC S hi;refine ⟨?_,IU⟩;unfold GR;rw [F2,HE,n2];simp only [Option.bind_some];rw [GL]
  ·rw [HE,C6 (by omega) (by omega)]
   simp only [Option.bind_some];obtain ⟨r,e1,e2⟩:=Ks (s:=s) (p:=PX e w) hle (fun i hi=>(HC S hi).2.2.2) (f:=Gg s (e:Int) (w:Int) (List.replicate s.length 0)) (fun x i hx hi=>by
    obtain ⟨F2,n2,GL,IU⟩:=HC S hi;simp only [Gg];rw [Dc (by simp<;>omega),F2,n2]
    simp only [cond_true,Option.bind_some];rw [GL,GJ (by omega) (by omega),GK (by omega) (by omega)]
    simp only [Option.bind_some,Int.toNat_natCast];rw [Aa (by omega)]) (fun x hx=>by
    simp only [Gg];rw [Dd (by simp)];rfl) (x0:=List.replicate s.length 0) (by simp)
   rw [e1,Option.bind_some,e2]
def HF (s:List UInt8) (d:Int):List UInt8×Bool:=if DY s.length d then (DU s (PX (s.length/d.toNat) d.toNat),true) else ([],false)
theorem IV (s:List UInt8) (d:Int):EJ s d=some (HF s d)∧Gk s d=some (HF s d):=by
 unfold EJ Gk HF;rw [IQ,IS];cases h:DY s.length d
 ·exact ⟨rfl,rfl⟩
 ·obtain ⟨e,w,rfl,S,hw⟩:=IT h;have hle:=S.le;have h1:=S.d1;obtain ⟨w1,w2⟩:=S.w;have HE:dv .i64 (s.length:Int) (e:Int)=some (w:Int):=by rw [Da (by omega) (by omega) (by omega),w2]
  simp only [Option.bind_some,Bool.not_true,cond_false,if_true,Int.toNat_natCast];rw [w1,HE];simp only [Option.bind_some];constructor
  ·rw [Kt (p:=PX w e) hle fun i hi=> ?_]
   ·rfl
   ·have QN:0<w:=Nat.pos_of_ne_zero (fun h0=>by have:=S.D8;rw [h0,Nat.mul_zero] at this;omega)
    have hp:=GI (d:=w) (w:=e) (i:=i) (by rw [Nat.mul_comm,←S.D8];exact hi)
    rw [Nat.mul_comm,←S.D8] at hp;have hc:((i % w:Nat):Int)*(e:Int)=(((i % w)*e:Nat):Int):=by simp
    have hb:(i % w)*e≤PX w e i:=Nat.le_add_right _ _;have iu:i/w≤PX w e i:=Nat.le_add_left _ _;refine ⟨?_,hp⟩;unfold GU;rw [Db (a:=(i:Int)) (b:=(w:Int)) (by omega) (by omega),Da (a:=(i:Int)) (b:=(w:Int)) (by omega) (by omega) (by omega)]
    simp only [Option.bind_some,Option.some.injEq];rw [←Int.natCast_emod,←Int.natCast_ediv,hc];clear hc;unfold PX at*;generalize (i % w)*e=A at*;generalize i/w=B at*;rw [Aa (x:=(A:Int)) (by omega),Aa (by omega)];omega
  ·rw [C6 (by omega) (by omega)]
   simp only [Option.bind_some];have key:=wx (f:=GZ s (e:Int) (w:Int) (List.replicate s.length 0)) (fun x:List Int×Int=>s.length-x.2.toNat) (fun x=>0≤x.2∧x.2≤s.length∧x.1.length=s.length∧ ∀k:Nat,k<s.length→((PX w e k:Nat):Int)<x.2→x.1.getD k 0=((s.getD (PX w e k) 0).toNat:Int)) (fun r=>r.length=s.length∧ ∀k:Nat,k<s.length→r.getD k 0=((s.getD (PX w e k) 0).toNat:Int)) (by
    rintro ⟨x,i⟩ ⟨i0,i1,i2,i3⟩;simp only at i0 i1 i2 i3;obtain ⟨k,rfl⟩:=Int.eq_ofNat_of_zero_le i0;simp only [GZ,List.length_replicate];by_cases hk:k<s.length
    ·obtain ⟨F2,n2,GL,IU⟩:=HC S hk;rw [Dc (by omega),F2,n2]
     simp only [cond_true,Option.bind_some];rw [GL,GJ (by omega) (by omega),GK (by omega) (by omega)]
     simp only [Option.bind_some,Int.toNat_natCast];rw [Aa (by omega)]
     refine ⟨_,rfl,⟨by simp only;omega,by simp only;omega,by simp only;rw [List.length_set];exact i2,fun j hj ax=> ?_⟩,by simp only;omega⟩
     simp only at ax⊢;rw [IP (by omega)]
     have hinv:=HA (d:=e) (w:=w) (i:=k) (by rw [←S.D8];exact hk)
     split
     ·rename_i e';subst e';rw [hinv]
     ·rename_i aM;refine i3 j hj ?_;have:PX w e j≠k:=fun e' =>by
       have h2:=HA (d:=w) (w:=e) (i:=j) (by rw [Nat.mul_comm,←S.D8];exact hj)
       rw [e'] at h2;exact aM h2
      omega
    ·obtain rfl:k=s.length:=by omega
     rw [Dd (by omega)]
     refine ⟨_,rfl,i2,fun j hj=>i3 j hj ?_⟩;have:=GI (d:=w) (w:=e) (i:=j) (by rw [Nat.mul_comm,←S.D8];exact hj)
     rw [Nat.mul_comm,←S.D8] at this;omega) (List.replicate s.length 0,0) ⟨by simp,by simp,by simp,by intro i hi h;simp only at h;omega⟩
   obtain ⟨r,e1,r1,r2⟩:=key;have e2:pN r=DU s (PX w e):=by
    refine HB (by rw [FA,D7,r1]) fun i hi=> ?_
    rw [FA] at hi;rw [IM,F1 (by omega),r2 i (by omega),IN]
   rw [e1,Option.bind_some,e2]
def HG (x:UInt8):UInt8:=UInt8.ofNat (zU .u8 (x.toNat:Int) 255).toNat
def Fc (s:List UInt8) (a n:Nat):List UInt8:=(List.range s.length).map fun i=>if a≤i∧i<a+n then HG (s.getD i 0) else s.getD i 0
theorem HH (s:List UInt8) (a n:Nat):(Fc s a n).length=s.length:=by simp [Fc]
theorem Kv {s:List UInt8} {a n i:Nat} (h:i<s.length):(Fc s a n).getD i 0=if a≤i∧i<a+n then HG (s.getD i 0) else s.getD i 0:=by
 simp [Fc,List.getD_eq_getElem?_getD,h]
def D9 (n a l:Int):Bool:=DJ n 0 120&&(DJ a 0 n&&DJ l 0 (n-a))
theorem Kw (n a l:Int):FJ n a l=some (D9 n a l):=by
 unfold FJ D9;rw [GG,Option.bind_some];cases h1:DJ n 0 120
 ·rfl
 ·rw [cond_true,GG,Option.bind_some];cases h2:DJ a 0 n
  ·rfl
  ·rw [Eg] at h1 h2;rw [cond_true,Aa (by omega),GG];rfl
def HI (s:List UInt8) (a l:Int):List UInt8×Bool:=if D9 s.length a l then (Fc s a.toNat l.toNat,true) else ([],false)
def El (s:List UInt8) (a n i:Nat):Int:=if a≤i∧i<a+n then zU .u8 ((s.getD i 0).toNat:Int) 255 else ((s.getD i 0).toNat:Int)
theorem N8 {s:List UInt8} {i:Nat}:(nc s).getD i 0=((s.getD i 0).toNat:Int):=by
 simp only [nc,List.getD_eq_getElem?_getD,List.getElem?_map];cases s[i]? <;>rfl
theorem Kx (s:List UInt8):(nc s).length=s.length:=by simp [nc]
theorem Ky {s:List UInt8} {a n:Nat} {r:List Int} (h1:r.length=s.length) (h2: ∀i,i<s.length→r.getD i 0=El s a n i):pN r=Fc s a n:=by
 refine HB (by rw [FA,HH,h1]) fun i hi=> ?_
 rw [FA] at hi;rw [IM,Kv (by omega),h2 i (by omega)]
 unfold El;split
 ·rfl
 ·exact IN _
theorem IW {s:List UInt8} (hs:s.length≤1048576) (a l:Int):E0 s a l=some (HI s a l)∧Gm s a l=some (HI s a l):=by
 unfold E0 Gm HI;rw [Kw];have IX:((bif (decide (120<(s.length:Int))) then some (true) else (Ek a 0 (s.length:Int)).bind fun DO=>(bif (!DO) then some (true) else (Ek l 0 (IntKind.i64.wrap ((s.length:Int)-a))).bind fun DK=>some ((!DK)))))=some (!D9 s.length a l):=by
  unfold D9;by_cases h0:120<(s.length:Int)
  ·rw [Dc h0,show DJ (s.length:Int) 0 120=false by rw [Bool.eq_false_iff];intro h;rw [Eg] at h;omega];rfl
  ·rw [Dd h0,cond_false,F0,Option.bind_some,show DJ (s.length:Int) 0 120=true by rw [Eg];omega]
   cases h2:DJ a 0 s.length
   ·rfl
   ·rw [Eg] at h2;simp only [Bool.not_true,cond_false,Bool.true_and];rw [Aa (by omega),F0];rfl
 rw [IX];cases h:D9 s.length a l
 ·exact ⟨rfl,rfl⟩
 ·simp only [D9,Bool.and_eq_true,Eg] at h;obtain ⟨h1,h2,h3⟩:=h;obtain ⟨a,rfl⟩:=Int.eq_ofNat_of_zero_le h2.1;obtain ⟨l,rfl⟩:=Int.eq_ofNat_of_zero_le h3.1;simp only [Option.bind_some,Bool.not_true,cond_false,if_true,Int.toNat_natCast];rw [show pO s=some (nc s) by unfold pO;rw [if_pos (by omega)]]
  simp only [Option.bind_some];have step: ∀{x:List Int} {k:Nat},x.length=s.length→a+k<s.length→(∀i,i<s.length→x.getD i 0=El s a k i)→ ∀i,i<s.length→(x.set (a+k) (zU .u8 (x.getD (a+k) 0) 255)).getD i 0=El s a (k+1) i:=by
   intro x k hx hk hm i hi;rw [IP (by omega)]
   have e1:=hm (a+k) hk;rw [El,if_neg (by omega)] at e1
   split
   ·rename_i e;subst e;rw [e1,El,if_pos (by omega)]
   ·rename_i aM;rw [hm i hi];unfold El;by_cases hc:a≤i∧i<a+k
    ·rw [if_pos hc,if_pos (by omega)]
    ·rw [if_neg hc,if_neg (by omega)]
  have start: ∀i,i<s.length→(nc s).getD i 0=El s a 0 i:=fun i _=>by rw [N8,El,if_neg (by omega)]
  constructor
  ·obtain ⟨r,e1,r1,r2⟩:=wx (f:=GV (a:Int) (l:Int)) (fun x:List Int×Int=>l-x.2.toNat) (fun x=>0≤x.2∧x.2≤l∧x.1.length=s.length∧ ∀i,i<s.length→x.1.getD i 0=El s a x.2.toNat i) (fun r=>r.length=s.length∧ ∀i,i<s.length→r.getD i 0=El s a l i) (by
    rintro ⟨x,j⟩ ⟨i0,i1,i2,i3⟩;simp only at i0 i1 i2 i3;obtain ⟨k,rfl⟩:=Int.eq_ofNat_of_zero_le i0;simp only [Int.toNat_natCast] at i3;simp only [GV];by_cases hk:k<l
    ·rw [Dc (by omega),Aa (x:=(a:Int)+(k:Int)) (by omega),GK (by omega) (by omega)]
     simp only [cond_true,Option.bind_some];rw [Aa (by omega),show ((a:Int)+(k:Int)).toNat=a+k by omega]
     refine ⟨_,rfl,⟨by simp only;omega,by simp only;omega,by simp only;rw [List.length_set];exact i2,?_⟩,by simp only;omega⟩
     simp only;rw [show ((k:Int)+1).toNat=k+1 by omega]
     exact step i2 (by omega) i3
    ·obtain rfl:k=l:=by omega
     rw [Dd (by omega)]
     exact ⟨_,rfl,i2,i3⟩) (nc s,0) ⟨by simp,by simp,Kx s,start⟩
   rw [e1,Option.bind_some,Ky r1 r2]
  ·obtain ⟨r,e1,r1,r2⟩:=wx (f:=G0 (a:Int) (l:Int)) (fun x:List Int×Int=>a+l-x.2.toNat) (fun x=>a≤x.2∧x.2≤a+l∧x.1.length=s.length∧ ∀i,i<s.length→x.1.getD i 0=El s a (x.2.toNat-a) i) (fun r=>r.length=s.length∧ ∀i,i<s.length→r.getD i 0=El s a l i) (by
    rintro ⟨x,j⟩ ⟨i0,i1,i2,i3⟩;simp only at i0 i1 i2 i3;obtain ⟨k,rfl⟩: ∃k:Nat,j=a+k:=⟨j.toNat-a,by omega⟩
    rw [show ((a:Int)+(k:Int)).toNat-a=k by omega] at i3
    simp only [G0];rw [Aa (x:=(a:Int)+(l:Int)) (by omega)]
    by_cases hk:k<l
    ·rw [Dc (by omega),GK (by omega) (by omega)]
     simp only [cond_true,Option.bind_some];rw [Aa (by omega),show ((a:Int)+(k:Int)).toNat=a+k by omega]
     refine ⟨_,rfl,⟨by simp only;omega,by simp only;omega,by simp only;rw [List.length_set];exact i2,?_⟩,by simp only;omega⟩
     simp only;rw [show ((a:Int)+(k:Int)+1).toNat-a=k+1 by omega]
     exact step i2 (by omega) i3
    ·obtain rfl:k=l:=by omega
     rw [Dd (by omega)]
     exact ⟨_,rfl,i2,i3⟩) (nc s,(a:Int)) ⟨by simp,by simp only;omega,Kx s,by simp only;rw [show ((a:Int)).toNat-a=0 by omega];exact start⟩
   rw [e1,Option.bind_some,Ky r1 r2]
def DZ (d a l r:Nat):Bool:=(List.range l).any fun i=>(a+i) % d==r
def Em (d a l:Nat):List Int:=((List.range d).filter (DZ d a l)).map fun (r:Nat)=>(r:Int)
theorem Kz (d a l:Nat):(Em d a l).Pairwise (· < ·):=by
 unfold Em;rw [List.pairwise_map];exact (List.pairwise_lt_range.filter _).imp fun h=>by omega
theorem IY {d a l r:Nat}:DZ d a l r=true↔ ∃i,i<l∧(a+i) % d=r:=by
 simp only [DZ,List.any_eq_true,List.mem_range,beq_iff_eq]
theorem GM {d a l:Nat} (hd:0<d) {x:Int}:x∈Em d a l↔ ∃i,i<l∧(((a+i) % d:Nat):Int)=x:=by
 simp only [Em,List.mem_map,List.mem_filter,List.mem_range,IY];constructor
 ·rintro ⟨r,⟨_,i,h1,h2⟩,rfl⟩;exact ⟨i,h1,by rw [h2]⟩
 ·rintro ⟨i,h1,rfl⟩;exact ⟨_,⟨Nat.mod_lt _ hd,i,h1,rfl⟩,rfl⟩
def F3 (n d a l:Int):List Int×Bool:=if DY n d&&D9 n a l then (Em d.toNat a.toNat l.toNat,true) else ([],false)
theorem IZ (n d a l:Int):E1 n d a l=some (F3 n d a l)∧Gr n d a l=some (F3 n d a l):=by
 unfold E1 Gr F3;rw [IQ,IS];cases h0:DY n d
 ·exact ⟨rfl,rfl⟩
 ·simp only [Option.bind_some,Bool.not_true,cond_false,Bool.true_and];have hn:0≤n∧n≤120∧1≤d∧d≤12:=by
   simp only [DY,Bool.and_eq_true,Eg] at h0;omega
  rw [Kw,F0];simp only [Option.bind_some];have IX:(bif (!DJ a 0 n) then some (true) else (Ek l 0 (IntKind.i64.wrap (n-a))).bind fun Dw=>some ((!Dw)))=some (!D9 n a l):=by
   unfold D9;rw [show DJ n 0 120=true by rw [Eg];omega]
   cases h2:DJ a 0 n
   ·rfl
   ·rw [Eg] at h2;simp only [Bool.not_true,cond_false,Bool.true_and];rw [Aa (by omega),F0];rfl
  rw [IX];cases h:D9 n a l
  ·exact ⟨rfl,rfl⟩
  ·simp only [D9,Bool.and_eq_true,Eg] at h;obtain ⟨h1,h2,h3⟩:=h;obtain ⟨a,rfl⟩:=Int.eq_ofNat_of_zero_le h2.1;obtain ⟨l,rfl⟩:=Int.eq_ofNat_of_zero_le h3.1;obtain ⟨d,rfl⟩:=Int.eq_ofNat_of_zero_le (show 0≤d by omega)
   simp only [Option.bind_some,Bool.not_true,cond_false,if_true,Int.toNat_natCast] at*;have o0:0<d:=by omega
   constructor
   ·have key:eO (GX (d:Int) (a:Int) (l:Int)) ([],0)=some ((List.range l).map fun i=>(((a+i) % d:Nat):Int)):=by
     refine C5 (fun x:List Int×Int=>l-x.2.toNat) (fun x=>0≤x.2∧x.2≤l∧x.1=(List.range x.2.toNat).map fun i=>(((a+i) % d:Nat):Int)) _ ?_ _ ⟨by simp,by simp,by simp⟩
     rintro ⟨x,j⟩ ⟨i0,i1,i2⟩;simp only at i0 i1 i2;obtain ⟨k,rfl⟩:=Int.eq_ofNat_of_zero_le i0;simp only [Int.toNat_natCast] at i2;subst i2;simp only [GX];by_cases hk:k<l
     ·rw [Dc (by omega),Aa (x:=(a:Int)+(k:Int)) (by omega),Db (by omega) (by omega)]
      simp only [cond_true,Option.bind_some];rw [C7 (by simp<;>omega) (by omega),Option.bind_some,Aa (by omega)]
      refine ⟨_,rfl,⟨by simp only;omega,by simp only;omega,?_⟩,by simp only;omega⟩
      simp only;rw [show ((k:Int)+1).toNat=k+1 by omega,List.range_succ,List.map_append]
      simp
     ·obtain rfl:k=l:=by omega
      rw [Dd (by omega)]
      exact ⟨_,rfl,rfl⟩
    rw [key,Option.bind_some,←Option.bind_assoc,N7 (rs:=Em d a l) (by simp<;>omega) (Kz d a l) (fun x=>by
     rw [GM o0];simp only [List.mem_map,List.mem_range])]
    rfl
   ·have inner: ∀r:Nat,eO (G3 (d:Int) (a:Int) (l:Int) (r:Int)) (false,(a:Int))=some (DZ d a l r):=fun r=>by
     refine C5 (fun x:Bool×Int=>a+l-x.2.toNat) (fun x=>a≤x.2∧x.2≤a+l∧x.1=DZ d a (x.2.toNat-a) r) _ ?_ _ ⟨by simp,by simp only;omega,by simp [DZ]⟩
     rintro ⟨b,j⟩ ⟨i0,i1,i2⟩;simp only at i0 i1 i2;obtain ⟨k,rfl⟩: ∃k:Nat,j=a+k:=⟨j.toNat-a,by omega⟩
     rw [show ((a:Int)+(k:Int)).toNat-a=k by omega] at i2
     simp only [G3];rw [Aa (x:=(a:Int)+(l:Int)) (by omega)]
     by_cases hk:k<l
     ·have hs:DZ d a (k+1) r=(DZ d a k r||((a+k) % d==r)):=by simp [DZ,List.range_succ]
      have hm:md ((a:Int)+(k:Int)) (d:Int)=some (((a+k) % d:Nat):Int):=by rw [Db (by omega) (by omega)];simp
      rw [Dc (by omega),cond_true,Aa (by omega)]
      have e2:(((bif b then some (true) else (md ((a:Int)+(k:Int)) (d:Int)).bind fun G4=>some ((G4==(r:Int))))).bind fun Fl=>some (Fl))=some (DZ d a (k+1) r):=by
       rw [hs,←i2,hm];cases b
       ·simp only [cond_false,Option.bind_some,Bool.false_or];congr 1;rw [Bool.eq_iff_iff,beq_iff_eq,beq_iff_eq];omega
       ·rfl
      rw [e2];refine ⟨_,rfl,⟨by simp only;omega,by simp only;omega,?_⟩,by simp only;omega⟩
      simp only;rw [show ((a:Int)+(k:Int)+1).toNat-a=k+1 by omega]
     ·obtain rfl:k=l:=by omega
      rw [Dd (by omega)]
      exact ⟨_,rfl,i2⟩
    have key:eO (G5 (d:Int) (a:Int) (l:Int)) ([],0)=some (Em d a l):=by
     refine C5 (fun x:List Int×Int=>d-x.2.toNat) (fun x=>0≤x.2∧x.2≤d∧x.1=((List.range x.2.toNat).filter (DZ d a l)).map fun (r:Nat)=>(r:Int)) _ ?_ _ ⟨by simp,by simp,by simp⟩
     rintro ⟨x,j⟩ ⟨i0,i1,i2⟩;simp only at i0 i1 i2;obtain ⟨k,rfl⟩:=Int.eq_ofNat_of_zero_le i0;simp only [Int.toNat_natCast] at i2;simp only [G5];by_cases hk:k<d
     ·have cj:x.length≤k:=by
       rw [i2,List.length_map];exact Nat.le_trans (List.length_filter_le _ _) (by simp)
      rw [Dc (by omega),cond_true,inner k]
      simp only [Option.bind_some];rw [Aa (by omega)]
      have e2:(((bif DZ d a l k then (app 8 x ([(k:Int)]:List Int)).bind fun Et=>some (Et) else some (x))).bind fun Fm=>some (Fm))=some (((List.range (k+1)).filter (DZ d a l)).map fun (r:Nat)=>(r:Int)):=by
       rw [List.range_succ,List.filter_append,List.map_append,←i2];cases hh:DZ d a l k
       ·simp [hh]
       ·rw [cond_true,C7 (by simp<;>omega) (by omega)];simp [hh]
      rw [e2];refine ⟨_,rfl,⟨by simp only;omega,by simp only;omega,?_⟩,by simp only;omega⟩
      simp only;rw [show ((k:Int)+1).toNat=k+1 by omega]
     ·obtain rfl:k=d:=by omega
      rw [Dd (by omega)]
      exact ⟨_,rfl,i2⟩
    rw [key];rfl
theorem N9: ∀n:Fin 256,UInt8.ofNat (zU .u8 ((n.val:Nat):Int) 255).toNat≠UInt8.ofNat n.val:=by decide +kernel
theorem N_ (x:UInt8):HG x≠x:=by
 have h:=N9 ⟨x.toNat,x.toNat_lt⟩;unfold HG;intro e;apply h;simp only;rw [e];apply UInt8.toNat_inj.1;have:=x.toNat_lt;rw [UInt8.toNat_ofNat'];omega
theorem Oa (a b:Int):F8 a b=some (max a b):=by
 unfold F8;by_cases h:b<a
 ·rw [Dc h];simp only [cond_true,Option.some.injEq];omega
 ·rw [Dd h];simp only [cond_false,Option.some.injEq];omega
theorem I0 {c:Ds} {b:Int} (h:DF c b) (hb:b≤1000000000000000000):c5 (Fh c) fun r=>r.1.length≤70∧DF r.2.2 (b+300):=by
 unfold Fh;refine c5.then (NY (by assumption) (by omega) (by simp)) ?_
 rintro ⟨x,QO⟩ ⟨KA,Ob⟩;dsimp only at KA Ob⊢;refine c5.then (tQ (by assumption) (by omega)) ?_
 rintro ⟨y,KB⟩ ⟨FB,F4,GN⟩;dsimp only at FB F4 GN⊢;refine c5.then (NX (by assumption) (by omega)) ?_
 rintro ⟨z,KC⟩ F5;dsimp only at F5⊢;have hx:0≤x∧x≤13:=by simp at KA;omega
 have hy:=F4 (by omega)
 have xB:0≤x*y∧x*y≤65:=⟨Int.mul_nonneg hx.1 FB,by
  have:=Int.mul_le_mul hx.2 (show y≤5 by omega) FB (by omega);omega⟩
 refine c5.then (P:=fun r=>0≤r∧r≤66) ?_ ?_
 ·refine c5.C8 (fun hc=> ?_) (fun hc=> ?_)
  ·exact .ret (by rw [Aa (x:=x*y) (by omega),Aa (by omega)];omega)
  ·exact .ret (by rw [Aa (x:=x*y) (by omega)];omega)
 intro n hn;rw [Oa,Option.bind_some,show max 0 n=n by omega,C_ hn.1 (by omega) (by omega),Option.bind_some]
 refine c5.then (P:=fun r=>r.1.length≤70∧DF ⟨r.2.1,r.2.2.1,r.2.2.2⟩ (b+300)) ?_ ?_
 ·refine c5.eO (fun x=>n.toNat-x.2.1.toNat) (fun x=>0≤x.2.1∧x.2.1≤n∧x.1.length=n.toNat∧DF ⟨x.2.2.1,x.2.2.2.1,x.2.2.2.2⟩ (b+10+2*x.2.1)) ?_ ⟨by simp,by simp only;omega,by simp,F5.eta.mono (by simp only;omega)⟩
  rintro ⟨l,i,C,A,S⟩ ⟨i0,i1,i2,i3⟩;dsimp only at i0 i1 i2 i3;unfold HK;dsimp only;rw [List.length_replicate];refine c5.C8 (fun hc=> ?_) (fun hc=> ?_)
  ·have hm:i<n:=by have:i<(n.toNat:Int):=by simpa using hc
                   omega
   refine c5.then (tQ i3 (by omega)) ?_
   rintro ⟨v,QP⟩ ⟨Oc,Od,KD⟩;dsimp only at Oc Od KD⊢;rw [C9 i0 (by omega),Option.bind_some,Aa (x:=i+1) (by omega)]
   exact .ret ⟨⟨(by first|omega|(dsimp only;omega)),(by first|omega|(dsimp only;omega)),by dsimp only;rw [List.length_set];exact i2,KD.eta.mono (by dsimp only;omega)⟩,(by first|omega|(dsimp only;omega))⟩
  ·exact .ret ⟨by first|omega|(dsimp only;omega),i3.mono (by first|omega|(dsimp only;omega))⟩
 rintro ⟨l,C,A,S⟩ ⟨l1,F6⟩;exact .ret ⟨by dsimp only;rw [FA];exact l1,F6⟩
theorem KE {a:List Int} (hl:a.length≤1048576) (hb: ∀x∈a,0≤x∧x≤255):c5 (FG a) fun r=>r.1.length≤70:=by
 unfold FG;refine c5.then (I0 (IK hl hb) (by omega)) ?_
 rintro ⟨s,d,c⟩ ⟨l1,F6⟩;exact .ret l1
theorem Oe {a:List Int} (hl:a.length≤1048576) (hb: ∀x∈a,0≤x∧x≤255):c5 (Gl a) fun r=>r.1.length≤70:=by
 unfold Gl;refine c5.then (I0 (IK hl hb) (by omega)) ?_
 rintro ⟨s,d,c⟩ ⟨l1,F6⟩;dsimp only at l1 F6⊢;refine c5.then (tQ (by assumption) (by omega)) ?_
 rintro ⟨y,KB⟩ ⟨FB,F4,GN⟩;dsimp only at FB F4 GN⊢;refine c5.then (tQ (by assumption) (by omega)) ?_
 rintro ⟨z,KC⟩ ⟨I1,I2,F5⟩;dsimp only at I1 I2 F5⊢;exact .ret l1
theorem Og {a:List Int} (hl:a.length≤1048576) (hb: ∀x∈a,0≤x∧x≤255):c5 (Gn a) fun _=>True:=by
 unfold Gn;refine c5.then (I0 (IK hl hb) (by omega)) ?_
 rintro ⟨s,d,c⟩ ⟨l1,F6⟩;dsimp only at l1 F6⊢;refine c5.then (tQ (by assumption) (by omega)) ?_
 rintro ⟨y,KB⟩ ⟨FB,F4,GN⟩;dsimp only at FB F4 GN⊢;refine c5.then (tQ (by assumption) (by omega)) ?_
 rintro ⟨z,KC⟩ ⟨I1,I2,F5⟩;dsimp only at I1 I2 F5⊢;exact .ret trivial
theorem Oh {a:List Int} (hl:a.length≤1048576) (hb: ∀x∈a,0≤x∧x≤255):c5 (EZ a) fun n=>0≤n∧n≤1000003:=by
 unfold EZ;refine c5.then (P:=fun n=>0≤n∧n≤1000003) ?_ (fun n hn=> .ret hn);refine c5.eO (fun x=>a.length-x.2.toNat) (fun x=>0≤x.2∧x.2≤a.length∧0≤x.1∧x.1≤1000003) ?_ ⟨by simp,by simp,by simp,by simp⟩
 rintro ⟨n,i⟩ ⟨i0,i1,i2,i3⟩;dsimp only at i0 i1 i2 i3;unfold HM;dsimp only;refine c5.C8 (fun hc=> ?_) (fun hc=> ?_)
 ·have hm:i<a.length:=by simpa using hc
  have hx:=hb _ (List.getElem_mem (l:=a) (n:=i.toNat) (by omega))
  rw [C9 i0 hm,Option.bind_some,Aa (x:=a[i.toNat]'(by omega)) (by omega),Aa (x:=31*n) (by omega),Aa (x:=31*n+a[i.toNat]'(by omega)) (by omega),Aa (x:=i+1) (by omega)]
  have h1:Int.tmod (31*n+a[i.toNat]'(by omega)) 1000003=(31*n+a[i.toNat]'(by omega)) % 1000003:=Int.tmod_eq_emod_of_nonneg (by omega)
  rw [h1];exact .ret ⟨⟨(by first|omega|(dsimp only;omega)),(by first|omega|(dsimp only;omega)),by dsimp only;omega,by dsimp only;omega⟩,(by first|omega|(dsimp only;omega))⟩
 ·exact .ret ⟨i2,i3⟩
theorem Oi {l:List Int} (hl:l.length≤1048576) (x:Int):Gi l x=some (l.any (· ==x)):=by
 unfold Gi;have key:eO (GY l x) 0=some (if l.any (· ==x) then .done true else .next ()):=by
  refine C5 (fun i:Int=>l.length-i.toNat) (fun i=>0≤i∧i≤l.length∧l.any (· ==x)=(l.drop i.toNat).any (· ==x)) _ ?_ _ ⟨by omega,by omega,by simp⟩
  rintro i ⟨i0,i1,i2⟩;simp only [GY];by_cases hi:i<l.length
  ·rw [Dc hi,C9 i0 hi];rw [List.drop_eq_getElem_cons (show i.toNat<l.length by omega),List.any_cons] at i2
   simp only [cond_true,Option.bind_some];cases hx:(l[i.toNat]'(by omega)==x)
   ·rw [hx,Bool.false_or] at i2;rw [cond_false,Aa (by omega)]
    refine ⟨_,rfl,⟨by omega,by omega,?_⟩,by omega⟩
    rw [show (i+1).toNat=i.toNat+1 by omega];exact i2
   ·rw [hx,Bool.true_or] at i2;rw [i2];exact ⟨_,rfl,rfl⟩
  ·rw [Dd hi];rw [List.drop_eq_nil_of_le (by omega)] at i2
   rw [i2];exact ⟨_,rfl,rfl⟩
 rw [key];cases l.any (· ==x)<;>rfl
theorem Oj {l:List Int} (hl:l.length≤1048576):Gt l l=some true:=by
 unfold Gt;rw [bne_self_eq_false,cond_false];have key:eO (Gs l l) 0=some (.next ()):=by
  refine De (l:=l) (fun k hk=> ?_) (by simp [Gs])
  simp only [Gs];rw [Dc (by omega),AJ hk]
  simp only [cond_true,Option.bind_some,bne_self_eq_false,cond_false];rw [Aa (by omega)]
 rw [key];rfl
theorem KF {d a l r c c' :Nat} (_hd:0<d) (hl:l≤d) (h1:a≤c*d+r∧c*d+r<a+l) (h2:a≤c' *d+r∧c' *d+r<a+l):c=c' :=by
 rcases Nat.lt_trichotomy c c' with h|h|h
 ·have:=Nat.mul_le_mul_right d (show c+1≤c' from h)
  rw [Nat.add_mul,Nat.one_mul] at this;omega
 ·exact h
 ·have:=Nat.mul_le_mul_right d (show c' + 1≤c from h)
  rw [Nat.add_mul,Nat.one_mul] at this;omega
def En (d a l r c:Nat):Bool:=decide (a≤c*d+r∧c*d+r<a+l)
theorem Ol {d w a l r:Nat} (hr:r<d) (KG:a+l≤d*w):(List.range w).any (En d a l r)=DZ d a l r:=by
 have hd:0<d:=by omega
 rw [Bool.eq_iff_iff,IY];simp only [List.any_eq_true,List.mem_range,En,decide_eq_true_eq];constructor
 ·rintro ⟨c,hc,h1,h2⟩;refine ⟨c*d+r-a,by omega,?_⟩
  rw [show a+(c*d+r-a)=c*d+r by omega]
  exact (IL hr).2
 ·rintro ⟨i,hi,rfl⟩;refine ⟨(a+i)/d,?_,?_⟩
  ·exact Nat.div_lt_of_lt_mul (by omega)
  ·have:=Nat.div_add_mod (a+i) d;rw [Nat.mul_comm] at this;omega
theorem Om {s x:List UInt8} {d w a l r:Nat} (S:SP s.length d w) (hr:r<d) (hl:l≤d) (hx:x.length=s.length) (hd: ∀k,k<s.length→(x.getD k 0≠s.getD k 0↔a≤PX w d k∧PX w d k<a+l)):
 eO (G6 s x (w:Int) (r:Int)) (0,IntKind.i64.wrap ((r:Int)*(w:Int)))=some (if (List.range w).any (En d a l r) then 1 else 0):=by
 have hle:=S.le;have ye:=S.d1;have KH:=S.d12;have On:=Nat.mul_le_mul_right w (show r+1≤d from hr);rw [←S.D8,Nat.add_mul,Nat.one_mul] at On;have c1:(r:Int)*(w:Int)=((r*w:Nat):Int):=by simp
 have cu: ∀c,c<w→r*w+c<s.length:=fun c hc=>by omega
 rw [c1];generalize hR:r*w=R at*;rw [Aa (by omega)]
 refine C5 (fun y:Int×Int=>R+w-y.2.toNat) (fun y=>R≤y.2∧y.2≤R+w∧y.1=if (List.range (y.2.toNat-R)).any (En d a l r) then 1 else 0) _ ?_ _ ⟨by simp,by simp only;omega,by simp⟩
 rintro ⟨n,j⟩ ⟨i0,i1,i2⟩;simp only at i0 i1 i2;obtain ⟨c,rfl⟩: ∃c:Nat,j=R+c:=⟨j.toNat-R,by omega⟩
 rw [show ((R:Int)+(c:Int)).toNat-R=c by omega] at i2
 simp only [G6];have c2:((r:Int)+1)*(w:Int)=((R+w:Nat):Int):=by rw [Int.add_mul,c1,Int.one_mul];simp
 rw [Aa (x:=(r:Int)+1) (by omega),c2,Aa (x:=((R+w:Nat):Int)) (by omega)]
 by_cases hc:c<w
 ·have hk:=cu c hc;have hp:PX w d (R+c)=c*d+r:=by rw [←hR];exact N0 hc
  have I3:=hd (R+c) hk;rw [hp] at I3;rw [Dc (by omega),GJ (by omega) (by omega),GJ (by omega) (by omega)]
  simp only [cond_true,Option.bind_some];rw [show ((R:Int)+(c:Int)).toNat=R+c by omega]
  have hs:(List.range (c+1)).any (En d a l r)=((List.range c).any (En d a l r)||En d a l r c):=by simp [List.range_succ]
  by_cases HJ:En d a l r c=true
  ·have I4:=HJ
   simp only [En,decide_eq_true_eq] at I4;have eL:(List.range c).any (En d a l r)=false:=by
    rw [Bool.eq_false_iff];intro h;simp only [List.any_eq_true,List.mem_range,En,decide_eq_true_eq] at h;obtain ⟨c',h1,h2⟩:=h;have:=KF (show 0<d by omega) hl I4 h2
    omega
   rw [eL] at i2;have aM:=I3.2 I4;rw [show (((x.getD (R+c) 0).toNat:Int) !=((s.getD (R+c) 0).toNat:Int))=true from bne_iff_ne.2 (fun e=>aM (UInt8.toNat_inj.1 (by omega))),cond_true]
   simp only [Option.bind_some];rw [i2,Aa (x:=(if false=true then (1:Int) else 0)+1) (by simp),Aa (by omega)]
   refine ⟨_,rfl,⟨by simp only;omega,by simp only;omega,?_⟩,by simp only;omega⟩
   simp only;rw [show ((R:Int)+(c:Int)+1).toNat-R=c+1 by omega,hs,eL,HJ];rfl
  ·have Oo:En d a l r c=false:=by simpa using HJ
   have he:x.getD (R+c) 0=s.getD (R+c) 0:=Decidable.byContradiction fun aM=>HJ (by simp only [En,decide_eq_true_eq];exact I3.1 aM)
   rw [he,bne_self_eq_false,cond_false];simp only [Option.bind_some];rw [Aa (by omega)]
   refine ⟨_,rfl,⟨by simp only;omega,by simp only;omega,?_⟩,by simp only;omega⟩
   simp only;rw [show ((R:Int)+(c:Int)+1).toNat-R=c+1 by omega,hs,Oo,Bool.or_false,i2]
 ·obtain rfl:c=w:=by omega
  rw [Dd (by omega)]
  exact ⟨_,rfl,i2⟩
theorem KI {d a l:Nat} (hd:0<d) (hl:l≤d):(Em d a l).length=l:=by
 have h1:=N2 (Kz d a l);have h2:((List.range l).map fun i=>(((a+i) % d:Nat):Int)).Nodup:=by
  rw [List.Nodup,List.pairwise_map];refine List.pairwise_lt_range.imp_of_mem fun {i j} hi hj kW e=> ?_;have hj:=List.mem_range.1 hj;have q1:=Nat.div_add_mod (a+i) d;have q2:=Nat.div_add_mod (a+j) d;have e:(a+i) % d=(a+j) % d:=by omega
  rw [e] at q1;have:=KF (c:=(a+i)/d) (c' :=(a+j)/d) (r:=(a+j) % d) (a:=a) (l:=l) hd hl (by rw [Nat.mul_comm];omega) (by rw [Nat.mul_comm];omega)
  rw [this] at q1;omega
 have l1:=II _ ((List.range l).map fun i=>(((a+i) % d:Nat):Int)) h1 fun x hx=>by
  obtain ⟨i,hi,e⟩:=(GM hd).1 hx;exact List.mem_map.2 ⟨i,List.mem_range.2 hi,e⟩
 have l2:=II _ (Em d a l) h2 fun x hx=>by
  obtain ⟨i,hi,e⟩:=List.mem_map.1 hx;exact (GM hd).2 ⟨i,List.mem_range.1 hi,e⟩
 simp only [List.length_map,List.length_range] at l1 l2;omega
theorem Oq {s x:List UInt8} {d w a l:Nat} (S:SP s.length d w) (KG:a+l≤s.length) (hl:l≤d) (hx:x.length=s.length) (hd: ∀k,k<s.length→(x.getD k 0≠s.getD k 0↔a≤PX w d k∧PX w d k<a+l)):
 eO (Gw s (d:Int) x (Em d a l) (w:Int)) 0=some (.next ()):=by
 have KH:=S.d12;have ye:=S.d1;refine C5 (fun r:Int=>d-r.toNat) (fun r=>0≤r∧r≤d) _ ?_ _ ⟨by omega,by omega⟩
 rintro r ⟨r0,r1⟩;obtain ⟨r,rfl⟩:=Int.eq_ofNat_of_zero_le r0;simp only [Gw] at*;by_cases hr:r<d
 ·rw [Dc (by omega),Om S hr hl hx hd,Ol hr (by rw [←S.D8];exact KG)]
  simp only [cond_true,Option.bind_some];rw [Oi (by rw [KI (by omega) hl];omega)]
  have hm:(Em d a l).any (· ==(r:Int))=DZ d a l r:=by
   rw [Bool.eq_iff_iff,IY];simp only [List.any_eq_true,beq_iff_eq];constructor
   ·rintro ⟨y,hy,rfl⟩;obtain ⟨i,h1,h2⟩:=(GM (by omega)).1 hy
    exact ⟨i,h1,by omega⟩
   ·rintro ⟨i,h1,h2⟩;exact ⟨(r:Int),(GM (by omega)).2 ⟨i,h1,by omega⟩,rfl⟩
  rw [hm,Aa (by omega)]
  refine ⟨.next ((r:Int)+1),?_,⟨by omega,by omega⟩,by omega⟩
  cases DZ d a l r<;>rfl
 ·obtain rfl:r=d:=by omega
  rw [Dd (by omega)]
  exact ⟨_,rfl,rfl⟩
theorem Ot {s:List UInt8} {d w a l:Nat} (S:SP s.length d w) (k:Nat) (hk:k<s.length):
 ((DU (Fc (DU s (PX d w)) a l) (PX w d)).getD k 0≠s.getD k 0↔a≤PX w d k∧PX w d k<a+l):=by
 have bE:k<w*d:=by rw [Nat.mul_comm,←S.D8];exact hk
 have hp:=GI bE;have hinv:=HA bE;rw [Nat.mul_comm,←S.D8] at hp;rw [F1 (by rw [HH,D7];exact hk),Kv (by rw [D7];exact hp),F1 hp,hinv]
 by_cases hc:a≤PX w d k∧PX w d k<a+l
 ·rw [if_pos hc];exact ⟨fun _=>hc,fun _=>N_ _⟩
 ·rw [if_neg hc];exact ⟨fun h=>absurd rfl h,fun h=>absurd h hc⟩
theorem Ou {s:List UInt8} {d w:Nat} (S:SP s.length d w) (h:DY s.length d=true) {a1:List Int} (hb:a1.length≤1048576) (F7: ∀x∈a1,0≤x∧x≤255):
 ((EJ (DU s (PX d w)) (d:Int)).bind fun (Es,G8)=>((bif (!G8) then some (true) else some ((!(Es==s))))).bind fun D0=>(bif D0 then some (LR.done false) else ((bif (decide (0<(s.length:Int))) then (EZ a1).bind fun FK=>(md FK (s.length:Int)).bind fun Eb=>(EZ a1).bind fun Gz=>(md (IntKind.i64.wrap (Int.tdiv Gz 13)) (IntKind.i64.wrap ((d:Int)+1))).bind fun Fp=>((bif (decide ((s.length:Int)<(IntKind.i64.wrap (Eb+Fp)))) then some ((IntKind.i64.wrap ((s.length:Int)-Eb))) else some (Fp))).bind fun Eu=>(E0 (DU s (PX d w)) Eb Eu).bind fun (G9,G_)=>(EJ G9 (d:Int)).bind fun (DI,Ha)=>(E1 (s.length:Int) (d:Int) Eb Eu).bind fun (DW,Hb)=>((bif (!G_) then some (true) else (bif (!Ha) then some (true) else (bif (!Hb) then some (true) else some (((DW.length:Int) !=Eu)))))).bind fun Et=>(bif Et then some (LR.done (LR.done false)) else (dv .i64 (s.length:Int) (d:Int)).bind fun DP=>(eO (Gw s (d:Int) DI DW DP) (0)).bind fun y=>match y with|LR.next ()=>some (LR.next ())|LR.done z=>some z) else some (LR.next ()))).bind fun y=>match y with|LR.next ()=>some (LR.next ())|LR.done z=>some z))=some (LR.next ():LR Unit Bool):=by
 have hle:=S.le;have ye:=S.d1;have KH:=S.d12;obtain ⟨w1,w2⟩:=S.w;have KJ: ∀t:List UInt8,t.length=s.length→EJ t (d:Int)=some (DU t (PX w d),true):=fun t ht=>by
  rw [(IV t _).1];unfold HF;rw [ht,h,if_pos rfl,Int.toNat_natCast,w1]
 rw [KJ _ (D7 _ _),N1 S.D8];simp only [Option.bind_some,Bool.not_true,cond_false,beq_self_eq_true];by_cases h0:0<(s.length:Int)
 ·rw [Dc h0,cond_true];obtain ⟨n,e1,KK,F2⟩:=Oh hb F7;rw [e1];simp only [Option.bind_some];have ht:Int.tdiv n 13=n/13:=Int.tdiv_eq_ediv_of_nonneg KK;rw [Db KK h0,ht,Aa (x:=n/13) (by omega),Aa (x:=(d:Int)+1) (by omega),Db (by omega) (by omega)]
  simp only [Option.bind_some];have q1:0≤n % s.length∧n % s.length<s.length:=⟨Int.emod_nonneg _ (by omega),Int.emod_lt_of_pos _ h0⟩
  have q2:0≤n/13 % ((d:Int)+1)∧n/13 % ((d:Int)+1)<(d:Int)+1:=⟨Int.emod_nonneg _ (by omega),Int.emod_lt_of_pos _ (by omega)⟩
  revert q1 q2;generalize n % (s.length:Int)=f;generalize n/13 % ((d:Int)+1)=g;intro q1 q2;obtain ⟨f,rfl⟩:=Int.eq_ofNat_of_zero_le q1.1;obtain ⟨g,rfl⟩:=Int.eq_ofNat_of_zero_le q2.1;obtain ⟨l,hl,da,Ov⟩: ∃l:Nat,(bif (decide ((s.length:Int)<(IntKind.i64.wrap ((f:Int)+(g:Int))))) then some ((IntKind.i64.wrap ((s.length:Int)-(f:Int)))) else some (g:Int))=some (l:Int)∧l≤d∧f+l≤s.length:=by
   rw [Aa (x:=(f:Int)+(g:Int)) (by omega)]
   by_cases hc:(s.length:Int)<(f:Int)+(g:Int)
   ·rw [Dc hc,cond_true,Aa (by omega)]
    exact ⟨s.length-f,by congr 1;omega,by omega,by omega⟩
   ·rw [Dd hc];exact ⟨g,rfl,by omega,by omega⟩
  rw [hl];simp only [Option.bind_some];have KL:D9 s.length (f:Int) (l:Int)=true:=by
   simp only [D9,Bool.and_eq_true,Eg];omega
  have rk:E0 (DU s (PX d w)) (f:Int) (l:Int)=some (Fc (DU s (PX d w)) f l,true):=by
   rw [(IW (by rw [D7];omega) _ _).1];unfold HI
   rw [D7,KL];rfl
  have dK:E1 (s.length:Int) (d:Int) (f:Int) (l:Int)=some (Em d f l,true):=by
   rw [(IZ _ _ _ _).1];unfold F3;rw [h,KL];rfl
  rw [rk,dK];simp only [Option.bind_some];rw [KJ _ (by rw [HH,D7])]
  simp only [Option.bind_some,Bool.not_true,cond_false];rw [KI (by omega) da,bne_self_eq_false]
  simp only [cond_false];rw [Da (by omega) (by omega) (by omega),w2]
  simp only [Option.bind_some];rw [Oq S Ov da (by rw [D7,HH,D7]) fun k hk=>Ot S k hk]
  rfl
 ·rw [Dd h0];rfl
theorem Ox (a b:List Int) (ha:a.length<2^47) (hb:b.length<2^47) (Oy: ∀x∈a,0≤x∧x≤255) (F7: ∀x∈b,0≤x∧x≤255):Gy a b=some true:=by
 unfold Gy;rw [Aa (by omega)]
 by_cases hlen:1048576<(a.length:Int)+b.length
 ·rw [Dc hlen];rfl
 ·rw [Dd hlen,cond_false];obtain ⟨⟨s,d⟩,e1,l1⟩:=KE (a:=a) (by omega) Oy
  obtain ⟨⟨u,d2⟩,e2,l2⟩:=KE (a:=b) (by omega) F7
  obtain ⟨⟨w,f,l⟩,e3,l3⟩:=Oe (a:=b) (by omega) F7
  obtain ⟨⟨n,d3,f3,I5⟩,e4,_⟩:=Og (a:=b) (by omega) F7
  simp only at l1 l2 l3;have kO:Gj b=some (u,d2):=by unfold Gj;rw [e2];rfl
  have hr: ∀n d a l,(F3 n d a l).1.length≤1048576:=fun n d a l=>by
   unfold F3;cases h:DY n d&&D9 n a l
   ·simp
   ·have hn:1≤d∧d≤12:=by
     simp only [DY,Bool.and_eq_true,Eg] at h;omega
    simp only [if_true,Em,List.length_map];exact Nat.le_trans (List.length_filter_le _ _) (by rw [List.length_range];omega)
  rw [e1,kO,e3,e4];simp only [Option.bind_some];rw [(Ku s d).1,(Ku s d).2,(IV u d2).1,(IV u d2).2,(IW (by omega) f l).1,(IW (by omega) f l).2,(IZ n d3 f3 I5).1,(IZ n d3 f3 I5).2]
  simp only [Option.bind_some,beq_self_eq_true,Bool.not_true,cond_false,cond_true];rw [Oj (hr n d3 f3 I5)];simp only [Option.bind_some];unfold HD;cases h:DY s.length d
  ·rfl
  ·obtain ⟨d',w',rfl,S,hw⟩:=IT h;obtain ⟨w1,w2⟩:=S.w;simp only [if_true,Int.toNat_natCast,cond_true,w1];exact (congrArg (fun o=>Option.bind o _) (Ou S h (by omega) F7)).trans rfl
end Go.EI
