/-
  The plain law and all that it needs.
-/
import Derived.Test.YtmmomohapflagaaVgF
import Derived.Test.YtmmomohapflagaaVaF
open Go Go.VS
namespace Go.Hi
structure F5 (c:FE) (b:Int):Prop where
 len:c.Code.length≤1048576
 bytes: ∀x∈c.Code,0≤x∧x≤255
 lo:0≤c.FG
 hi:c.FG≤b
theorem F5.mono {c:FE} {b d:Int} (h:F5 c b) (hd:b≤d):F5 c d:=⟨h.len,h.bytes,h.lo,by have:=h.hi;omega⟩
theorem Rc (k:Int):0≤Ab .u64 k 255∧Ab .u64 k 255≤255:=by
 have h:(BitVec.ofInt IntKind.u64.bits k&&&BitVec.ofInt IntKind.u64.bits 255).toNat≤255:=by
  rw [BitVec.toNat_and];exact Nat.and_le_right
 unfold Ab;rw [IntWalk.u64_in _ (by omega)]
 omega
theorem NJ {c:FE} {b:Int} (h:F5 c b) (hb:b≤4611686018427387904): ∃x d,IM c=some (x,d)∧(0≤x∧x≤255)∧F5 d (b+1):=by
 obtain ⟨h1,h2,h3,h4⟩:=h;unfold IM;rw [p_ (x:=c.FG+1) (by omega)]
 have e: ∃Fw,(bif (decide (c.FG<(c.Code.length:Int))) then (idx c.Code c.FG).bind fun GW=>some ((IntKind.i64.wrap GW)) else some (0))=some Fw∧0≤Fw∧Fw≤255:=by
  by_cases hc:c.FG<c.Code.length
  ·rw [show decide (c.FG<(c.Code.length:Int))=true by simpa using hc]
   obtain ⟨n,hn⟩:=Int.eq_ofNat_of_zero_le h3;rw [hn,qk (show n<c.Code.length by omega)]
   have:=h2 _ (List.getElem_mem (show n<c.Code.length by omega))
   simp only [cond_true,Option.bind_some];rw [p_ (by omega)]
   exact ⟨_,rfl,this⟩
  ·rw [show decide (c.FG<(c.Code.length:Int))=false by simpa using hc]
   exact ⟨0,rfl,by omega,by omega⟩
 obtain ⟨Fw,e1,e2⟩:=e;rw [e1,Option.bind_some];cases decide (c.FG+1≤(c.Code.length:Int))
 ·refine ⟨_,_,rfl,?_,⟨h1,h2,by simp only;omega,by simp only;omega⟩⟩
  have:=Rc (uT .u64 (IntKind.u64.wrap ((IntKind.u64.wrap ((IntKind.u64.wrap (c.FV*6364136223846793005))+(IntKind.u64.wrap Fw)))+1442695040888963407)) 40);rw [p_ (by omega)]
  exact this
 ·exact ⟨_,_,rfl,e2,⟨h1,h2,by simp only;omega,by simp only;omega⟩⟩
theorem NK {x n:Int} (hx:0≤x) (hn:1<n): ∃r,md x n=some r∧0≤r∧r<n:=by
 unfold md;rw [if_neg (by omega)]
 refine ⟨_,rfl,?_,?_⟩
 ·rw [Int.tmod_eq_emod_of_nonneg hx];exact Int.emod_nonneg _ (by omega)
 ·rw [Int.tmod_eq_emod_of_nonneg hx];exact Int.emod_lt_of_pos _ (by omega)
theorem L3 {c:FE} {b n:Int} (h:F5 c b) (hb:b≤4000000000000000000): ∃x d,G7 c n=some (x,d)∧(0≤x∧(1≤n→x<n))∧F5 d (b+2):=by
 unfold G7;by_cases hn:n≤1
 ·rw [show decide (n≤1)=true by simpa using hn]
  exact ⟨0,c,rfl,⟨by omega,by omega⟩,h.mono (by omega)⟩
 ·rw [show decide (n≤1)=false by simpa using hn]
  obtain ⟨x,d,e1,e2,e3⟩:=NJ h (by omega)
  simp only [cond_false];rw [e1,Option.bind_some];cases decide (200<n)
  ·simp only [cond_false,Option.bind_some];obtain ⟨r,r1,r2,r3⟩:=NK (x:=x) e2.1 (show 1<n by omega)
   rw [r1];exact ⟨r,_,rfl,⟨r2,fun _=>r3⟩,e3.mono (by omega)⟩
  ·simp only [cond_true];obtain ⟨y,d',f1,f2,f3⟩:=NJ e3 (by omega)
   rw [f1];simp only [Option.bind_some];rw [p_ (x:=x*256) (by omega),p_ (by omega)]
   obtain ⟨r,r1,r2,r3⟩:=NK (x:=x*256+y) (by omega) (show 1<n by omega)
   rw [r1];exact ⟨r,_,rfl,⟨r2,fun _=>r3⟩,f3.mono (by omega)⟩
theorem Re {c:FE} {b n:Int} (h:F5 c b) (hb:b≤4000000000000000000): ∃x d,Ia c n=some (x,d)∧F5 d (b+2):=by
 obtain ⟨x,d,e1,_,e3⟩:=L3 (n:=n) h hb;unfold Ia;rw [e1];exact ⟨_,_,rfl,e3⟩
theorem Rf {c:FE} {b:Int} {l:List Int} (h:F5 c b) (hb:b≤4000000000000000000) (hl:l≠[]): ∃x d,Ib c l=some (x,d)∧x∈l∧F5 d (b+2):=by
 obtain ⟨x,d,e1,e2,e3⟩:=L3 (n:=(l.length:Int)) h hb;have dt:1≤l.length:=by cases l with|nil=>exact absurd rfl hl|cons _ _=>simp
 unfold Ib;rw [e1];obtain ⟨n,rfl⟩:=Int.eq_ofNat_of_zero_le e2.1;have hn:n<l.length:=by have:=e2.2 (by omega);omega
 simp only [Option.bind_some];rw [qk hn];exact ⟨_,_,rfl,List.getElem_mem hn,e3⟩
theorem Rg {l:List Int} (hl:l.length≤1048576) (hb: ∀x∈l,0≤x∧x≤255):F5 ⟨l,0,0⟩ 0:=⟨hl,hb,by simp,by simp⟩
def Hg (n a b:Int):Bool:=decide (a≤n)&&decide (n≤b)
theorem Rh (n a b:Int):IW n a b=some (Hg n a b):=by
 unfold IW Hg;cases decide (a≤n)<;>rfl
theorem NL (n a b:Int):IV n a b=some (Hg n a b):=by
 unfold IV Hg;cases decide (a≤n)<;>rfl
theorem L4 {n a b:Int}:Hg n a b=true↔a≤n∧n≤b:=by simp [Hg]
def NM (a b:Int):Int:=if a<b then a else b
theorem Ri (a b:Int):I9 a b=some (NM a b):=by
 unfold I9 NM;by_cases h:a<b
 ·rw [show decide (a<b)=true by simpa using h,if_pos h];rfl
 ·rw [show decide (a<b)=false by simpa using h,if_neg h];rfl
theorem L5 {l:List Int} (hl:l.length≤1048576):Iu l l=some true:=by
 unfold Iu;rw [Fi (l:=l) (fun k hk=>by
  simp only [Kp];rw [qm (by omega),qk hk,p_ (by omega)]
  simp) (by simp [Kp])]
 simp
theorem uf {c:FE} {b n:Int} (h:F5 c b) (hb:b≤4000000000000000000):cC (G7 c n) fun r=>0≤r.1∧(1≤n→r.1<n)∧F5 r.2 (b+2):=by
 obtain ⟨x,d,e,⟨h1,h2⟩,h3⟩:=L3 (n:=n) h hb;exact ⟨_,e,h1,h2,h3⟩
theorem NN {c:FE} {b n:Int} (h:F5 c b) (hb:b≤4000000000000000000):cC (Ia c n) fun r=>F5 r.2 (b+2):=by
 obtain ⟨x,d,e,h3⟩:=Re (n:=n) h hb;exact ⟨_,e,h3⟩
theorem NO {c:FE} {b:Int} {l:List Int} (h:F5 c b) (hb:b≤4000000000000000000) (hl:l≠[]):cC (Ib c l) fun r=>r.1∈l∧F5 r.2 (b+2):=by
 obtain ⟨x,d,e,h2,h3⟩:=Rf h hb hl;exact ⟨_,e,h2,h3⟩
theorem Rj {l:List Fq} (hl:l.length<2^60) {g:Fq→Option Bool} (p:Fq→Bool) (hg: ∀x∈l,g x=some (p x)):Jf l g=some (cD p l):=by
 unfold Jf;rw [Fh p (f:=KW l g) (fun _=>rfl) hl hg];have:=nL p l;by_cases h:cD p l<0
 ·rw [if_pos h];simp;omega
 ·rw [if_neg h];rfl
theorem Rk {l:List Fq} (hl:l.length<2^60) {g:Fq→Option Bool} (p:Fq→Bool) (hg: ∀x∈l,g x=some (p x)):Jg l g=some (l.any p):=by
 unfold Jg;rw [Rj hl p hg,Option.bind_some,w9]
def Hu (x:Fq):Bool:=Hg x.Fv 1 10&&Hg x.Fs x.Fv 40
def GV (l:List Fq):Bool:=decide (l.length≤5)&&l.all Hu
theorem I7 {l:List Fq} (hl:l.length≤1048576):Ig l=some (GV l):=by
 unfold Ig GV;rw [Rk (by omega) (fun w=> !Hu w) (fun w _=>by
  unfold Kd Hu;rw [NL,NL];cases Hg w.Fv 1 10<;>rfl)]
 have:(!l.any fun w=> !Hu w)=l.all Hu:=by simp [List.all_eq_not_any_not]
 simp only [Option.bind_some,this];by_cases h:l.length≤5
 ·rw [qm (by omega),qm h];rfl
 ·rw [w8 (by omega),w8 h];rfl
theorem J3 {l:List Fq} (hl:l.length≤1048576):Ih l=some (GV l):=by
 unfold Ih GV;rw [w7 l (Ji l) (fun k (_:Unit)=>k) (fun _ x s=>if Hu x then .next s else .done (.done false)) (fun _=> .next ()) (fun k hk s=>by
  simp only [Ji];rw [qm (by omega),qk hk,p_ (by omega)]
  simp only [cond_true,Option.bind_some,Rh];by_cases h1:Hg l[k].Fv 1 10=true<;>by_cases h2:Hg l[k].Fs l[k].Fv 40=true<;>simp [Hu,h1,h2,LR.nK]) (fun s=>by simp [Ji]) (),E4 _ _ (fun _ _ _=>rfl)]
 have:decide ((l.length:Int)≤5)=decide (l.length≤5):=by
  by_cases h:l.length≤5
  ·rw [qm (by omega),qm h]
  ·rw [w8 (by omega),w8 h]
 cases l.all Hu<;>simp [this]
def Ga (x:Fq):Prop:=(1≤x.Fv∧x.Fv≤10)∧x.Fv≤x.Fs∧x.Fs≤40
theorem L6 {l:List Fq} (h:GV l=true):l.length≤5∧ ∀x∈l,Ga x:=by
 unfold GV Hu at h;simp only [Bool.and_eq_true,decide_eq_true_eq,List.all_eq_true,L4] at h;exact ⟨h.1,h.2⟩
def Gl (l:List Fq) (i:Nat):Int:=(l.getD i ⟨1,1⟩).Fv
def Gs (l:List Fq) (i:Nat):Int:=(l.getD i ⟨1,1⟩).Fs
theorem IJ {l:List Fq} (hT: ∀x∈l,Ga x) (i:Nat):(1≤Gl l i∧Gl l i≤10)∧1≤Gs l i∧Gs l i≤40:=by
 unfold Gl Gs;rw [List.getD_eq_getElem?_getD];by_cases h:i<l.length
 ·rw [List.getElem?_eq_getElem h];have:=hT _ (List.getElem_mem h);unfold Ga at this;simp only [Option.getD_some];omega
 ·rw [List.getElem?_eq_none (by omega)]
  simp
def GC:Nat→(Nat→Int)→Int
 |0,_=>0
 |k+1,f=>GC k f+f k
theorem NP: ∀(k:Nat) (f g:Nat→Int),(∀i,i<k→f i≤g i)→GC k f≤GC k g
 |0,_,_,_=>by simp [GC]
 |k+1,f,g,h=>by
  have:=NP k f g (fun i hi=>h i (by omega))
  have:=h k (by omega)
  simp only [GC];omega
def GK (n e r:Int):Int:=n*((r+e-1)/e)
theorem Rl {n e a b:Int} (hn:0≤n) (he:1≤e) (h:a≤b):GK n e a≤GK n e b:=
 Int.mul_le_mul_of_nonneg_left (Int.ediv_le_ediv (by omega) (by omega)) hn
theorem NQ {n e a:Int} (hn:1≤n∧n≤10) (he:1≤e∧e≤40) (h:0≤a∧a≤1000):(0≤(a+e-1)/e∧(a+e-1)/e≤2000)∧0≤GK n e a∧GK n e a≤20000:=by
 have h1:0≤(a+e-1)/e:=Int.ediv_nonneg (by omega) (by omega)
 have h2:(a+e-1)/e≤a+e-1:=Int.ediv_le_self _ (by omega)
 refine ⟨by omega,Int.mul_nonneg (by omega) h1,?_⟩
 unfold GK;exact Int.le_trans (Int.mul_le_mul hn.2 (show (a+e-1)/e≤2000 by omega) h1 (by omega)) (by omega)
def FX (l:List Fq) (k:Nat) (r:Int):Int:=Gl l k+GC k (fun i=>GK (Gl l i) (Gs l i) r)
theorem NR {l:List Fq} (hT: ∀x∈l,Ga x) {k:Nat} {a b:Int} (h:a≤b):FX l k a≤FX l k b:=by
 unfold FX;have:=NP k (fun i=>GK (Gl l i) (Gs l i) a) (fun i=>GK (Gl l i) (Gs l i) b) (fun i _=>by
  have:=IJ hT i;exact Rl (by omega) (by omega) h)
 omega
theorem Rm {l:List Fq} (hT: ∀x∈l,Ga x) {k:Nat} (hk:k≤5) {r:Int} (h:0≤r∧r≤1000):0≤FX l k r∧FX l k r≤1000000:=by
 have hz: ∀k,GC k (fun i=>GK (Gl l i) (Gs l i) r)≤20000*k∧0≤GC k (fun i=>GK (Gl l i) (Gs l i) r):=by
  intro k;induction k with
  |zero=>simp [GC]
  |succ k ih=>
   have hn:=IJ hT k;have:=(NQ hn.1 hn.2 h).2;simp only [GC];omega
 have:=hz k;have:=IJ hT k;unfold FX;omega
theorem Hv {l:List Fq} {k:Nat} (hk:k<l.length):l[k].Fv=Gl l k∧l[k].Fs=Gs l k:=by
 unfold Gl Gs;rw [List.getD_eq_getElem?_getD,List.getElem?_eq_getElem hk];exact ⟨rfl,rfl⟩
theorem NS {l:List Fq} (hT: ∀x∈l,Ga x) {k:Nat} (hk:k<l.length) (nF:l.length≤5) {r:Nat} (hr:r≤200):dP (Hl r (l.take k)) (Gl l k,0)=some (FX l k r):=by
 have: ∀(j i:Nat),i+j=k→dP (Hl r (l.take k)) (Gl l k+GC i (fun i=>GK (Gl l i) (Gs l i) r),(i:Int))=some (FX l k r):=by
  intro j;induction j with
  |zero=>
   intro i hi;have:i=k:=by omega
   subst this;rw [lQ];simp only [Hl];rw [w8 (by rw [List.length_take];omega)];rfl
  |succ j ih=>
   intro i hi;have ez:i<l.length:=by omega
   have hn:=IJ hT i;have hc:=NQ (a:=(r:Int)) hn.1 hn.2 (by omega)
   have hg:=Rm hT (k:=i) (by omega) (r:=(r:Int)) (by omega)
   have zt:=IJ hT k;have UI:=IJ hT i;unfold FX at hg;rw [lQ];simp only [Hl];rw [qm (by rw [List.length_take];omega),qk (by rw [List.length_take];omega)]
   simp only [cond_true,Option.bind_some,List.getElem_take];rw [(Hv ez).1,(Hv ez).2,p_ (x:=(r:Int)+Gs l i) (by omega),p_ (x:=(r:Int)+Gs l i-1) (by omega),Fe (by omega) (by omega) (by omega)]
   simp only [Option.bind_some];have e:Gl l i*(((r:Int)+Gs l i-1)/Gs l i)=GK (Gl l i) (Gs l i) r:=rfl;rw [e,p_ (x:=GK (Gl l i) (Gs l i) r) (by omega),p_ (x:=(i:Int)+1) (by omega),p_ (by omega)]
   have:=ih (i+1) (by omega)
   simp only [GC] at this;rw [show ((i+1:Nat):Int)=(i:Int)+1 by omega,←Int.add_assoc] at this
   exact this
 have h:=this k 0 (by omega)
 simpa [GC] using h
theorem Rn {l:List Fq} (hT: ∀x∈l,Ga x) {k:Nat} (hk:k<l.length) (nF:l.length≤5) {f:Nat} (hf:f≤200) (yj:FX l k f=f) (Hw: ∀t:Nat,t<f→(t:Int)<FX l k t):
 ∀(d r:Nat),f-r≤d→r≤f→dP (HA l k) (r:Int)=some (.done ((f:Int),true))∧dP (HC l k) (r:Int)=some (.done (f:Int)):=by
 intro d;have step: ∀r:Nat,r≤f→(idx l k).bind (fun FW=>(cA l 0 (k:Int)).bind fun Gu=>dP (Hl r Gu) (FW.Fv,0))=some (FX l k r):=by
  intro r hr;rw [qk hk,Fc (by omega) (by omega) (by omega)]
  simp only [Option.bind_some,Int.toNat_zero,List.drop_zero,Int.toNat_natCast,Nat.sub_zero];rw [(Hv hk).1,NS hT hk nF (by omega)]
 induction d with
 |zero=>
  intro r h1 h2;have:r=f:=by omega
  subst this;have hs:=step r (Nat.le_refl r);rw [qk hk,Fc (by omega) (by omega) (by omega)] at hs
  simp only [Option.bind_some] at hs;constructor
  ·rw [lQ];simp only [HA];rw [qm (by omega),qk hk,Fc (by omega) (by omega) (by omega)]
   simp only [cond_true,Option.bind_some];rw [hs,yj];simp
  ·rw [lQ];simp only [HC];rw [qm (by omega),qk hk,Fc (by omega) (by omega) (by omega),show Jj=Hl from rfl]
   simp only [cond_true,Option.bind_some];rw [hs,yj];simp
 |succ d ih=>
  intro r h1 h2;by_cases he:r=f
  ·exact ih r (by omega) h2
  have hs:=step r h2;rw [qk hk,Fc (by omega) (by omega) (by omega)] at hs
  simp only [Option.bind_some] at hs;have h3:=Hw r (by omega)
  have h4:=NR hT (k:=k) (show (r:Int)≤(f:Int) by omega)
  rw [yj] at h4;obtain ⟨g,hg⟩:=Int.eq_ofNat_of_zero_le (show 0≤FX l k r by omega)
  rw [hg] at hs h3 h4;obtain ⟨i1,i2⟩:=ih g (by omega) (by omega)
  constructor
  ·rw [lQ];simp only [HA];rw [qm (by omega),qk hk,Fc (by omega) (by omega) (by omega)]
   simp only [cond_true,Option.bind_some];rw [hs];simp only [Option.bind_some];rw [show ((g:Int)==(r:Int))=false by simp<;>omega]
   exact i1
  ·rw [lQ];simp only [HC];rw [qm (by omega),qk hk,Fc (by omega) (by omega) (by omega),show Jj=Hl from rfl]
   simp only [cond_true,Option.bind_some];rw [hs];simp only [Option.bind_some];rw [show ((g:Int)==(r:Int))=false by simp<;>omega]
   exact i2
theorem Ro {l:List Fq} (hT: ∀x∈l,Ga x) {k:Nat} (hk:k<l.length) (nF:l.length≤5) (Hw: ∀t:Nat,t≤200→(t:Int)<FX l k t):
 ∀(d r:Nat),201-r≤d→dP (HA l k) (r:Int)=some (.next ())∧dP (HC l k) (r:Int)=some (.next ()):=by
 intro d;induction d with
 |zero=>
  intro r h1;constructor
  ·rw [lQ];simp only [HA];rw [w8 (by omega)];rfl
  ·rw [lQ];simp only [HC];rw [w8 (by omega)];rfl
 |succ d ih=>
  intro r h1;by_cases hr:r≤200
  ·have hs:=NS hT hk nF hr;have h3:=Hw r hr;obtain ⟨g,hg⟩:=Int.eq_ofNat_of_zero_le (show 0≤FX l k r by omega)
   rw [hg] at hs h3;obtain ⟨i1,i2⟩:=ih g (by omega)
   constructor
   ·rw [lQ];simp only [HA];rw [qm (by omega),qk hk,Fc (by omega) (by omega) (by omega)]
    simp only [cond_true,Option.bind_some,Int.toNat_zero,List.drop_zero,Int.toNat_natCast,Nat.sub_zero];rw [(Hv hk).1,hs];simp only [Option.bind_some];rw [show ((g:Int)==(r:Int))=false by simp<;>omega]
    exact i1
   ·rw [lQ];simp only [HC];rw [qm (by omega),qk hk,Fc (by omega) (by omega) (by omega),show Jj=Hl from rfl]
    simp only [cond_true,Option.bind_some,Int.toNat_zero,List.drop_zero,Int.toNat_natCast,Nat.sub_zero];rw [(Hv hk).1,hs];simp only [Option.bind_some];rw [show ((g:Int)==(r:Int))=false by simp<;>omega]
    exact i2
  ·constructor
   ·rw [lQ];simp only [HA];rw [w8 (by omega)];rfl
   ·rw [lQ];simp only [HC];rw [w8 (by omega)];rfl
theorem Rp {c:FE} {b:Int} (h:F5 c b) (hb:b≤2000000000000000000):cC (I_ c) fun r=>r.1.length≤6∧F5 r.2 (b+200):=by
 unfold I_;refine cC.then (uf (by assumption) (by omega)) ?_
 rintro ⟨x,UJ⟩ ⟨Rq,NT,Rr⟩;dsimp only at Rq NT Rr⊢;have UK:=NT (by omega)
 refine cC.then (NN (by assumption) (by omega)) ?_
 rintro ⟨y,L7⟩ HM;dsimp only at HM⊢;refine cC.then (P:=fun r=>(0≤r.1∧r.1≤6)∧F5 ⟨r.2.1,r.2.2.1,r.2.2.2⟩ (b+10)) ?_ ?_
 ·refine cC.E5 (fun hc=> ?_) (fun hc=> ?_)
  ·refine cC.then (uf (by assumption) (by omega)) ?_
   rintro ⟨z,NU⟩ ⟨L8,KN,H8⟩;dsimp only at L8 KN H8⊢;have UL:=KN (by omega)
   rw [p_ (by omega)]
   exact .ret ⟨(by first|omega|(dsimp only;omega)),H8.mono (by omega)⟩
  ·exact .ret ⟨(by first|omega|(dsimp only;omega)),HM.mono (by omega)⟩
 ·rintro ⟨n,co,a,L9⟩ ⟨hn,eH⟩;dsimp only at hn eH⊢;refine cC.then (P:=fun r=>r.1.length≤6∧F5 ⟨r.2.1,r.2.2.1,r.2.2.2⟩ (b+100)) (cC.dP (fun s=>s.2.1.toNat) (fun s=>((0≤s.2.1∧s.2.1≤6)∧s.1.length+s.2.1.toNat≤6)∧F5 ⟨s.2.2.1,s.2.2.2.1,s.2.2.2.2⟩ (b+10+4*(6-s.2.1))) ?_ ⟨⟨(by first|omega|(dsimp only;omega)),by simp only [List.length_nil];omega⟩,eH.mono (by first|omega|(dsimp only;omega))⟩) ?_
  ·rintro ⟨l,n,co,a,L9⟩ ⟨⟨h1,h2⟩,eH⟩;dsimp only at h1 h2 eH⊢;unfold KU;dsimp only;refine cC.E5 (fun hc=> ?_) (fun hc=> ?_)
   ·simp only [decide_eq_true_eq] at hc;refine cC.then (uf (by assumption) (by omega)) ?_
    rintro ⟨y,L7⟩ ⟨Rs,Rt,HM⟩;dsimp only at Rs Rt HM⊢;refine cC.then (uf (by assumption) (by omega)) ?_
    rintro ⟨z,NU⟩ ⟨L8,KN,H8⟩;dsimp only at L8 KN H8⊢;rw [Ri];simp only [Option.bind_some];rw [E_ (by simp<;>omega) (by omega),Option.bind_some,p_ (x:=n-1) (by omega)]
    exact .ret ⟨⟨⟨(by first|omega|(dsimp only;omega)),by simp only [List.length_append,List.length_singleton];omega⟩,H8.mono (by first|omega|(dsimp only;omega))⟩,(by first|omega|(dsimp only;omega))⟩
   ·simp only [decide_eq_false_iff_not,Int.not_lt] at hc;exact .ret ⟨(by first|omega|(dsimp only;omega)),eH.mono (by first|omega|(dsimp only;omega))⟩
  ·rintro ⟨l,co,a,L9⟩ ⟨h1,eH⟩;dsimp only at h1 eH⊢;refine cC.then (P:=fun r=>(r.1=true→1≤l.length)∧F5 ⟨r.2.1,r.2.2.1,r.2.2.2⟩ (b+110)) ?_ ?_
   ·refine cC.E5 (fun hc=> ?_) (fun hc=> ?_)
    ·simp only [decide_eq_true_eq] at hc;refine cC.then (NN (by assumption) (by omega)) ?_
     rintro ⟨y,L7⟩ HM;dsimp only at HM⊢;exact .ret ⟨fun _=>(by first|omega|(dsimp only;omega)),HM.mono (by first|omega|(dsimp only;omega))⟩
    ·exact .ret ⟨fun h=>by simp at h,eH.mono (by first|omega|(dsimp only;omega))⟩
   ·rintro ⟨t,co,a,L9⟩ ⟨h3,gG⟩;dsimp only at h3 gG⊢;refine cC.then (P:=fun r=>r.1.length≤6∧F5 ⟨r.2.1,r.2.2.1,r.2.2.2⟩ (b+200)) ?_ ?_
    ·refine cC.E5 (fun hc=> ?_) (fun hc=> ?_)
     ·have:=h3 hc;refine cC.then (NO (by assumption) (by omega) (by simp)) ?_
      rintro ⟨y,L7⟩ ⟨Ru,HM⟩;dsimp only at Ru HM⊢;refine cC.then (NO (by assumption) (by omega) (by simp)) ?_
      rintro ⟨z,NU⟩ ⟨Rv,H8⟩;dsimp only at Rv H8⊢;rw [E9 (by omega) (by omega)]
      simp only [Option.bind_some];exact .ret ⟨by simp only [List.length_set];omega,H8.mono (by omega)⟩
     ·exact .ret ⟨h1,gG.mono (by omega)⟩
    ·rintro ⟨l',UM,a',UN⟩ ⟨h4,Rw⟩;exact .ret ⟨h4,Rw⟩
theorem L_ {α :Type} [DecidableEq α]: ∀(P o:List α),P.Nodup→(∀x∈P,x∈o)→P.length≤o.length
 |[],o,_,_=>by simp
 |x::P,o,hP,hs=>by
  obtain ⟨hx,Rx⟩:=List.nodup_cons.1 hP;have h1:=L_ P (o.erase x) Rx (fun y hy=>(List.mem_erase_of_ne (fun e=>by subst e;exact hx hy)).2 (hs y (by simp [hy])))
  have h2:x∈o:=hs x (by simp)
  have h3:=List.length_erase_of_mem h2;have h4:=List.length_pos_of_mem h2;simp only [List.length_cons];omega
theorem NV {α :Type} [DecidableEq α]: ∀(o:List α),¬o.Nodup→ ∃x,x∈o∧x∈o.erase x
 |[],h=>absurd List.nodup_nil h
 |y::o,h=>by
  by_cases hy:y∈o
  ·exact ⟨y,by simp,by simpa using hy⟩
  ·have h' : ¬o.Nodup:=fun hn=>h (List.nodup_cons.2 ⟨hy,hn⟩)
   obtain ⟨x,h1,h2⟩:=NV o h';have aH:x≠y:=fun e=>by subst e;exact hy h1
   refine ⟨x,by simp [h1],?_⟩
   rw [List.erase_cons_tail (by simpa using fun e=>aH e.symm)]
   exact List.mem_cons_of_mem _ h2
def FD (n:Nat):List Int:=(List.range n).map fun (k:Nat)=>(k:Int)
theorem H9 (n:Nat):(FD n).length=n:=by simp [FD]
theorem Ma (n:Nat):(FD n).Nodup:=by
 have key: ∀n:Nat,(FD n).Pairwise (· < ·):=fun n=>by
  induction n with
  |zero=>simp [FD]
  |succ n ih=>
   have e:FD (n+1)=FD n ++ [(n:Int)]:=by simp [FD,List.range_succ]
   rw [e,List.pairwise_append];refine ⟨ih,by simp,fun x hx y hy=> ?_⟩
   simp only [List.mem_singleton] at hy;subst hy;simp only [FD,List.mem_map,List.mem_range] at hx;obtain ⟨k,hk,rfl⟩:=hx;omega
 exact (key n).imp fun h=>by omega
theorem H_ {n:Nat} {x:Int}:x∈FD n↔0≤x∧x<n:=by
 simp only [FD,List.mem_map,List.mem_range];constructor
 ·rintro ⟨k,hk,rfl⟩;omega
 ·rintro ⟨h0,h1⟩;exact ⟨x.toNat,by omega,by omega⟩
structure NW (o:List Int) (n:Nat):Prop where
 len:o.length=n
 nd:o.Nodup
 bF: ∀x∈o,0≤x∧x<n
 all: ∀x:Int,0≤x→x<n→x∈o
theorem Ry {o:List Int} {n:Nat} (hl:o.length=n) (h: ∀x:Int,0≤x→x<n→x∈o):NW o n:=by
 have hn:o.Nodup:=by
  cases hd:decide o.Nodup
  ·obtain ⟨x,h1,h2⟩:=NV o (by simpa using hd)
   have:=L_ (FD n) (o.erase x) (Ma n) (fun y hy=>by
    obtain ⟨h0,Rz⟩:=H_.1 hy;by_cases e:y=x
    ·subst e;exact h2
    ·exact (List.mem_erase_of_ne e).2 (h y h0 Rz))
   have h3:=List.length_erase_of_mem h1;have h4:=List.length_pos_of_mem h1;rw [H9] at this;omega
  ·simpa using hd
 refine ⟨hl,hn,fun x hx=> ?_,h⟩;cases hd:decide (0≤x∧x<(n:Int))
 ·have gj:x∉FD n:=fun hm=>by simp at hd;have:=H_.1 hm;omega
  have:=L_ (x::FD n) o (List.nodup_cons.2 ⟨gj,Ma n⟩) (fun y hy=>by
   rcases List.mem_cons.1 hy with rfl|hy
   ·exact hx
   ·obtain ⟨h0,h1⟩:=H_.1 hy;exact h y h0 h1)
  simp only [List.length_cons,H9] at this;omega
 ·simpa using hd
def I8 (d:Int→Int) (x:Int):List Int→List Int→List Int
 |[],b=>x::b
 |y::FA,b=>if d x<d y then I8 d x FA (y::b) else (y::FA).reverse ++ x::b
def Gx (d:Int→Int) (x:Int) (a:List Int):List Int:=a.takeWhile (fun y=>decide (d y≤d x)) ++ x::a.dropWhile (fun y=>decide (d y≤d x))
theorem NX {d:Int→Int} {g:Int→Int→Option Int} {x:Int}: ∀(FA b:List Int),(FA.length+b.length≤1000)→(∀y∈FA,g x y=some (d x-d y))→
 dP (Jl 0 g) (FA.reverse ++ x::b,(FA.length:Int))=some (I8 d x FA b)
 |[],b,_,_=>by
  rw [lQ];simp only [Jl];rw [w8 (by simp)]
  rfl
 |y::FA,b,hl,hg=>by
  simp only [List.length_cons] at hl;have e:(y::FA).reverse ++ x::b=FA.reverse ++ y::x::b:=by simp
  have i1:idx (FA.reverse ++ y::x::b) ((FA.length+1:Nat):Int)=some x:=by
   rw [Bf,List.getElem?_append_right (by simp)];simp
  have i0:idx (FA.reverse ++ y::x::b) (FA.length:Int)=some y:=by
   rw [Bf,List.getElem?_append_right (by simp)];simp
  have s1:(FA.reverse ++ y::x::b).set (FA.length+1) y=FA.reverse ++ y::y::b:=by
   rw [List.set_append_right _ _ (by simp)];simp
  have s0:(FA.reverse ++ y::y::b).set FA.length x=FA.reverse ++ x::y::b:=by
   rw [List.set_append_right _ _ (by simp)];simp
  have i2:idx (FA.reverse ++ y::y::b) (FA.length:Int)=some y:=by
   rw [Bf,List.getElem?_append_right (by simp)];simp
  rw [lQ,e];simp only [Jl,List.length_cons];rw [qm (by omega),i1,p_ (x:=((FA.length+1:Nat):Int)-1) (by omega),show ((FA.length+1:Nat):Int)-1=(FA.length:Int) by omega]
  simp only [cond_true,Option.bind_some,i0,hg y (by simp),Int.toNat_natCast,s1,i2,s0]
  unfold I8;by_cases h:d x<d y
  ·rw [qm (show d x-d y<0 by omega),if_pos h]
   simp only [cond_true,Option.bind_some];exact NX FA (y::b) (by simp only [List.length_cons];omega) (fun z hz=>hg z (by simp [hz]))
  ·rw [w8 (show¬d x-d y<0 by omega),if_neg h]
   simp
theorem NY {α :Type} {p: α →Bool}: ∀l:List α,(∀z∈l,p z=true)→l.dropWhile p=[]
 |[],_=>rfl
 |x::l,h=>by
  rw [List.dropWhile_cons,h x (by simp),if_pos rfl]
  exact NY l fun z hz=>h z (by simp [hz])
theorem NZ {d:Int→Int} {x:Int}: ∀(FA b:List Int),FA.reverse.Pairwise (fun y z=>d y≤d z)→I8 d x FA b=Gx d x FA.reverse ++ b
 |[],b,_=>by simp [I8,Gx]
 |y::FA,b,h=>by
  have e:(y::FA).reverse=FA.reverse ++ [y]:=by simp
  rw [e,List.pairwise_append] at h;unfold I8;by_cases hy:d x<d y
  ·rw [if_pos hy,NZ FA (y::b) h.1,e];have RA:decide (d y≤d x)=false:=decide_eq_false (by omega)
   unfold Gx;rw [List.takeWhile_append,List.dropWhile_append];by_cases qT:(FA.reverse.takeWhile fun z=>decide (d z≤d x)).length=FA.reverse.length
   ·rw [if_pos qT];have hd:FA.reverse.dropWhile (fun z=>decide (d z≤d x))=[]:=by
     have:=List.takeWhile_append_dropWhile (p:=fun z=>decide (d z≤d x)) (l:=FA.reverse);have h2:=congrArg List.length this;rw [List.length_append,qT] at h2;exact List.eq_nil_of_length_eq_zero (by omega)
    have ht:FA.reverse.takeWhile (fun z=>decide (d z≤d x))=FA.reverse:=by
     have:=List.takeWhile_append_dropWhile (p:=fun z=>decide (d z≤d x)) (l:=FA.reverse);rw [hd,List.append_nil] at this;exact this
    rw [hd,ht];simp [List.takeWhile,List.dropWhile,RA]
   ·rw [if_neg qT];have hd:(FA.reverse.dropWhile fun z=>decide (d z≤d x)).isEmpty=false:=by
     cases Mb:FA.reverse.dropWhile (fun z=>decide (d z≤d x)) with
     |nil=>
      exfalso;have:=List.takeWhile_append_dropWhile (p:=fun z=>decide (d z≤d x)) (l:=FA.reverse);rw [Mb,List.append_nil] at this;exact qT (by rw [this])
     |cons z zs=>rfl
    rw [hd];simp
  ·rw [if_neg hy,e];have qT: ∀z∈FA.reverse ++ [y],decide (d z≤d x)=true:=fun z hz=>by
    rcases List.mem_append.1 hz with h' |h'
    ·have:=h.2.2 z h' y (by simp)
     exact decide_eq_true (by omega)
    ·simp at h';subst h';exact decide_eq_true (by omega)
   unfold Gx;have hd:=NY (p:=fun z=>decide (d z≤d x)) _ qT;have hw:=List.takeWhile_append_dropWhile (p:=fun z=>decide (d z≤d x)) (l:=FA.reverse ++ [y]);rw [hd,List.append_nil] at hw;rw [hw,hd];simp
theorem Mc (d:Int→Int) (x y:Int) (a:List Int):Gx d x (y::a)=if d y≤d x then y::Gx d x a else x::y::a:=by
 unfold Gx;by_cases h:d y≤d x
 ·rw [if_pos h,List.takeWhile_cons,List.dropWhile_cons,decide_eq_true h];rfl
 ·rw [if_neg h,List.takeWhile_cons,List.dropWhile_cons,decide_eq_false h];rfl
theorem Md {d:Int→Int} {x z:Int}: ∀{a:List Int},z∈Gx d x a↔z=x∨z∈a
 |[]=>by simp [Gx]
 |y::a=>by
  rw [Mc];split
  ·rw [List.mem_cons,Md,List.mem_cons];constructor
   ·rintro (h|h|h)
    ·exact .inr (.inl h)
    ·exact .inl h
    ·exact .inr (.inr h)
   ·rintro (h|h|h)
    ·exact .inr (.inl h)
    ·exact .inl h
    ·exact .inr (.inr h)
  ·simp
theorem N0 (d:Int→Int) (x:Int): ∀a:List Int,(Gx d x a).length=a.length+1
 |[]=>by simp [Gx]
 |y::a=>by
  rw [Mc];split
  ·simp [N0 d x a]
  ·simp
theorem N1 {d:Int→Int} {x:Int}: ∀{a:List Int},a.Pairwise (fun y z=>d y≤d z)→(Gx d x a).Pairwise (fun y z=>d y≤d z)
 |[],_=>by simp [Gx]
 |y::a,h=>by
  obtain ⟨h1,h2⟩:=List.pairwise_cons.1 h;rw [Mc];split
  ·rename_i hy;refine List.pairwise_cons.2 ⟨fun z hz=> ?_,N1 h2⟩;rcases Md.1 hz with rfl|hz
   ·exact hy
   ·exact h1 z hz
  ·rename_i hy;refine List.pairwise_cons.2 ⟨fun z hz=> ?_,h⟩;rcases List.mem_cons.1 hz with rfl|hz
   ·omega
   ·have:=h1 z hz;omega
def FY (d:Int→Int) (o:List Int):List Int:=o.foldl (fun a x=>Gx d x a) []
theorem Me (d:Int→Int) (o:List Int) (x:Int):FY d (o ++ [x])=Gx d x (FY d o):=by simp [FY]
theorem J4 (d:Int→Int): ∀(n:Nat) (o:List Int),o.length=n→(FY d o).Pairwise (fun y z=>d y≤d z)∧(FY d o).length=n∧ ∀z,z∈FY d o↔z∈o
 |0,o,h=>by
  have:o=[]:=List.eq_nil_of_length_eq_zero h;subst this;simp [FY]
 |n+1,o,h=>by
  obtain ⟨o',x,rfl⟩: ∃o' x,o=o' ++ [x]:=⟨o.dropLast,o.getLast (fun e=>by subst e;simp at h),(List.dropLast_concat_getLast _).symm⟩
  obtain ⟨h1,h2,h3⟩:=J4 d n o' (by simpa using h)
  rw [Me];refine ⟨N1 h1,by rw [N0,h2],fun z=> ?_⟩
  rw [Md,h3,List.mem_append,List.mem_singleton];exact ⟨fun h=>h.symm,fun h=>h.symm⟩
theorem RB {d:Int→Int} {g:Int→Int→Option Int} {o:List Int} (hl:o.length≤18) (h0:0<o.length) (hg: ∀x∈o,∀y∈o,g x y=some (d x-d y)):
 HR o g=some (FY d o):=by
 have one:HQ o 0 (o.length:Int) g=some (FY d o):=by
  unfold HQ;rw [p_ (by omega)]
  have key:dP (Ki 0 (o.length:Int) g) (o,0+1)=some (FY d o):=by
   refine wX (fun x:List Int×Int=>o.length-x.2.toNat) (fun x=>1≤x.2∧x.2≤o.length∧x.1=FY d (o.take x.2.toNat) ++ o.drop x.2.toNat) _ ?_ _ ⟨by simp,by simp only;omega,?_⟩
   ·rintro ⟨c,i⟩ ⟨i0,i1,i2⟩;simp only at i0 i1 i2;subst i2;simp only [Ki];by_cases hi:i<o.length
    ·have ax:i.toNat<o.length:=by omega
     obtain ⟨s1,s2,s3⟩:=J4 d i.toNat (o.take i.toNat) (by rw [List.length_take];omega)
     have e1:=NX (d:=d) (g:=g) (x:=o[i.toNat]) (FY d (o.take i.toNat)).reverse (o.drop (i.toNat+1)) (by simp [s2];omega) (fun y hy=>by
      rw [List.mem_reverse,s3] at hy;exact hg _ (List.getElem_mem ax) y (List.mem_of_mem_take hy))
     rw [List.reverse_reverse,List.length_reverse,s2,←List.drop_eq_getElem_cons ax,show ((i.toNat:Nat):Int)=i by omega,NZ _ _ (by rw [List.reverse_reverse];exact s1),List.reverse_reverse] at e1
     rw [qm hi,cond_true,e1,Option.bind_some,p_ (by omega)]
     refine ⟨_,rfl,⟨by simp only;omega,by simp only;omega,?_⟩,by simp only;omega⟩
     simp only;rw [show (i+1).toNat=i.toNat+1 by omega,List.take_succ_eq_append_getElem ax,Me]
    ·rw [w8 hi];refine ⟨_,rfl,?_⟩;simp only;rw [List.take_of_length_le (by omega),List.drop_eq_nil_of_le (by omega),List.append_nil]
   ·simp only;obtain ⟨x,r,rfl⟩:=List.exists_cons_of_ne_nil (List.length_pos_iff.1 h0);simp [FY,Gx]
  rw [key];rfl
 unfold HR Jr;have e0:dP (Jp (o.length:Int) g) (o,0,20)=some (o,0):=by
  rw [lQ];simp only [Jp];rw [w8 (by omega)]
  rfl
 have e2:dP (Jq (o.length:Int)) 20=some ():=by
  rw [lQ];simp only [Jq];rw [w8 (by omega)]
  rfl
 rw [e0,Option.bind_some];simp only;rw [one,Option.bind_some,e2];rfl
theorem N2 (n:Nat):FD (n+1)=FD n ++ [(n:Int)]:=by simp [FD,List.range_succ]
theorem RC {α :Type} {l:List α} {i:Int} (h0:0≤i) (h:i≤l.length):cA l 0 i=some (l.take i.toNat):=by
 simp [cA];omega
theorem RD {α :Type} {l:List α} {k:Nat} (h:k≤l.length):cA l (k:Int) (l.length:Int)=some (l.drop k):=by
 simp only [cA];rw [if_pos (by omega)]
 congr 1;simp only [Int.toNat_natCast];exact List.take_of_length_le (by simp)
theorem N3 {α :Type} {a b c:List α} (h:a ++ b=c):c.take a.length=a∧c.drop a.length=b:=by subst h;simp
theorem RE (g:Int→Int→Option Int):HR [] g=some []:=by
 unfold HR Jr;have e0:dP (Jp (([]:List Int).length:Int) g) ([],0,20)=some ([],0):=by
  rw [lQ];rfl
 have e2:dP (Jq (([]:List Int).length:Int)) 20=some ():=by
  rw [lQ];rfl
 have one:HQ [] 0 (([]:List Int).length:Int) g=some []:=by
  unfold HQ;rw [p_ (by omega),lQ];rfl
 rw [e0,Option.bind_some];simp only;rw [one,Option.bind_some,e2];rfl
def Hh (r:Int) (x:Fq):Int:=x.Fv*((r+x.Fs-1)/x.Fs)
def FU (L:List Fq) (r:Int):Int:=(L.map (Hh r)).sum
def Gt (x:Fq):Prop:=(1≤x.Fv∧x.Fv≤10)∧x.Fv≤x.Fs∧x.Fs≤40
def IK (pre:List Fq) (x:Fq):Prop:= ∃t:Nat,(t:Int)≤x.Fs∧x.Fv+FU pre t≤t
def HN (l:List Fq):Prop:= ∀pre x post,l=pre ++ x::post→IK pre x
theorem J5 (x:Fq) (L:List Fq) (r:Int):FU (x::L) r=Hh r x+FU L r:=by simp [FU]
theorem J6 (a b:List Fq) (r:Int):FU (a ++ b) r=FU a r+FU b r:=by simp [FU]
theorem KO: ∀{a b:List Int},a.Perm b→a.sum=b.sum
 |_,_,.nil=>rfl
 |_,_,.cons x h=>by simp only [List.sum_cons,KO h]
 |_,_,.swap x y l=>by simp only [List.sum_cons];omega
 |_,_,.trans h1 h2=>(KO h1).trans (KO h2)
theorem RF {a b:List Fq} (h:a.Perm b) (r:Int):FU a r=FU b r:=KO (h.map _)
theorem RG {x:Fq} (h:Gt x) {r:Int} (hr:0≤r):0≤Hh r x:=by
 unfold Gt at h;exact Int.mul_nonneg (by omega) (Int.ediv_nonneg (by omega) (by omega))
theorem RH {x:Fq} (h:Gt x) {r:Int} (hr:1≤r):x.Fv≤Hh r x:=by
 unfold Gt at h;have h1:1≤(r+x.Fs-1)/x.Fs:=by rw [Int.le_ediv_iff_mul_le (by omega)];omega
 have:=Int.mul_le_mul_of_nonneg_left h1 (show 0≤x.Fv by omega)
 unfold Hh;omega
theorem RI {x:Fq} (_h:Gt x) {r:Int} (hr:1≤r) (he:r≤x.Fs):Hh r x=x.Fv:=by
 have:(r+x.Fs-1)/x.Fs=1:=by
  rw [show r+x.Fs-1=(r-1)+x.Fs*1 by omega,Int.add_mul_ediv_left _ _ (by omega),Int.ediv_eq_zero_of_lt (by omega) (by omega)];rfl
 unfold Hh;rw [this];omega
theorem RJ {x:Fq} (h:Gt x) {r:Int}:r≤(r+x.Fs-1)/x.Fs*x.Fs:=by
 unfold Gt at h;have h1:=Int.emod_add_mul_ediv (r+x.Fs-1) x.Fs;have h2:=Int.emod_lt_of_pos (r+x.Fs-1) (show 0<x.Fs by omega)
 rw [Int.mul_comm] at h1;omega
theorem Mf {L:List Fq} (h: ∀x∈L,Gt x) {r:Int} (hr:0≤r):0≤FU L r:=by
 induction L with
 |nil=>simp [FU]
 |cons x L ih=>
  have:=RG (h x (by simp)) hr
  have:=ih fun y hy=>h y (List.mem_cons_of_mem _ hy);rw [J5];omega
theorem RK {l:List Fq} {z:Fq} (h:HN (l ++ [z])):HN l∧IK l z:=
 ⟨fun pre x post e=>h pre x (post ++ [z]) (by rw [e];simp),h l z [] rfl⟩
theorem Mg: ∀(n:Nat) (l:List Fq),l.length=n→(∀x∈l,Gt x)→HN l→ ∀A B:List Fq,A≠[]→(A ++ B).Perm l→
 ∃t:Nat,1≤t∧(∃y∈A,(t:Int)≤y.Fs)∧FU A t≤t
 |0,l,hn,_,_,A,B,hA,hp=>by
  have:=List.eq_nil_of_length_eq_zero hn;subst this;have:=hp.length_eq;rw [List.length_append] at this;exact absurd (List.eq_nil_of_length_eq_zero (by simp only [List.length_nil] at this;omega)) hA
 |n+1,l,hn,hg,hs,A,B,hA,hp=>by
  obtain ⟨l',z,rfl⟩: ∃l' z,l=l' ++ [z]:=⟨l.dropLast,l.getLast (fun e=>by subst e;simp at hn),(List.dropLast_concat_getLast _).symm⟩
  obtain ⟨s1,t,s2,s3⟩:=RK hs;have hz:z∈A ++ B:=hp.mem_iff.2 (by simp)
  have N4:=hg z (by simp)
  by_cases Mh:z∈A
  ·obtain ⟨a,b,rfl⟩:=List.append_of_mem Mh;have p2:((a ++ b) ++ B).Perm l' :=by
    have h1:(z::((a ++ b) ++ B)).Perm (z::l'):=by
     refine List.Perm.trans ?_ (hp.trans (List.perm_append_singleton z l'));have:(z::(a ++ b)).Perm (a ++ z::b):=List.perm_middle.symm;exact this.append_right B
    exact h1.cons_inv
   have e1:=RF p2 t;rw [J6] at e1;have hB:0≤FU B t:=Mf (fun x hx=>hg x (hp.mem_iff.1 (List.mem_append_right _ hx))) (by omega)
   have h0:1≤t:=by
    have:=Mf (L:=l') (fun x hx=>hg x (List.mem_append_left _ hx)) (show (0:Int)≤(t:Int) by omega)
    unfold Gt at N4;omega
   refine ⟨t,h0,⟨z,Mh,s2⟩,?_⟩;have e2:FU (a ++ z::b) t=FU (a ++ b) t+Hh t z:=by rw [J6,J5,J6];omega
   rw [e2,RI N4 (by omega) s2];omega
  ·have RL:z∈B:=by
    rcases List.mem_append.1 hz with h|h
    ·exact absurd h Mh
    ·exact h
   obtain ⟨a,b,rfl⟩:=List.append_of_mem RL;refine Mg n l' (by simpa using hn) (fun x hx=>hg x (List.mem_append_left _ hx)) s1 A (a ++ b) hA ?_
   have h1:(z::(A ++ (a ++ b))).Perm (z::l'):=by
    refine List.Perm.trans ?_ (hp.trans (List.perm_append_singleton z l'));have:=(List.perm_middle (a:=z) (l₁ :=A ++ a) (l₂ :=b)).symm;simpa using this
   exact h1.cons_inv
theorem RM {l s:List Fq} (hg: ∀x∈l,Gt x) (hl:HN l) (hp:s.Perm l) (hs:s.Pairwise fun x y=>x.Fs≤y.Fs):HN s:=by
 intro H x R e;subst e;have N5:((H ++ [x]) ++ R).Perm l:=by simpa using hp
 obtain ⟨t,t1,⟨y,hy,ty⟩,ts⟩:=Mg l.length l rfl hg hl (H ++ [x]) R (by simp) N5
 have UO:y.Fs≤x.Fs:=by
  rcases List.mem_append.1 hy with h|h
  ·exact (List.pairwise_append.1 hs).2.2 y h x (by simp)
  ·simp only [List.mem_singleton] at h;subst h;exact Int.le_refl _
 have RN:=hg x (N5.mem_iff.1 (by simp))
 refine ⟨t,by omega,?_⟩
 rw [J6,J5] at ts;have:=RH RN (show (1:Int)≤(t:Int) by omega)
 simp only [FU,List.map_nil,List.sum_nil] at ts⊢;omega
def FC:List Fq→Int×Int
 |[]=>(0,1)
 |x::l=>((FC l).1*x.Fs+x.Fv*(FC l).2,(FC l).2*x.Fs)
theorem J7: ∀{a b:List Fq},a.Perm b→FC a=FC b
 |_,_,.nil=>rfl
 |_,_,.cons x h=>by simp only [FC,J7 h]
 |_,_,.swap x y l=>by
  simp only [FC,Prod.mk.injEq];constructor
  ·rw [Int.add_mul,Int.add_mul,Int.mul_right_comm (FC l).1,show x.Fv*(FC l).2*y.Fs=x.Fv*((FC l).2*y.Fs) from Int.mul_assoc ..,show y.Fv*(FC l).2*x.Fs=y.Fv*((FC l).2*x.Fs) from Int.mul_assoc ..];omega
  ·rw [Int.mul_right_comm]
 |_,_,.trans h1 h2=>(J7 h1).trans (J7 h2)
theorem KP {l:List Fq} (h: ∀x∈l,Gt x):0<(FC l).2∧0≤(FC l).1:=by
 induction l with
 |nil=>simp [FC]
 |cons x l ih=>
  obtain ⟨h1,h2⟩:=ih fun y hy=>h y (List.mem_cons_of_mem _ hy);have hx:=h x (by simp)
  unfold Gt at hx;exact ⟨Int.mul_pos h1 (by omega),Int.add_nonneg (Int.mul_nonneg h2 (by omega)) (Int.mul_nonneg (by omega) (by omega))⟩
theorem RO {l:List Fq} (h: ∀x∈l,Gt x) {t:Int} (_ht:0≤t):t*(FC l).1≤FU l t*(FC l).2:=by
 induction l with
 |nil=>simp [FC,FU]
 |cons x l ih=>
  have hi:=ih fun y hy=>h y (List.mem_cons_of_mem _ hy);obtain ⟨p1,p2⟩:=KP fun y hy=>h y (List.mem_cons_of_mem _ hy);have hx:=h x (by simp)
  have hc:=RJ hx (r:=t);unfold Gt at hx;rw [J5];simp only [FC];have h1:t*(FC l).1*x.Fs≤FU l t*(FC l).2*x.Fs:=Int.mul_le_mul_of_nonneg_right hi (by omega)
  have h2:t*(x.Fv*(FC l).2)≤(t+x.Fs-1)/x.Fs*x.Fs*(x.Fv*(FC l).2):=Int.mul_le_mul_of_nonneg_right hc (Int.mul_nonneg (by omega) (by omega))
  have e1:t*((FC l).1*x.Fs+x.Fv*(FC l).2)=t*(FC l).1*x.Fs+t*(x.Fv*(FC l).2):=by rw [Int.mul_add,Int.mul_assoc]
  have e2:(Hh t x+FU l t)*((FC l).2*x.Fs)=(t+x.Fs-1)/x.Fs*x.Fs*(x.Fv*(FC l).2)+FU l t*(FC l).2*x.Fs:=by
   unfold Hh;rw [Int.add_mul,Int.mul_assoc (FU l t)];congr 1
   ac_rfl
  rw [e1,e2];omega
theorem RP {l:List Fq} (hg: ∀x∈l,Gt x) (hl:HN l):(FC l).1≤(FC l).2:=by
 by_cases h0:l=[]
 ·subst h0;simp [FC]
 obtain ⟨t,t1,_,ts⟩:=Mg l.length l rfl hg hl l [] h0 (by simp)
 have h1:=RO hg (show (0:Int)≤(t:Int) by omega)
 obtain ⟨p1,p2⟩:=KP hg;have h2:FU l t*(FC l).2≤(t:Int)*(FC l).2:=Int.mul_le_mul_of_nonneg_right ts (by omega)
 exact Int.le_of_mul_le_mul_left (Int.le_trans h1 h2) (by omega)
theorem RQ {u d u' d' N D:Nat} (hc:Nat.Coprime u d) (hM:Nat.Coprime u' d') (hd:0<d) (hD:0<D) (h:u*D=N*d) (h' :u' *D=N*d'):u=u' ∧d=d' :=by
 have e:u*d' =u' *d:=by
  have:u*d' *D=u' *d*D:=by
   calc u*d' *D=u*D*d' :=by rw [Nat.mul_right_comm]
    _=N*d*d' :=by rw [h]
    _=N*d' *d:=by rw [Nat.mul_right_comm]
    _=u' *D*d:=by rw [h']
    _=u' *d*D:=by rw [Nat.mul_right_comm]
  exact Nat.eq_of_mul_eq_mul_right hD this
 have d1:d ∣ d' :=hc.symm.dvd_of_dvd_mul_left ⟨u',by rw [e,Nat.mul_comm]⟩
 have d2:d' ∣ d:=hM.symm.dvd_of_dvd_mul_left ⟨u,by rw [←e,Nat.mul_comm]⟩
 have Mb:=Nat.dvd_antisymm d1 d2;subst Mb;exact ⟨Nat.eq_of_mul_eq_mul_right hd e,rfl⟩
def FB (l:List Fq) (x:Int):Int:=match l[x.toNat]? with|some t=>t.Fs|none=>0
theorem RR {l:List Fq} (hl:l.length≤1048576):dP (Kj l) ([],0)=some (FD l.length):=by
 refine wX (fun x:List Int×Int=>l.length-x.2.toNat) (fun x=>0≤x.2∧x.2≤l.length∧x.1=FD x.2.toNat) _ ?_ _ ⟨by simp,by simp,by simp [FD]⟩
 rintro ⟨c,i⟩ ⟨i0,i1,i2⟩;simp only at i0 i1 i2;subst i2;simp only [Kj];by_cases hi:i<l.length
 ·rw [qm hi,cond_true,E1 (by rw [H9];simp;omega) (by omega),Option.bind_some,p_ (by omega)]
  refine ⟨_,rfl,⟨by simp only;omega,by simp only;omega,?_⟩,by simp only;omega⟩
  simp only;rw [show (i+1).toNat=i.toNat+1 by omega,N2,show ((i.toNat:Nat):Int)=i by omega]
 ·rw [w8 hi];refine ⟨_,rfl,?_⟩;simp only;rw [show i.toNat=l.length by omega]
theorem RS {l:List Fq} {a:List Int} (ha:a.length≤1048576) (cq: ∀y∈a,0≤y∧y<l.length) {x:Fq} {i:Int} (hx:x.Fs=FB l i):dP (Kk l a x) 0=some ((a.takeWhile fun y=>decide (FB l y≤FB l i)).length:Int):=by
 refine wX (fun k:Int=>a.length-k.toNat) (fun k=>0≤k∧k≤a.length∧(k:Int)+(((a.drop k.toNat).takeWhile fun y=>decide (FB l y≤FB l i)).length:Int)=((a.takeWhile fun y=>decide (FB l y≤FB l i)).length:Int)) _ ?_ _ ⟨by omega,by omega,by simp⟩
 rintro k ⟨k0,k1,k2⟩;simp only [Kk];by_cases hk:k<a.length
 ·have ax:k.toNat<a.length:=by omega
  obtain ⟨Im,Io⟩:=cq _ (List.getElem_mem ax);have hd:=List.drop_eq_getElem_cons ax;rw [hd,List.takeWhile_cons] at k2;rw [qm hk,E9 k0 hk];simp only [cond_true,Option.bind_some];rw [E9 Im Io,Option.bind_some];have he:(l[(a[k.toNat]).toNat]'(by omega)).Fs=FB l a[k.toNat]:=by
   unfold FB;rw [List.getElem?_eq_getElem (by omega)]
  simp only [he,hx,Option.bind_some];by_cases hle:FB l a[k.toNat]≤FB l i
  ·rw [qm hle,cond_true,p_ (by omega)]
   rw [qm hle] at k2;refine ⟨_,rfl,⟨by omega,by omega,?_⟩,by omega⟩
   rw [show (k+1).toNat=k.toNat+1 by omega]
   simp only [if_true,List.length_cons] at k2;omega
  ·rw [w8 hle,cond_false];rw [w8 hle] at k2;refine ⟨_,rfl,?_⟩;simp at k2⊢;exact k2
 ·rw [w8 hk];rw [List.drop_eq_nil_of_le (by omega)] at k2
  refine ⟨_,rfl,?_⟩;simp at k2⊢;exact k2
theorem RT {l:List Fq} (hl:l.length≤5) (hT: ∀x∈l,Ga x):HR (FD l.length) (fun Im Io=>Jk Im Io l)=some (FY (FB l) (FD l.length)):=by
 by_cases h0:0<l.length
 ·refine RB (d:=FB l) (by rw [H9];omega) (by rw [H9];exact h0) (fun x hx y hy=> ?_)
  obtain ⟨x0,He⟩:=H_.1 hx;obtain ⟨Im,Io⟩:=H_.1 hy;have RU:=hT _ (List.getElem_mem (l:=l) (n:=x.toNat) (by omega))
  have RV:=hT _ (List.getElem_mem (l:=l) (n:=y.toNat) (by omega))
  unfold Ga at RU RV;unfold Jk FB;rw [E9 x0 He,E9 Im Io,List.getElem?_eq_getElem (show x.toNat<l.length by omega),List.getElem?_eq_getElem (show y.toNat<l.length by omega)]
  simp only [Option.bind_some];rw [p_ (by omega)]
 ·have:l=[]:=List.eq_nil_of_length_eq_zero (by omega)
  subst this;have e:FD ([]:List Fq).length=[]:=rfl;rw [e,RE];rfl
theorem RW {l:List Fq} (hl:l.length≤10):dP (Kl l) ([],0)=some (FY (FB l) (FD l.length)):=by
 refine wX (fun x:List Int×Int=>l.length-x.2.toNat) (fun x=>0≤x.2∧x.2≤l.length∧x.1=FY (FB l) (FD x.2.toNat)) _ ?_ _ ⟨by simp,by simp,by simp [FD,FY]⟩
 rintro ⟨c,i⟩ ⟨i0,i1,i2⟩;simp only at i0 i1 i2;obtain ⟨s1,s2,s3⟩:=J4 (FB l) i.toNat (FD i.toNat) (H9 _);rw [←i2] at s1 s2 s3;simp only [Kl];by_cases hi:i<l.length
 ·have ax:i.toNat<l.length:=by omega
  have hf:=RS (l:=l) (a:=c) (by omega) (fun y hy=>by
   have:=H_.1 ((s3 y).1 hy);omega) (x:=l[i.toNat]) (i:=i) (by unfold FB;rw [List.getElem?_eq_getElem ax])
  have KQ:=List.takeWhile_append_dropWhile (p:=fun y=>decide (FB l y≤FB l i)) (l:=c);have hw:(c.takeWhile fun y=>decide (FB l y≤FB l i)).length≤c.length:=by
   have:=congrArg List.length KQ;rw [List.length_append] at this;omega
  have e1:cA c 0 ((c.takeWhile fun y=>decide (FB l y≤FB l i)).length:Int)=some (c.takeWhile fun y=>decide (FB l y≤FB l i)):=by
   rw [RC (by omega) (by omega),Int.toNat_natCast]
   rw [(N3 KQ).1]
  have e2:cA c ((c.takeWhile fun y=>decide (FB l y≤FB l i)).length:Int) (c.length:Int)=some (c.dropWhile fun y=>decide (FB l y≤FB l i)):=by
   rw [RD hw,(N3 KQ).2]
  have UP:(c.dropWhile fun y=>decide (FB l y≤FB l i)).length≤c.length:=by
   have:=congrArg List.length KQ;rw [List.length_append] at this;omega
  rw [qm hi,E9 i0 hi];simp only [cond_true,Option.bind_some,hf,e1];rw [E1 (by simp<;>omega) (by omega),Option.bind_some,E1 (by simp<;>omega) (by omega),Option.bind_some,e2,Option.bind_some,E1 (by simp<;>omega) (by omega),Option.bind_some,p_ (by omega)]
  refine ⟨_,rfl,⟨by simp only;omega,by simp only;omega,?_⟩,by simp only;omega⟩
  simp only;rw [show (i+1).toNat=i.toNat+1 by omega,N2,Me,←i2,show ((i.toNat:Nat):Int)=i by omega]
  simp [Gx]
 ·rw [w8 hi];refine ⟨_,rfl,?_⟩;simp only;rw [i2,show i.toNat=l.length by omega]
def IL (l:List Fq):List Int×Bool:=if GV l then (FY (FB l) (FD l.length),true) else ([],false)
theorem N6 {l:List Fq} (hl:l.length≤1048576):Il l=some (IL l)∧Ip l=some (IL l):=by
 unfold Il Ip IL;rw [I7 hl,J3 hl];cases hg:GV l
 ·exact ⟨rfl,rfl⟩
 ·obtain ⟨g1,g2⟩:=L6 hg;simp only [Option.bind_some,Bool.not_true,cond_false,if_true];rw [RR hl,Option.bind_some,RT g1 g2,RW (by omega)]
  exact ⟨rfl,rfl⟩
theorem N7 (l:List Fq):(IL l).1.length≤l.length:=by
 unfold IL;split
 ·rw [(J4 (FB l) l.length (FD l.length) (H9 _)).2.1];exact Nat.le_refl _
 ·simp
theorem KR {l:List Fq} {k:Nat} (hk:k<l.length) (r:Int):FX l k r=l[k].Fv+FU (l.take k) r:=by
 have h: ∀k,k≤l.length→GC k (fun i=>GK (Gl l i) (Gs l i) r)=FU (l.take k) r:=by
  intro k;induction k with
  |zero=>intro _;simp [GC,FU]
  |succ k ih=>
   intro hk;have ax:k<l.length:=by omega
   rw [List.take_succ_eq_append_getElem ax,J6,←ih (by omega),J5]
   simp only [GC,GK,Hh,←(Hv ax).1,←(Hv ax).2,FU,List.map_nil,List.sum_nil];omega
 unfold FX;rw [h k (by omega),(Hv hk).1]
theorem RX {P:Nat→Prop} {n:Nat}: ∀t,t≤n→P t→ ∃f,f≤n∧P f∧ ∀s,s<f→ ¬P s:=by
 intro t;induction t using Nat.strongRecOn with
 |_ t ih=>
  intro ht hp;by_cases h: ∃s,s<t∧P s
  ·obtain ⟨s,h1,h2⟩:=h;exact ih s h1 (by omega) h2
  ·exact ⟨t,ht,hp,fun s hs xX=>h ⟨s,hs,xX⟩⟩
theorem RY {l:List Fq} (h5:l.length≤5) (hT: ∀x∈l,Ga x) {k:Nat} (hk:k<l.length):
 (∃f:Nat,HB l k=some ((f:Int),true)∧HD l k=some (f:Int)∧FX l k f=f∧ ∀t:Nat,t<f→(t:Int)<FX l k t)∨
 (HB l k=some (0,false)∧HD l k=some (-1)∧ ∀t:Nat,t≤200→(t:Int)<FX l k t):=by
 have qY:=IJ hT k;obtain ⟨r,hr⟩:=Int.eq_ofNat_of_zero_le (show 0≤Gl l k by omega)
 unfold HB HD;rw [qk hk];simp only [Option.bind_some];rw [(Hv hk).1,hr];have zu: ∀t:Nat,Gl l k≤FX l k t:=fun t=>by
  rw [KR hk,(Hv hk).1];have:=Mf (L:=l.take k) (fun x hx=>hT x (List.mem_of_mem_take hx)) (show (0:Int)≤(t:Int) by omega)
  omega
 by_cases h: ∃t:Nat,t≤200∧FX l k t≤t
 ·obtain ⟨t,h1,h2⟩:=h;obtain ⟨f,f1,f2,f3⟩:=RX (P:=fun t:Nat=>FX l k t≤t) t h1 h2;have Hw: ∀t:Nat,t<f→(t:Int)<FX l k t:=fun t ht=>by have:=f3 t ht;omega
  have UQ:=zu f;have lu:1≤f:=by omega
  have yj:FX l k f=f:=by
   have h1:=Hw (f-1) (by omega)
   have h2:=NR hT (k:=k) (show ((f-1:Nat):Int)≤(f:Int) by omega)
   omega
  obtain ⟨i1,i2⟩:=Rn hT hk h5 f1 yj Hw (f-r) r (Nat.le_refl _) (by omega)
  rw [i1,i2];exact .inl ⟨f,rfl,rfl,yj,Hw⟩
 ·have Hw: ∀t:Nat,t≤200→(t:Int)<FX l k t:=fun t ht=>by
   rcases Int.lt_or_le (t:Int) (FX l k t) with h1|h1
   ·exact h1
   ·exact absurd ⟨t,ht,h1⟩ h
  obtain ⟨i1,i2⟩:=Ro hT hk h5 Hw (201-r) r (Nat.le_refl _);rw [i1,i2];exact .inr ⟨rfl,rfl,Hw⟩
theorem N8 {l:List Fq} (h5:l.length≤5) (hT: ∀x∈l,Ga x) {k:Nat} (hk:k<l.length):
 ∃c:Bool,((HB l k).bind fun (F7,FK)=>(bif (!FK) then some (true) else some ((decide (l[k].Fs<F7)))))=some c∧
  ((HD l k).bind fun F6=>(bif (decide (F6<0)) then some (true) else some ((decide (l[k].Fs<F6)))))=some c∧(c=false↔IK (l.take k) l[k]):=by
 have hx:=hT _ (List.getElem_mem hk);unfold Ga at hx;rcases RY h5 hT hk with ⟨f,f1,f2,f3,f4⟩|⟨f1,f2,f3⟩
 ·rw [f1,f2];simp only [Option.bind_some,Bool.not_true,cond_false];rw [w8 (show¬(f:Int)<0 by omega)]
  refine ⟨_,rfl,rfl,?_⟩;rw [decide_eq_false_iff_not];unfold IK;constructor
  ·intro h;exact ⟨f,by omega,by rw [←KR hk];omega⟩
  ·rintro ⟨t,t1,t2⟩ h;rw [←KR hk] at t2;have:=f4 t (by omega)
   omega
 ·rw [f1,f2];refine ⟨true,rfl,rfl,?_⟩;simp only [Bool.true_eq_false,false_iff];rintro ⟨t,t1,t2⟩;rw [←KR hk] at t2;have:=f3 t (by omega)
  omega
def J8 (l:List Fq):Prop:= ∀(k:Nat) (hk:k<l.length),IK (l.take k) l[k]
theorem N9 {l:List Fq}:J8 l↔HN l:=by
 constructor
 ·rintro h pre x post rfl;have:=h pre.length (by simp)
  simpa using this
 ·intro h k hk;exact h _ _ (l.drop (k+1)) (by rw [←List.drop_eq_getElem_cons hk,List.take_append_drop])
theorem N_ {l:List Fq} (hl:l.length≤1048576) (hg:GV l=true): ∃b,HP l=some (b,true)∧Ii l=some (b,true)∧(b=true↔HN l):=by
 obtain ⟨h5,hT⟩:=L6 hg;have ki:cC (dP (Ke l) 0) fun r=>match r with| .next ()=>J8 l| .done z=>z=(false,true)∧ ¬J8 l:=by
  refine cC.dP (fun i:Int=>l.length-i.toNat) (fun i=>0≤i∧i≤l.length∧ ∀(k:Nat) (hk:k<l.length),(k:Int)<i→IK (l.take k) l[k]) ?_ ⟨by omega,by omega,fun k hk h=>by omega⟩
  rintro i ⟨i0,i1,i2⟩;simp only [Ke];by_cases hi:i<l.length
  ·obtain ⟨k,rfl⟩:=Int.eq_ofNat_of_zero_le i0;have hk:k<l.length:=by omega
   obtain ⟨c,c1,_,c3⟩:=N8 h5 hT hk;rw [qm hi,qk hk];simp only [cond_true,Option.bind_some];have e: ∀K:Bool→Option (LR Int (LR Unit (Bool×Bool))),((HB l k).bind fun (F7,FK)=>((bif (!FK) then some (true) else some ((decide (l[k].Fs<F7))))).bind K)=(some c).bind K:=fun K=>by
    rw [←c1];cases HB l k<;>rfl
   rw [e];cases c
   ·rw [p_ (by omega)]
    refine ⟨_,rfl,⟨by omega,by omega,fun j hj kr=> ?_⟩,by omega⟩
    by_cases zm:j=k
    ·subst zm;exact c3.1 rfl
    ·exact i2 j hj (by omega)
   ·exact ⟨_,rfl,rfl,fun h=>by have:=c3.2 (h k hk);simp at this⟩
  ·rw [w8 hi];exact ⟨_,rfl,fun k hk=>i2 k hk (by omega)⟩
 have ks:cC (dP (Kf l) 0) fun r=>match r with| .next ()=>J8 l| .done z=>z=false∧ ¬J8 l:=by
  refine cC.dP (fun i:Int=>l.length-i.toNat) (fun i=>0≤i∧i≤l.length∧ ∀(k:Nat) (hk:k<l.length),(k:Int)<i→IK (l.take k) l[k]) ?_ ⟨by omega,by omega,fun k hk h=>by omega⟩
  rintro i ⟨i0,i1,i2⟩;simp only [Kf];by_cases hi:i<l.length
  ·obtain ⟨k,rfl⟩:=Int.eq_ofNat_of_zero_le i0;have hk:k<l.length:=by omega
   obtain ⟨c,_,c1,c3⟩:=N8 h5 hT hk;rw [qm hi,qk hk];simp only [cond_true,Option.bind_some];have e: ∀K:Bool→Option (LR Int (LR Unit Bool)),((HD l k).bind fun F6=>((bif (decide (F6<0)) then some (true) else some ((decide (l[k].Fs<F6))))).bind K)=(some c).bind K:=fun K=>by
    rw [←c1];cases HD l k<;>rfl
   rw [e];cases c
   ·rw [p_ (by omega)]
    refine ⟨_,rfl,⟨by omega,by omega,fun j hj kr=> ?_⟩,by omega⟩
    by_cases zm:j=k
    ·subst zm;exact c3.1 rfl
    ·exact i2 j hj (by omega)
   ·exact ⟨_,rfl,rfl,fun h=>by have:=c3.2 (h k hk);simp at this⟩
  ·rw [w8 hi];exact ⟨_,rfl,fun k hk=>i2 k hk (by omega)⟩
 unfold HP Ii Kg;rw [I7 hl,J3 hl,hg];simp only [Option.bind_some,Bool.not_true,cond_false];obtain ⟨r,e1,h1⟩:=ki;obtain ⟨s,e2,h2⟩:=ks;rw [e1,e2];rcases r with ⟨⟩|z
 ·rcases s with ⟨⟩|z'
  ·exact ⟨true,rfl,rfl,by simpa using N9.1 h1⟩
  ·exact absurd h1 h2.2
 ·rcases s with ⟨⟩|z'
  ·exact absurd h2 h1.2
  ·obtain ⟨rfl,h1⟩:=h1;obtain ⟨rfl,_⟩:=h2;exact ⟨false,rfl,rfl,by simpa using fun h=>h1 (N9.2 h)⟩
theorem RZ: ∀(b a:Nat),dP Km ((a:Int),(b:Int))=some (Nat.gcd a b:Int)∧dP Jt ((a:Int),(b:Int))=some (Nat.gcd a b:Int):=by
 intro b;induction b using Nat.strongRecOn with
 |_ b ih=>
  intro a;rw [lQ,lQ (f:=Jt)];simp only [Km,Jt];by_cases hb:b=0
  ·subst hb;simp
  ·rw [show ((b:Int) !=0)=true by simpa using hb,qm (by omega),Ff (by omega) (by omega)]
   simp only [cond_true,Option.bind_some];rw [←Int.natCast_emod];have:=ih (a % b) (Nat.mod_lt _ (by omega)) b
   rw [this.1,this.2];have e:Nat.gcd b (a % b)=Nat.gcd a b:=by rw [Nat.gcd_comm a b,Nat.gcd_rec b a,Nat.gcd_comm]
   rw [e];exact ⟨rfl,rfl⟩
def KS (s:Nat×Nat) (x:Fq):Nat×Nat:=
 let u:=s.1*x.Fs.toNat+x.Fv.toNat*s.2
 let d:=s.2*x.Fs.toNat
 (u/Nat.gcd u d,d/Nat.gcd u d)
def Fz (l:List Fq):Nat×Nat:=l.foldl KS (0,1)
theorem Oa (l:List Fq) (x:Fq):Fz (l ++ [x])=KS (Fz l) x:=by simp [Fz]
theorem J9: ∀(n:Nat) (l:List Fq),l.length=n→(∀x∈l,Gt x)→Nat.Coprime (Fz l).1 (Fz l).2∧0<(Fz l).2∧(Fz l).1≤50^n∧(Fz l).2≤50^n∧((Fz l).1:Int)*(FC l).2=(FC l).1*((Fz l).2:Int)
 |0,l,h,_=>by
  have:=List.eq_nil_of_length_eq_zero h;subst this;simp [Fz,FC]
 |n+1,l,h,hg=>by
  obtain ⟨l',x,rfl⟩: ∃l' x,l=l' ++ [x]:=⟨l.dropLast,l.getLast (fun e=>by subst e;simp at h),(List.dropLast_concat_getLast _).symm⟩
  obtain ⟨h1,h2,h3,h4,h5⟩:=J9 n l' (by simpa using h) (fun y hy=>hg y (List.mem_append_left _ hy))
  have hx:=hg x (by simp)
  unfold Gt at hx;rw [Oa,J7 (List.perm_append_singleton x l')];simp only [FC];revert h1 h2 h3 h4 h5;generalize Fz l' =s
  obtain ⟨u,d⟩:=s;generalize FC l' =r
  obtain ⟨N,D⟩:=r;intro h1 h2 h3 h4 h5;simp only at h1 h2 h3 h4 h5;simp only [KS];obtain ⟨E,hE⟩:=Int.eq_ofNat_of_zero_le (show 0≤x.Fs by omega)
  obtain ⟨m,hm⟩:=Int.eq_ofNat_of_zero_le (show 0≤x.Fv by omega)
  rw [hE,hm] at hx⊢;simp only [Int.toNat_natCast];have J_:0<d*E:=Nat.mul_pos h2 (by omega)
  have KT:0<Nat.gcd (u*E+m*d) (d*E):=Nat.gcd_pos_of_pos_right _ J_;have q1:Nat.gcd (u*E+m*d) (d*E)*((u*E+m*d)/Nat.gcd (u*E+m*d) (d*E))=u*E+m*d:=Nat.mul_div_cancel' (Nat.gcd_dvd_left _ _)
  have q2:Nat.gcd (u*E+m*d) (d*E)*(d*E/Nat.gcd (u*E+m*d) (d*E))=d*E:=Nat.mul_div_cancel' (Nat.gcd_dvd_right _ _)
  have b1:u*E≤50^n*40:=Nat.mul_le_mul h3 (by omega)
  have b2:m*d≤10*50^n:=Nat.mul_le_mul (by omega) h4
  have b3:d*E≤50^n*40:=Nat.mul_le_mul h4 (by omega)
  have hp:50^(n+1)=50^n*50:=Nat.pow_succ ..;refine ⟨Nat.coprime_div_gcd_div_gcd KT,Nat.div_pos (Nat.le_of_dvd J_ (Nat.gcd_dvd_right _ _)) KT,Nat.le_trans (Nat.div_le_self _ _) (by omega),Nat.le_trans (Nat.div_le_self _ _) (by omega),?_⟩
  generalize Nat.gcd (u*E+m*d) (d*E)=g at q1 q2 KT⊢;generalize (u*E+m*d)/g=U at q1⊢;generalize d*E/g=V at q2⊢;refine Int.eq_of_mul_eq_mul_left (a:=(g:Int)) (by omega) ?_
  have R0:(g:Int)*U=u*E+m*d:=by exact_mod_cast q1
  have R1:(g:Int)*V=d*E:=by exact_mod_cast q2
  have e1:(u:Int)*E*(D*E)=N*E*(d*E):=by
   calc (u:Int)*E*(D*E)=(u*D)*(E*E):=by ac_rfl
    _=(N*d)*(E*E):=by rw [h5]
    _=N*E*(d*E):=by ac_rfl
  have e2:(m:Int)*d*(D*E)=m*D*(d*E):=by ac_rfl
  calc (g:Int)*(U*(D*E))=(g*U)*(D*E):=by rw [Int.mul_assoc]
   _=(N*E+m*D)*(d*E):=by rw [R0,Int.add_mul,Int.add_mul,e1,e2]
   _=(N*E+m*D)*(g*V):=by rw [R1]
   _=g*((N*E+m*D)*V):=by rw [Int.mul_left_comm]
theorem R2 {l:List Fq} (h5:l.length≤5) (hT: ∀x∈l,Ga x):(Fz l).1≤312500000∧(Fz l).2≤312500000∧0<(Fz l).2:=by
 obtain ⟨_,h2,h3,h4,_⟩:=J9 l.length l rfl hT;have:50^l.length≤50^5:=Nat.pow_le_pow_right (by omega) h5
 have e:(50:Nat)^5=312500000:=by decide
 omega
theorem R3 {l:List Fq} {pre:List Fq} (h5:pre.length≤4) (hT: ∀x∈pre,Ga x) {x:Fq} (hx:Ga x) (i:Int) (hi:0≤i∧i≤10) (ax:i<l.length) (hl:idx l i=some x):
 Iq l (((Fz pre).1:Int),((Fz pre).2:Int),i)=some (.next (((Fz (pre ++ [x])).1:Int),((Fz (pre ++ [x])).2:Int),i+1))∧
 Ir l (((Fz pre).1:Int),((Fz pre).2:Int),i)=some (.next (((Fz (pre ++ [x])).1:Int),((Fz (pre ++ [x])).2:Int),i+1)):=by
 obtain ⟨b1,b2,b3⟩:=R2 (l:=pre) (by omega) hT
 unfold Ga at hx;rw [Oa];revert b1 b2 b3;generalize Fz pre=s;obtain ⟨u,d⟩:=s;intro b1 b2 b3;simp only at b1 b2 b3;obtain ⟨E,hE⟩:=Int.eq_ofNat_of_zero_le (show 0≤x.Fs by omega)
 obtain ⟨m,hm⟩:=Int.eq_ofNat_of_zero_le (show 0≤x.Fv by omega)
 simp only [Iq,Ir,KS];rw [qm ax,hl];simp only [cond_true,Option.bind_some];rw [hE,hm] at hx⊢;simp only [Int.toNat_natCast];have c1:u*E≤312500000*40:=Nat.mul_le_mul b1 (by omega)
 have c2:m*d≤10*312500000:=Nat.mul_le_mul (by omega) b2
 have c3:d*E≤312500000*40:=Nat.mul_le_mul b2 (by omega)
 have J_:0<d*E:=Nat.mul_pos b3 (by omega)
 have R4:(u:Int)*E=((u*E:Nat):Int):=by norm_cast
 have n2:(m:Int)*d=((m*d:Nat):Int):=by norm_cast
 have R5:(d:Int)*E=((d*E:Nat):Int):=by norm_cast
 rw [R4,n2,R5];generalize u*E=A at c1⊢;generalize m*d=B at c2⊢;generalize d*E=C at c3 J_⊢;rw [p_ (x:=(A:Int)) (by omega),p_ (x:=(B:Int)) (by omega),p_ (x:=(C:Int)) (by omega),p_ (x:=(A:Int)+(B:Int)) (by omega),p_ (x:=i+1) (by omega),show (A:Int)+(B:Int)=((A+B:Nat):Int) by omega]
 unfold Kn Ko;obtain ⟨g1,g2⟩:=RZ C (A+B);rw [g1,g2];simp only [Option.bind_some];have KT:0<Nat.gcd (A+B) C:=Nat.gcd_pos_of_pos_right _ J_;rw [Fe (by omega) (by omega) (by omega),Fe (by omega) (by omega) (by omega)]
 simp only [Option.bind_some,Int.natCast_ediv];exact ⟨trivial,trivial⟩
theorem load_go {l:List Fq} (h5:l.length≤5) (hT: ∀x∈l,Ga x):dP (Iq l) (0,1,0)=some (((Fz l).1:Int),((Fz l).2:Int))∧dP (Ir l) (0,1,0)=some (((Fz l).1:Int),((Fz l).2:Int)):=by
 have key: ∃r,dP (Iq l) (0,1,0)=some r∧dP (Ir l) (0,1,0)=some r∧r=(((Fz l).1:Int),((Fz l).2:Int)):=by
  refine EZ (fun s:Int×Int×Int=>l.length-s.2.2.toNat) (fun s:Int×Int×Int=>0≤s.2.2∧s.2.2≤l.length∧s.1=((Fz (l.take s.2.2.toNat)).1:Int)∧s.2.1=((Fz (l.take s.2.2.toNat)).2:Int)) (fun r:Int×Int=>r=(((Fz l).1:Int),((Fz l).2:Int))) ?_ _ ⟨by simp,by simp,by simp [Fz],by simp [Fz]⟩
  rintro ⟨u,d,i⟩ ⟨i0,i1,i2,i3⟩;simp only at i0 i1 i2 i3;subst i2 i3;by_cases hi:i<l.length
  ·have ax:i.toNat<l.length:=by omega
   obtain ⟨g1,g2⟩:=R3 (l:=l) (pre:=l.take i.toNat) (by rw [List.length_take];omega) (fun x hx=>hT x (List.mem_of_mem_take hx)) (hT _ (List.getElem_mem ax)) i ⟨i0,by omega⟩ hi (E9 i0 hi)
   refine ⟨_,g1,g2,⟨by simp only;omega,by simp only;omega,?_,?_⟩,by simp only;omega⟩
   ·simp only;rw [show (i+1).toNat=i.toNat+1 by omega,List.take_succ_eq_append_getElem ax]
   ·simp only;rw [show (i+1).toNat=i.toNat+1 by omega,List.take_succ_eq_append_getElem ax]
  ·simp only [Iq,Ir];rw [w8 hi];refine ⟨_,rfl,rfl,?_⟩;simp only;rw [List.take_of_length_le (by omega)]
 obtain ⟨r,h1,h2,rfl⟩:=key;exact ⟨h1,h2⟩
theorem R6 {a b:List Fq} (ha: ∀x∈a,Ga x) (h:a.Perm b):Fz a=Fz b:=by
 obtain ⟨a1,a2,_,_,a5⟩:=J9 a.length a rfl ha;obtain ⟨b1,b2,_,_,GD⟩:=J9 b.length b rfl (fun x hx=>ha x (h.mem_iff.2 hx));obtain ⟨p1,p2⟩:=KP (l:=a) ha;rw [←J7 h] at GD;obtain ⟨D,hD⟩:=Int.eq_ofNat_of_zero_le (show 0≤(FC a).2 by omega)
 obtain ⟨N,R7⟩:=Int.eq_ofNat_of_zero_le p2;rw [hD,R7] at a5 GD;obtain ⟨e1,e2⟩:=RQ a1 b1 a2 (show 0<D by omega) (by exact_mod_cast a5) (by exact_mod_cast GD)
 exact Prod.ext e1 e2
theorem R8 {l:List Fq} (hT: ∀x∈l,Ga x) (hs:HN l):(Fz l).1≤(Fz l).2:=by
 obtain ⟨_,a2,_,_,a5⟩:=J9 l.length l rfl hT;obtain ⟨p1,p2⟩:=KP (l:=l) hT;have h1:=RP hT hs;have h2:(FC l).1*((Fz l).2:Int)≤(FC l).2*((Fz l).2:Int):=Int.mul_le_mul_of_nonneg_right h1 (by omega)
 rw [←a5,Int.mul_comm (FC l).2] at h2;have:=Int.le_of_mul_le_mul_right h2 p1;omega
theorem Ob {l:List Int} (hl:l.length≤1048576) (hb: ∀x∈l,0≤x∧x≤255):cC (IU l) fun r=>r.length≤6:=by
 unfold IU;have h:=Rg hl hb;refine cC.then (Rp (by assumption) (by omega)) ?_
 rintro ⟨w,UR⟩ ⟨Oc,R9⟩;dsimp only at Oc R9⊢;exact .ret Oc
theorem R_ {l:List Fq} (h5:l.length≤5) (hT: ∀x∈l,Ga x):GV l=true:=by
 unfold GV;rw [qm h5,Bool.true_and,List.all_eq_true];intro x hx;have:=hT x hx;unfold Ga at this;unfold Hu;rw [Bool.and_eq_true,L4,L4];omega
theorem Sa {l:List Fq} {o:List Int} (ho:o.length≤1000) (cq: ∀y∈o,0≤y∧y<l.length):dP (Kq l o) ([],0)=some (o.map fun k=>l.getD k.toNat ⟨1,1⟩):=by
 refine wX (fun s:List Fq×Int=>o.length-s.2.toNat) (fun s=>0≤s.2∧s.2≤o.length∧s.1=(o.take s.2.toNat).map fun k=>l.getD k.toNat ⟨1,1⟩) _ ?_ _ ⟨by simp,by simp,by simp⟩
 rintro ⟨c,i⟩ ⟨i0,i1,i2⟩;simp only at i0 i1 i2;subst i2;simp only [Kq];by_cases hi:i<o.length
 ·have ax:i.toNat<o.length:=by omega
  obtain ⟨a0,a1⟩:=cq _ (List.getElem_mem ax);rw [qm hi,E9 i0 hi];simp only [cond_true,Option.bind_some];rw [E9 a0 a1,Option.bind_some,E1 (by simp<;>omega) (by omega),Option.bind_some,p_ (by omega)]
  refine ⟨_,rfl,⟨by simp only;omega,by simp only;omega,?_⟩,by simp only;omega⟩
  simp only;rw [show (i+1).toNat=i.toNat+1 by omega,List.take_succ_eq_append_getElem ax,List.map_append]
  simp only [List.map_cons,List.map_nil];rw [List.getD_eq_getElem?_getD,List.getElem?_eq_getElem (show (o[i.toNat]).toNat<l.length by omega)];rfl
 ·rw [w8 hi];refine ⟨_,rfl,?_⟩;simp only;rw [List.take_of_length_le (by omega)]
theorem Sb (l:List Fq):(FD l.length).map (fun k=>l.getD k.toNat ⟨1,1⟩)=l:=by
 apply List.ext_getElem
 ·simp [FD]
 ·intro i h1 h2;simp [FD,List.getElem?_eq_getElem h2]
theorem Sc {l:List Fq}:((FY (FB l) (FD l.length)).map fun k=>l.getD k.toNat ⟨1,1⟩).Perm l∧((FY (FB l) (FD l.length)).map fun k=>l.getD k.toNat ⟨1,1⟩).Pairwise (fun x y=>x.Fs≤y.Fs)∧(∀y∈FY (FB l) (FD l.length),0≤y∧y<l.length)∧(FY (FB l) (FD l.length)).length=l.length:=by
 obtain ⟨s1,s2,s3⟩:=J4 (FB l) l.length (FD l.length) (H9 _);have cq: ∀y∈FY (FB l) (FD l.length),0≤y∧y<l.length:=fun y hy=>H_.1 ((s3 y).1 hy);have ho:NW (FY (FB l) (FD l.length)) l.length:=Ry s2 fun x h0 h1=>(s3 x).2 (H_.2 ⟨h0,h1⟩);have hp:(FY (FB l) (FD l.length)).Perm (FD l.length):=(List.perm_ext_iff_of_nodup ho.nd (Ma _)).2 s3;refine ⟨?_,?_,cq,s2⟩
 ·have:=hp.map fun k=>l.getD k.toNat ⟨1,1⟩
  rwa [Sb] at this
 ·rw [List.pairwise_map];refine s1.imp_of_mem fun {a b} ha hb Mi=> ?_;have h1:=cq a ha;have h2:=cq b hb;unfold FB at Mi;rw [List.getElem?_eq_getElem (show a.toNat<l.length by omega),List.getElem?_eq_getElem (show b.toNat<l.length by omega)] at Mi
  rw [List.getD_eq_getElem?_getD,List.getD_eq_getElem?_getD,List.getElem?_eq_getElem (show a.toNat<l.length by omega),List.getElem?_eq_getElem (show b.toNat<l.length by omega)]
  exact Mi
theorem Sd (a b:List Int) (ha:a.length<2^47) (hb:b.length<2^47) (FA: ∀x∈a,0≤x∧x≤255) (Se: ∀x∈b,0≤x∧x≤255):IY a b=some true:=by
 by_cases hs:(1048576:Int)<(a.length:Int)+(b.length:Int)
 ·unfold IY;rw [p_ (by omega),qm hs];rfl
 obtain ⟨l,e1,l1⟩:=Ob (l:=a) (by omega) FA
 obtain ⟨x,e2,He⟩:=Ob (l:=b) (by omega) Se
 have d1:Je a=some l:=by unfold Je;rw [e1];rfl
 have d2:Ju b=some x:=by unfold Ju;rw [e2];rfl
 have hl:l.length≤1048576:=by omega
 obtain ⟨r1,r2⟩:=N6 (l:=l) hl;obtain ⟨q1,q2⟩:=N6 (l:=x) (by omega)
 have lq:=N7 l;have cw:=N7 x;have second:((Il x).bind fun (JA,Kr)=>(Ip x).bind fun (JB,Ks)=>(bif (Kr==Ks) then (Iu JA JB).bind fun JC=>some JC else some false))=some true:=by
  rw [q1,q2];simp only [Option.bind_some,beq_self_eq_true,cond_true];rw [L5 (by omega)];rfl
 unfold IY;rw [p_ (by omega),w8 hs,d1,d2]
 simp only [cond_false,Option.bind_some];rw [r1,r2];simp only [Option.bind_some];cases hg:GV l
 ·have i1:HP l=some (false,false):=by unfold HP;rw [I7 hl,hg];rfl
  have i2:Ii l=some (false,false):=by unfold Ii;rw [J3 hl,hg];rfl
  have i3:Hm l=some (0,0,false):=by unfold Hm;rw [I7 hl,hg];rfl
  have i4:Is l=some (0,0,false):=by unfold Is;rw [J3 hl,hg];rfl
  rw [i1,i2,i3,i4];simp only [Option.bind_some,beq_self_eq_true,bne_self_eq_false,Bool.not_true,cond_false];rw [L5 (by omega)]
  simp only [Option.bind_some,Bool.not_true,cond_false];exact second
 ·obtain ⟨h5,hT⟩:=L6 hg;obtain ⟨c,c1,c2,c3⟩:=N_ hl hg;obtain ⟨g1,g2⟩:=load_go h5 hT;have i3:Hm l=some (((Fz l).1:Int),((Fz l).2:Int),true):=by unfold Hm;rw [I7 hl,hg];simp only [Option.bind_some,Bool.not_true,cond_false];rw [g1];rfl
  have i4:Is l=some (((Fz l).1:Int),((Fz l).2:Int),true):=by unfold Is;rw [J3 hl,hg];simp only [Option.bind_some,Bool.not_true,cond_false];rw [g2];rfl
  obtain ⟨s1,s2,s3,US⟩:=Sc (l:=l);have ng:(IL l)=(FY (FB l) (FD l.length),true):=by unfold IL;rw [if_pos hg]
  rw [c1,c2,i3,i4,ng];simp only [Option.bind_some,beq_self_eq_true,bne_self_eq_false,Bool.not_true,cond_false,cond_true];rw [L5 (by omega)]
  simp only [Option.bind_some,Bool.not_true,cond_false];rw [Sa (by omega) s3]
  revert s1 s2;generalize ((FY (FB l) (FD l.length)).map fun k=>l.getD k.toNat ⟨1,1⟩)=s;intro s1 s2;have Mj: ∀y∈s,Ga y:=fun y hy=>hT y (s1.mem_iff.1 hy);have kb:s.length=l.length:=s1.length_eq;have Od:GV s=true:=R_ (by omega) Mj
  obtain ⟨c',Sf,_,Sg⟩:=N_ (l:=s) (by omega) Od
  obtain ⟨Si,_⟩:=load_go (l:=s) (by omega) Mj
  have Sj:Hm s=some (((Fz l).1:Int),((Fz l).2:Int),true):=by unfold Hm;rw [I7 (by omega),Od];simp only [Option.bind_some,Bool.not_true,cond_false];rw [Si,R6 Mj s1];rfl
  simp only [Option.bind_some];rw [Sf,Sj];simp only [Option.bind_some,bne_self_eq_false,Bool.not_true,cond_false];cases hc:c
  ·simp only [cond_false,Option.bind_some];exact second
  ·have qT:=c3.1 hc;have hM:c' =true:=Sg.2 (RM hT qT s1 s2)
   have hle:=R8 hT qT;rw [hM,w8 (show¬((Fz l).2:Int)<((Fz l).1:Int) by omega)]
   simp only [cond_true,cond_false,Bool.not_true,Option.bind_some];exact second
end Go.Hi
