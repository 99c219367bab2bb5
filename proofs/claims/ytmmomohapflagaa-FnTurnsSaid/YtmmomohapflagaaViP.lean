/-
  The plain law and all that it needs.
-/
import Derived.Test.YtmmomohapflagaaViF
import Derived.Test.YtmmomohapflagaaVaF
open Go Go.VS
namespace Go.HC
def EG (n a b:Int):Bool:=decide (a≤n)&&decide (n≤b)
theorem NF (n a b:Int):Jo n a b=some (EG n a b):=by
 unfold Jo EG;cases decide (a≤n)<;>rfl
theorem L_ (n a b:Int):Ik n a b=some (EG n a b):=by
 unfold Ik EG;cases decide (a≤n)<;>rfl
theorem Iz {n a b:Int}:EG n a b=true↔a≤n∧n≤b:=by simp [EG]
theorem NG {l:List Int} (hl:l.length≤1048576) (a b:Int):Jp l a b=some (l.all (EG · a b)):=by
 unfold Jp;rw [wk l (Mj l a b) (fun k (_:Unit)=>k) (fun _ x s=>if EG x a b then .next s else .done (.done false)) (fun _=> .next ()) (fun k hk s=>by
  simp only [Mj];rw [At (by omega),pH hk,zG (by omega)]
  simp only [cond_true,Option.bind_some,NF];cases EG l[k] a b<;>rfl) (fun s=>by simp [Mj]) (),Di _ _ (fun _ _ _=>rfl)]
 cases l.all (EG · a b)<;>rfl
theorem abm {l:List Int} (hl:l.length<2^60) {g:Int→Option Bool} (p:Int→Bool) (hg: ∀x∈l,g x=some (p x)):MR l g=some (dR p l):=by
 unfold MR;rw [Dm p (f:=Pd l g) (fun _=>rfl) hl hg];have:=pI p l;by_cases h:dR p l<0
 ·rw [if_pos h];simp;omega
 ·rw [if_neg h];rfl
theorem TP {l:List Int} (hl:l.length<2^60) {g:Int→Option Bool} (p:Int→Bool) (hg: ∀x∈l,g x=some (p x)):Ly l g=some (l.any p):=by
 unfold Ly;rw [abm hl p hg,Option.bind_some,Au]
theorem Ma {a b:Nat} (h:a≠b):((a:Int) !=(b:Int))=true:=bne_iff_ne.2 (by omega)
theorem O7 {a b:Nat} (h:a≠b):((a:Int)==(b:Int))=false:=beq_eq_false_iff_ne.2 (by omega)
theorem TQ {α :Type} {l:List α} {p: α →Bool}:l.all p=true↔ ∀(k:Nat) (x: α),l[k]? =some x→p x=true:=by
 rw [List.all_eq_true];exact ⟨fun h k x hx=>h x (List.mem_of_getElem? hx),fun h x hx=>by obtain ⟨k,hk⟩:=List.mem_iff_getElem?.1 hx;exact h k x hk⟩
def Gc (l:List Int):Bool:=EG l.length 1 4&&l.all (EG · 20 100)
theorem Jl {l:List Int}:Gc l=true↔(1≤l.length∧l.length≤4)∧ ∀x∈l,20≤x∧x≤100:=by
 simp only [Gc,Bool.and_eq_true,Iz,List.all_eq_true];constructor
 ·rintro ⟨h1,h2⟩;exact ⟨by omega,h2⟩
 ·rintro ⟨h1,h2⟩;exact ⟨by omega,h2⟩
theorem TR {l:List Int} (hl:l.length<2^60):Lz l=some (Gc l):=by
 unfold Lz Gc;rw [L_,Option.bind_some];cases h:EG (l.length:Int) 1 4
 ·rfl
 ·rw [cond_true,TP hl (fun x=> !EG x 20 100) (fun x _=>by simp [NY,L_]),Option.bind_some,Bool.true_and]
  congr 1;rw [List.all_eq_not_any_not]
def HA (x:List Int×Int×Int):Bool:=decide (x.1.length≤30)&&x.1.all (EG · 1 20)&&EG x.2.1 0 19&&EG x.2.2 0 1000000&& !(decide (x.1.length=0)&&decide (x.2.1≠0))
theorem HO {q:List Int} {c s:Int}:HA (q,c,s)=true↔q.length≤30∧(∀x∈q,1≤x∧x≤20)∧(0≤c∧c≤19)∧(0≤s∧s≤1000000)∧(q.length=0→c=0):=by
 simp only [HA,Bool.and_eq_true,Iz,List.all_eq_true,decide_eq_true_eq,Bool.not_eq_true',Bool.and_eq_false_iff,decide_eq_false_iff_not,ne_eq,Decidable.not_not];constructor
 ·rintro ⟨⟨⟨⟨h1,h2⟩,h3⟩,h4⟩,h5⟩;exact ⟨h1,h2,h3,h4,fun h=>h5.resolve_left (fun hn=>hn h)⟩
 ·rintro ⟨h1,h2,h3,h4,h5⟩;refine ⟨⟨⟨⟨h1,h2⟩,h3⟩,h4⟩,?_⟩;by_cases h:q.length=0
  ·exact .inr (h5 h)
  ·exact .inl h
def GI (t:DJ):List (List Int×Int×Int):=t.Dq.zip (t.Dw.zip t.Dx)
def Lc (t:DJ):Bool:=decide (t.Dq.length=t.Ds.length)&&decide (t.Dw.length=t.Ds.length)&&decide (t.Dx.length=t.Ds.length)
def FU (t:DJ):Bool:=Gc t.Ds&&Lc t&&EG t.Dr 0 ((t.Ds.length:Int)-1)&&(GI t).all HA
structure GT (t:DJ):Prop where
 JM:Gc t.Ds=true
 l1:t.Dq.length=t.Ds.length
 l2:t.Dw.length=t.Ds.length
 l3:t.Dx.length=t.Ds.length
 at_:0≤t.Dr∧t.Dr<t.Ds.length
 row: ∀(k:Nat) (q:List Int) (c s:Int),t.Dq[k]? =some q→t.Dw[k]? =some c→t.Dx[k]? =some s→HA (q,c,s)=true
theorem Ld {t:DJ} {k:Nat} {x:List Int×Int×Int}:(GI t)[k]? =some x↔t.Dq[k]? =some x.1∧t.Dw[k]? =some x.2.1∧t.Dx[k]? =some x.2.2:=by
 unfold GI;rw [List.getElem?_zip_eq_some,List.getElem?_zip_eq_some]
theorem Le {t:DJ}:Lc t=true↔t.Dq.length=t.Ds.length∧t.Dw.length=t.Ds.length∧t.Dx.length=t.Ds.length:=by
 simp [Lc,and_assoc]
theorem HB {t:DJ}:FU t=true↔GT t:=by
 simp only [FU,Bool.and_eq_true,Le,Iz,TQ];constructor
 ·rintro ⟨⟨⟨h1,h2,h3,h4⟩,h5⟩,h6⟩;exact ⟨h1,h2,h3,h4,by omega,fun k q c s a1 a2 Hf=>h6 k (q,c,s) (Ld.2 ⟨a1,a2,Hf⟩)⟩
 ·rintro ⟨h1,h2,h3,h4,h5,h6⟩;exact ⟨⟨⟨h1,h2,h3,h4⟩,by omega⟩,fun k x hx=>by obtain ⟨a1,a2,Hf⟩:=Ld.1 hx;exact h6 k _ _ _ a1 a2 Hf⟩
theorem TS {t:DJ} (h:Lc t=true):(GI t).length=t.Ds.length:=by
 obtain ⟨h1,h2,h3⟩:=Le.1 h;simp [GI,h1,h2,h3]
theorem TT {t:DJ} {k:Nat} (hk:k<(GI t).length):idx t.Dq (k:Int)=some (GI t)[k].1∧idx t.Dw (k:Int)=some (GI t)[k].2.1∧idx t.Dx (k:Int)=some (GI t)[k].2.2:=by
 have:=Ld.1 (List.getElem?_eq_getElem hk);rw [Ap,Ap,Ap];exact this
theorem Lf (t:DJ) (hz:t.Ds.length<2^60) (hq: ∀q∈t.Dq,q.length<2^60):HG t=some (FU t):=by
 unfold HG FU;rw [TR hz,Option.bind_some];cases h1:Gc t.Ds
 ·simp
 simp only [Bool.not_true,cond_false,Bool.true_and];have hn:=(Jl.1 h1).1;cases h2:Lc t
 ·have kJ: ¬(t.Dq.length=t.Ds.length∧t.Dw.length=t.Ds.length∧t.Dx.length=t.Ds.length):=fun h=>by rw [Le.2 h] at h2;simp at h2
  by_cases a1:t.Dq.length=t.Ds.length
  ·by_cases a2:t.Dw.length=t.Ds.length
   ·have Hf:t.Dx.length≠t.Ds.length:=fun h=>kJ ⟨a1,a2,h⟩
    have e3:((t.Dx.length:Int) !=(t.Ds.length:Int))=true:=Ma Hf;simp only [a1,a2,bne_self_eq_false,e3,cond_false,cond_true,Option.bind_some,Bool.false_and]
   ·have e3:((t.Dw.length:Int) !=(t.Ds.length:Int))=true:=Ma a2;simp only [a1,bne_self_eq_false,e3,cond_false,cond_true,Option.bind_some,Bool.false_and]
  ·have e3:((t.Dq.length:Int) !=(t.Ds.length:Int))=true:=Ma a1;simp only [e3,cond_true,Option.bind_some,Bool.false_and]
 obtain ⟨a1,a2,Hf⟩:=Le.1 h2;simp only [a1,a2,Hf,bne_self_eq_false,cond_false,Bool.true_and,L_,Option.bind_some];rw [zG (by omega)]
 cases h3:EG t.Dr 0 ((t.Ds.length:Int)-1)
 ·rfl
 simp only [Bool.not_true,cond_false,Bool.true_and];have hl:=TS h2;rw [wk (GI t) (MS t) (fun k (_:Unit)=>k) (fun _ x s=>if HA x then .next s else .done (.done false)) (fun _=> .next ()) (fun k hk s=>by
  obtain ⟨b1,b2,b3⟩:=TT hk;have hm:(GI t)[k].1∈t.Dq:=List.mem_of_getElem? (Ld.1 (List.getElem?_eq_getElem hk)).1;have jd:=hq _ hm
  generalize (GI t)[k]=x at b1 b2 b3 jd;obtain ⟨q,c,s'⟩:=x;simp only at b1 b2 b3 jd;simp only [MS,b1,b2,b3,Option.bind_some,L_];rw [At (by omega),zG (by omega),TP jd (fun x=> !EG x 1 20) (fun x _=>by simp [NZ,LA,L_])]
  simp only [cond_true,Option.bind_some];have e1:(q.any fun x=> !EG x 1 20)= !(q.all (EG · 1 20)):=by rw [List.all_eq_not_any_not];simp
  rw [e1];by_cases c1:q.length≤30
  ·rw [Dl (show¬30<(q.length:Int) by omega)]
   simp only [cond_false,Option.bind_some,HA,At c1,Bool.true_and];cases q.all (EG · 1 20)
   ·rfl
   ·simp only [Bool.not_true,cond_false,Bool.true_and];cases c2:EG c 0 19
    ·rfl
    ·simp only [Bool.not_true,cond_false,Bool.true_and];have hc:=Iz.1 c2;by_cases c3:q.length=0
     ·have e2:((q.length:Int)==0)=true:=by simp [c3]
      rw [e2];simp only [cond_true];by_cases c4:0<c
      ·rw [At c4,At (show c≠0 by omega),At c3];simp [LR.m5]
      ·rw [Dl c4,Dl (show¬c≠0 by omega)]
       simp only [cond_false];cases EG s' 0 1000000<;>simp [LR.m5]
     ·have e2:((q.length:Int)==0)=false:=by simpa using c3
      rw [e2,Dl c3];simp only [cond_false];cases EG s' 0 1000000<;>simp [LR.m5]
  ·rw [At (show 30<(q.length:Int) by omega)]
   simp only [cond_true,Option.bind_some,HA,Dl c1,Bool.false_and];rfl) (fun s=>by
  simp only [MS];rw [Dl (by omega)];rfl) (),Di _ _ (fun _ _ _=>rfl)]
 cases (GI t).all HA<;>rfl
def Lg (x:List Int×Int×Int):Bool:=decide (x.1.length≤30)&&x.1.all (EG · 1 20)&& !(decide (x.1.length=0)&&decide (x.2.1≠0))
theorem abn {t:DJ} (h:Lc t=true):(t.Dw.all (EG · 0 19)&&t.Dx.all (EG · 0 1000000)&&(GI t).all Lg)=(GI t).all HA:=by
 obtain ⟨a1,a2,Hf⟩:=Le.1 h;rw [Bool.eq_iff_iff];simp only [Bool.and_eq_true,TQ];constructor
 ·rintro ⟨⟨h1,h2⟩,h3⟩ k ⟨q,c,s⟩ hx;obtain ⟨b1,b2,b3⟩:=Ld.1 hx;have c1:=h1 k c b2;have c2:=h2 k s b3;have c3:=h3 k _ hx;simp only [Lg,Bool.and_eq_true] at c3;simp only [HA,Bool.and_eq_true];exact ⟨⟨⟨c3.1,c1⟩,c2⟩,c3.2⟩
 ·intro h;have one: ∀k,k<t.Ds.length→ ∃q c s,t.Dq[k]? =some q∧t.Dw[k]? =some c∧t.Dx[k]? =some s∧HA (q,c,s)=true:=fun k hk=>by
   have b1:=List.getElem?_eq_getElem (show k<t.Dq.length by omega)
   have b2:=List.getElem?_eq_getElem (show k<t.Dw.length by omega)
   have b3:=List.getElem?_eq_getElem (show k<t.Dx.length by omega)
   exact ⟨_,_,_,b1,b2,b3,h k (_,_,_) (Ld.2 ⟨b1,b2,b3⟩)⟩
  refine ⟨⟨fun k c hc=> ?_,fun k s hs=> ?_⟩,fun k x hx=> ?_⟩
  ·obtain ⟨q,c',s,_,b2,_,Gd⟩:=one k (by rw [←a2];exact (List.getElem?_eq_some_iff.1 hc).1)
   rw [hc] at b2;simp only [Option.some.injEq] at b2;subst b2;simp only [HA,Bool.and_eq_true] at Gd;exact Gd.1.1.2
  ·obtain ⟨q,c',s',_,_,b3,Gd⟩:=one k (by rw [←Hf];exact (List.getElem?_eq_some_iff.1 hs).1)
   rw [hs] at b3;simp only [Option.some.injEq] at b3;subst b3;simp only [HA,Bool.and_eq_true] at Gd;exact Gd.1.2
  ·have:=h k x hx;simp only [HA,Bool.and_eq_true] at this;simp only [Lg,Bool.and_eq_true];exact ⟨this.1.1.1,this.2⟩
theorem NH (t:DJ) (hq: ∀q∈t.Dq,q.length<2^60):Jq t=some (FU t):=by
 unfold Jq FU Gc;rw [NF,Option.bind_some];cases h1:EG (t.Ds.length:Int) 1 4
 ·rfl
 simp only [Bool.not_true,cond_false,Bool.true_and];have hn:=Iz.1 h1;rw [NG (by omega),Option.bind_some]
 cases h1' :t.Ds.all (EG · 20 100)
 ·rfl
 simp only [Bool.not_true,cond_false,Bool.true_and];cases h2:Lc t
 ·have kJ: ¬(t.Dq.length=t.Ds.length∧t.Dw.length=t.Ds.length∧t.Dx.length=t.Ds.length):=fun h=>by rw [Le.2 h] at h2;simp at h2
  by_cases a1:t.Dq.length=t.Ds.length
  ·by_cases a2:t.Dw.length=t.Ds.length
   ·have Hf:t.Dx.length≠t.Ds.length:=fun h=>kJ ⟨a1,a2,h⟩
    have e3:((t.Dx.length:Int) !=(t.Ds.length:Int))=true:=Ma Hf;simp only [a1,a2,bne_self_eq_false,e3,cond_false,cond_true,Option.bind_some,Bool.false_and]
   ·have e3:((t.Dw.length:Int) !=(t.Ds.length:Int))=true:=Ma a2;simp only [a1,bne_self_eq_false,e3,cond_false,cond_true,Option.bind_some,Bool.false_and]
  ·have e3:((t.Dq.length:Int) !=(t.Ds.length:Int))=true:=Ma a1;simp only [e3,cond_true,Option.bind_some,Bool.false_and]
 rw [←abn h2];obtain ⟨a1,a2,Hf⟩:=Le.1 h2;have hl:=TS h2;rw [NG (l:=t.Dw) (by omega),NG (l:=t.Dx) (by omega)]
 simp only [a1,a2,Hf,bne_self_eq_false,cond_false,Bool.true_and,NF,Option.bind_some];rw [zG (by omega)]
 cases t.Dw.all (EG · 0 19)
 ·simp
 cases t.Dx.all (EG · 0 1000000)
 ·simp
 cases h3:EG t.Dr 0 ((t.Ds.length:Int)-1)
 ·simp
 simp only [Bool.not_true,cond_false,Bool.true_and,Option.bind_some];rw [wk (GI t) (Mk t) (fun k (_:Unit)=>k) (fun _ x s=>if Lg x then .next s else .done (.done false)) (fun _=> .next ()) (fun k hk s=>by
  obtain ⟨b1,b2,b3⟩:=TT hk;have hm:(GI t)[k].1∈t.Dq:=List.mem_of_getElem? (Ld.1 (List.getElem?_eq_getElem hk)).1;have jd:=hq _ hm
  generalize (GI t)[k]=x at b1 b2 b3 jd;obtain ⟨q,c,s'⟩:=x;simp only at b1 b2 b3 jd;simp only [Mk,b1,b2,Option.bind_some];rw [At (by omega),zG (by omega)]
  simp only [cond_true];by_cases c1:q.length≤30
  ·rw [Dl (show¬30<(q.length:Int) by omega),NG (by omega)]
   simp only [cond_false,Option.bind_some,Lg,At c1,Bool.true_and];cases q.all (EG · 1 20)
   ·rfl
   ·simp only [Bool.not_true,cond_false,Bool.true_and];by_cases c3:q.length=0
    ·have e2:((q.length:Int)==0)=true:=by simp [c3]
     rw [e2,At c3];by_cases c4:c=0
     ·subst c4;rfl
     ·have e3:(c !=0)=true:=by simpa using c4
      rw [e3,At c4];rfl
    ·have e2:((q.length:Int)==0)=false:=by simpa using c3
     rw [e2,Dl c3];rfl
  ·rw [At (show 30<(q.length:Int) by omega)]
   simp only [cond_true,Option.bind_some,Lg,Dl c1,Bool.false_and];rfl) (fun s=>by
  simp only [Mk];rw [Dl (by omega)];rfl) (),Di _ _ (fun _ _ _=>rfl)]
 cases (GI t).all Lg<;>rfl
theorem NI {l:List Int} (h:l.length≤1099511627776):JR l=some l:=by
 unfold JR;rw [Dk (by simpa using h) (by omega)];rfl
theorem TU {l:List (List Int)} {f:Int×List (List Int)→Option (LR (Int×List (List Int)) (List (List Int)))} (_hl:l.length≤1048576)
 (hs: ∀(k:Nat) (s:List (List Int)) (hk:k<l.length),s.length=k→f (k,s)=some (.next ((k:Int)+1,s ++ [l[k]]))) (hz: ∀s,f (l.length,s)=some (.done s)):eF f (0,[])=some l:=by
 rw [Ar l f (fun k (s:List (List Int))=>(k,s)) (fun _ x s=> .next (s ++ [x])) (fun s=>s) (fun k s=>s.length=k) (fun k hk s hi=>by
  rw [hs k s hk hi];exact ⟨rfl,fun s' e=>by simp at e;rw [←e];simp;omega⟩) (fun s _=>by rw [hz]) [] rfl,As (fun s x=>s ++ [x]) (fun _ _ _=>rfl)]
 congr 1;have: ∀(m:List (List Int)) (s:List (List Int)),m.foldl (fun s x=>s ++ [x]) s=s ++ m:=by
  intro m;induction m with
  |nil=>simp
  |cons x xs ih=>intro s;simp [ih]
 simpa using this l []
structure TL (t:DJ):Prop where
 l1:t.Ds.length≤1048576
 l2:t.Dq.length≤1048576
 l3:t.Dw.length≤1048576
 TW:t.Dx.length≤1048576
 HP: ∀q∈t.Dq,q.length≤1048576
theorem TX {t:DJ} (h:TL t):LB t=some t:=by
 obtain ⟨h1,h2,h3,h4,h5⟩:=h;unfold LB;rw [NI (by omega),Option.bind_some,NI (by omega),Option.bind_some,NI (by omega),Option.bind_some,TU (l:=t.Dq) h2 (fun k s hk hs=>by
  simp only [N0];have:=h5 _ (List.getElem_mem hk);rw [At (by omega),pH hk]
  simp only [cond_true,Option.bind_some];rw [NI (by omega),Option.bind_some,Dh (by simp<;>omega) (by omega),Option.bind_some,zG (by omega)]) (fun s=>by
  simp only [N0];rw [Dl (by omega)];rfl)]
 rfl
theorem Rc {t:DJ} (h:TL t):Ke t=some t:=by
 obtain ⟨h1,h2,h3,h4,h5⟩:=h;unfold Ke;rw [Dk (by simp<;>omega) (by omega),Option.bind_some,Dk (by simp<;>omega) (by omega),Option.bind_some,Dk (by simp<;>omega) (by omega),Option.bind_some,TU (l:=t.Dq) h2 (fun k s hk hs=>by
  simp only [NQ];have:=h5 _ (List.getElem_mem hk);rw [At (by omega),pH hk]
  simp only [cond_true,Option.bind_some];rw [Dk (by simp<;>omega) (by omega),Option.bind_some,Dh (by simp<;>omega) (by omega),Option.bind_some,zG (by omega)]
  simp) (fun s=>by
  simp only [NQ];rw [Dl (by omega)];rfl)]
 simp
theorem GT.tl {t:DJ} (h:GT t):TL t:=by
 have hn:=(Jl.1 h.JM).1;have h1:=h.l1;have h2:=h.l2;have h3:=h.l3;refine ⟨by omega,by omega,by omega,by omega,fun q hq=> ?_⟩
 obtain ⟨k,hk⟩:=List.mem_iff_getElem?.1 hq;have ax:=(List.getElem?_eq_some_iff.1 hk).1;have:=HO.1 (h.row k q _ _ hk (List.getElem?_eq_getElem (show k<t.Dw.length by omega)) (List.getElem?_eq_getElem (show k<t.Dx.length by omega)))
 omega
def FN:DJ:=⟨[],[],[],[],0⟩
def Gn (t:DJ) (k n:Int):DJ×Bool:=
 if FU t&&EG k 0 ((t.Dq.length:Int)-1)&&EG n 1 20&&decide ((t.Dq.getD k.toNat []).length≠30) then ({t with Dq:=t.Dq.set k.toNat (t.Dq.getD k.toNat [] ++ [n])},true) else (FN,false)
theorem TY {t:DJ} {k n:Int} (h:GT t) (hk:EG k 0 ((t.Dq.length:Int)-1)=true): ∃q,idx t.Dq k=some q∧t.Dq.getD k.toNat []=q∧app 8 q [n]=some (q ++ [n]):=by
 have bC:=Iz.1 hk
 have e:=Dj (l:=t.Dq) (i:=k) (by omega) (by omega)
 have hm:=h.tl.HP _ (List.getElem_mem (l:=t.Dq) (n:=k.toNat) (by omega))
 refine ⟨_,e,by simp [List.getD,List.getElem?_eq_getElem (show k.toNat<t.Dq.length by omega)],Dk (by simp<;>omega) (by omega)⟩
theorem abo {t:DJ} (ht:TL t) (k n:Int):Ku t k n=some (Gn t k n):=by
 unfold Ku Gn;have h1:=ht.l2;rw [Lf t (by have:=ht.l1;omega) (fun q hq=>by have:=ht.HP q hq;omega),Option.bind_some]
 cases hg:FU t
 ·rfl
 have Gp:=HB.1 hg;simp only [Bool.not_true,cond_false,Bool.true_and,L_,Option.bind_some,LA];rw [zG (by omega)]
 cases hk:EG k 0 ((t.Dq.length:Int)-1)
 ·rfl
 cases hn:EG n 1 20
 ·rfl
 obtain ⟨q,e1,e2,e3⟩:=TY (n:=n) Gp hk;simp only [Bool.not_true,cond_false,Bool.true_and,Option.bind_some,e1,e2];by_cases hq:q.length=30
 ·have:((q.length:Int)==30)=true:=by simp [hq]
  rw [this,Dl (show¬q.length≠30 by omega)];rfl
 ·have:((q.length:Int)==30)=false:=O7 (b:=30) hq;rw [this,At (show q.length≠30 by omega)]
  simp only [cond_false,TX ht,Option.bind_some,e1,e3,if_true]
theorem TZ {t:DJ} (ht:TL t) (k n:Int):JQ t k n=some (Gn t k n):=by
 unfold JQ Gn;have h1:=ht.l2;rw [NH t (fun q hq=>by have:=ht.HP q hq;omega),Option.bind_some]
 cases hg:FU t
 ·rfl
 have Gp:=HB.1 hg;simp only [Bool.not_true,cond_false,Bool.true_and,NF,Option.bind_some];cases hk:EG k 0 ((t.Dq.length:Int)-1)
 ·have bC: ¬(0≤k∧k≤(t.Dq.length:Int)-1):=fun h=>by rw [Iz.2 h] at hk;simp at hk
  by_cases h0:k<0
  ·rw [At h0];rfl
  ·rw [Dl h0,At (show (t.Dq.length:Int)≤k by omega)];rfl
 have bC:=Iz.1 hk
 rw [Dl (show¬k<0 by omega),Dl (show¬(t.Dq.length:Int)≤k by omega)]
 cases hn:EG n 1 20
 ·rfl
 obtain ⟨q,e1,e2,e3⟩:=TY (n:=n) Gp hk;simp only [Bool.not_true,cond_false,Bool.true_and,Option.bind_some,e1,e2];by_cases hq:q.length=30
 ·have:((q.length:Int)==30)=true:=by simp [hq]
  rw [this,Dl (show¬q.length≠30 by omega)];rfl
 ·have:((q.length:Int)==30)=false:=O7 (b:=30) hq;rw [this,At (show q.length≠30 by omega)]
  simp only [cond_false,Rc ht,Option.bind_some,e1,e3,if_true]
def I2:List (List Int)→Int
 |[]=>0
 |q::l=>q.length+I2 l
theorem Re {B:Int}: ∀(l:List (List Int)),(∀q∈l,(q.length:Int)≤B)→0≤B→0≤I2 l∧I2 l≤B*l.length
 |[],_,_=>by simp [I2]
 |q::l,h,hB=>by
  have h1:=Re l (fun p hp=>h p (by simp [hp])) hB
  have h2:=h q (by simp)
  simp only [I2,List.length_cons];rw [show ((l.length+1:Nat):Int)=(l.length:Int)+1 by omega,Int.mul_add,Int.mul_one]
  omega
theorem T1 {t:DJ} (k n:Int):TL (Gn t k n).1∧I2 (Gn t k n).1.Dq≤500000000:=by
 unfold Gn;split
 ·rename_i h;simp only [Bool.and_eq_true,decide_eq_true_eq] at h;have Gp:=HB.1 h.1.1.1;have hk:=Iz.1 h.1.1.2;have hq: ∀q∈t.Dq,q.length≤30:=fun q hq=>by
   obtain ⟨k,hk⟩:=List.mem_iff_getElem?.1 hq;have ax:=(List.getElem?_eq_some_iff.1 hk).1;have h1:=Gp.l1;have h2:=Gp.l2;have h3:=Gp.l3;exact (HO.1 (Gp.row k q _ _ hk (List.getElem?_eq_getElem (show k<t.Dw.length by omega)) (List.getElem?_eq_getElem (show k<t.Dx.length by omega)))).1
  have mw: ∀q∈t.Dq.set k.toNat (t.Dq.getD k.toNat [] ++ [n]),q.length≤31:=fun q jd=>by
   rcases List.mem_or_eq_of_mem_set jd with h|rfl
   ·have:=hq q h;omega
   ·have ax:k.toNat<t.Dq.length:=by omega
    have e:t.Dq.getD k.toNat []=t.Dq[k.toNat]:=by simp [List.getD,List.getElem?_eq_getElem ax]
    have:=hq _ (List.getElem_mem ax);rw [e];simp;omega
  have ht:=Gp.tl;have hl:=(Jl.1 Gp.JM).1;have h1:=Gp.l1;refine ⟨⟨ht.l1,by simpa using ht.l2,ht.l3,ht.TW,fun q hq=>by have:=mw q hq;omega⟩,?_⟩
  have:=(Re (B:=31) (t.Dq.set k.toNat (t.Dq.getD k.toNat [] ++ [n])) (fun q hq=>by have:=mw q hq;omega) (by omega)).2
  simp only [List.length_set] at this;simp only;omega
 ·exact ⟨⟨by simp [FN],by simp [FN],by simp [FN],by simp [FN],by simp [FN]⟩,by simp [FN,I2]⟩
structure T2 where
 o:List Int
 q:List Int
 c:Int
 s:Int
def serve:List Int→Int→Int→List Int→T2
 |[],c,s,o=>⟨o,[],c,s⟩
 |x::q,c,s,o=>if x≤c then serve q (c-x) (s+x) (o ++ [x]) else ⟨o,x::q,c,s⟩
theorem T3: ∀(q:List Int) (c s:Int) (o:List Int),(∀x∈q,1≤x∧x≤20)→0≤c→0≤s→
 (serve q c s o).q.length≤q.length∧(∀x∈(serve q c s o).q,1≤x∧x≤20)∧0≤(serve q c s o).c∧(0<(serve q c s o).q.length→(serve q c s o).c≤19)∧0≤(serve q c s o).s∧(serve q c s o).s≤s+20*q.length∧(serve q c s o).o.length≤o.length+q.length
 |[],c,s,o,_,hc,hs=>by simp [serve];omega
 |x::q,c,s,o,h,hc,hs=>by
  unfold serve;have hx:=h x (by simp)
  split
  ·have:=T3 q (c-x) (s+x) (o ++ [x]) (fun y hy=>h y (by simp [hy])) (by omega) (by omega)
   simp only [List.length_append,List.length_cons,List.length_nil] at this⊢;refine ⟨by omega,this.2.1,this.2.2.1,this.2.2.2.1,this.2.2.2.2.1,by omega,by omega⟩
  ·refine ⟨by simp,h,hc,fun _=>by simp only;omega,hs,by simp only [List.length_cons];omega,by simp⟩
def Ef (t:DJ):T2:=
 let q:=t.Dq.getD t.Dr.toNat []
 let c:=t.Dw.getD t.Dr.toNat 0
 serve q (if 0<q.length then c+t.Ds.getD t.Dr.toNat 0 else c) (t.Dx.getD t.Dr.toNat 0) []
def FB (t:DJ):DJ:=
 {t with Dq:=t.Dq.set t.Dr.toNat (Ef t).q,Dw:=t.Dw.set t.Dr.toNat (if (Ef t).q.length=0 then 0 else (Ef t).c),Dx:=t.Dx.set t.Dr.toNat (Ef t).s,Dr:=(t.Dr+1) % t.Ds.length}
theorem Dp {α :Type} {l:List α} {i:Int} (h0:0≤i) (h:i<l.length) (x: α):idx (l.set i.toNat x) i=some x:=by
 obtain ⟨k,rfl⟩:=Int.eq_ofNat_of_zero_le h0;rw [Ap,Int.toNat_natCast,List.getElem?_set_self (by omega)]
theorem NJ {α :Type} (l:List α) (k:Nat) (d: α) (h:k<l.length):l.set k (l.getD k d)=l:=by
 have:l.getD k d=l[k]:=by simp [List.getD,List.getElem?_eq_getElem h]
 rw [this,List.set_getElem_self]
theorem T4 {x:Int} {q:List Int}:f_ (x::q) 1 ((x::q).length:Int)=some q:=by
 simp [f_];omega
theorem T5 {t:DJ} (h0:0≤t.Dr) {Q:List (List Int)} {Lh S:List Int} (hQ:t.Dr<Q.length) (hC:t.Dr<Lh.length) (hS:t.Dr<S.length):
 ∀(q:List Int) (c s:Int) (o:List Int),(∀x∈q,1≤x∧x≤20)→0≤c→c≤1000→0≤s→s+20*q.length≤1000000000→o.length+q.length≤1000→
 eF (MU t) (o,Q.set t.Dr.toNat q,Lh.set t.Dr.toNat c,S.set t.Dr.toNat s)=some ((serve q c s o).o,Q.set t.Dr.toNat (serve q c s o).q,Lh.set t.Dr.toNat (serve q c s o).c,S.set t.Dr.toNat (serve q c s o).s)
 |[],c,s,o,_,hc,gO,hs,NK,ho=>by
  rw [pj];simp only [MU,Dp h0 hQ,Option.bind_some];rw [Dl (by simp)]
  rfl
 |x::q,c,s,o,h,hc,gO,hs,NK,ho=>by
  have hx:=h x (by simp)
  simp only [List.length_cons] at NK ho
  rw [pj];simp only [MU,Dp h0 hQ,Dp h0 hC,Dp h0 hS,Option.bind_some];rw [At (by simp<;>omega)]
  have e0:idx (x::q) 0=some x:=by simp [idx]
  simp only [cond_true,e0,Option.bind_some];unfold serve;by_cases Jm:x≤c
  ·rw [At Jm,if_pos Jm];simp only [cond_true,T4,Option.bind_some];rw [Dh (by simp<;>omega) (by omega),Option.bind_some]
   simp only [List.set_set];rw [zG (by omega),zG (by omega)]
   exact T5 h0 hQ hC hS q (c-x) (s+x) (o ++ [x]) (fun y hy=>h y (by simp [hy])) (by omega) (by omega) (by omega) (by omega) (by simp<;>omega)
  ·rw [Dl Jm,if_neg Jm];rfl
theorem T6 {t:DJ} (h0:0≤t.Dr) {Lh S:List Int} (hC:t.Dr<Lh.length) (hS:t.Dr<S.length):
 ∀(q:List Int) (c s:Int) (o:List Int),(∀x∈q,1≤x∧x≤20)→0≤c→c≤1000→0≤s→s+20*q.length≤1000000000→o.length+q.length≤1000→
 eF (Ml t) (o,q,Lh.set t.Dr.toNat c,S.set t.Dr.toNat s)=some ((serve q c s o).o,(serve q c s o).q,Lh.set t.Dr.toNat (serve q c s o).c,S.set t.Dr.toNat (serve q c s o).s)
 |[],c,s,o,_,hc,gO,hs,NK,ho=>by
  rw [pj];simp only [Ml];rw [Dl (by simp)]
  rfl
 |x::q,c,s,o,h,hc,gO,hs,NK,ho=>by
  have hx:=h x (by simp)
  simp only [List.length_cons] at NK ho
  rw [pj];simp only [Ml,Dp h0 hC,Dp h0 hS,Option.bind_some];rw [At (by simp<;>omega)]
  have e0:idx (x::q) 0=some x:=by simp [idx]
  simp only [cond_true,e0,Option.bind_some];unfold serve;by_cases Jm:x≤c
  ·rw [At Jm,if_pos Jm];simp only [cond_true,T4,Option.bind_some];rw [Dh (by simp<;>omega) (by omega),Option.bind_some]
   simp only [List.set_set];rw [zG (by omega),zG (by omega)]
   exact T6 h0 hC hS q (c-x) (s+x) (o ++ [x]) (fun y hy=>h y (by simp [hy])) (by omega) (by omega) (by omega) (by omega) (by simp<;>omega)
  ·rw [Dl Jm,if_neg Jm];rfl
structure AtT (t:DJ):Prop where
 h0:0≤t.Dr
 k1:t.Dr<t.Ds.length
 k2:t.Dr<t.Dq.length
 k3:t.Dr<t.Dw.length
 k4:t.Dr<t.Dx.length
 e1:idx t.Ds t.Dr=some (t.Ds.getD t.Dr.toNat 0)
 e2:idx t.Dq t.Dr=some (t.Dq.getD t.Dr.toNat [])
 e3:idx t.Dw t.Dr=some (t.Dw.getD t.Dr.toNat 0)
 e4:idx t.Dx t.Dr=some (t.Dx.getD t.Dr.toNat 0)
 b1:20≤t.Ds.getD t.Dr.toNat 0∧t.Ds.getD t.Dr.toNat 0≤100
 row:HA (t.Dq.getD t.Dr.toNat [],t.Dw.getD t.Dr.toNat 0,t.Dx.getD t.Dr.toNat 0)=true
theorem O8 {α :Type} {l:List α} {i:Int} (d: α) (h0:0≤i) (h:i<l.length):idx l i=some (l.getD i.toNat d):=by
 rw [Dj h0 h];simp [List.getD,List.getElem?_eq_getElem (show i.toNat<l.length by omega)]
theorem NL {α :Type} {l:List α} {k:Nat} (d: α) (h:k<l.length):l[k]? =some (l.getD k d):=by
 simp [List.getD,List.getElem?_eq_getElem h]
theorem GT.Mb {t:DJ} (h:GT t):AtT t:=by
 obtain ⟨a0,a1⟩:=h.at_;have l1:=h.l1;have l2:=h.l2;have l3:=h.l3;refine ⟨a0,a1,by omega,by omega,by omega,O8 _ a0 a1,O8 _ a0 (by omega),O8 _ a0 (by omega),O8 _ a0 (by omega),?_,?_⟩
 ·exact (Jl.1 h.JM).2 _ (List.mem_of_getElem? (NL 0 (by omega)))
 ·exact h.row t.Dr.toNat _ _ _ (NL _ (by omega)) (NL _ (by omega)) (NL _ (by omega))
theorem Rf {t:DJ} (h:GT t):md (IntKind.i64.wrap (t.Dr+1)) (t.Ds.length:Int)=some ((t.Dr+1) % t.Ds.length)∧0≤(t.Dr+1) % (t.Ds.length:Int)∧(t.Dr+1) % (t.Ds.length:Int)<t.Ds.length:=by
 have h1:=h.at_;have h2:=(Jl.1 h.JM).1;rw [zG (by omega),md,if_neg (by omega),Int.tmod_eq_emod_of_nonneg (by omega)]
 exact ⟨rfl,Int.emod_nonneg _ (by omega),Int.emod_lt_of_pos _ (by omega)⟩
theorem Mc {t:DJ} (h:GT t):(Ef t).q.length≤30∧(∀x∈(Ef t).q,1≤x∧x≤20)∧0≤(Ef t).c∧(0<(Ef t).q.length→(Ef t).c≤19)∧0≤(Ef t).s∧(Ef t).o.length≤30:=by
 have a:=h.Mb;obtain ⟨r1,r2,r3,r4,r5⟩:=HO.1 a.row;have:=T3 (t.Dq.getD t.Dr.toNat []) (if 0<(t.Dq.getD t.Dr.toNat []).length then t.Dw.getD t.Dr.toNat 0+t.Ds.getD t.Dr.toNat 0 else t.Dw.getD t.Dr.toNat 0) (t.Dx.getD t.Dr.toNat 0) [] r2 (by have:=a.b1;split<;>omega) (by omega)
 refine ⟨by unfold Ef;simp only;omega,this.2.1,this.2.2.1,this.2.2.2.1,this.2.2.2.2.1,?_⟩
 have:=this.2.2.2.2.2.2;unfold Ef;simp only;simp only [List.length_nil] at this;omega
theorem abp {t:DJ} (h:GT t):MW t=some ((Ef t).o,decide ((Ef t).s≤1000000),FB t):=by
 have a:=h.Mb;obtain ⟨r1,r2,r3,r4,r5⟩:=HO.1 a.row;have hb:=a.b1;unfold MW;rw [(Rf h).1,Option.bind_some,a.e2,Option.bind_some];have key:((bif (decide (0<((t.Dq.getD t.Dr.toNat []).length:Int))) then (idx t.Dw t.Dr).bind fun Fp=>(idx t.Ds t.Dr).bind fun DO=>(idx t.Dw t.Dr).bind fun _b23=>some ((t.Dw.set t.Dr.toNat (IntKind.i64.wrap (Fp+DO)))) else some (t.Dw)))=some (t.Dw.set t.Dr.toNat (if 0<(t.Dq.getD t.Dr.toNat []).length then t.Dw.getD t.Dr.toNat 0+t.Ds.getD t.Dr.toNat 0 else t.Dw.getD t.Dr.toNat 0)):=by
  by_cases hq:0<(t.Dq.getD t.Dr.toNat []).length
  ·rw [At (by omega),if_pos hq,a.e3,a.e1]
   simp only [cond_true,Option.bind_some];rw [zG (by omega)]
  ·rw [Dl (by omega),if_neg hq,NJ _ _ _ (by have:=a.k3;have:=a.h0;omega)];rfl
 rw [key,Option.bind_some];have hw:=T5 (t:=t) a.h0 a.k2 a.k3 a.k4 (t.Dq.getD t.Dr.toNat []) (if 0<(t.Dq.getD t.Dr.toNat []).length then t.Dw.getD t.Dr.toNat 0+t.Ds.getD t.Dr.toNat 0 else t.Dw.getD t.Dr.toNat 0) (t.Dx.getD t.Dr.toNat 0) [] r2 (by split<;>omega) (by split<;>omega) (by omega) (by omega) (by simp only [List.length_nil];omega)
 rw [NJ t.Dq _ _ (by have:=a.k2;have:=a.h0;omega),NJ t.Dx _ _ (by have:=a.k4;have:=a.h0;omega)] at hw
 rw [show (serve (t.Dq.getD t.Dr.toNat []) (if 0<(t.Dq.getD t.Dr.toNat []).length then t.Dw.getD t.Dr.toNat 0+t.Ds.getD t.Dr.toNat 0 else t.Dw.getD t.Dr.toNat 0) (t.Dx.getD t.Dr.toNat 0) [])=Ef t from rfl] at hw;rw [hw,Option.bind_some];simp only;simp only [Dp a.h0 a.k2,Option.bind_some];have k2:((bif (((Ef t).q.length:Int)==0) then (idx (t.Dw.set t.Dr.toNat (Ef t).c) t.Dr).bind fun _b118=>some (((t.Dw.set t.Dr.toNat (Ef t).c).set t.Dr.toNat 0)) else some (t.Dw.set t.Dr.toNat (Ef t).c)))=some (t.Dw.set t.Dr.toNat (if (Ef t).q.length=0 then 0 else (Ef t).c)):=by
  by_cases hq:(Ef t).q.length=0
  ·have:(((Ef t).q.length:Int)==0)=true:=by simp [hq]
   rw [this,if_pos hq,Dp a.h0 a.k3];simp only [cond_true,Option.bind_some,List.set_set]
  ·have:(((Ef t).q.length:Int)==0)=false:=O7 (b:=0) hq;rw [this,if_neg hq];rfl
 rw [k2,Option.bind_some];rw [Dp a.h0 a.k4,Option.bind_some];rfl
theorem abq {t:DJ} (h:GT t):Mn t=some (FB t,(Ef t).o):=by
 have a:=h.Mb;obtain ⟨r1,r2,r3,r4,r5⟩:=HO.1 a.row;have hb:=a.b1;unfold Mn;rw [h.l1,(Rf h).1,Option.bind_some,a.e2,Option.bind_some];have key:((bif (decide (0<((t.Dq.getD t.Dr.toNat []).length:Int))) then (idx t.Dw t.Dr).bind fun Fp=>(idx t.Ds t.Dr).bind fun DO=>(idx t.Dw t.Dr).bind fun _b23=>some ((t.Dw.set t.Dr.toNat (IntKind.i64.wrap (Fp+DO)))) else some (t.Dw)))=some (t.Dw.set t.Dr.toNat (if 0<(t.Dq.getD t.Dr.toNat []).length then t.Dw.getD t.Dr.toNat 0+t.Ds.getD t.Dr.toNat 0 else t.Dw.getD t.Dr.toNat 0)):=by
  by_cases hq:0<(t.Dq.getD t.Dr.toNat []).length
  ·rw [At (by omega),if_pos hq,a.e3,a.e1]
   simp only [cond_true,Option.bind_some];rw [zG (by omega)]
  ·rw [Dl (by omega),if_neg hq,NJ _ _ _ (by have:=a.k3;have:=a.h0;omega)];rfl
 rw [key,Option.bind_some];have hw:=T6 (t:=t) a.h0 a.k3 a.k4 (t.Dq.getD t.Dr.toNat []) (if 0<(t.Dq.getD t.Dr.toNat []).length then t.Dw.getD t.Dr.toNat 0+t.Ds.getD t.Dr.toNat 0 else t.Dw.getD t.Dr.toNat 0) (t.Dx.getD t.Dr.toNat 0) [] r2 (by split<;>omega) (by split<;>omega) (by omega) (by omega) (by simp only [List.length_nil];omega)
 rw [NJ t.Dx _ _ (by have:=a.k4;have:=a.h0;omega)] at hw
 rw [show (serve (t.Dq.getD t.Dr.toNat []) (if 0<(t.Dq.getD t.Dr.toNat []).length then t.Dw.getD t.Dr.toNat 0+t.Ds.getD t.Dr.toNat 0 else t.Dw.getD t.Dr.toNat 0) (t.Dx.getD t.Dr.toNat 0) [])=Ef t from rfl] at hw;rw [hw,Option.bind_some];simp only;have k2:((bif (((Ef t).q.length:Int)==0) then (idx (t.Dw.set t.Dr.toNat (Ef t).c) t.Dr).bind fun _b118=>some (((t.Dw.set t.Dr.toNat (Ef t).c).set t.Dr.toNat 0)) else some (t.Dw.set t.Dr.toNat (Ef t).c)))=some (t.Dw.set t.Dr.toNat (if (Ef t).q.length=0 then 0 else (Ef t).c)):=by
  by_cases hq:(Ef t).q.length=0
  ·have:(((Ef t).q.length:Int)==0)=true:=by simp [hq]
   rw [this,if_pos hq,Dp a.h0 a.k3];simp only [cond_true,Option.bind_some,List.set_set]
  ·have:(((Ef t).q.length:Int)==0)=false:=O7 (b:=0) hq;rw [this,if_neg hq];rfl
 rw [k2,Option.bind_some];have hl:(Ef t).q.length≤30:=(Mc h).1;rw [Dk (by simp<;>omega) (by omega),Option.bind_some,List.nil_append]
 rfl
theorem T7 {t:DJ} (h:GT t):FU (FB t)=decide ((Ef t).s≤1000000):=by
 have a:=h.Mb;obtain ⟨s1,s2,s3,Rg,s5,s6⟩:=Mc h;have hn:=Jl.1 h.JM;have hm:=Rf h;have l1:=h.l1;have l2:=h.l2;have l3:=h.l3;have hA:=a.h0;have ha1:=a.k1;rw [Bool.eq_iff_iff,HB,decide_eq_true_eq];constructor
 ·intro g;have:=g.row t.Dr.toNat (Ef t).q (if (Ef t).q.length=0 then 0 else (Ef t).c) (Ef t).s (by simp only [FB];rw [List.getElem?_set_self (by omega)]) (by simp only [FB];rw [List.getElem?_set_self (by omega)]) (by simp only [FB];rw [List.getElem?_set_self (by omega)])
  exact (HO.1 this).2.2.2.1.2
 ·intro hs;refine ⟨h.JM,by simpa [FB] using l1,by simpa [FB] using l2,by simpa [FB] using l3,⟨hm.2.1,hm.2.2⟩,fun k q c s e1 e2 e3=> ?_⟩
  simp only [FB,List.getElem?_set] at e1 e2 e3;by_cases hk:t.Dr.toNat=k
  ·rw [if_pos hk,if_pos (by omega)] at e1 e2 e3
   simp only [Option.some.injEq] at e1 e2 e3;subst e1;subst e2;subst e3;rw [HO];refine ⟨s1,s2,?_,⟨s5,hs⟩,fun h0=>by rw [if_pos h0]⟩
   split
   ·omega
   ·exact ⟨s3,Rg (by omega)⟩
  ·rw [if_neg hk] at e1 e2 e3;exact h.row k q c s e1 e2 e3
def Gy (t:DJ):DJ×List Int×Bool:=
 if FU t then if (Ef t).s≤1000000 then (FB t,(Ef t).o,true) else (FN,[],false) else (FN,[],false)
theorem abr {t:DJ} (ht:TL t):MX t=some (Gy t):=by
 unfold MX Gy;rw [Lf t (by have:=ht.l1;omega) (fun q hq=>by have:=ht.HP q hq;omega),Option.bind_some]
 cases hg:FU t
 ·rfl
 have Gp:=HB.1 hg;simp only [Bool.not_true,cond_false,TX ht,abp Gp,Option.bind_some,if_true];by_cases hs:(Ef t).s≤1000000
 ·rw [At hs,if_pos hs];rfl
 ·rw [Dl hs,if_neg hs];rfl
theorem O9 {t:DJ} (h:GT t):TL (FB t)∧I2 (FB t).Dq≤500000000:=by
 have hl:=(Jl.1 h.JM).1;have l1:=h.l1;have l2:=h.l2;have l3:=h.l3;have hq: ∀q∈(FB t).Dq,q.length≤30:=fun q hq=>by
  simp only [FB] at hq;rcases List.mem_or_eq_of_mem_set hq with h' |rfl
  ·obtain ⟨k,hk⟩:=List.mem_iff_getElem?.1 h';have ax:=(List.getElem?_eq_some_iff.1 hk).1;exact (HO.1 (h.row k q _ _ hk (List.getElem?_eq_getElem (show k<t.Dw.length by omega)) (List.getElem?_eq_getElem (show k<t.Dx.length by omega)))).1
  ·exact (Mc h).1
 have e:(FB t).Dq.length=t.Dq.length:=by simp [FB]
 refine ⟨⟨by simp only [FB];omega,by omega,by simp only [FB,List.length_set];omega,by simp only [FB,List.length_set];omega,fun q jd=>by have:=hq q jd;omega⟩,?_⟩
 have:=(Re (B:=31) (FB t).Dq (fun q jd=>by have:=hq q jd;omega) (by omega)).2
 omega
theorem T8 {t:DJ} (ht:TL t):Ls t=some (Gy t):=by
 unfold Ls Gy;rw [NH t (fun q hq=>by have:=ht.HP q hq;omega),Option.bind_some]
 cases hg:FU t
 ·rfl
 have Gp:=HB.1 hg;have hT:=(O9 Gp).1;simp only [Bool.not_true,cond_false,Rc ht,abq Gp,Option.bind_some,if_true];rw [NH _ (fun q hq=>by have:=hT.HP q hq;omega),Option.bind_some,T7 Gp]
 by_cases hs:(Ef t).s≤1000000
 ·rw [At hs,if_pos hs,Rc hT];rfl
 ·rw [Dl hs,if_neg hs];rfl
theorem NM:TL FN∧I2 FN.Dq≤500000000:=⟨⟨by simp [FN],by simp [FN],by simp [FN],by simp [FN],by simp [FN]⟩,by simp [FN,I2]⟩
theorem T9 (t:DJ):TL (Gy t).1∧I2 (Gy t).1.Dq≤500000000∧(Gy t).2.1.length≤30:=by
 unfold Gy;split
 ·rename_i h;have Gp:=HB.1 h;split
  ·exact ⟨(O9 Gp).1,(O9 Gp).2,(Mc Gp).2.2.2.2.2⟩
  ·exact ⟨NM.1,NM.2,by simp⟩
 ·exact ⟨NM.1,NM.2,by simp⟩
theorem abt (t:DJ):(⟨t.Ds,t.Dq,t.Dw,t.Dx,t.Dr⟩:DJ)=t:=rfl
structure Gq (c:Ev) (b:Int):Prop where
 len:c.Code.length≤1048576
 bytes: ∀x∈c.Code,0≤x∧x≤255
 lo:0≤c.Dr
 hi:c.Dr≤b
theorem Gq.mono {c:Ev} {b d:Int} (h:Gq c b) (hd:b≤d):Gq c d:=⟨h.len,h.bytes,h.lo,by have:=h.hi;omega⟩
theorem abu (k:Int):0≤zp .u64 k 255∧zp .u64 k 255≤255:=by
 have h:(BitVec.ofInt IntKind.u64.bits k&&&BitVec.ofInt IntKind.u64.bits 255).toNat≤255:=by
  rw [BitVec.toNat_and];exact Nat.and_le_right
 unfold zp;rw [IntWalk.u64_in _ (by omega)]
 omega
theorem T_ {c:Ev} {b:Int} (h:Gq c b) (hb:b≤4611686018427387904): ∃x d,Ll c=some (x,d)∧(0≤x∧x≤255)∧Gq d (b+1):=by
 obtain ⟨h1,h2,h3,h4⟩:=h;unfold Ll;rw [zG (x:=c.Dr+1) (by omega)]
 have e: ∃Et,(bif (decide (c.Dr<(c.Code.length:Int))) then (idx c.Code c.Dr).bind fun E6=>some ((IntKind.i64.wrap E6)) else some (0))=some Et∧0≤Et∧Et≤255:=by
  by_cases hc:c.Dr<c.Code.length
  ·rw [show decide (c.Dr<(c.Code.length:Int))=true by simpa using hc]
   obtain ⟨n,hn⟩:=Int.eq_ofNat_of_zero_le h3;rw [hn,pH (show n<c.Code.length by omega)]
   have:=h2 _ (List.getElem_mem (show n<c.Code.length by omega))
   simp only [cond_true,Option.bind_some];rw [zG (by omega)]
   exact ⟨_,rfl,this⟩
  ·rw [show decide (c.Dr<(c.Code.length:Int))=false by simpa using hc]
   exact ⟨0,rfl,by omega,by omega⟩
 obtain ⟨Et,e1,e2⟩:=e;rw [e1,Option.bind_some];cases decide (c.Dr+1≤(c.Code.length:Int))
 ·refine ⟨_,_,rfl,?_,⟨h1,h2,by simp only;omega,by simp only;omega⟩⟩
  have:=abu (ud .u64 (IntKind.u64.wrap ((IntKind.u64.wrap ((IntKind.u64.wrap (c.D8*6364136223846793005))+(IntKind.u64.wrap Et)))+1442695040888963407)) 40);rw [zG (by omega)]
  exact this
 ·exact ⟨_,_,rfl,e2,⟨h1,h2,by simp only;omega,by simp only;omega⟩⟩
theorem Ua {x n:Int} (hx:0≤x) (hn:1<n): ∃r,md x n=some r∧0≤r∧r<n:=by
 unfold md;rw [if_neg (by omega)]
 refine ⟨_,rfl,?_,?_⟩
 ·rw [Int.tmod_eq_emod_of_nonneg hx];exact Int.emod_nonneg _ (by omega)
 ·rw [Int.tmod_eq_emod_of_nonneg hx];exact Int.emod_lt_of_pos _ (by omega)
theorem I3 {c:Ev} {b n:Int} (h:Gq c b) (hb:b≤4000000000000000000): ∃x d,Hg c n=some (x,d)∧(0≤x∧(1≤n→x<n))∧Gq d (b+2):=by
 unfold Hg;by_cases hn:n≤1
 ·rw [show decide (n≤1)=true by simpa using hn]
  exact ⟨0,c,rfl,⟨by omega,by omega⟩,h.mono (by omega)⟩
 ·rw [show decide (n≤1)=false by simpa using hn]
  obtain ⟨x,d,e1,e2,e3⟩:=T_ h (by omega)
  simp only [cond_false];rw [e1,Option.bind_some];cases decide (200<n)
  ·simp only [cond_false,Option.bind_some];obtain ⟨r,r1,r2,r3⟩:=Ua (x:=x) e2.1 (show 1<n by omega)
   rw [r1];exact ⟨r,_,rfl,⟨r2,fun _=>r3⟩,e3.mono (by omega)⟩
  ·simp only [cond_true];obtain ⟨y,d',f1,f2,f3⟩:=T_ e3 (by omega)
   rw [f1];simp only [Option.bind_some];rw [zG (x:=x*256) (by omega),zG (by omega)]
   obtain ⟨r,r1,r2,r3⟩:=Ua (x:=x*256+y) (by omega) (show 1<n by omega)
   rw [r1];exact ⟨r,_,rfl,⟨r2,fun _=>r3⟩,f3.mono (by omega)⟩
theorem Ub {c:Ev} {b n:Int} (h:Gq c b) (hb:b≤4000000000000000000): ∃x d,Kb c n=some (x,d)∧Gq d (b+2):=by
 obtain ⟨x,d,e1,_,e3⟩:=I3 (n:=n) h hb;unfold Kb;rw [e1];exact ⟨_,_,rfl,e3⟩
theorem Uc {c:Ev} {b:Int} {l:List Int} (h:Gq c b) (hb:b≤4000000000000000000) (hl:l≠[]): ∃x d,JN c l=some (x,d)∧x∈l∧Gq d (b+2):=by
 obtain ⟨x,d,e1,e2,e3⟩:=I3 (n:=(l.length:Int)) h hb;have da:1≤l.length:=by cases l with|nil=>exact absurd rfl hl|cons _ _=>simp
 unfold JN;rw [e1];obtain ⟨n,rfl⟩:=Int.eq_ofNat_of_zero_le e2.1;have hn:n<l.length:=by have:=e2.2 (by omega);omega
 simp only [Option.bind_some];rw [pH hn];exact ⟨_,_,rfl,List.getElem_mem hn,e3⟩
theorem Rh {l:List Int} (hl:l.length≤1048576) (hb: ∀x∈l,0≤x∧x≤255):Gq ⟨l,0,0⟩ 0:=⟨hl,hb,by simp,by simp⟩
theorem Li {l:List Int} (hl:l.length≤1048576):IG l l=some true:=by
 unfold IG;rw [Dn (l:=l) (fun k hk=>by
  simp only [N7];rw [At (by omega),pH hk,zG (by omega)]
  simp) (by simp [N7])]
 simp
theorem Ri {t:DJ} (h:TL t):IH t t=some true:=by
 unfold IH;rw [Li h.l1,Option.bind_some,Li h.l3,Option.bind_some,Li h.TW,Option.bind_some,Dn (l:=t.Dq) (fun k hk=>by
  have:=h.l2;simp only [N8];rw [At (by omega),pH hk,zG (by omega)]
  simp only [cond_true,Option.bind_some];rw [Li (h.HP _ (List.getElem_mem hk))];rfl) (by simp [N8])]
 simp
theorem Ud {c:Ev} (h:Gq c 0):dQ (Ln c) fun r=>1≤r.1.length∧r.1.length≤4∧Gq r.2 1000:=by
 unfold Ln;obtain ⟨x,d,e1,e2,e3⟩:=I3 (n:=4) h (by omega)
 have g9:=e2.2 (by omega)
 rw [e1,Option.bind_some];simp only;rw [zG (by omega)]
 have key:dQ (eF NP ([],1+x,d.Code,d.Dr,d.D8)) fun y=>1≤y.1.length∧y.1.length≤4∧Gq ⟨y.2.1,y.2.2.1,y.2.2.2⟩ 100:=by
  refine dQ.eF (fun x=>x.2.1.toNat) (fun x=>0≤x.2.1∧1≤(x.1.length:Int)+x.2.1∧(x.1.length:Int)+x.2.1≤4∧Gq ⟨x.2.2.1,x.2.2.2.1,x.2.2.2.2⟩ (100-2*x.2.1)) ?_ ⟨by simp only;omega,by simp only [List.length_nil];omega,by simp only [List.length_nil];omega,e3.mono (by simp only;omega)⟩
  rintro ⟨l,n,C,A,S⟩ ⟨i1,i2,i3,i4⟩;simp only at i1 i2 i3 i4;simp only [NP];by_cases hn:0<n
  ·rw [At hn];obtain ⟨y,d',f1,f2,f3⟩:=I3 (n:=30) i4 (by omega)
   simp only [cond_true,f1,Option.bind_some];rw [Dh (by simp<;>omega) (by omega),Option.bind_some,zG (x:=n-1) (by omega)]
   exact ⟨_,rfl,⟨by simp only;omega,by simp<;>omega,by simp<;>omega,f3.mono (by simp only;omega)⟩,by simp only;omega⟩
  ·rw [Dl hn];have:n=0:=by omega
   subst this;exact ⟨_,rfl,by simp only;omega,by simp only;omega,i4.mono (by omega)⟩
 refine dQ.then key ?_;rintro ⟨l,C,A,S⟩ ⟨k1,k2,k3⟩;simp only at k1 k2 k3⊢;obtain ⟨b,d2,g1,g2⟩:=Ub (n:=30) k3 (by omega)
 rw [g1,Option.bind_some];cases b
 ·exact ⟨_,rfl,k1,k2,g2.mono (by omega)⟩
 ·obtain ⟨y,d3,m1,m2,m3⟩:=Uc (l:=[19,100,101]) g2 (by omega) (by simp)
  simp only [cond_true,m1,Option.bind_some];rw [Dj (by omega) (by omega),Option.bind_some]
  exact ⟨_,rfl,by simpa using k1,by simpa using k2,m3.mono (by omega)⟩
structure TD (t:DJ):Prop where
 tl:TL t
 c1:1≤t.Dw.length
 s1:1≤t.Dx.length
def Gz (l:List Int):DJ:=⟨l,List.replicate l.length [],List.replicate l.length 0,List.replicate l.length 0,0⟩
theorem Rj {l:List Int} (hl:l.length≤1048576):IB l=some (if Gc l then (Gz l,true) else (FN,false)):=by
 unfold IB;rw [NF,Option.bind_some,NG hl];have e:Gc l=(EG l.length 1 4&&l.all (EG · 20 100)):=rfl;rw [e];cases h1:EG (l.length:Int) 1 4
 ·rfl
 have h1' :=Iz.1 h1
 simp only [Bool.not_true,cond_false,Option.bind_some,Bool.true_and];cases l.all (EG · 20 100)
 ·rfl
 ·simp only [Bool.not_true,cond_false,if_true];rw [Dk (by simp<;>omega) (by omega),Option.bind_some,Dg (by omega) (by omega),Option.bind_some,Dg (by omega) (by omega)]
  rfl
theorem Rk {l:List Int} (h:Gc l=true):TD (Gz l):=by
 have:=(Jl.1 h).1;refine ⟨⟨by simp [Gz];omega,by simp [Gz];omega,by simp [Gz];omega,by simp [Gz];omega,fun q hq=> ?_⟩,by simp [Gz];omega,by simp [Gz];omega⟩
 simp only [Gz,List.mem_replicate] at hq;rw [hq.2];simp
theorem abv {t:DJ} (h:TD t) (k n:Int) (ho:(Gn t k n).2=true):TD (Gn t k n).1:=by
 refine ⟨(T1 k n).1,?_,?_⟩
 ·unfold Gn at ho⊢;split
  ·exact h.c1
  ·rename_i hc;rw [if_neg hc] at ho;simp at ho
 ·unfold Gn at ho⊢;split
  ·exact h.s1
  ·rename_i hc;rw [if_neg hc] at ho;simp at ho
theorem abw {t:DJ} (h:TD t) (ho:(Gy t).2.2=true):TD (Gy t).1:=by
 have h1:=h.c1;have h2:=h.s1;refine ⟨(T9 t).1,?_,?_⟩
 ·unfold Gy at ho⊢;split
  ·split
   ·simpa [FB] using h1
   ·rename_i a b;rw [if_pos a,if_neg b] at ho;simp at ho
  ·rename_i a;rw [if_neg a] at ho;simp at ho
 ·unfold Gy at ho⊢;split
  ·split
   ·simpa [FB] using h2
   ·rename_i a b;rw [if_pos a,if_neg b] at ho;simp at ho
  ·rename_i a;rw [if_neg a] at ho;simp at ho
theorem Ue {c:Ev} (h:Gq c 0):dQ (Lu c) fun r=>TL r.1∧Gq r.2 10000:=by
 unfold Lu;refine dQ.then (Ud h) ?_;rintro ⟨l,d⟩ ⟨a1,a2,Hf⟩;simp only at a1 a2 Hf⊢;rw [Rj (by omega),Option.bind_some]
 have s20:IB [20]=some (Gz [20],true):=by rw [Rj (by simp)];rfl
 have start: ∃t,TD t∧(bif (!(if Gc l=true then (Gz l,true) else (FN,false)).2) then (IB ([20]:List Int)).bind fun (E8,_b53)=>some (E8.Ds,E8.Dq,E8.Dw,E8.Dx,E8.Dr) else some ((if Gc l=true then (Gz l,true) else (FN,false)).1.Ds,(if Gc l=true then (Gz l,true) else (FN,false)).1.Dq,(if Gc l=true then (Gz l,true) else (FN,false)).1.Dw,(if Gc l=true then (Gz l,true) else (FN,false)).1.Dx,(if Gc l=true then (Gz l,true) else (FN,false)).1.Dr))=some (t.Ds,t.Dq,t.Dw,t.Dx,t.Dr):=by
  by_cases hq:Gc l=true
  ·rw [if_pos hq];exact ⟨Gz l,Rk hq,rfl⟩
  ·rw [if_neg hq,s20];exact ⟨Gz [20],Rk (by decide),rfl⟩
 obtain ⟨t,t1,t2⟩:=start;rw [t2,Option.bind_some];simp only;obtain ⟨n,d2,p1,p2,p3⟩:=I3 (n:=20) Hf (by omega)
 have p2' :=p2.2 (by omega)
 rw [p1,Option.bind_some];simp only;have key:dQ (eF NV (n,d2.Code,d2.Dr,d2.D8,t.Ds,t.Dq,t.Dw,t.Dx,t.Dr)) fun y=>TD ⟨y.2.2.2.1,y.2.2.2.2.1,y.2.2.2.2.2.1,y.2.2.2.2.2.2.1,y.2.2.2.2.2.2.2⟩∧Gq ⟨y.1,y.2.1,y.2.2.1⟩ 2000:=by
  refine dQ.eF (fun x=>x.1.toNat) (fun x=>0≤x.1∧x.1≤20∧Gq ⟨x.2.1,x.2.2.1,x.2.2.2.1⟩ (2000-10*x.1)∧TD ⟨x.2.2.2.2.1,x.2.2.2.2.2.1,x.2.2.2.2.2.2.1,x.2.2.2.2.2.2.2.1,x.2.2.2.2.2.2.2.2⟩) ?_ ⟨p2.1,by simp only;omega,p3.mono (by simp only;omega),t1⟩
  rintro ⟨n,C,A,S,q1,q2,q3,q4,q5⟩ ⟨i1,i2,i3,i4⟩;simp only at i1 i2 i3 i4;simp only [NV];by_cases hn:0<n
  ·rw [At hn];obtain ⟨y,d',f1,f2,f3⟩:=I3 (n:=(q2.length:Int)) i3 (by omega)
   obtain ⟨z,NN,g1,g2,g3⟩:=I3 (n:=20) f3 (by omega)
   simp only [cond_true,f1,g1,Option.bind_some,TZ i4.tl];have h1: ∃t' :DJ,TD t' ∧(bif (Gn ⟨q1,q2,q3,q4,q5⟩ y (IntKind.i64.wrap (1+z))).2 then some ((Gn ⟨q1,q2,q3,q4,q5⟩ y (IntKind.i64.wrap (1+z))).1.Ds,(Gn ⟨q1,q2,q3,q4,q5⟩ y (IntKind.i64.wrap (1+z))).1.Dq,(Gn ⟨q1,q2,q3,q4,q5⟩ y (IntKind.i64.wrap (1+z))).1.Dw,(Gn ⟨q1,q2,q3,q4,q5⟩ y (IntKind.i64.wrap (1+z))).1.Dx,(Gn ⟨q1,q2,q3,q4,q5⟩ y (IntKind.i64.wrap (1+z))).1.Dr) else some (q1,q2,q3,q4,q5))=some (t'.Ds,t'.Dq,t'.Dw,t'.Dx,t'.Dr):=by
    cases hp:(Gn ⟨q1,q2,q3,q4,q5⟩ y (IntKind.i64.wrap (1+z))).2
    ·exact ⟨⟨q1,q2,q3,q4,q5⟩,i4,rfl⟩
    ·exact ⟨_,abv i4 _ _ hp,rfl⟩
   obtain ⟨t',Lj,abx⟩:=h1;rw [abx,Option.bind_some];simp only [abt,T8 Lj.tl,Option.bind_some];have h2: ∃(b:Bool) (e:Ev),Gq e (2000-10*n+6)∧(b=true→(Gy t').2.2=true)∧(bif (Gy t').2.2 then (Kb NN 4).bind fun (Mo,HE)=>some (Mo,HE.Code,HE.Dr,HE.D8) else some (false,NN.Code,NN.Dr,NN.D8))=some (b,e.Code,e.Dr,e.D8):=by
    cases (Gy t').2.2
    ·exact ⟨false,NN,g3.mono (by omega),by simp,rfl⟩
    ·obtain ⟨b,e,m1,m2⟩:=Ub (n:=4) g3 (by omega)
     refine ⟨b,e,m2.mono (by omega),by simp,?_⟩
     rw [cond_true,m1];rfl
   obtain ⟨b,e,v1,v2,v3⟩:=h2;rw [v3,Option.bind_some];simp only;rw [zG (x:=n-1) (by omega)]
   cases b
   ·simp only [cond_false,Option.bind_some];exact ⟨_,rfl,⟨by simp only;omega,by simp only;omega,v1.mono (by simp only;omega),Lj⟩,by simp only;omega⟩
   ·simp only [cond_true,Option.bind_some];exact ⟨_,rfl,⟨by simp only;omega,by simp only;omega,v1.mono (by simp only;omega),abw Lj (v2 rfl)⟩,by simp only;omega⟩
  ·rw [Dl hn];exact ⟨_,rfl,i4,i3.mono (by omega)⟩
 refine dQ.then key ?_;rintro ⟨C,A,S,q1,q2,q3,q4,q5⟩ ⟨k1,k2⟩;simp only at k1 k2⊢;obtain ⟨x,d3,r1,r2,r3⟩:=I3 (n:=30) k2 (by omega)
 rw [r1,Option.bind_some];simp only;obtain ⟨b1,b2,b3,Gd,EO⟩:=k1.tl;have c1:=k1.c1;have s1:=k1.s1;simp only at b1 b2 b3 Gd EO c1 s1;have i3:idx q3 0=some (q3[0]'(by omega)):=Dj (by omega) (by omega)
 have i4:idx q4 0=some (q4[0]'(by omega)):=Dj (by omega) (by omega)
 cases x==0
 ·cases x==1
  ·cases x==2
   ·exact ⟨_,rfl,⟨b1,b2,b3,Gd,EO⟩,r3.mono (by omega)⟩
   ·simp only [cond_false,cond_true,i4,Option.bind_some];exact ⟨_,rfl,⟨b1,b2,b3,by simpa using Gd,EO⟩,r3.mono (by omega)⟩
  ·obtain ⟨y,d4,m1,m2,m3⟩:=I3 (n:=30) r3 (by omega)
   simp only [cond_false,cond_true,i3,m1,Option.bind_some];exact ⟨_,rfl,⟨b1,b2,by simpa using b3,Gd,EO⟩,m3.mono (by omega)⟩
 ·obtain ⟨y,d4,m1,m2,m3⟩:=I3 (n:=6) r3 (by omega)
  simp only [cond_true,m1,Option.bind_some];exact ⟨_,rfl,⟨b1,b2,b3,Gd,EO⟩,m3.mono (by omega)⟩
theorem aby {a b:Int} (h:a≠b):(a==b)=false:=by simpa using h
theorem Rl {a b:Int} (h:a=b):(a !=b)=false:=by simp [h]
theorem abz {α :Type} {l:List α} {i:Int} (h0:0≤i) (h:i≤l.length):f_ l 0 i=some (l.take i.toNat):=by
 simp [f_];omega
def Ep:List Int→Int
 |[]=>0
 |x::l=>x+Ep l
theorem Md: ∀a b:List Int,Ep (a ++ b)=Ep a+Ep b
 |[],b=>by simp [Ep]
 |x::a,b=>by simp only [List.cons_append,Ep,Md a b];omega
theorem Lk {B:Int}: ∀l:List Int,(∀x∈l,0≤x∧x≤B)→0≤Ep l∧Ep l≤l.length*B
 |[],_=>by simp [Ep]
 |x::l,h=>by
  have h1:=h x (by simp)
  have h2:=Lk l (fun y hy=>h y (by simp [hy]))
  simp only [Ep,List.length_cons];rw [show ((l.length+1:Nat):Int)*B=l.length*B+B by rw [show ((l.length+1:Nat):Int)=(l.length:Int)+1 by omega,Int.add_mul,Int.one_mul]]
  omega
theorem Rm {l:List Int} (hl:l.length≤1000) (hb: ∀x∈l,0≤x∧x≤1000000) {f:Int×Int→Option (LR (Int×Int) Int)} (hf:f=N2 l):eF f (0,0)=some (Ep l):=by
 subst hf;refine Df (fun x:Int×Int=>l.length-x.2.toNat) (fun x=>0≤x.2∧x.2≤l.length∧x.1=Ep (l.take x.2.toNat)) _ ?_ _ ⟨by simp,by simp,by simp [Ep]⟩
 rintro ⟨m,i⟩ ⟨i1,i2,i3⟩;simp only at i1 i2 i3;subst i3;simp only [N2];by_cases hi:i<l.length
 ·have ax:i.toNat<l.length:=by omega
  have h1:=Lk (B:=1000000) (l.take i.toNat) (fun x hx=>hb x (List.mem_of_mem_take hx));have hlen:(l.take i.toNat).length≤1000:=by rw [List.length_take];omega
  have h2:=hb _ (List.getElem_mem ax);have h3:((l.take i.toNat).length:Int)*1000000≤1000*1000000:=Int.mul_le_mul_of_nonneg_right (by omega) (by omega)
  rw [At hi,Dj i1 hi];simp only [cond_true,Option.bind_some];rw [zG (x:=i+1) (by omega),zG (by omega)]
  refine ⟨_,rfl,⟨by simp only;omega,by simp only;omega,?_⟩,by simp only;omega⟩
  simp only;rw [show (i+1).toNat=i.toNat+1 by omega,List.take_succ_eq_append_getElem ax,Md]
  simp [Ep]
 ·rw [Dl hi];refine ⟨_,rfl,?_⟩;simp only;rw [List.take_of_length_le (by omega)]
theorem Uf {l:List Int} (hl:l.length≤1000) (hb: ∀x∈l,0≤x∧x≤1000000):LD l=some (Ep l):=by
 unfold LD;rw [Rm hl hb rfl];rfl
theorem Ug {l:List Int} (hl:l.length≤1000) (hb: ∀x∈l,0≤x∧x≤1000000):LG l=some (Ep l):=by
 unfold LG;rw [Rm (f:=Pj l) hl hb rfl];rfl
theorem abA {l:List Int} (hl:l.length≤1000) (hb: ∀x∈l,0≤x∧x≤1000000):LJ l=some (Ep l):=by
 unfold LJ;rw [Rm (f:=Pl l) hl hb rfl];rfl
theorem abB {l:List (List Int)} (hl:l.length≤4) (hq: ∀q∈l,q.length≤30):M0 l=some l.flatten:=by
 have Rn: ∀k,(l.take k).flatten.length≤30*k:=fun k=>by
  induction k with
  |zero=>simp
  |succ k ih=>
   by_cases hk:k<l.length
   ·rw [List.take_succ_eq_append_getElem hk,List.flatten_append,List.length_append];have:=hq _ (List.getElem_mem hk);simp only [List.flatten_cons,List.flatten_nil,List.append_nil];omega
   ·rw [List.take_of_length_le (by omega)] at ih⊢;omega
 have e1:eF (N3 l) (0,0)=some (l.flatten.length:Int):=by
  refine Df (fun x:Int×Int=>l.length-x.2.toNat) (fun x=>0≤x.2∧x.2≤l.length∧x.1=((l.take x.2.toNat).flatten.length:Int)) _ ?_ _ ⟨by simp,by simp,by simp⟩
  rintro ⟨m,i⟩ ⟨i1,i2,i3⟩;simp only at i1 i2 i3;subst i3;simp only [N3];by_cases hi:i<l.length
  ·have ax:i.toNat<l.length:=by omega
   have h1:=Rn i.toNat;have h2:=hq _ (List.getElem_mem ax);rw [At hi,Dj i1 hi];simp only [cond_true,Option.bind_some];rw [zG (x:=((l.take i.toNat).flatten.length:Int)+(l[i.toNat].length:Int)) (by omega),Dl (by omega),zG (x:=i+1) (by omega)]
   refine ⟨_,rfl,⟨by simp only;omega,by simp only;omega,?_⟩,by simp only;omega⟩
   simp only;rw [show (i+1).toNat=i.toNat+1 by omega,List.take_succ_eq_append_getElem ax,List.flatten_append,List.length_append]
   simp
  ·rw [Dl hi];refine ⟨_,rfl,?_⟩;simp only;rw [List.take_of_length_le (by omega)]
 have xZ:=Rn l.length;rw [List.take_of_length_le (Nat.le_refl _)] at xZ;have e2:MZ (l.flatten.length:Int)=some []:=by
  unfold MZ;rw [Dl (by omega),zG (x:=0-0) (by omega),zG (x:=(l.flatten.length:Int)-(0-0)) (by omega)]
  simp only [cond_false,Option.bind_some];by_cases h:(0:Int)<(l.flatten.length:Int)-(0-0)
  ·rw [At h,cond_true,show (l.flatten.length:Int)-(0-0)=((l.flatten.length:Nat):Int) by omega,Dg (by omega) (by omega),Option.bind_some]
   simp [f_]
  ·rw [Dl h];rfl
 have e3:eF (N4 l) ([],0)=some l.flatten:=by
  refine Df (fun x:List Int×Int=>l.length-x.2.toNat) (fun x=>0≤x.2∧x.2≤l.length∧x.1=(l.take x.2.toNat).flatten) _ ?_ _ ⟨by simp,by simp,by simp⟩
  rintro ⟨m,i⟩ ⟨i1,i2,i3⟩;simp only at i1 i2 i3;subst i3;simp only [N4];by_cases hi:i<l.length
  ·have ax:i.toNat<l.length:=by omega
   have h1:=Rn i.toNat;have h2:=hq _ (List.getElem_mem ax);rw [At hi,Dj i1 hi];simp only [cond_true,Option.bind_some];rw [Dh (by omega) (by omega),Option.bind_some,zG (x:=i+1) (by omega)]
   refine ⟨_,rfl,⟨by simp only;omega,by simp only;omega,?_⟩,by simp only;omega⟩
   simp only;rw [show (i+1).toNat=i.toNat+1 by omega,List.take_succ_eq_append_getElem ax,List.flatten_append]
   simp
  ·rw [Dl hi];refine ⟨_,rfl,?_⟩;simp only;rw [List.take_of_length_le (by omega)]
 unfold M0;rw [e1,Option.bind_some,e2,Option.bind_some,e3,Option.bind_some]
theorem GT.rowAt {t:DJ} (h:GT t) {q:List Int} (hq:q∈t.Dq):q.length≤30∧ ∀x∈q,1≤x∧x≤20:=by
 obtain ⟨k,hk⟩:=List.mem_iff_getElem?.1 hq;have ax:=(List.getElem?_eq_some_iff.1 hk).1;have h1:=h.l1;have h2:=h.l2;have h3:=h.l3;have:=HO.1 (h.row k q _ _ hk (List.getElem?_eq_getElem (show k<t.Dw.length by omega)) (List.getElem?_eq_getElem (show k<t.Dx.length by omega)))
 exact ⟨this.1,this.2.1⟩
theorem GT.Ro {t:DJ} (h:GT t): ∀s∈t.Dx,0≤s∧s≤1000000:=fun s hs=>by
 obtain ⟨k,hk⟩:=List.mem_iff_getElem?.1 hs;have ax:=(List.getElem?_eq_some_iff.1 hk).1;have h1:=h.l1;have h2:=h.l2;have h3:=h.l3;exact (HO.1 (h.row k _ _ s (List.getElem?_eq_getElem (show k<t.Dq.length by omega)) (List.getElem?_eq_getElem (show k<t.Dw.length by omega)) hk)).2.2.2.1
theorem GT.NO {t:DJ} (h:GT t):t.Ds.length≤4∧t.Dq.length≤4∧t.Dx.length≤4:=by
 have:=(Jl.1 h.JM).1;have h1:=h.l1;have h3:=h.l3;omega
def Jn (t:DJ):Int×Bool:=if FU t then (Ep t.Dx,true) else (0,false)
def Ka (t:DJ):Int×Bool:=if FU t then (Ep t.Dq.flatten,true) else (0,false)
theorem Uh {t:DJ} (h:TL t):LF t=some (Jn t):=by
 unfold LF Jn;rw [Lf t (by have:=h.l1;omega) (fun q hq=>by have:=h.HP q hq;omega),Option.bind_some]
 cases hg:FU t
 ·rfl
 have g:=HB.1 hg;have:=g.NO;simp only [Bool.not_true,cond_false,if_true];rw [Uf (by omega) g.Ro];rfl
theorem abC {t:DJ} (h:TL t):MY t=some (Jn t):=by
 unfold MY Jn;rw [NH t (fun q hq=>by have:=h.HP q hq;omega),Option.bind_some]
 cases hg:FU t
 ·rfl
 have g:=HB.1 hg;have:=g.NO;simp only [Bool.not_true,cond_false,if_true];rw [Ug (by omega) g.Ro];rfl
theorem Rp {l:List (List Int)} (hl:l.length≤4) (hq: ∀q∈l,q.length≤30∧ ∀x∈q,1≤x∧x≤20):l.flatten.length≤120∧ ∀x∈l.flatten,0≤x∧x≤1000000:=by
 constructor
 ·have: ∀m:List (List Int),(∀q∈m,q.length≤30)→m.flatten.length≤30*m.length:=fun m=>by
   induction m with
   |nil=>simp
   |cons q m ih=>
    intro h;have h1:=h q (by simp)
    have h2:=ih (fun q hq=>h q (by simp [hq]))
    simp only [List.flatten_cons,List.length_append,List.length_cons];omega
  have:=this l (fun q h=>(hq q h).1);omega
 ·intro x hx;obtain ⟨q,h1,h2⟩:=List.mem_flatten.1 hx;have:=(hq q h1).2 x h2;omega
theorem Ui {t:DJ} (h:TL t):LI t=some (Ka t):=by
 unfold LI Ka;rw [Lf t (by have:=h.l1;omega) (fun q hq=>by have:=h.HP q hq;omega),Option.bind_some]
 cases hg:FU t
 ·rfl
 have g:=HB.1 hg;have:=g.NO;obtain ⟨f1,f2⟩:=Rp (l:=t.Dq) (by omega) (fun q hq=>g.rowAt hq)
 simp only [Bool.not_true,cond_false,if_true];rw [abB (by omega) (fun q hq=>(g.rowAt hq).1),Option.bind_some,Uf (by omega) f2];rfl
theorem abD {t:DJ} (h:TL t):M2 t=some (Ka t):=by
 unfold M2 Ka;rw [NH t (fun q hq=>by have:=h.HP q hq;omega),Option.bind_some]
 cases hg:FU t
 ·rfl
 have g:=HB.1 hg;have hlen:=g.NO;have key:eF (N5 t) (0,0)=some (Ep t.Dq.flatten):=by
  refine Df (fun x:Int×Int=>t.Dq.length-x.2.toNat) (fun x=>0≤x.2∧x.2≤t.Dq.length∧x.1=Ep (t.Dq.take x.2.toNat).flatten) _ ?_ _ ⟨by simp,by simp,by simp [Ep]⟩
  rintro ⟨m,i⟩ ⟨i1,i2,i3⟩;simp only at i1 i2 i3;subst i3;simp only [N5];by_cases hi:i<t.Dq.length
  ·have ax:i.toNat<t.Dq.length:=by omega
   obtain ⟨f1,f2⟩:=Rp (l:=t.Dq.take i.toNat) (by rw [List.length_take];omega) (fun q hq=>g.rowAt (List.mem_of_mem_take hq))
   have b1:=Lk (B:=1000000) _ f2;obtain ⟨r1,r2⟩:=g.rowAt (List.getElem_mem ax);have b2:=Lk (B:=1000000) t.Dq[i.toNat] (fun x hx=>by have:=r2 x hx;omega)
   have c1:((t.Dq.take i.toNat).flatten.length:Int)*1000000≤120*1000000:=Int.mul_le_mul_of_nonneg_right (by omega) (by omega)
   have c2:((t.Dq[i.toNat]).length:Int)*1000000≤30*1000000:=Int.mul_le_mul_of_nonneg_right (by omega) (by omega)
   rw [At hi,Dj i1 hi];simp only [cond_true,Option.bind_some];rw [Ug (by omega) (fun x hx=>by have:=r2 x hx;omega),Option.bind_some,zG (x:=i+1) (by omega),zG (by omega)]
   refine ⟨_,rfl,⟨by simp only;omega,by simp only;omega,?_⟩,by simp only;omega⟩
   simp only;rw [show (i+1).toNat=i.toNat+1 by omega,List.take_succ_eq_append_getElem ax,List.flatten_append,Md]
   simp
  ·rw [Dl hi];refine ⟨_,rfl,?_⟩;simp only;rw [List.take_of_length_le (by omega)]
 simp only [Bool.not_true,cond_false,if_true];unfold N6;rw [key];rfl
theorem Uj: ∀(q:List Int) (c s:Int) (o:List Int),(∀x∈q,1≤x∧x≤20)→ ∃a,q=a ++ (serve q c s o).q∧(serve q c s o).o=o ++ a∧(serve q c s o).s=s+Ep a∧(serve q c s o).c=c-Ep a∧(∀x r,(serve q c s o).q=x::r→(serve q c s o).c<x)
 |[],c,s,o,_=>⟨[],rfl,by simp [serve],by simp [serve,Ep],by simp [serve,Ep],by simp [serve]⟩
 |x::q,c,s,o,h=>by
  unfold serve;split
  ·obtain ⟨a,h1,h2,h3,h4,h5⟩:=Uj q (c-x) (s+x) (o ++ [x]) (fun y hy=>h y (by simp [hy]))
   refine ⟨x::a,by rw [List.cons_append,←h1],by rw [h2];simp,by rw [h3];simp only [Ep];omega,by rw [h4];simp only [Ep];omega,h5⟩
  ·rename_i hx;exact ⟨[],rfl,by simp,by simp [Ep],by simp [Ep],fun y r e=>by simp at e;obtain ⟨rfl,_⟩:=e;simp only;omega⟩
theorem Uk: ∀(l:List Int) (k:Nat) (x:Int) (h:k<l.length),Ep (l.set k x)=Ep l-l[k]+x
 |y::l,0,x,h=>by simp [Ep];omega
 |y::l,k+1,x,h=>by
  have:=Uk l k x (by simpa using h)
  simp only [List.set_cons_succ,Ep,List.getElem_cons_succ];omega
theorem Ul: ∀(l:List (List Int)) (k:Nat) (q:List Int) (h:k<l.length),Ep (l.set k q).flatten=Ep l.flatten-Ep l[k]+Ep q
 |y::l,0,q,h=>by simp only [List.set_cons_zero,List.flatten_cons,Md,List.getElem_cons_zero];omega
 |y::l,k+1,q,h=>by
  have:=Ul l k q (by simpa using h)
  simp only [List.set_cons_succ,List.flatten_cons,Md,List.getElem_cons_succ];omega
theorem abE {l:List Int} (hl:l.length≤1048576):Kx l=some (if Gc l then (Gz l,true) else (FN,false)):=by
 unfold Kx;rw [TR (by omega),Option.bind_some]
 cases h:Gc l
 ·rfl
 ·have h1:=(Jl.1 h).1;simp only [Bool.not_true,cond_false,if_true];rw [NI (by omega),Option.bind_some,Dg (by omega) (by omega),Option.bind_some,Dg (by omega) (by omega),Option.bind_some]
  rfl
theorem abF {l:List Int} (hl:l.length≤1048576) (hb: ∀x∈l,0≤x∧x≤255):dQ (MQ l) TL:=by
 unfold MQ NX;refine dQ.bind (dQ.then (Ue (Rh hl hb)) ?_);rintro ⟨t,d⟩ ⟨h1,_⟩;exact ⟨_,rfl,_,rfl,h1⟩
theorem abG {l:List Int} (hl:l.length≤1048576) (hb: ∀x∈l,0≤x∧x≤255):dQ (Kt l) fun r=>TL r.1:=by
 unfold Kt;refine dQ.then (Ue (Rh hl hb)) ?_;rintro ⟨t,d⟩ ⟨h1,h2⟩;simp only at h1 h2⊢;obtain ⟨x,d2,p1,p2,p3⟩:=I3 (n:=6) h2 (by omega)
 obtain ⟨y,d3,m1,m2,m3⟩:=Uc (l:=[0,1,7,20,21]) p3 (by omega) (by simp)
 rw [p1,Option.bind_some];simp only;rw [m1];exact ⟨_,rfl,h1⟩
theorem abH {l:List Int} (hl:l.length≤1048576) (hb: ∀x∈l,0≤x∧x≤255):dQ (Kw l) fun r=>r.length≤4:=by
 unfold Kw;refine dQ.then (Ud (Rh hl hb)) ?_;rintro ⟨q,d⟩ ⟨_,h2,_⟩;exact ⟨_,rfl,h2⟩
theorem abI {t:DJ} (h:GT t): ∃a:List Int,t.Dq.getD t.Dr.toNat []=a ++ (Ef t).q∧(Ef t).o=a∧(Ef t).s=t.Dx.getD t.Dr.toNat 0+Ep a∧
 ((Ef t).q≠[]→(Ef t).c+Ep a=t.Dw.getD t.Dr.toNat 0+t.Ds.getD t.Dr.toNat 0∧a≠[])∧(∀x r,(Ef t).q=x::r→(Ef t).c<x):=by
 have at_:=h.Mb;obtain ⟨r1,r2,r3,r4,r5⟩:=HO.1 at_.row;obtain ⟨a,h1,h2,h3,h4,h5⟩:=Uj (t.Dq.getD t.Dr.toNat []) (if 0<(t.Dq.getD t.Dr.toNat []).length then t.Dw.getD t.Dr.toNat 0+t.Ds.getD t.Dr.toNat 0 else t.Dw.getD t.Dr.toNat 0) (t.Dx.getD t.Dr.toNat 0) [] r2;change _=a ++ (Ef t).q at h1;change (Ef t).o=[] ++ a at h2;change (Ef t).s=_ at h3;change (Ef t).c=_ at h4;change∀x r,(Ef t).q=x::r→(Ef t).c<x at h5;have hb:=at_.b1;refine ⟨a,h1,by simpa using h2,h3,fun aO=> ?_,h5⟩
 have hl:0<(t.Dq.getD t.Dr.toNat []).length:=by
  rw [h1,List.length_append];have:=List.length_pos_iff.2 aO;omega
 rw [if_pos hl] at h4;refine ⟨by omega,fun ha=> ?_⟩
 subst ha;obtain ⟨x,r,hx⟩:=List.exists_cons_of_ne_nil aO;have Jm:=h5 x r hx;have agM:=r2 x (by rw [h1,hx];simp)
 simp only [Ep] at h4;omega
theorem abJ (a b:List Int) (ha:a.length<2^47) (hb:b.length<2^47) (ba: ∀x∈a,0≤x∧x≤255) (bb: ∀x∈b,0≤x∧x≤255):M3 a b=some true:=by
 unfold M3;rw [zG (by omega)]
 by_cases hz:1048576<(a.length:Int)+b.length
 ·rw [At hz];rfl
 rw [Dl hz];obtain ⟨t,e1,hT⟩:=abF (l:=a) (by omega) ba
 obtain ⟨⟨y,k,sz⟩,e2,hY⟩:=abG (l:=b) (by omega) bb
 obtain ⟨Rq,e3,agN⟩:=abH (l:=b) (by omega) bb
 simp only at hY;obtain ⟨p1,p2,p3⟩:=T9 t;obtain ⟨q1,q2⟩:=T1 (t:=y) k sz;have tail:(Kt b).bind (fun x=>(Ku x.1 x.2.1 x.2.2).bind fun z=>(JQ x.1 x.2.1 x.2.2).bind fun w=>(Kw b).bind fun FP=>(Kx FP).bind fun u=>(IB FP).bind fun v=>(bif (z.2==w.2) then (IH z.1 w.1).bind fun Ky=>(bif Ky then (bif (u.2==v.2) then (IH u.1 v.1).bind fun Kz=>(bif Kz then (bif (!z.2) then some true else (HG z.1).bind fun KA=>some KA) else some false) else some false) else some false) else some false))=some true:=by
  rw [e2,Option.bind_some];dsimp only;rw [abo hY,TZ hY,Option.bind_some,Option.bind_some,e3,Option.bind_some,abE (by omega),Rj (by omega),Option.bind_some,Option.bind_some]
  have hn:TL (if Gc Rq then (Gz Rq,true) else (FN,false)).1:=by
   by_cases hq:Gc Rq=true
   ·rw [if_pos hq];exact (Rk hq).tl
   ·rw [if_neg hq];exact NM.1
  simp only [beq_self_eq_true,cond_true,Ri q1,Ri hn,Option.bind_some];cases ho:(Gn y k sz).2
  ·rfl
  ·simp only [Bool.not_true,cond_false];have hg:FU (Gn y k sz).1=true:=by
    unfold Gn at ho⊢;split
    ·rename_i h;simp only [Bool.and_eq_true,decide_eq_true_eq] at h;have g:=HB.1 h.1.1.1;have hk:=Iz.1 h.1.1.2;have hs:=Iz.1 h.1.2;rw [HB];refine ⟨g.JM,by simpa using g.l1,g.l2,g.l3,g.at_,fun j q c s w1 w2 w3=> ?_⟩
     simp only [List.getElem?_set] at w1 w2 w3;by_cases hj:k.toNat=j
     ·rw [if_pos hj,if_pos (by omega)] at w1
      simp only [Option.some.injEq] at w1;have ek:=g.l1;have old:=HO.1 (g.row j _ c s (NL [] (show j<y.Dq.length by omega)) w2 w3)
      rw [←hj] at old;subst w1;rw [HO];refine ⟨by rw [List.length_append];simp only [List.length_cons,List.length_nil];omega,fun x hx=> ?_,old.2.2.1,old.2.2.2.1,fun h0=>by simp at h0⟩
      rcases List.mem_append.1 hx with h' |h'
      ·exact old.2.1 x h'
      ·simp at h';omega
     ·rw [if_neg hj] at w1;exact g.row j q c s w1 w2 w3
    ·rename_i h;rw [if_neg h] at ho;simp at ho
   rw [Lf _ (by have:=q1.l1;omega) (fun q hq=>by have:=q1.HP q hq;omega),hg];rfl
 have go: ∀m:Option (LR Unit Bool),m=some (.next ())→(m.bind fun y=>match y with|LR.next ()=>(Kt b).bind (fun x=>(Ku x.1 x.2.1 x.2.2).bind fun z=>(JQ x.1 x.2.1 x.2.2).bind fun w=>(Kw b).bind fun FP=>(Kx FP).bind fun u=>(IB FP).bind fun v=>(bif (z.2==w.2) then (IH z.1 w.1).bind fun Ky=>(bif Ky then (bif (u.2==v.2) then (IH u.1 v.1).bind fun Kz=>(bif Kz then (bif (!z.2) then some true else (HG z.1).bind fun KA=>some KA) else some false) else some false) else some false) else some false))|LR.done z=>some z)=some true:=fun m hm=>by rw [hm];exact tail
 rw [cond_false,e1,Option.bind_some,abr hT,Option.bind_some];dsimp only;rw [T8 hT,Option.bind_some];rw [Uh hT,Option.bind_some,abC hT,Option.bind_some,Ui hT,Option.bind_some,abD hT,Option.bind_some];have rl:HG t=some (FU t):=Lf t (by have:=hT.l1;omega) (fun q hq=>by have:=hT.HP q hq;omega)
 have abK:(Jn t).2=FU t:=by unfold Jn;cases FU t<;>rfl
 simp only [beq_self_eq_true,bne_self_eq_false,Bool.not_true,cond_false,Li (l:=(Gy t).2.1) (by omega),Ri p1,rl,abK,Option.bind_some]
 refine go _ ?_;by_cases af:FU t=true∧(Ef t).s≤1000000
 ·have g:=HB.1 af.1;have Rr:Gy t=(FB t,(Ef t).o,true):=by unfold Gy;rw [if_pos af.1,if_pos af.2]
  have O_:FU (FB t)=true:=by rw [T7 g,At af.2]
  have agO:=HB.1 O_;have hX:=(O9 g).1;obtain ⟨s,s1,s2,s3,Rg,s5⟩:=abI g;have at_:=g.Mb;have k0:=at_.h0;have k2:=at_.k2;have k3:=at_.k3;have k4:=at_.k4;obtain ⟨r1,r2,r3,r4,r5⟩:=HO.1 at_.row;have agP:s.length≤30:=by rw [s1,List.length_append] at r1;omega
  have Um: ∀x∈s,1≤x∧x≤20:=fun x hx=>r2 x (by rw [s1];exact List.mem_append_left _ hx)
  have agQ:=Lk (B:=20) s (fun x hx=>by have:=Um x hx;omega)
  have abL:Jn t=(Ep t.Dx,true):=by unfold Jn;rw [if_pos af.1]
  have abM:Ka t=(Ep t.Dq.flatten,true):=by unfold Ka;rw [if_pos af.1]
  have eT' :Jn (FB t)=(Ep t.Dx+Ep s,true):=by
   unfold Jn;rw [if_pos O_];simp only [FB];rw [Uk _ _ _ (by omega),s3]
   have:t.Dx.getD t.Dr.toNat 0=t.Dx[t.Dr.toNat]'(by omega):=by simp [List.getD,List.getElem?_eq_getElem (show t.Dr.toNat<t.Dx.length by omega)]
   rw [this];congr 1;omega
  have eW' :Ka (FB t)=(Ep t.Dq.flatten-Ep s,true):=by
   unfold Ka;rw [if_pos O_];simp only [FB];rw [Ul _ _ _ (by omega)]
   have:t.Dq.getD t.Dr.toNat []=t.Dq[t.Dr.toNat]'(by omega):=by simp [List.getD,List.getElem?_eq_getElem (show t.Dr.toNat<t.Dq.length by omega)]
   rw [←this,s1,Md];congr 1;omega
  have hlen:=g.NO;have b1:=Lk (B:=1000000) t.Dx g.Ro;obtain ⟨f1,f2⟩:=Rp (l:=t.Dq) (by omega) (fun q hq=>g.rowAt hq)
  have b2:=Lk (B:=1000000) _ f2;have c1:(t.Dx.length:Int)*1000000≤4*1000000:=Int.mul_le_mul_of_nonneg_right (by omega) (by omega)
  have c2:(t.Dq.flatten.length:Int)*1000000≤120*1000000:=Int.mul_le_mul_of_nonneg_right (by omega) (by omega)
  have c3:(s.length:Int)*20≤30*20:=Int.mul_le_mul_of_nonneg_right (by omega) (by omega)
  have abN:idx t.Dq t.Dr=some (s ++ (Ef t).q):=by rw [at_.e2,s1]
  have eQ' :idx (FB t).Dq t.Dr=some (Ef t).q:=Dp k0 k2 _
  have o1:f_ (s ++ (Ef t).q) 0 (s.length:Int)=some s:=by
   have:=abz (l:=s ++ (Ef t).q) (i:=(s.length:Int)) (by omega) (by simp<;>omega)
   rw [this];simp
  have o2:f_ (s ++ (Ef t).q) (s.length:Int) ((s ++ (Ef t).q).length:Int)=some (Ef t).q:=by
   simp only [f_];rw [if_pos (by simp<;>omega)]
   congr 1;simp only [Int.toNat_natCast,List.drop_left];exact List.take_of_length_le (by simp)
  rw [Rr];simp only [cond_true,s2];rw [Uh hX,Ui hX,Option.bind_some,Option.bind_some,abN,Option.bind_some,eT',eW',abL,abM];simp only;rw [Lf _ (by have:=hX.l1;omega) (fun q hq=>by have:=hX.HP q hq;omega),O_,abA (by omega) (fun x hx=>by have:=Um x hx;omega)]
  simp only [Bool.not_true,cond_false,Option.bind_some];rw [zG (x:=Ep t.Dx+Ep s+(Ep t.Dq.flatten-Ep s)) (by omega),zG (x:=Ep t.Dx+Ep t.Dq.flatten) (by omega),Rl (by omega),zG (x:=Ep t.Dx+Ep s) (by omega),Rl rfl,Dl (by simp<;>omega),o1]
  simp only [cond_false,Option.bind_some];rw [Li (by omega),Option.bind_some]
  simp only [Bool.not_true,cond_false];rw [eQ',Option.bind_some,o2,Option.bind_some,Li (by have:=(Mc g).1;omega)]
  simp only [Bool.not_true,cond_false,Option.bind_some];by_cases hq:(Ef t).q=[]
  ·rw [Dl (by simp [hq])]
   rfl
  ·obtain ⟨x,r,hx⟩:=List.exists_cons_of_ne_nil hq;obtain ⟨d1,d2⟩:=Rg hq;have d3:=s5 x r hx;have hp:=List.length_pos_iff.2 hq;have eb:=List.length_pos_iff.2 d2;have eC' :idx (FB t).Dw t.Dr=some (Ef t).c:=by
    change idx (t.Dw.set t.Dr.toNat (if (Ef t).q.length=0 then 0 else (Ef t).c)) t.Dr=_;rw [if_neg (by omega)]
    exact Dp k0 k3 _
   have o3:idx (s ++ (Ef t).q) (s.length:Int)=some x:=by
    rw [Ap,List.getElem?_append_right (Nat.le_refl _),Nat.sub_self,hx];rfl
   have hcb:=(Mc g).2.2.1;have mB:=at_.b1;rw [At (by simp<;>omega),eC',at_.e3,at_.e1]
   simp only [cond_true,Option.bind_some];rw [zG (x:=Ep s+(Ef t).c) (by omega),zG (x:=t.Dw.getD t.Dr.toNat 0+t.Ds.getD t.Dr.toNat 0) (by omega),Rl (by omega),o3]
   simp only [cond_false,Option.bind_some];rw [Dl (by omega),aby (by omega)]
   rfl
 ·have Rr:Gy t=(FN,[],false):=by
   unfold Gy;by_cases h1:FU t=true
   ·rw [if_pos h1,if_neg (fun h2=>af ⟨h1,h2⟩)]
   ·rw [if_neg h1]
  rw [Rr];rfl
end Go.HC
