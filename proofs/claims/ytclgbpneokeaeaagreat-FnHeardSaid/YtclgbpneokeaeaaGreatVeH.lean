/- The seat's shared words: the policy's conditions hold of the program, and what the laws' arguments read as. -/
import Derived.Test.YtclgbpneokeaeaaGreatProg
import Derived.Test.YtclgbpneokeaeaaGreatVeG
import Derived.Test.YtclgbpneokeaeaaGreatVaF
import Derived.Test.YtclgbpneokeaeaaGreatVeS
import Derived.KernelRfl
open Go Go.VS Go.Proofs
set_option maxRecDepth 100000
namespace Go.GC
theorem hE: ∀t ti,C.E t=some ti→aS Tryz.prog t ti:=by
 intro t ti h;have h:E t=some ti:=h;unfold E at h;split at h;all_goals first|(obtain rfl:=Option.some.inj h;exact BL (by kernel_rfl))|simp at h
theorem hC: ∀f fn,C.code f=some fn→Tryz.prog.funcs[f]? =some fn∧(fn.name== "runtime.NumGoroutine")=false∧nN (C.fH f) fn=true:=by
 intro f fn h;have h:code f=some fn:=h;unfold code at h;split at h;all_goals first|(obtain rfl:=Option.some.inj h;exact ⟨by kernel_rfl,by kernel_rfl,by kernel_rfl⟩)|simp at h
theorem own:ownKnob Tryz.prog.godebug=none:=by kernel_rfl
theorem laidOut:laidOutB Tryz.prog=true:=by kernel_rfl
theorem mixed:Tryz.prog.follows .mixedOrders=true:=by kernel_rfl
theorem Z1:wG Tryz.prog E 75 1 8:=⟨⟨Tryz.f75,24,4,3,_,_,by kernel_rfl,by kernel_rfl,by kernel_rfl,by kernel_rfl,by kernel_rfl,rfl,rfl,rfl,rfl,rfl⟩⟩
theorem Z2:wG Tryz.prog E 88 2 16:=⟨⟨Tryz.f88,23,4,121,_,_,by kernel_rfl,by kernel_rfl,by kernel_rfl,by kernel_rfl,by kernel_rfl,rfl,rfl,rfl,rfl,rfl⟩⟩
theorem Z3: ∀x∈Nb,wG Tryz.prog E x.1 x.2.1 x.2.2:=by
 intro x hx;simp only [Nb,List.mem_cons,List.not_mem_nil,or_false] at hx;rcases hx with rfl|rfl
 ·exact Z1
 ·exact Z2
theorem Z4: ∀x∈qn,qh Tryz.prog x.1 x.2.1 x.2.2:=by
 intro x hx;simp only [qn,List.mem_cons,List.not_mem_nil,or_false] at hx;subst hx;exact Tryz.so_ok
theorem Z5: ∀x∈nE,w8 Tryz.prog x:=by
 intro x hx;simp only [nE,List.not_mem_nil] at hx
theorem Z6: ∀x∈lM,qk Tryz.prog x:=by
 intro x hx;simp only [lM,List.mem_cons,List.not_mem_nil,or_false] at hx;subst hx;exact Tryz.int_ok
theorem Z7: ∀x∈kids,qm Tryz.prog x:=by
 intro x hx;simp only [kids,List.not_mem_nil] at hx
theorem zV: ∀f ys H K,C.ext f ys H K→ ∃v H',cb Tryz.prog f ys H (fun v1 H1=>v1=v∧H1=H')∧K v H' :=Eb (I:=Ih) mixed hE Z3 Z4 Z5 Z6 Z7 (fun _ hx=>absurd hx (List.not_mem_nil))
def Pe (x:Int):Prop:=AZ .u8 x
theorem Z8:Rd Tryz.prog 5 1 (fun n:Int=>[.int .u8 n]) Pe:=Rd.int (by kernel_rfl) (by kernel_rfl)
def Ro (x:List Int):Prop:=x.length<2^47∧ ∀b∈x,Pe b
theorem T5:Rd Tryz.prog 22 1 (fun l:List Int=>[.fz (l.map (AV.int .u8))]) Ro:=Z8.sl (by decide) (AV.int .u8) (fun _=>rfl) (by kernel_rfl) (by kernel_rfl) (of_decide_eq_true (by kernel_rfl))
end Go.GC
