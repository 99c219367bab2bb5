/- The seat's shared words: the policy's conditions hold of the program, and what the laws' arguments read as. -/
import Derived.Test.YtmmomohapflagaaProg
import Derived.Test.YtmmomohapflagaaVkG
import Derived.Test.YtmmomohapflagaaVaF
import Derived.Test.YtmmomohapflagaaVkS
import Derived.KernelRfl
open Go Go.VS Go.Proofs
set_option maxRecDepth 100000
namespace Go.Fc
theorem hE: ∀t ti,C.E t=some ti→aR Try.prog t ti:=by
 intro t ti h;have h:E t=some ti:=h;unfold E at h;split at h;all_goals first|(obtain rfl:=Option.some.inj h;exact Bl (by kernel_rfl))|simp at h
theorem hC: ∀f fn,C.code f=some fn→Try.prog.funcs[f]? =some fn∧(fn.name== "runtime.NumGoroutine")=false∧nE (C.gb f) fn=true:=by
 intro f fn h;have h:code f=some fn:=h;unfold code at h;split at h;all_goals first|(obtain rfl:=Option.some.inj h;exact ⟨by kernel_rfl,by kernel_rfl,by kernel_rfl⟩)|simp at h
theorem own:ownKnob Try.prog.godebug=none:=by kernel_rfl
theorem laidOut:laidOutB Try.prog=true:=by kernel_rfl
theorem mixed:Try.prog.follows .mixedOrders=true:=by kernel_rfl
theorem Th:wx Try.prog E 254 2 16:=⟨⟨Try.f254,108,4,104,_,_,by kernel_rfl,by kernel_rfl,by kernel_rfl,by kernel_rfl,by kernel_rfl,rfl,rfl,rfl,rfl,rfl⟩⟩
theorem Ti: ∀x∈Ky,wx Try.prog E x.1 x.2.1 x.2.2:=by
 intro x hx;simp only [Ky,List.mem_cons,List.not_mem_nil,or_false] at hx;subst hx;exact Th
theorem Tj: ∀x∈qc,p9 Try.prog x.1 x.2.1 x.2.2:=by
 intro x hx;simp only [qc,List.mem_cons,List.not_mem_nil,or_false] at hx;subst hx;exact Try.so_ok
theorem Tk: ∀x∈nt,wO Try.prog x:=by
 intro x hx;simp only [nt,List.not_mem_nil] at hx
theorem Tl: ∀x∈nu,qb Try.prog x:=by
 intro x hx;simp only [nu,List.not_mem_nil] at hx
theorem zC: ∀f ys H K,C.ext f ys H K→ ∃v H',cq Try.prog f ys H (fun v1 H1=>v1=v∧H1=H')∧K v H' :=Dq (I:=HG) mixed hE Ti Tj Tk Tl
def KZ (x:Int):Prop:=AA .u8 x
theorem Tm:Rd Try.prog 5 1 (fun n:Int=>[.int .u8 n]) KZ:=Rd.int (by kernel_rfl) (by kernel_rfl)
def MD (x:List Int):Prop:=x.length<2^47∧ ∀b∈x,KZ b
theorem OD:Rd Try.prog 22 1 (fun l:List Int=>[.fz (l.map (AV.int .u8))]) MD:=Tm.sl (by decide) (AV.int .u8) (fun _=>rfl) (by kernel_rfl) (by kernel_rfl) (of_decide_eq_true (by kernel_rfl))
end Go.Fc
