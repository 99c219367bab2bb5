/- The seat's shared words: the policy's conditions hold of the program, and what the laws' arguments read as. -/
import Derived.Test.YtmmomohapflagaaProg
import Derived.Test.YtmmomohapflagaaVjG
import Derived.Test.YtmmomohapflagaaVaF
import Derived.KernelRfl
open Go Go.VS Go.Proofs
set_option maxRecDepth 100000
namespace Go.Gq
theorem hE: ∀t ti,C.E t=some ti→aT Try.prog t ti:=by
 intro t ti h;have h:E t=some ti:=h;unfold E at h;split at h;all_goals first|(obtain rfl:=Option.some.inj h;exact Ad (by kernel_rfl))|simp at h
theorem hC: ∀f fn,C.code f=some fn→Try.prog.funcs[f]? =some fn∧(fn.name== "runtime.NumGoroutine")=false∧m8 (C.fy f) fn=true:=by
 intro f fn h;have h:code f=some fn:=h;unfold code at h;split at h;all_goals first|(obtain rfl:=Option.some.inj h;exact ⟨by kernel_rfl,by kernel_rfl,by kernel_rfl⟩)|simp at h
theorem own:ownKnob Try.prog.godebug=none:=by kernel_rfl
theorem laidOut:laidOutB Try.prog=true:=by kernel_rfl
theorem mixed:Try.prog.follows .mixedOrders=true:=by kernel_rfl
theorem Zi:zF Try.prog E 297 3 24:=⟨⟨Try.f297,71,4,87,_,_,by kernel_rfl,by kernel_rfl,by kernel_rfl,by kernel_rfl,by kernel_rfl,rfl,rfl,rfl,rfl,rfl⟩⟩
theorem Zj: ∀x∈La,zF Try.prog E x.1 x.2.1 x.2.2:=by
 intro x hx;simp only [La,List.mem_cons,List.not_mem_nil,or_false] at hx;subst hx;exact Zi
theorem yQ: ∀f ys H K,C.ext f ys H K→ ∃v H',cV Try.prog f ys H (fun v1 H1=>v1=v∧H1=H')∧K v H' :=Ch mixed hE Zj
def PZ (x:Int):Prop:=zO .u8 x
theorem Zk:Rd Try.prog 5 1 (fun n:Int=>[.int .u8 n]) PZ:=Rd.int (by kernel_rfl) (by kernel_rfl)
def RY (x:List Int):Prop:=x.length<2^47∧ ∀b∈x,PZ b
theorem Ur:Rd Try.prog 22 1 (fun l:List Int=>[.fz (l.map (AV.int .u8))]) RY:=Zk.sl (by decide) (AV.int .u8) (fun _=>rfl) (by kernel_rfl) (by kernel_rfl) (of_decide_eq_true (by kernel_rfl))
end Go.Gq
