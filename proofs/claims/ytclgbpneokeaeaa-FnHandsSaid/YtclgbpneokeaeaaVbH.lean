/- The seat's shared words: the policy's conditions hold of the program, and what the laws' arguments read as. -/
import Derived.Test.YtclgbpneokeaeaaProg
import Derived.Test.YtclgbpneokeaeaaVbG
import Derived.Test.YtclgbpneokeaeaaVaF
import Derived.KernelRfl
open Go Go.VS Go.Proofs
set_option maxRecDepth 100000
namespace Go.DN
theorem hE: ∀t ti,C.E t=some ti→aT Try.prog t ti:=by
 intro t ti h;have h:E t=some ti:=h;unfold E at h;split at h;all_goals first|(obtain rfl:=Option.some.inj h;exact y_ (by kernel_rfl))|simp at h
theorem hC: ∀f fn,C.code f=some fn→Try.prog.funcs[f]? =some fn∧(fn.name== "runtime.NumGoroutine")=false∧mG (C.fM f) fn=true:=by
 intro f fn h;have h:code f=some fn:=h;unfold code at h;split at h;all_goals first|(obtain rfl:=Option.some.inj h;exact ⟨by kernel_rfl,by kernel_rfl,by kernel_rfl⟩)|simp at h
theorem own:ownKnob Try.prog.godebug=none:=by kernel_rfl
theorem laidOut:laidOutB Try.prog=true:=by kernel_rfl
theorem mixed:Try.prog.follows .mixedOrders=true:=by kernel_rfl
theorem ye: ∀f ys H K,C.ext f ys H K→ ∃v H',db Try.prog f ys H (fun v1 H1=>v1=v∧H1=H')∧K v H' :=fun _ _ _ _ h=>h.elim
def IK (x:Int):Prop:=yR .u8 x
theorem QF:Rd Try.prog 5 1 (fun n:Int=>[.int .u8 n]) IK:=Rd.int (by kernel_rfl) (by kernel_rfl)
def Kg (x:List Int):Prop:=x.length<2^47∧ ∀b∈x,IK b
theorem Mm:Rd Try.prog 22 1 (fun l:List Int=>[.fz (l.map (AV.int .u8))]) Kg:=QF.sl (by decide) (AV.int .u8) (fun _=>rfl) (by kernel_rfl) (by kernel_rfl) (of_decide_eq_true (by kernel_rfl))
end Go.DN
