/- The seat's shared words: the policy's conditions hold of the program, and what the laws' arguments read as. -/
import Derived.Test.YtmmomohapflagaaProg
import Derived.Test.YtmmomohapflagaaViG
import Derived.Test.YtmmomohapflagaaVaF
import Derived.KernelRfl
open Go Go.VS Go.Proofs
set_option maxRecDepth 100000
namespace Go.HC
theorem hE: ∀t ti,C.E t=some ti→aV Try.prog t ti:=by
 intro t ti h;have h:E t=some ti:=h;unfold E at h;split at h;all_goals first|(obtain rfl:=Option.some.inj h;exact Az (by kernel_rfl))|simp at h
theorem hC: ∀f fn,C.code f=some fn→Try.prog.funcs[f]? =some fn∧(fn.name== "runtime.NumGoroutine")=false∧na (C.gi f) fn=true:=by
 intro f fn h;have h:code f=some fn:=h;unfold code at h;split at h;all_goals first|(obtain rfl:=Option.some.inj h;exact ⟨by kernel_rfl,by kernel_rfl,by kernel_rfl⟩)|simp at h
theorem own:ownKnob Try.prog.godebug=none:=by kernel_rfl
theorem laidOut:laidOutB Try.prog=true:=by kernel_rfl
theorem mixed:Try.prog.follows .mixedOrders=true:=by kernel_rfl
theorem abk:zY Try.prog E 166 1 8:=⟨⟨Try.f166,23,4,3,_,_,by kernel_rfl,by kernel_rfl,by kernel_rfl,by kernel_rfl,by kernel_rfl,rfl,rfl,rfl,rfl,rfl⟩⟩
theorem abl: ∀x∈LK,zY Try.prog E x.1 x.2.1 x.2.2:=by
 intro x hx;simp only [LK,List.mem_cons,List.not_mem_nil,or_false] at hx;subst hx;exact abk
theorem y8: ∀f ys H K,C.ext f ys H K→ ∃v H',cW Try.prog f ys H (fun v1 H1=>v1=v∧H1=H')∧K v H' :=Cx mixed hE abl
def O6 (x:Int):Prop:=Ag .u8 x
theorem rd5:Rd Try.prog 5 1 (fun n:Int=>[.int .u8 n]) O6:=Rd.int (by kernel_rfl) (by kernel_rfl)
def Rb (x:List Int):Prop:=x.length<2^47∧ ∀b∈x,O6 b
theorem TO:Rd Try.prog 22 1 (fun l:List Int=>[.fz (l.map (AV.int .u8))]) Rb:=rd5.sl (by decide) (AV.int .u8) (fun _=>rfl) (by kernel_rfl) (by kernel_rfl) (of_decide_eq_true (by kernel_rfl))
end Go.HC
