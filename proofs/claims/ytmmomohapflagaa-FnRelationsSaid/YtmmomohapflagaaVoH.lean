/- The seat's shared words: the policy's conditions hold of the program, and what the laws' arguments read as. -/
import Derived.Test.YtmmomohapflagaaProg
import Derived.Test.YtmmomohapflagaaVoG
import Derived.Test.YtmmomohapflagaaVaF
import Derived.Test.YtmmomohapflagaaVoS
import Derived.KernelRfl
open Go Go.VS Go.Proofs
set_option maxRecDepth 100000
namespace Go.EG
theorem hE: ∀t ti,C.E t=some ti→aQ Try.prog t ti:=by
 intro t ti h;have h:E t=some ti:=h;unfold E at h;split at h;all_goals first|(obtain rfl:=Option.some.inj h;exact AS (by kernel_rfl))|simp at h
theorem hC: ∀f fn,C.code f=some fn→Try.prog.funcs[f]? =some fn∧(fn.name== "runtime.NumGoroutine")=false∧np (C.gb f) fn=true:=by
 intro f fn h;have h:code f=some fn:=h;unfold code at h;split at h;all_goals first|(obtain rfl:=Option.some.inj h;exact ⟨by kernel_rfl,by kernel_rfl,by kernel_rfl⟩)|simp at h
theorem own:ownKnob Try.prog.godebug=none:=by kernel_rfl
theorem laidOut:laidOutB Try.prog=true:=by kernel_rfl
theorem mixed:Try.prog.follows .mixedOrders=true:=by kernel_rfl
theorem M3:wb Try.prog E 254 2 16:=⟨⟨Try.f254,108,4,104,_,_,by kernel_rfl,by kernel_rfl,by kernel_rfl,by kernel_rfl,by kernel_rfl,rfl,rfl,rfl,rfl,rfl⟩⟩
theorem M4: ∀x∈Fl,wb Try.prog E x.1 x.2.1 x.2.2:=by
 intro x hx;simp only [Fl,List.mem_cons,List.not_mem_nil,or_false] at hx;subst hx;exact M3
theorem M5: ∀x∈gF,pR Try.prog x.1 x.2.1 x.2.2:=by
 intro x hx;simp only [gF,List.mem_cons,List.not_mem_nil,or_false] at hx;subst hx;exact Try.so_ok
theorem zi: ∀f ys H K,C.ext f ys H K→ ∃v H',cz Try.prog f ys H (fun v1 H1=>v1=v∧H1=H')∧K v H' :=C3 mixed hE M4 M5
def HO (x:Int):Prop:=Ag .u8 x
theorem M6:Rd Try.prog 5 1 (fun n:Int=>[.int .u8 n]) HO:=Rd.int (by kernel_rfl) (by kernel_rfl)
def II (x:List Int):Prop:=x.length<2^47∧ ∀b∈x,HO b
theorem JU:Rd Try.prog 22 1 (fun l:List Int=>[.fz (l.map (AV.int .u8))]) II:=M6.sl (by decide) (AV.int .u8) (fun _=>rfl) (by kernel_rfl) (by kernel_rfl) (of_decide_eq_true (by kernel_rfl))
end Go.EG
