/- The seat's shared words: the policy's conditions hold of the program, and what the laws' arguments read as. -/
import Derived.Test.YtclgbpneokeaeaaProg
import Derived.Test.YtclgbpneokeaeaaVcG
import Derived.Test.YtclgbpneokeaeaaVaF
import Derived.Test.YtclgbpneokeaeaaVcS
import Derived.KernelRfl
open Go Go.VS Go.Proofs
set_option maxRecDepth 100000
namespace Go.EI
theorem hE: ∀t ti,C.E t=some ti→aQ Try.prog t ti:=by
 intro t ti h;have h:E t=some ti:=h;unfold E at h;split at h;all_goals first|(obtain rfl:=Option.some.inj h;exact Bm (by kernel_rfl))|simp at h
theorem hC: ∀f fn,C.code f=some fn→Try.prog.funcs[f]? =some fn∧(fn.name== "runtime.NumGoroutine")=false∧ny (C.gF f) fn=true:=by
 intro f fn h;have h:code f=some fn:=h;unfold code at h;split at h;all_goals first|(obtain rfl:=Option.some.inj h;exact ⟨by kernel_rfl,by kernel_rfl,by kernel_rfl⟩)|simp at h
theorem own:ownKnob Try.prog.godebug=none:=by kernel_rfl
theorem laidOut:laidOutB Try.prog=true:=by kernel_rfl
theorem mixed:Try.prog.follows .mixedOrders=true:=by kernel_rfl
theorem NN: ∀x∈HZ,wk Try.prog E x.1 x.2.1 x.2.2:=by
 intro x hx;simp only [HZ,List.not_mem_nil] at hx
theorem NO: ∀x∈wK,pW Try.prog x.1 x.2.1 x.2.2:=by
 intro x hx;simp only [wK,List.not_mem_nil] at hx
theorem NP: ∀x∈nk,wH Try.prog x:=by
 intro x hx;simp only [nk,List.not_mem_nil] at hx
theorem NQ: ∀x∈lz,p0 Try.prog x:=by
 intro x hx;simp only [lz,List.mem_cons,List.not_mem_nil,or_false] at hx;subst hx;exact Try.int_ok
theorem NR: ∀x∈kids,p7 Try.prog x:=by
 intro x hx;simp only [kids,List.mem_cons,List.not_mem_nil,or_false] at hx;subst hx;exact Try.cmp_ok
theorem zw: ∀f ys H K,C.ext f ys H K→ ∃v H',b_ Try.prog f ys H (fun v1 H1=>v1=v∧H1=H')∧K v H' :=Dg (I:=Fq) mixed hE NN NO NP NQ NR (fun _ hx=>absurd hx (List.not_mem_nil))
def Hz (x:Int):Prop:=Ax .u8 x
theorem NS:Rd Try.prog 5 1 (fun n:Int=>[.int .u8 n]) Hz:=Rd.int (by kernel_rfl) (by kernel_rfl)
def IH (x:List Int):Prop:=x.length<2^47∧ ∀b∈x,Hz b
theorem Ko:Rd Try.prog 22 1 (fun l:List Int=>[.fz (l.map (AV.int .u8))]) IH:=NS.sl (by decide) (AV.int .u8) (fun _=>rfl) (by kernel_rfl) (by kernel_rfl) (of_decide_eq_true (by kernel_rfl))
end Go.EI
