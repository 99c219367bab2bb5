/- The seat's shared words: the policy's conditions hold of the program, and what the laws' arguments read as. -/
import Derived.Test.YtclgbpneokeaeaaProg
import Derived.Test.YtclgbpneokeaeaaVfG
import Derived.Test.YtclgbpneokeaeaaVaF
import Derived.Test.YtclgbpneokeaeaaVfS
import Derived.KernelRfl
open Go Go.VS Go.Proofs
set_option maxRecDepth 100000
namespace Go.Hm
theorem hE: ∀t ti,C.E t=some ti→aS Try.prog t ti:=by
 intro t ti h;have h:E t=some ti:=h;unfold E at h;split at h;all_goals first|(obtain rfl:=Option.some.inj h;exact CG (by kernel_rfl))|simp at h
theorem hC: ∀f fn,C.code f=some fn→Try.prog.funcs[f]? =some fn∧(fn.name== "runtime.NumGoroutine")=false∧oi (C.fT f) fn=true:=by
 intro f fn h;have h:code f=some fn:=h;unfold code at h;split at h;all_goals first|(obtain rfl:=Option.some.inj h;exact ⟨by kernel_rfl,by kernel_rfl,by kernel_rfl⟩)|simp at h
theorem own:ownKnob Try.prog.godebug=none:=by kernel_rfl
theorem laidOut:laidOutB Try.prog=true:=by kernel_rfl
theorem mixed:Try.prog.follows .mixedOrders=true:=by kernel_rfl
theorem V0:xx Try.prog E 133 2 16:=⟨⟨Try.f133,53,4,109,_,_,by kernel_rfl,by kernel_rfl,by kernel_rfl,by kernel_rfl,by kernel_rfl,rfl,rfl,rfl,rfl,rfl⟩⟩
theorem V1: ∀x∈MY,xx Try.prog E x.1 x.2.1 x.2.2:=by
 intro x hx;simp only [MY,List.mem_cons,List.not_mem_nil,or_false] at hx;subst hx;exact V0
theorem V2: ∀x∈qX,qS Try.prog x.1 x.2.1 x.2.2:=by
 intro x hx;simp only [qX,List.mem_cons,List.not_mem_nil,or_false] at hx;subst hx;exact Try.so_ok
theorem V3: ∀x∈mb,xQ Try.prog x:=by
 intro x hx;simp only [mb,List.mem_cons,List.not_mem_nil,or_false] at hx;subst hx;exact Try.rep_ok
theorem V4: ∀x∈n5,qV Try.prog x:=by
 intro x hx;simp only [n5,List.not_mem_nil] at hx
theorem V5: ∀x∈kids,qW Try.prog x:=by
 intro x hx;simp only [kids,List.not_mem_nil] at hx
theorem Bd: ∀f ys H K,C.ext f ys H K→ ∃v H',b8 Try.prog f ys H (fun v1 H1=>v1=v∧H1=H')∧K v H' :=Fk (I:=IK) mixed hE V1 V2 V3 V4 V5 (fun _ hx=>absurd hx (List.not_mem_nil))
def Nu (x:Int):Prop:=BZ .u8 x
theorem V6:Rd Try.prog 5 1 (fun n:Int=>[.int .u8 n]) Nu:=Rd.int (by kernel_rfl) (by kernel_rfl)
def OU (x:List Int):Prop:=x.length<2^47∧ ∀b∈x,Nu b
theorem QR:Rd Try.prog 22 1 (fun l:List Int=>[.fz (l.map (AV.int .u8))]) OU:=V6.sl (by decide) (AV.int .u8) (fun _=>rfl) (by kernel_rfl) (by kernel_rfl) (of_decide_eq_true (by kernel_rfl))
end Go.Hm
