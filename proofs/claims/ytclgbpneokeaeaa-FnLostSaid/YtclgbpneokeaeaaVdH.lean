/- The seat's shared words: the policy's conditions hold of the program, and what the laws' arguments read as. -/
import Derived.Test.YtclgbpneokeaeaaProg
import Derived.Test.YtclgbpneokeaeaaVdG
import Derived.Test.YtclgbpneokeaeaaVaF
import Derived.Test.YtclgbpneokeaeaaVdS
import Derived.KernelRfl
open Go Go.VS Go.Proofs
set_option maxRecDepth 100000
namespace Go.GB
theorem hE: ∀t ti,C.E t=some ti→aS Try.prog t ti:=by
 intro t ti h;have h:E t=some ti:=h;unfold E at h;split at h;all_goals first|(obtain rfl:=Option.some.inj h;exact BN (by kernel_rfl))|simp at h
theorem hC: ∀f fn,C.code f=some fn→Try.prog.funcs[f]? =some fn∧(fn.name== "runtime.NumGoroutine")=false∧nO (C.gq f) fn=true:=by
 intro f fn h;have h:code f=some fn:=h;unfold code at h;split at h;all_goals first|(obtain rfl:=Option.some.inj h;exact ⟨by kernel_rfl,by kernel_rfl,by kernel_rfl⟩)|simp at h
theorem own:ownKnob Try.prog.godebug=none:=by kernel_rfl
theorem laidOut:laidOutB Try.prog=true:=by kernel_rfl
theorem mixed:Try.prog.follows .mixedOrders=true:=by kernel_rfl
theorem YL:wI Try.prog E 133 2 16:=⟨⟨Try.f133,53,4,109,_,_,by kernel_rfl,by kernel_rfl,by kernel_rfl,by kernel_rfl,by kernel_rfl,rfl,rfl,rfl,rfl,rfl⟩⟩
theorem YM:wI Try.prog E 142 1 8:=⟨⟨Try.f142,23,4,3,_,_,by kernel_rfl,by kernel_rfl,by kernel_rfl,by kernel_rfl,by kernel_rfl,rfl,rfl,rfl,rfl,rfl⟩⟩
theorem YN: ∀x∈Mh,wI Try.prog E x.1 x.2.1 x.2.2:=by
 intro x hx;simp only [Mh,List.mem_cons,List.not_mem_nil,or_false] at hx;rcases hx with rfl|rfl
 ·exact YL
 ·exact YM
theorem YO: ∀x∈qo,qh Try.prog x.1 x.2.1 x.2.2:=by
 intro x hx;simp only [qo,List.mem_cons,List.not_mem_nil,or_false] at hx;subst hx;exact Try.so_ok
theorem YP: ∀x∈nF,w_ Try.prog x:=by
 intro x hx;simp only [nF,List.not_mem_nil] at hx
theorem YQ: ∀x∈lO,qk Try.prog x:=by
 intro x hx;simp only [lO,List.mem_cons,List.not_mem_nil,or_false] at hx;subst hx;exact Try.int_ok
theorem YR: ∀x∈kids,qm Try.prog x:=by
 intro x hx;simp only [kids,List.mem_cons,List.not_mem_nil,or_false] at hx;subst hx;exact Try.cmp_ok
theorem zZ: ∀f ys H K,C.ext f ys H K→ ∃v H',cb Try.prog f ys H (fun v1 H1=>v1=v∧H1=H')∧K v H' :=Ed (I:=Hi) mixed hE YN YO YP YQ YR (fun _ hx=>absurd hx (List.not_mem_nil))
def Ox (x:Int):Prop:=A_ .u8 x
theorem YS:Rd Try.prog 5 1 (fun n:Int=>[.int .u8 n]) Ox:=Rd.int (by kernel_rfl) (by kernel_rfl)
def Qa (x:List Int):Prop:=x.length<2^47∧ ∀b∈x,Ox b
theorem SD:Rd Try.prog 22 1 (fun l:List Int=>[.fz (l.map (AV.int .u8))]) Qa:=YS.sl (by decide) (AV.int .u8) (fun _=>rfl) (by kernel_rfl) (by kernel_rfl) (of_decide_eq_true (by kernel_rfl))
end Go.GB
