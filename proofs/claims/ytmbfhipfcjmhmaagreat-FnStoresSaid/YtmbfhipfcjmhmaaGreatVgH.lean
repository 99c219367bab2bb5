/- The seat's shared words: the policy's conditions hold of the program, and what the laws' arguments read as. -/
import Derived.Test.YtmbfhipfcjmhmaaGreatProg
import Derived.Test.YtmbfhipfcjmhmaaGreatVgG
import Derived.Test.YtmbfhipfcjmhmaaGreatVaF
import Derived.Test.YtmbfhipfcjmhmaaGreatVgS
import Derived.KernelRfl
open Go Go.VS Go.Proofs
set_option maxRecDepth 100000
namespace Go.JN
theorem hE: ∀t ti,C.E t=some ti→aU Tryz.prog t ti:=by
 intro t ti h;have h:E t=some ti:=h;unfold E at h;split at h;all_goals first|(obtain rfl:=Option.some.inj h;exact D9 (by kernel_rfl))|simp at h
theorem hC: ∀f fn,C.code f=some fn→Tryz.prog.funcs[f]? =some fn∧(fn.name== "runtime.NumGoroutine")=false∧pw (C.fU f) fn=true:=by
 intro f fn h;have h:code f=some fn:=h;unfold code at h;split at h;all_goals first|(obtain rfl:=Option.some.inj h;exact ⟨by kernel_rfl,by kernel_rfl,by kernel_rfl⟩)|simp at h
theorem own:ownKnob Tryz.prog.godebug=none:=by kernel_rfl
theorem laidOut:laidOutB Tryz.prog=true:=by kernel_rfl
theorem mixed:Tryz.prog.follows .mixedOrders=true:=by kernel_rfl
theorem adx:yO Tryz.prog E 110 4 56:=⟨⟨Tryz.f110,25,4,99,_,_,by kernel_rfl,by kernel_rfl,by kernel_rfl,by kernel_rfl,by kernel_rfl,rfl,rfl,rfl,rfl,rfl⟩⟩
theorem ady:yO Tryz.prog E 111 1 8:=⟨⟨Tryz.f111,26,4,3,_,_,by kernel_rfl,by kernel_rfl,by kernel_rfl,by kernel_rfl,by kernel_rfl,rfl,rfl,rfl,rfl,rfl⟩⟩
theorem adz:yO Tryz.prog E 112 2 16:=⟨⟨Tryz.f112,97,4,153,_,_,by kernel_rfl,by kernel_rfl,by kernel_rfl,by kernel_rfl,by kernel_rfl,rfl,rfl,rfl,rfl,rfl⟩⟩
theorem adA: ∀x∈JG,kQ Tryz.prog x.1 x.2:=by
 intro x hx;simp only [JG,List.mem_cons,List.not_mem_nil,or_false] at hx;rcases hx with rfl|rfl|rfl|rfl|rfl|rfl|rfl
 ·exact Tryz.ins_ok.gen (by decide)
 ·exact Tryz.int_ok.gen
 ·exact adx.gen mixed hE
 ·exact ady.gen mixed hE
 ·exact adz.gen mixed hE
 ·exact Tryz.rep_ok.gen
 ·exact Tryz.so_ok.gen
theorem Cv: ∀f ys H K,C.ext f ys H K→ ∃v H',b_ Tryz.prog f ys H (fun v1 H1=>v1=v∧H1=H')∧K v H' :=G7 adA
def SY (x:Int):Prop:=Dj .u8 x
theorem rd5:Rd Tryz.prog 5 1 (fun n:Int=>[.int .u8 n]) SY:=Rd.int (by kernel_rfl) (by kernel_rfl)
def Ve (x:List Int):Prop:=x.length<2^47∧ ∀b∈x,SY b
theorem X_:Rd Tryz.prog 22 1 (fun l:List Int=>[.fz (l.map (AV.int .u8))]) Ve:=rd5.sl (by decide) (AV.int .u8) (fun _=>rfl) (by kernel_rfl) (by kernel_rfl) (of_decide_eq_true (by kernel_rfl))
end Go.JN
