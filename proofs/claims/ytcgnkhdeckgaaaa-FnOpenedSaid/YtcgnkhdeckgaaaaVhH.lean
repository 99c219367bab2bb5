/- The seat's shared words: the policy's conditions hold of the program, and what the laws' arguments read as. -/
import Derived.Test.YtcgnkhdeckgaaaaProg
import Derived.Test.YtcgnkhdeckgaaaaVhG
import Derived.Test.YtcgnkhdeckgaaaaVaF
import Derived.KernelRfl
open Go Go.VS Go.Proofs
set_option maxRecDepth 100000
namespace Go.VxW
theorem hE : ∀ t ti, C.E t = some ti → TyOK Try.prog t ti := by
  intro t ti h
  have h : E t = some ti := h
  unfold E at h
  split at h
  all_goals first | (obtain rfl := Option.some.inj h; exact tiOf_ok (by kernel_rfl)) | simp at h
theorem hC : ∀ f fn, C.code f = some fn → Try.prog.funcs[f]? = some fn ∧ (fn.name == "runtime.NumGoroutine") = false ∧ ordsB (C.pol f) fn = true := by
  intro f fn h
  have h : code f = some fn := h
  unfold code at h
  split at h
  all_goals first | (obtain rfl := Option.some.inj h; exact ⟨by kernel_rfl, by kernel_rfl, by kernel_rfl⟩) | simp at h
theorem own : ownKnob Try.prog.godebug = none := by kernel_rfl
theorem laidOut : laidOutB Try.prog = true := by kernel_rfl
theorem mixed : Try.prog.follows .mixedOrders = true := by kernel_rfl
theorem cl235 : CloneOK Try.prog E 235 3 24 := ⟨⟨Try.f235, 83, 4, 91, _, _, by kernel_rfl, by kernel_rfl, by kernel_rfl, by kernel_rfl, by kernel_rfl, rfl, rfl, rfl, rfl, rfl⟩⟩
theorem clAll : ∀ x ∈ cids, CloneOK Try.prog E x.1 x.2.1 x.2.2 := by
  intro x hx
  simp only [cids, List.mem_cons, List.not_mem_nil, or_false] at hx
  subst hx
  exact cl235
theorem hext : ∀ f ys H K, C.ext f ys H K → ∃ v H', Sim Try.prog f ys H (fun v1 H1 => v1 = v ∧ H1 = H') ∧ K v H' := clone_hext mixed hE clAll
def ok5 (x : Int) : Prop := inK .u8 x
theorem rd5 : Rd Try.prog 5 1 (fun n : Int => [.int .u8 n]) ok5 := Rd.int (by kernel_rfl) (by kernel_rfl)
def ok41 (x : List Int) : Prop := x.length < 2 ^ 47 ∧ ∀ b ∈ x, ok5 b
theorem rd41 : Rd Try.prog 41 1 (fun l : List Int => [.fz (l.map (AV.int .u8))]) ok41 := rd5.sl (by decide) (AV.int .u8) (fun _ => rfl) (by kernel_rfl) (by kernel_rfl) (of_decide_eq_true (by kernel_rfl))
end Go.VxW
