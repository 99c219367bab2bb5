/- The seat's shared words: the policy's conditions hold of the program, and what the laws' arguments read as. -/
import Derived.Test.YtcgnkhdeckgaaaaProg
import Derived.Test.YtcgnkhdeckgaaaaVmG
import Derived.Test.YtcgnkhdeckgaaaaVaF
import Derived.KernelRfl
open Go Go.VS Go.Proofs
set_option maxRecDepth 100000
namespace Go.VxW
theorem hE : ∀ t ti, C.E t = some ti → TyOK Try.prog t ti := by
  intro t ti h
  have h : E t = some ti := h
  unfold E at h
  split at h
  all_goals first | (obtain rfl := Option.some.inj h; exact tiOf_ok (by kernel_rfl)) | simp at h
theorem hC : ∀ f fn, C.code f = some fn → Try.prog.funcs[f]? = some fn ∧ (fn.name == "runtime.NumGoroutine") = false ∧ ordsB (C.pol f) fn = true := by
  intro f fn h
  have h : code f = some fn := h
  unfold code at h
  split at h
  all_goals first | (obtain rfl := Option.some.inj h; exact ⟨by kernel_rfl, by kernel_rfl, by kernel_rfl⟩) | simp at h
theorem own : ownKnob Try.prog.godebug = none := by kernel_rfl
theorem laidOut : laidOutB Try.prog = true := by kernel_rfl
theorem mixed : Try.prog.follows .mixedOrders = true := by kernel_rfl
theorem cl213 : CloneOK Try.prog E 213 1 8 := ⟨⟨Try.f213, 22, 4, 3, _, _, by kernel_rfl, by kernel_rfl, by kernel_rfl, by kernel_rfl, by kernel_rfl, rfl, rfl, rfl, rfl, rfl⟩⟩
theorem clAll : ∀ x ∈ cids, CloneOK Try.prog E x.1 x.2.1 x.2.2 := by
  intro x hx
  simp only [cids, List.mem_cons, List.not_mem_nil, or_false] at hx
  subst hx
  exact cl213
theorem hext : ∀ f ys H K, C.ext f ys H K → ∃ v H', Sim Try.prog f ys H (fun v1 H1 => v1 = v ∧ H1 = H') ∧ K v H' := clone_hext mixed hE clAll
def ok3 (x : Int) : Prop := inK .i64 x
theorem rd3 : Rd Try.prog 3 1 (fun n : Int => [.int .i64 n]) ok3 := Rd.int (by kernel_rfl) (by kernel_rfl)
def ok22 (x : List Int) : Prop := x.length < 2 ^ 47 ∧ ∀ b ∈ x, ok3 b
theorem rd22 : Rd Try.prog 22 1 (fun l : List Int => [.fz (l.map (AV.int .i64))]) ok22 := rd3.sl (by decide) (AV.int .i64) (fun _ => rfl) (by kernel_rfl) (by kernel_rfl) (of_decide_eq_true (by kernel_rfl))
def ok23 (x : List (List Int)) : Prop := x.length < 2 ^ 47 ∧ ∀ b ∈ x, ok22 b
theorem rd23 : Rd Try.prog 23 1 (fun l : List (List Int) => [.fz (l.map (fzl (AV.int .i64)))]) ok23 := rd22.sl (by decide) (fzl (AV.int .i64)) (fun _ => rfl) (by kernel_rfl) (by kernel_rfl) (of_decide_eq_true (by kernel_rfl))
def ok25 (x : Turns) : Prop := ok22 x.Quanta ∧ ok23 x.Queues ∧ ok22 x.Credit ∧ ok22 x.Sent ∧ ok3 x.At
theorem rd25 : Rd Try.prog 25 5 (fun x : Turns => [.fz (x.Quanta.map (AV.int .i64)), .fz (x.Queues.map (fzl (AV.int .i64))), .fz (x.Credit.map (AV.int .i64)), .fz (x.Sent.map (AV.int .i64)), .int .i64 x.At]) ok25 :=
  (Rd.st (fs := [(0, 22), (1, 23), (2, 22), (3, 22), (4, 3)]) (by kernel_rfl) (by kernel_rfl) (RdF.cons rd22 (RdF.cons rd23 (RdF.cons rd22 (RdF.cons rd22 (RdF.cons rd3 RdF.nil)))))).map (fun x => (⟨x.1, x.2.1, x.2.2.1, x.2.2.2.1, x.2.2.2.2.1⟩ : Turns)) (fun _ => rfl) (fun _ => rfl) (fun _ h => ⟨h.1, h.2.1, h.2.2.1, h.2.2.2.1, h.2.2.2.2.1⟩)
end Go.VxW
