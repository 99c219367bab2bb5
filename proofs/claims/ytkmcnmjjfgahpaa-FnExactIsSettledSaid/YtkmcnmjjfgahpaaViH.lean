/- The seat's shared words: the policy's conditions hold of the program, and what the laws' arguments read as. -/
import Derived.Test.YtkmcnmjjfgahpaaProg
import Derived.Test.YtkmcnmjjfgahpaaViG
import Derived.Test.YtkmcnmjjfgahpaaVaE
import Derived.KernelRfl
open Go Go.VS Go.Proofs
set_option maxRecDepth 100000
namespace Go.VxW
theorem hE : ∀ t ti, C.E t = some ti → TyOK Try.prog t ti := by
  intro t ti h
  have h : E t = some ti := h
  unfold E at h
  split at h
  all_goals first | (obtain rfl := Option.some.inj h; exact tiOf_ok (by kernel_rfl)) | simp at h
theorem hC : ∀ f fn, C.code f = some fn → Try.prog.funcs[f]? = some fn ∧ (fn.name == "runtime.NumGoroutine") = false ∧ ordsB (C.pol f) fn = true := by
  intro f fn h
  have h : code f = some fn := h
  unfold code at h
  split at h
  all_goals first | (obtain rfl := Option.some.inj h; exact ⟨by kernel_rfl, by kernel_rfl, by kernel_rfl⟩) | simp at h
theorem own : ownKnob Try.prog.godebug = none := by kernel_rfl
theorem laidOut : laidOutB Try.prog = true := by kernel_rfl
theorem mixed : Try.prog.follows .mixedOrders = true := by kernel_rfl
theorem hext : ∀ f ys H K, C.ext f ys H K → ∃ v H', Sim Try.prog f ys H (fun v1 H1 => v1 = v ∧ H1 = H') ∧ K v H' := fun _ _ _ _ h => h.elim
def ok3 (x : Int) : Prop := inK .i64 x
theorem rd3 : Rd Try.prog 3 1 (fun n : Int => [.int .i64 n]) ok3 := Rd.int (by kernel_rfl) (by kernel_rfl)
def ok4 (_ : Bool) : Prop := True
theorem rd4 : Rd Try.prog 4 1 (fun b : Bool => [.bool b]) ok4 := Rd.bool (by kernel_rfl) (by kernel_rfl)
def ok186 (x : Case) : Prop := ok3 x.End ∧ ok4 x.Asks ∧ ok3 x.Final ∧ ok3 x.Said
theorem rd186 : Rd Try.prog 186 4 (fun x : Case => [.int .i64 x.End, .bool x.Asks, .int .i64 x.Final, .int .i64 x.Said]) ok186 :=
  (Rd.st (fs := [(0, 3), (1, 4), (2, 3), (3, 3)]) (by kernel_rfl) (by kernel_rfl) (RdF.cons rd3 (RdF.cons rd4 (RdF.cons rd3 (RdF.cons rd3 RdF.nil))))).map (fun x => (⟨x.1, x.2.1, x.2.2.1, x.2.2.2.1⟩ : Case)) (fun _ => rfl) (fun _ => rfl) (fun _ h => ⟨h.1, h.2.1, h.2.2.1, h.2.2.2.1⟩)
def ok34 (x : List Case) : Prop := x.length ≤ maxLen ∧ ∀ b ∈ x, ok186 b
theorem rd34 : Rd Try.prog 34 1 (fun l : List Case => [.fz (l.map e_Case)]) ok34 := rd186.sl (by decide) e_Case (fun _ => rfl) (by kernel_rfl) (by kernel_rfl)
def ok188 (x : Slip) : Prop := ok3 x.Kind ∧ ok3 x.Case ∧ ok3 x.What
theorem rd188 : Rd Try.prog 188 3 (fun x : Slip => [.int .i64 x.Kind, .int .i64 x.Case, .int .i64 x.What]) ok188 :=
  (Rd.st (fs := [(0, 3), (1, 3), (2, 3)]) (by kernel_rfl) (by kernel_rfl) (RdF.cons rd3 (RdF.cons rd3 (RdF.cons rd3 RdF.nil)))).map (fun x => (⟨x.1, x.2.1, x.2.2.1⟩ : Slip)) (fun _ => rfl) (fun _ => rfl) (fun _ h => ⟨h.1, h.2.1, h.2.2.1⟩)
def ok35 (x : List Slip) : Prop := x.length ≤ maxLen ∧ ∀ b ∈ x, ok188 b
theorem rd35 : Rd Try.prog 35 1 (fun l : List Slip => [.fz (l.map e_Slip)]) ok35 := rd188.sl (by decide) e_Slip (fun _ => rfl) (by kernel_rfl) (by kernel_rfl)
def ok37 (x : Court) : Prop := ok3 x.Now ∧ ok34 x.Cases ∧ ok35 x.Line
theorem rd37 : Rd Try.prog 37 3 (fun x : Court => [.int .i64 x.Now, .fz (x.Cases.map e_Case), .fz (x.Line.map e_Slip)]) ok37 :=
  (Rd.st (fs := [(0, 3), (1, 34), (2, 35)]) (by kernel_rfl) (by kernel_rfl) (RdF.cons rd3 (RdF.cons rd34 (RdF.cons rd35 RdF.nil)))).map (fun x => (⟨x.1, x.2.1, x.2.2.1⟩ : Court)) (fun _ => rfl) (fun _ => rfl) (fun _ h => ⟨h.1, h.2.1, h.2.2.1⟩)
end Go.VxW
