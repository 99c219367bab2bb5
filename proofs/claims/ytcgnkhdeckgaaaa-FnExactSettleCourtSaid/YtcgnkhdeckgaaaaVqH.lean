/- The seat's shared words: the policy's conditions hold of the program, and what the laws' arguments read as. -/
import Derived.Test.YtcgnkhdeckgaaaaProg
import Derived.Test.YtcgnkhdeckgaaaaVqG
import Derived.Test.YtcgnkhdeckgaaaaVaF
import Derived.KernelRfl
open Go Go.VS Go.Proofs
set_option maxRecDepth 100000
namespace Go.VxW
theorem hE : ∀ t ti, C.E t = some ti → TyOK Try.prog t ti := by
  intro t ti h
  have h : E t = some ti := h
  unfold E at h
  split at h
  all_goals first | (obtain rfl := Option.some.inj h; exact tiOf_ok (by kernel_rfl)) | simp at h
theorem hC : ∀ f fn, C.code f = some fn → Try.prog.funcs[f]? = some fn ∧ (fn.name == "runtime.NumGoroutine") = false ∧ ordsB (C.pol f) fn = true := by
  intro f fn h
  have h : code f = some fn := h
  unfold code at h
  split at h
  all_goals first | (obtain rfl := Option.some.inj h; exact ⟨by kernel_rfl, by kernel_rfl, by kernel_rfl⟩) | simp at h
theorem own : ownKnob Try.prog.godebug = none := by kernel_rfl
theorem laidOut : laidOutB Try.prog = true := by kernel_rfl
theorem mixed : Try.prog.follows .mixedOrders = true := by kernel_rfl
theorem cl231 : CloneOK Try.prog E 231 4 32 := ⟨⟨Try.f231, 65, 4, 78, _, _, by kernel_rfl, by kernel_rfl, by kernel_rfl, by kernel_rfl, by kernel_rfl, rfl, rfl, rfl, rfl, rfl⟩⟩
theorem cl232 : CloneOK Try.prog E 232 3 24 := ⟨⟨Try.f232, 66, 4, 161, _, _, by kernel_rfl, by kernel_rfl, by kernel_rfl, by kernel_rfl, by kernel_rfl, rfl, rfl, rfl, rfl, rfl⟩⟩
theorem clAll : ∀ x ∈ cids, CloneOK Try.prog E x.1 x.2.1 x.2.2 := by
  intro x hx
  simp only [cids, List.mem_cons, List.not_mem_nil, or_false] at hx
  rcases hx with rfl | rfl
  · exact cl231
  · exact cl232
theorem hext : ∀ f ys H K, C.ext f ys H K → ∃ v H', Sim Try.prog f ys H (fun v1 H1 => v1 = v ∧ H1 = H') ∧ K v H' := clone_hext mixed hE clAll
def ok3 (x : Int) : Prop := inK .i64 x
theorem rd3 : Rd Try.prog 3 1 (fun n : Int => [.int .i64 n]) ok3 := Rd.int (by kernel_rfl) (by kernel_rfl)
def ok4 (_ : Bool) : Prop := True
theorem rd4 : Rd Try.prog 4 1 (fun b : Bool => [.bool b]) ok4 := Rd.bool (by kernel_rfl) (by kernel_rfl)
def ok238 (x : Case) : Prop := ok3 x.End ∧ ok4 x.Asks ∧ ok3 x.Final ∧ ok3 x.Said
theorem rd238 : Rd Try.prog 238 4 (fun x : Case => [.int .i64 x.End, .bool x.Asks, .int .i64 x.Final, .int .i64 x.Said]) ok238 :=
  (Rd.st (fs := [(0, 3), (1, 4), (2, 3), (3, 3)]) (by kernel_rfl) (by kernel_rfl) (RdF.cons rd3 (RdF.cons rd4 (RdF.cons rd3 (RdF.cons rd3 RdF.nil))))).map (fun x => (⟨x.1, x.2.1, x.2.2.1, x.2.2.2.1⟩ : Case)) (fun _ => rfl) (fun _ => rfl) (fun _ h => ⟨h.1, h.2.1, h.2.2.1, h.2.2.2.1⟩)
def ok116 (x : List Case) : Prop := x.length < 2 ^ 47 ∧ ∀ b ∈ x, ok238 b
theorem rd116 : Rd Try.prog 116 1 (fun l : List Case => [.fz (l.map e_Case)]) ok116 := rd238.sl (by decide) e_Case (fun _ => rfl) (by kernel_rfl) (by kernel_rfl) (of_decide_eq_true (by kernel_rfl))
def ok240 (x : Slip) : Prop := ok3 x.Kind ∧ ok3 x.Case ∧ ok3 x.What
theorem rd240 : Rd Try.prog 240 3 (fun x : Slip => [.int .i64 x.Kind, .int .i64 x.Case, .int .i64 x.What]) ok240 :=
  (Rd.st (fs := [(0, 3), (1, 3), (2, 3)]) (by kernel_rfl) (by kernel_rfl) (RdF.cons rd3 (RdF.cons rd3 (RdF.cons rd3 RdF.nil)))).map (fun x => (⟨x.1, x.2.1, x.2.2.1⟩ : Slip)) (fun _ => rfl) (fun _ => rfl) (fun _ h => ⟨h.1, h.2.1, h.2.2.1⟩)
def ok117 (x : List Slip) : Prop := x.length < 2 ^ 47 ∧ ∀ b ∈ x, ok240 b
theorem rd117 : Rd Try.prog 117 1 (fun l : List Slip => [.fz (l.map e_Slip)]) ok117 := rd240.sl (by decide) e_Slip (fun _ => rfl) (by kernel_rfl) (by kernel_rfl) (of_decide_eq_true (by kernel_rfl))
def ok119 (x : Court) : Prop := ok3 x.Now ∧ ok116 x.Cases ∧ ok117 x.Line
theorem rd119 : Rd Try.prog 119 3 (fun x : Court => [.int .i64 x.Now, .fz (x.Cases.map e_Case), .fz (x.Line.map e_Slip)]) ok119 :=
  (Rd.st (fs := [(0, 3), (1, 116), (2, 117)]) (by kernel_rfl) (by kernel_rfl) (RdF.cons rd3 (RdF.cons rd116 (RdF.cons rd117 RdF.nil)))).map (fun x => (⟨x.1, x.2.1, x.2.2.1⟩ : Court)) (fun _ => rfl) (fun _ => rfl) (fun _ h => ⟨h.1, h.2.1, h.2.2.1⟩)
end Go.VxW
