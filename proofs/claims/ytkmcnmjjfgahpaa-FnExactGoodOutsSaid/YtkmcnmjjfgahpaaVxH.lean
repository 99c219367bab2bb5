/- The seat's shared words: the policy's conditions hold of the program, and what the laws' arguments read as. -/
import Derived.Test.YtkmcnmjjfgahpaaProg
import Derived.Test.YtkmcnmjjfgahpaaVxG
import Derived.Test.YtkmcnmjjfgahpaaVtU
import Derived.KernelRfl
open Go Go.VS Go.Proofs
set_option maxRecDepth 100000
namespace Go.VxW
theorem hE : ∀ t ti, C.E t = some ti → TyOK Try.prog t ti := by
  intro t ti h
  have h : E t = some ti := h
  unfold E at h
  split at h
  all_goals first | (obtain rfl := Option.some.inj h; exact tiOf_ok (by kernel_rfl)) | simp at h
theorem hC : ∀ f fn, C.code f = some fn → Try.prog.funcs[f]? = some fn ∧ (fn.name == "runtime.NumGoroutine") = false := by
  intro f fn h
  have h : code f = some fn := h
  unfold code at h
  split at h
  all_goals first | (obtain rfl := Option.some.inj h; exact ⟨by kernel_rfl, by kernel_rfl⟩) | simp at h
theorem own : ownKnob Try.prog.godebug = none := by kernel_rfl
theorem laidOut : laidOutB Try.prog = true := by kernel_rfl
theorem mixed : Try.prog.follows .mixedOrders = true := by kernel_rfl
def ok9 (x : List UInt8) : Prop := x.length ≤ maxLen
theorem rd9 : Rd Try.prog 9 1 (fun s : List UInt8 => [.str s]) ok9 := Rd.str (by kernel_rfl) (by kernel_rfl)
def ok3 (x : Int) : Prop := inK .i64 x
theorem rd3 : Rd Try.prog 3 1 (fun n : Int => [.int .i64 n]) ok3 := Rd.int (by kernel_rfl) (by kernel_rfl)
def ok4 (_ : Bool) : Prop := True
theorem rd4 : Rd Try.prog 4 1 (fun b : Bool => [.bool b]) ok4 := Rd.bool (by kernel_rfl) (by kernel_rfl)
def ok113 (x : List Bool) : Prop := x.length ≤ maxLen ∧ ∀ b ∈ x, ok4 b
theorem rd113 : Rd Try.prog 113 1 (fun l : List Bool => [.fz (l.map AV.bool)]) ok113 := rd4.sl (by decide) AV.bool (fun _ => rfl) (by kernel_rfl) (by kernel_rfl)
def ok115 (x : Out) : Prop := ok9 x.Text ∧ ok3 x.End ∧ ok113 x.Heard ∧ ok3 x.Final
theorem rd115 : Rd Try.prog 115 4 (fun x : Out => [.str x.Text, .int .i64 x.End, .fz (x.Heard.map AV.bool), .int .i64 x.Final]) ok115 :=
  (Rd.st (fs := [(0, 9), (1, 3), (2, 113), (3, 3)]) (by kernel_rfl) (by kernel_rfl) (RdF.cons rd9 (RdF.cons rd3 (RdF.cons rd113 (RdF.cons rd3 RdF.nil))))).map (fun x => (⟨x.1, x.2.1, x.2.2.1, x.2.2.2.1⟩ : Out)) (fun _ => rfl) (fun _ => rfl) (fun _ h => ⟨h.1, h.2.1, h.2.2.1, h.2.2.2.1⟩)
def ok22 (x : List Out) : Prop := x.length ≤ maxLen ∧ ∀ b ∈ x, ok115 b
theorem rd22 : Rd Try.prog 22 1 (fun l : List Out => [.fz (l.map e_Out)]) ok22 := rd115.sl (by decide) e_Out (fun _ => rfl) (by kernel_rfl) (by kernel_rfl)
end Go.VxW
