/-
  FnGuesses: the law over what its arguments read as.
-/
import Derived.Test.YtkmcnmjjfgahpaaVyN
import Derived.Test.YtkmcnmjjfgahpaaVyH
open Go Go.VS
namespace Go.VxW
theorem bytes_ok {l : List Int} (h : ∀ x ∈ l, ok5 x) : ∀ x ∈ l, 0 ≤ x ∧ x ≤ 255 := fun x hx => by
  have := h x hx
  simpa [ok5, inK, IntKind.min, IntKind.max, IntKind.signed, IntKind.bits] using this
theorem lawGuesses (a : List Int) (k : ok72 a) (za : a.length < 2 ^ 47) (b : List Int) (l : ok72 b) (zb : b.length < 2 ^ 47) : laws_FnGuesses a b = some true :=
  pureGuesses a b za zb (bytes_ok k.2) (bytes_ok l.2)
end Go.VxW
