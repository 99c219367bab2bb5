/-
  FnNumbers: the law over what its arguments read as.
-/
import Derived.Test.YtkmcnmjjfgahpaaVpP
import Derived.Test.YtkmcnmjjfgahpaaVnH
open Go Go.VS
namespace Go.VxW
theorem bytes_okn {l : List Int} (h : ∀ x ∈ l, ok5 x) : ∀ x ∈ l, 0 ≤ x ∧ x ≤ 255 := fun x hx => by
  have := h x hx
  simpa [ok5, inK, IntKind.min, IntKind.max, IntKind.signed, IntKind.bits] using this
theorem lawn_FnNumbers (a : List Int) (ka : ok72 a) (za : a.length < 2 ^ 47) (b : List Int) (kb : ok72 b) (zb : b.length < 2 ^ 47) : laws_FnNumbers a b = some true :=
  pureNumbers a b za zb (bytes_okn ka.2) (bytes_okn kb.2)
end Go.VxW
