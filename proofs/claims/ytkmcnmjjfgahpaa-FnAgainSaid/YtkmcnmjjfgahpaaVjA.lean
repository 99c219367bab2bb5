/-
  FnAgain: the law over what its arguments read as.
-/
import Derived.Test.YtkmcnmjjfgahpaaVpZ
import Derived.Test.YtkmcnmjjfgahpaaVjH
open Go Go.VS
namespace Go.VxW
theorem bytes_okj {l : List Int} (h : ∀ x ∈ l, ok5 x) : ∀ x ∈ l, 0 ≤ x ∧ x ≤ 255 := fun x hx => by
  have := h x hx
  simpa [ok5, inK, IntKind.min, IntKind.max, IntKind.signed, IntKind.bits] using this
theorem lawj_FnAgain (a : List Int) (ka : ok72 a) (za : a.length < 2 ^ 47) (b : List Int) (kb : ok72 b) (zb : b.length < 2 ^ 47) : laws_FnAgain a b = some true :=
  pureAgain a b za zb (bytes_okj ka.2) (bytes_okj kb.2)
end Go.VxW
