/-
  FnSorted: the law over what its arguments read as.
-/
import Derived.Test.YtdgiianbihfkoaaVoP
import Derived.Test.YtdgiianbihfkoaaVoH
open Go Go.VS
namespace Go.VxW
theorem bytes_oko {l : List Int} (h : ∀ x ∈ l, ok5 x) : ∀ x ∈ l, 0 ≤ x ∧ x ≤ 255 := fun x hx => by
  have := h x hx
  simpa [ok5, inK, IntKind.min, IntKind.max, IntKind.signed, IntKind.bits] using this
theorem lawo_FnSorted (a : List Int) (ka : ok22 a) (za : a.length < 2 ^ 47) (b : List Int) (kb : ok22 b) (zb : b.length < 2 ^ 47) : laws_FnSorted a b = some true :=
  pureSorted a b za zb (bytes_oko ka.2) (bytes_oko kb.2)
end Go.VxW
