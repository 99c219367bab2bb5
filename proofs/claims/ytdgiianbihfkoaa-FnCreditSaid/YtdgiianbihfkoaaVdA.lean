/-
  FnCredit: the law over what its arguments read as.
-/
import Derived.Test.YtdgiianbihfkoaaVdP
import Derived.Test.YtdgiianbihfkoaaVdH
open Go Go.VS
namespace Go.VxW
theorem bytes_okd {l : List Int} (h : ∀ x ∈ l, ok5 x) : ∀ x ∈ l, 0 ≤ x ∧ x ≤ 255 := fun x hx => by
  have := h x hx
  simpa [ok5, inK, IntKind.min, IntKind.max, IntKind.signed, IntKind.bits] using this
theorem lawd_FnCredit (a : List Int) (ka : ok22 a) (za : a.length < 2 ^ 47) (b : List Int) (kb : ok22 b) (zb : b.length < 2 ^ 47) : laws_FnCredit a b = some true :=
  pureCredit a b za zb (bytes_okd ka.2) (bytes_okd kb.2)
end Go.VxW
