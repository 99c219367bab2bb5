/-
  FnShaped: the law over what its arguments read as.
-/
import Derived.Test.YtdgiianbihfkoaaVfP
import Derived.Test.YtdgiianbihfkoaaVfH
open Go Go.VS
namespace Go.VxW
theorem bytes_okf {l : List Int} (h : ∀ x ∈ l, ok5 x) : ∀ x ∈ l, 0 ≤ x ∧ x ≤ 255 := fun x hx => by
  have := h x hx
  simpa [ok5, inK, IntKind.min, IntKind.max, IntKind.signed, IntKind.bits] using this
theorem lawf_FnShaped (a : List Int) (ka : ok22 a) (za : a.length < 2 ^ 47) (b : List Int) (kb : ok22 b) (zb : b.length < 2 ^ 47) : laws_FnShaped a b = some true :=
  pureShaped a b za zb (bytes_okf ka.2) (bytes_okf kb.2)
end Go.VxW
