/-
  FnDemand: the law over what its arguments read as.
-/
import Derived.Test.YtdgiianbihfkoaaVpF
import Derived.Test.YtdgiianbihfkoaaVmH
open Go Go.VS
namespace Go.VxW
theorem bytes_okm {l : List Int} (h : ∀ x ∈ l, ok5 x) : ∀ x ∈ l, 0 ≤ x ∧ x ≤ 255 := fun x hx => by
  have := h x hx
  simpa [ok5, inK, IntKind.min, IntKind.max, IntKind.signed, IntKind.bits] using this
theorem lawm_FnDemand (a : List Int) (ka : ok22 a) (za : a.length < 2 ^ 47) (b : List Int) (kb : ok22 b) (zb : b.length < 2 ^ 47) : laws_FnDemand a b = some true :=
  pureDemand a b za zb (bytes_okm ka.2) (bytes_okm kb.2)
end Go.VxW
