/-
  FnVerdicts: the law over what its arguments read as.
-/
import Derived.Test.YtcgnkhdeckgaaaaVvP
import Derived.Test.YtcgnkhdeckgaaaaVvH
open Go Go.VS
namespace Go.VxW
theorem bytes_okv {l : List Int} (h : ∀ x ∈ l, ok5 x) : ∀ x ∈ l, 0 ≤ x ∧ x ≤ 255 := fun x hx => by
  have := h x hx
  simpa [ok5, inK, IntKind.min, IntKind.max, IntKind.signed, IntKind.bits] using this
theorem lawv_FnVerdicts (a : List Int) (ka : ok41 a) (za : a.length < 2 ^ 47) (b : List Int) (kb : ok41 b) (zb : b.length < 2 ^ 47) : laws_FnVerdicts a b = some true :=
  pureVerdicts a b za zb (bytes_okv ka.2) (bytes_okv kb.2)
end Go.VxW
