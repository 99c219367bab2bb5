/-
  FnCourts: the law over what its arguments read as.
-/
import Derived.Test.YtcgnkhdeckgaaaaVgP
import Derived.Test.YtcgnkhdeckgaaaaVgH
open Go Go.VS
namespace Go.VxW
theorem bytes_okg {l : List Int} (h : ∀ x ∈ l, ok5 x) : ∀ x ∈ l, 0 ≤ x ∧ x ≤ 255 := fun x hx => by
  have := h x hx
  simpa [ok5, inK, IntKind.min, IntKind.max, IntKind.signed, IntKind.bits] using this
theorem lawg_FnCourts (a : List Int) (ka : ok41 a) (za : a.length < 2 ^ 47) (b : List Int) (kb : ok41 b) (zb : b.length < 2 ^ 47) : laws_FnCourts a b = some true :=
  pureCourts a b za zb (bytes_okg ka.2) (bytes_okg kb.2)
end Go.VxW
