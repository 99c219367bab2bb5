/-
  FnOpened: the law over what its arguments read as.
-/
import Derived.Test.YtcgnkhdeckgaaaaVhP
import Derived.Test.YtcgnkhdeckgaaaaVhH
open Go Go.VS
namespace Go.VxW
theorem bytes_okh {l : List Int} (h : ∀ x ∈ l, ok5 x) : ∀ x ∈ l, 0 ≤ x ∧ x ≤ 255 := fun x hx => by
  have := h x hx
  simpa [ok5, inK, IntKind.min, IntKind.max, IntKind.signed, IntKind.bits] using this
theorem lawh_FnOpened (a : List Int) (ka : ok41 a) (za : a.length < 2 ^ 47) : laws_FnOpened a = some true :=
  pureOpened a za (bytes_okh ka.2)
end Go.VxW
