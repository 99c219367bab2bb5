/-
  FnKarn: the law over what its arguments read as.
-/
import Derived.Test.YtkmcnmjjfgahpaaVpL
import Derived.Test.YtkmcnmjjfgahpaaVkH
open Go Go.VS
namespace Go.VxW
theorem bytes_okk {l : List Int} (h : ∀ x ∈ l, ok5 x) : ∀ x ∈ l, 0 ≤ x ∧ x ≤ 255 := fun x hx => by
  have := h x hx
  simpa [ok5, inK, IntKind.min, IntKind.max, IntKind.signed, IntKind.bits] using this
theorem lawk_FnKarn (a : List Int) (ka : ok72 a) (za : a.length < 2 ^ 47) (b : List Int) (kb : ok72 b) (zb : b.length < 2 ^ 47) : laws_FnKarn a b = some true :=
  pureKarn a b za zb (bytes_okk ka.2) (bytes_okk kb.2)
end Go.VxW
