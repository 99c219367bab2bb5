/-
  FnExactNextTurn: the law over what its arguments read as.
-/
import Derived.Test.YtcgnkhdeckgaaaaVlP
import Derived.Test.YtcgnkhdeckgaaaaVlH
open Go Go.VS
namespace Go.VxW
theorem lawl_FnExactNextTurn (a0 : Turns) (k0 : ok25 a0) : laws_FnExactNextTurn a0 = some true :=
  pureNext a0 k0.1.1 k0.2.1.1 k0.2.2.1.1 k0.2.2.2.1.1 (fun q hq => (k0.2.1.2 q hq).1)
end Go.VxW
