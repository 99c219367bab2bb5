/-
  FnExactSettleCourt: the law over what its arguments read as.
-/
import Derived.Test.YtcgnkhdeckgaaaaVqP
import Derived.Test.YtcgnkhdeckgaaaaVqH
open Go Go.VS
namespace Go.VxW
theorem lawq_FnExactSettleCourt (a0 : Court) (k0 : ok119 a0) : laws_FnExactSettleCourt a0 = some true :=
  pureSettle a0 k0.2.1.1 k0.2.2.1
end Go.VxW
