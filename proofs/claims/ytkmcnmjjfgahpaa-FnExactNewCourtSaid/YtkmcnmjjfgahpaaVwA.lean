/-
  FnExactNewCourt: the law over what its arguments read as.
-/
import Derived.Test.YtkmcnmjjfgahpaaVpR
import Derived.Test.YtkmcnmjjfgahpaaVwH
open Go Go.VS
namespace Go.VxW
theorem laww_FnExactNewCourt (a0 : List Int) (_k0 : ok48 a0) (z0 : a0.length < 2 ^ 47) : laws_FnExactNewCourt a0 = some true :=
  pureNewCourt a0 z0
end Go.VxW
