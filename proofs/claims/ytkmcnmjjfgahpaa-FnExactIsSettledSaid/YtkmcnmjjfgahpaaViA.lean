/-
  FnExactIsSettled: the law over what its arguments read as.
-/
import Derived.Test.YtkmcnmjjfgahpaaVpQ
import Derived.Test.YtkmcnmjjfgahpaaViH
open Go Go.VS
namespace Go.VxW
theorem lawi_FnExactIsSettled (a0 : Court) (k0 : ok37 a0) : laws_FnExactIsSettled a0 = some true :=
  pureSettled a0 k0.2.1.1 k0.2.2.1
end Go.VxW
