/-
  FnExactRunTurns: the law over what its arguments read as.
-/
import Derived.Test.YtcgnkhdeckgaaaaVmP
import Derived.Test.YtcgnkhdeckgaaaaVmH
open Go Go.VS
namespace Go.VxW
theorem lawm_FnExactRunTurns (a0 : Turns) (k0 : ok25 a0) (a1 : Int) (_k1 : ok3 a1) : laws_FnExactRunTurns a0 a1 = some true :=
  pureRun a0 a1 k0.1.1 k0.2.1.1 k0.2.2.1.1 k0.2.2.2.1.1 (fun q hq => (k0.2.1.2 q hq).1)
end Go.VxW
