/-
  FnExactPutPacket: the law over what its arguments read as.
-/
import Derived.Test.YtcgnkhdeckgaaaaVkP
import Derived.Test.YtcgnkhdeckgaaaaVkH
open Go Go.VS
namespace Go.VxW
theorem lawk_FnExactPutPacket (a0 : Turns) (k0 : ok25 a0) (a1 : Int) (_k1 : ok3 a1) (a2 : Int) (_k2 : ok3 a2) : laws_FnExactPutPacket a0 a1 a2 = some true :=
  purePut a0 a1 a2 k0.1.1 k0.2.1.1 k0.2.2.1.1 k0.2.2.2.1.1 (fun q hq => (k0.2.1.2 q hq).1)
end Go.VxW
