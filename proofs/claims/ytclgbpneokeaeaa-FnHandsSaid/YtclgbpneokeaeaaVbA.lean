/-
  FnHands: the law over what its arguments read as.
-/
import Derived.Test.YtclgbpneokeaeaaVbP
import Derived.Test.YtclgbpneokeaeaaVbH
open Go Go.VS
namespace Go.DN
theorem Nh {l:List Int} (h: ∀x∈l,IK x): ∀x∈l,0≤x∧x≤255:=fun x hx=>by
 have:=h x hx;simpa [IK,yR,IntKind.min,IntKind.max,IntKind.signed,IntKind.bits] using this
theorem Rx (a:List Int) (Ry:Kg a) (Rz:a.length<2^47) (b:List Int) (RA:Kg b) (RB:b.length<2^47):Hl a b=some true:=
 Rw a b Rz RB (Nh Ry.2) (Nh RA.2)
end Go.DN
