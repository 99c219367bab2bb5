/-
  FnTurns: the law over what its arguments read as.
-/
import Derived.Test.YtmmomohapflagaaViP
import Derived.Test.YtmmomohapflagaaViH
open Go Go.VS
namespace Go.HC
theorem Un {l:List Int} (h: ∀x∈l,O6 x): ∀x∈l,0≤x∧x≤255:=fun x hx=>by
 have:=h x hx;simpa [O6,Ag,IntKind.min,IntKind.max,IntKind.signed,IntKind.bits] using this
theorem abO (a:List Int) (abP:Rb a) (abQ:a.length<2^47) (b:List Int) (abR:Rb b) (abS:b.length<2^47):M3 a b=some true:=
 abJ a b abQ abS (Un abP.2) (Un abR.2)
end Go.HC
