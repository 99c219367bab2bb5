/-
  FnRates: the law over what its arguments read as.
-/
import Derived.Test.YtmmomohapflagaaVgP
import Derived.Test.YtmmomohapflagaaVgH
open Go Go.VS
namespace Go.Hi
theorem Oe {l:List Int} (h: ∀x∈l,KM x): ∀x∈l,0≤x∧x≤255:=fun x hx=>by
 have:=h x hx;simpa [KM,A8,IntKind.min,IntKind.max,IntKind.signed,IntKind.bits] using this
theorem Sk (a:List Int) (Sl:LZ a) (Sm:a.length<2^47) (b:List Int) (Sn:LZ b) (So:b.length<2^47):IY a b=some true:=
 Sd a b Sm So (Oe Sl.2) (Oe Sn.2)
end Go.Hi
