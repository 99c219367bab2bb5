/-
  FnSpans: the law over what its arguments read as.
-/
import Derived.Test.YtmmomohapflagaaVkP
import Derived.Test.YtmmomohapflagaaVkH
open Go Go.VS
namespace Go.Fc
theorem Pl {l:List Int} (h: ∀x∈l,KZ x): ∀x∈l,0≤x∧x≤255:=fun x hx=>by
 have:=h x hx;simpa [KZ,AA,IntKind.min,IntKind.max,IntKind.signed,IntKind.bits] using this
theorem Uw (a:List Int) (Ux:MD a) (Uy:a.length<2^47) (b:List Int) (Uz:MD b) (UA:b.length<2^47):JL a b=some true:=
 Us a b Uy UA (Pl Ux.2) (Pl Uz.2)
end Go.Fc
