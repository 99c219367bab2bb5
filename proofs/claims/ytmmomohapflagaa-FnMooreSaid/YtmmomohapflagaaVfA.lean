/-
  FnMoore: the law over what its arguments read as.
-/
import Derived.Test.YtmmomohapflagaaVfP
import Derived.Test.YtmmomohapflagaaVfH
open Go Go.VS
namespace Go.Hr
theorem QY {l:List Int} (h: ∀x∈l,My x): ∀x∈l,0≤x∧x≤255:=fun x hx=>by
 have:=h x hx;simpa [My,AR,IntKind.min,IntKind.max,IntKind.signed,IntKind.bits] using this
theorem V7 (a:List Int) (V8:N8 a) (V9:a.length<2^47) (b:List Int) (V_:N8 b) (Wa:b.length<2^47):HY a b=some true:=
 V3 a b V9 Wa (QY V8.2) (QY V_.2)
end Go.Hr
