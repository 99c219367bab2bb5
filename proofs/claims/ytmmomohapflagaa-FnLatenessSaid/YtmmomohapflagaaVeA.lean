/-
  FnLateness: the law over what its arguments read as.
-/
import Derived.Test.YtmmomohapflagaaVeP
import Derived.Test.YtmmomohapflagaaVeH
open Go Go.VS
namespace Go.Hd
theorem O6 {l:List Int} (h: ∀x∈l,Lj x): ∀x∈l,0≤x∧x≤255:=fun x hx=>by
 have:=h x hx;simpa [Lj,AR,IntKind.min,IntKind.max,IntKind.signed,IntKind.bits] using this
theorem T2 (a:List Int) (T3:Mq a) (T4:a.length<2^47) (b:List Int) (T5:Mq b) (T6:b.length<2^47):Ik a b=some true:=
 TW a b T4 T6 (O6 T3.2) (O6 T5.2)
end Go.Hd
