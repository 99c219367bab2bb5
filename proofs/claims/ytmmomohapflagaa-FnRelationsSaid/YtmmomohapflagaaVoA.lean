/-
  FnRelations: the law over what its arguments read as.
-/
import Derived.Test.YtmmomohapflagaaVoP
import Derived.Test.YtmmomohapflagaaVoH
open Go Go.VS
namespace Go.EG
theorem Kc {l:List Int} (h: ∀x∈l,HO x): ∀x∈l,0≤x∧x≤255:=fun x hx=>by
 have:=h x hx;simpa [HO,Ag,IntKind.min,IntKind.max,IntKind.signed,IntKind.bits] using this
theorem NR (a:List Int) (NS:II a) (NT:a.length<2^47) (b:List Int) (NU:II b) (NV:b.length<2^47):GF a b=some true:=
 NN a b NT NV (Kc NS.2) (Kc NU.2)
end Go.EG
