/-
  FnStores: the law over what its arguments read as.
-/
import Derived.Test.YtmbfhipfcjmhmaaGreatVgP
import Derived.Test.YtmbfhipfcjmhmaaGreatVgH
open Go Go.VS
namespace Go.JN
theorem Zm {l:List Int} (h: ∀x∈l,SY x): ∀x∈l,0≤x∧x≤255:=fun x hx=>by
 have:=h x hx;simpa [SY,Dj,IntKind.min,IntKind.max,IntKind.signed,IntKind.bits] using this
theorem aeP (a:List Int) (aeQ:Ve a) (aeR:a.length<2^47) (b:List Int) (aeS:Ve b) (aeT:b.length<2^47):QT a b=some true:=
 aeK a b aeR aeT (Zm aeQ.2) (Zm aeS.2)
end Go.JN
