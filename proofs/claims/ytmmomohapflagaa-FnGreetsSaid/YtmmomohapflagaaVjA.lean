/-
  FnGreets: the law over what its arguments read as.
-/
import Derived.Test.YtmmomohapflagaaVjP
import Derived.Test.YtmmomohapflagaaVjH
open Go Go.VS
namespace Go.Gq
theorem UW {l:List Int} (h: ∀x∈l,PZ x): ∀x∈l,0≤x∧x≤255:=fun x hx=>by
 have:=h x hx;simpa [PZ,zO,IntKind.min,IntKind.max,IntKind.signed,IntKind.bits] using this
theorem Z7 (a:List Int) (Z8:RY a) (Z9:a.length<2^47) (b:List Int) (Z_:RY b) (aac:b.length<2^47):Nm a b=some true:=
 Z5 a b Z9 aac (UW Z8.2) (UW Z_.2)
end Go.Gq
