/-
  FnBursts: the law over what its arguments read as.
-/
import Derived.Test.YtclgbpneokeaeaaVcP
import Derived.Test.YtclgbpneokeaeaaVcH
open Go Go.VS
namespace Go.EI
theorem KM {l:List Int} (h: ∀x∈l,Hz x): ∀x∈l,0≤x∧x≤255:=fun x hx=>by
 have:=h x hx;simpa [Hz,Ax,IntKind.min,IntKind.max,IntKind.signed,IntKind.bits] using this
theorem Oz (a:List Int) (OA:IH a) (OB:a.length<2^47) (b:List Int) (OC:IH b) (OD:b.length<2^47):Gy a b=some true:=
 Ox a b OB OD (KM OA.2) (KM OC.2)
end Go.EI
