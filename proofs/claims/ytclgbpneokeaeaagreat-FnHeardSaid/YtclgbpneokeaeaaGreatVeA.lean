/-
  FnHeard: the law over what its arguments read as.
-/
import Derived.Test.YtclgbpneokeaeaaGreatVeP
import Derived.Test.YtclgbpneokeaeaaGreatVeH
open Go Go.VS
namespace Go.GC
theorem UX {l:List Int} (h: ∀x∈l,Pe x): ∀x∈l,0≤x∧x≤255:=fun x hx=>by
 have:=h x hx;simpa [Pe,AZ,IntKind.min,IntKind.max,IntKind.signed,IntKind.bits] using this
theorem abn (a:List Int) (abo:Ro a) (abp:a.length<2^47) (b:List Int) (abq:Ro b) (abr:b.length<2^47):M6 a b=some true:=
 abj a b abp abr (UX abo.2) (UX abq.2)
end Go.GC
