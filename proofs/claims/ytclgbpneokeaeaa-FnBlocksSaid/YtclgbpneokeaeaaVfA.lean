/-
  FnBlocks: the law over what its arguments read as.
-/
import Derived.Test.YtclgbpneokeaeaaVfP
import Derived.Test.YtclgbpneokeaeaaVfH
open Go Go.VS
namespace Go.Hm
theorem RE {l:List Int} (h: ∀x∈l,Nu x): ∀x∈l,0≤x∧x≤255:=fun x hx=>by
 have:=h x hx;simpa [Nu,BZ,IntKind.min,IntKind.max,IntKind.signed,IntKind.bits] using this
theorem W_ (a:List Int) (Xa:OU a) (Xb:a.length<2^47) (b:List Int) (Xc:OU b) (Xd:b.length<2^47):LP a b=some true:=
 W6 a b Xb Xd (RE Xa.2) (RE Xc.2)
end Go.Hm
