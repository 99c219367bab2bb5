/-
  FnLost: the law over what its arguments read as.
-/
import Derived.Test.YtclgbpneokeaeaaVdP
import Derived.Test.YtclgbpneokeaeaaVdH
open Go Go.VS
namespace Go.GB
theorem Tx {l:List Int} (h: ∀x∈l,Ox x): ∀x∈l,0≤x∧x≤255:=fun x hx=>by
 have:=h x hx;simpa [Ox,A_,IntKind.min,IntKind.max,IntKind.signed,IntKind.bits] using this
theorem aak (a:List Int) (aal:Qa a) (aam:a.length<2^47) (b:List Int) (aan:Qa b) (aao:b.length<2^47):Mf a b=some true:=
 aaf a b aam aao (Tx aal.2) (Tx aan.2)
end Go.GB
