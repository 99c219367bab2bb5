/- The closed facts of the statement, one by one. -/
import Derived.Test.YtmbfhipfcjmhmaaGreatRows
import Derived.Test.YtmbfhipfcjmhmaaGreatChecked
import Derived.KernelRfl
import Derived.JoinedTies
import Derived.ProofKit
namespace Go.Proofs.YtmbfhipfcjmhmaaGreat
open Go
set_option maxRecDepth 100000
theorem aeU:Tryz.pinned.checked.prog.inPlace 3=Rows.fnStoresRow.inPlace:=by kernel_rfl
theorem aeV:Tryz.pinned.checked.prog.unfollowed 3=Rows.fnStoresRow.unfollowed:=by kernel_rfl
theorem aeW:Tryz.pinned.checked.prog.recurses 3=Rows.fnStoresRow.recurses:=by kernel_rfl
theorem aeX:Tryz.pinned.checked.prog.varsNamed 3=Rows.fnStoresRow.named:=by kernel_rfl
theorem aeY:Tryz.pinned.checked.prog.liftsFinal=Rows.fnStoresRow.lifted:=by kernel_rfl
theorem aeZ:Tryz.pinned.checked.prog.stopsHeard=true:=by kernel_rfl
theorem ae0:Tryz.pinned.checked.prog.mayEnter=true:=by kernel_rfl
theorem ae1:laidOutB Tryz.pinned.checked.prog=true:=by kernel_rfl
theorem ae2:mapsRowed Tryz.pinned.checked.prog=true:=by kernel_rfl
theorem ae3:joinedFacts Tryz.pinned.checked.prog 3 Tryz.f3 Rows.fnStoresSpec Rows.fnStoresRow=true:=by
 unfold joinedFacts;rw [aeU,aeV,aeW,aeX,aeY,aeZ,ae0,ae1,ae2]
 kernel_rfl
end Go.Proofs.YtmbfhipfcjmhmaaGreat
