/- The closed facts of the statement, one by one. -/
import Derived.Test.YtclgbpneokeaeaaGreatRows
import Derived.Test.YtclgbpneokeaeaaGreatChecked
import Derived.KernelRfl
import Derived.JoinedTies
import Derived.ProofKit
namespace Go.Proofs.YtclgbpneokeaeaaGreat
open Go
set_option maxRecDepth 100000
theorem abt:Tryz.pinned.checked.prog.inPlace 3=Rows.fnHeardRow.inPlace:=by kernel_rfl
theorem abu:Tryz.pinned.checked.prog.unfollowed 3=Rows.fnHeardRow.unfollowed:=by kernel_rfl
theorem abv:Tryz.pinned.checked.prog.recurses 3=Rows.fnHeardRow.recurses:=by kernel_rfl
theorem abw:Tryz.pinned.checked.prog.varsNamed 3=Rows.fnHeardRow.named:=by kernel_rfl
theorem abx:Tryz.pinned.checked.prog.liftsFinal=Rows.fnHeardRow.lifted:=by kernel_rfl
theorem aby:Tryz.pinned.checked.prog.stopsHeard=true:=by kernel_rfl
theorem abz:Tryz.pinned.checked.prog.mayEnter=true:=by kernel_rfl
theorem abA:laidOutB Tryz.pinned.checked.prog=true:=by kernel_rfl
theorem abB:mapsRowed Tryz.pinned.checked.prog=true:=by kernel_rfl
theorem abC:joinedFacts Tryz.pinned.checked.prog 3 Tryz.f3 Rows.fnHeardSpec Rows.fnHeardRow=true:=by
 unfold joinedFacts;rw [abt,abu,abv,abw,abx,aby,abz,abA,abB]
 kernel_rfl
end Go.Proofs.YtclgbpneokeaeaaGreat
