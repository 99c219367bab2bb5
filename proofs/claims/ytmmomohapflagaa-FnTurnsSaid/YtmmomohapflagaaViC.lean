/- The closed facts of the statement, one by one. -/
import Derived.Test.YtmmomohapflagaaRows
import Derived.Test.YtmmomohapflagaaChecked
import Derived.KernelRfl
import Derived.JoinedTies
import Derived.ProofKit
namespace Go.Proofs.Ytmmomohapflagaa
open Go
set_option maxRecDepth 100000
theorem abT:Try.pinned.checked.prog.inPlace 3=Rows.fnTurnsRow.inPlace:=by kernel_rfl
theorem abU:Try.pinned.checked.prog.unfollowed 3=Rows.fnTurnsRow.unfollowed:=by kernel_rfl
theorem abV:Try.pinned.checked.prog.recurses 3=Rows.fnTurnsRow.recurses:=by kernel_rfl
theorem abW:Try.pinned.checked.prog.varsNamed 3=Rows.fnTurnsRow.named:=by kernel_rfl
theorem abX:Try.pinned.checked.prog.liftsFinal=Rows.fnTurnsRow.lifted:=by kernel_rfl
theorem abY:Try.pinned.checked.prog.stopsHeard=true:=by kernel_rfl
theorem abZ:Try.pinned.checked.prog.mayEnter=true:=by kernel_rfl
theorem ab0:laidOutB Try.pinned.checked.prog=true:=by kernel_rfl
theorem ab1:mapsRowed Try.pinned.checked.prog=true:=by kernel_rfl
theorem ab2:joinedFacts Try.pinned.checked.prog 3 Try.f3 Rows.fnTurnsSpec Rows.fnTurnsRow=true:=by
 unfold joinedFacts;rw [abT,abU,abV,abW,abX,abY,abZ,ab0,ab1]
 kernel_rfl
end Go.Proofs.Ytmmomohapflagaa
