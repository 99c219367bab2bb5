/- The closed facts of the statement, one by one. -/
import Derived.Test.YtmmomohapflagaaRows
import Derived.Test.YtmmomohapflagaaChecked
import Derived.KernelRfl
import Derived.JoinedTies
import Derived.ProofKit
namespace Go.Proofs.Ytmmomohapflagaa
open Go
set_option maxRecDepth 100000
theorem NW:Try.pinned.checked.prog.inPlace 10=Rows.fnRelationsRow.inPlace:=by kernel_rfl
theorem NX:Try.pinned.checked.prog.unfollowed 10=Rows.fnRelationsRow.unfollowed:=by kernel_rfl
theorem NY:Try.pinned.checked.prog.recurses 10=Rows.fnRelationsRow.recurses:=by kernel_rfl
theorem NZ:Try.pinned.checked.prog.varsNamed 10=Rows.fnRelationsRow.named:=by kernel_rfl
theorem N0:Try.pinned.checked.prog.liftsFinal=Rows.fnRelationsRow.lifted:=by kernel_rfl
theorem N1:Try.pinned.checked.prog.stopsHeard=true:=by kernel_rfl
theorem N2:Try.pinned.checked.prog.mayEnter=true:=by kernel_rfl
theorem N3:laidOutB Try.pinned.checked.prog=true:=by kernel_rfl
theorem N4:mapsRowed Try.pinned.checked.prog=true:=by kernel_rfl
theorem N5:joinedFacts Try.pinned.checked.prog 10 Try.f10 Rows.fnRelationsSpec Rows.fnRelationsRow=true:=by
 unfold joinedFacts;rw [NW,NX,NY,NZ,N0,N1,N2,N3,N4]
 kernel_rfl
end Go.Proofs.Ytmmomohapflagaa
