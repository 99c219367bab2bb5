/- The closed facts of the statement, one by one. -/
import Derived.Test.YtmmomohapflagaaRows
import Derived.Test.YtmmomohapflagaaChecked
import Derived.KernelRfl
import Derived.JoinedTies
import Derived.ProofKit
namespace Go.Proofs.Ytmmomohapflagaa
open Go
set_option maxRecDepth 100000
theorem aad:Try.pinned.checked.prog.inPlace 8=Rows.fnGreetsRow.inPlace:=by kernel_rfl
theorem aae:Try.pinned.checked.prog.unfollowed 8=Rows.fnGreetsRow.unfollowed:=by kernel_rfl
theorem aaf:Try.pinned.checked.prog.recurses 8=Rows.fnGreetsRow.recurses:=by kernel_rfl
theorem aag:Try.pinned.checked.prog.varsNamed 8=Rows.fnGreetsRow.named:=by kernel_rfl
theorem aah:Try.pinned.checked.prog.liftsFinal=Rows.fnGreetsRow.lifted:=by kernel_rfl
theorem aai:Try.pinned.checked.prog.stopsHeard=true:=by kernel_rfl
theorem aaj:Try.pinned.checked.prog.mayEnter=true:=by kernel_rfl
theorem aak:laidOutB Try.pinned.checked.prog=true:=by kernel_rfl
theorem aal:mapsRowed Try.pinned.checked.prog=true:=by kernel_rfl
theorem aam:joinedFacts Try.pinned.checked.prog 8 Try.f8 Rows.fnGreetsSpec Rows.fnGreetsRow=true:=by
 unfold joinedFacts;rw [aad,aae,aaf,aag,aah,aai,aaj,aak,aal]
 kernel_rfl
end Go.Proofs.Ytmmomohapflagaa
