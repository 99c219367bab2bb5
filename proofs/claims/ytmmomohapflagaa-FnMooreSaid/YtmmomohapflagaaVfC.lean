/- The closed facts of the statement, one by one. -/
import Derived.Test.YtmmomohapflagaaRows
import Derived.Test.YtmmomohapflagaaChecked
import Derived.KernelRfl
import Derived.JoinedTies
import Derived.ProofKit
namespace Go.Proofs.Ytmmomohapflagaa
open Go
set_option maxRecDepth 100000
theorem Wb:Try.pinned.checked.prog.inPlace 7=Rows.fnMooreRow.inPlace:=by kernel_rfl
theorem Wc:Try.pinned.checked.prog.unfollowed 7=Rows.fnMooreRow.unfollowed:=by kernel_rfl
theorem Wd:Try.pinned.checked.prog.recurses 7=Rows.fnMooreRow.recurses:=by kernel_rfl
theorem We:Try.pinned.checked.prog.varsNamed 7=Rows.fnMooreRow.named:=by kernel_rfl
theorem Wf:Try.pinned.checked.prog.liftsFinal=Rows.fnMooreRow.lifted:=by kernel_rfl
theorem Wg:Try.pinned.checked.prog.stopsHeard=true:=by kernel_rfl
theorem Wh:Try.pinned.checked.prog.mayEnter=true:=by kernel_rfl
theorem Wi:laidOutB Try.pinned.checked.prog=true:=by kernel_rfl
theorem Wj:mapsRowed Try.pinned.checked.prog=true:=by kernel_rfl
theorem Wk:joinedFacts Try.pinned.checked.prog 7 Try.f7 Rows.fnMooreSpec Rows.fnMooreRow=true:=by
 unfold joinedFacts;rw [Wb,Wc,Wd,We,Wf,Wg,Wh,Wi,Wj]
 kernel_rfl
end Go.Proofs.Ytmmomohapflagaa
