/- The closed facts of the statement, one by one. -/
import Derived.Test.YtmmomohapflagaaRows
import Derived.Test.YtmmomohapflagaaChecked
import Derived.KernelRfl
import Derived.JoinedTies
import Derived.ProofKit
namespace Go.Proofs.Ytmmomohapflagaa
open Go
set_option maxRecDepth 100000
theorem T7:Try.pinned.checked.prog.inPlace 5=Rows.fnLatenessRow.inPlace:=by kernel_rfl
theorem T8:Try.pinned.checked.prog.unfollowed 5=Rows.fnLatenessRow.unfollowed:=by kernel_rfl
theorem T9:Try.pinned.checked.prog.recurses 5=Rows.fnLatenessRow.recurses:=by kernel_rfl
theorem T_:Try.pinned.checked.prog.varsNamed 5=Rows.fnLatenessRow.named:=by kernel_rfl
theorem Ua:Try.pinned.checked.prog.liftsFinal=Rows.fnLatenessRow.lifted:=by kernel_rfl
theorem Ub:Try.pinned.checked.prog.stopsHeard=true:=by kernel_rfl
theorem Uc:Try.pinned.checked.prog.mayEnter=true:=by kernel_rfl
theorem Ud:laidOutB Try.pinned.checked.prog=true:=by kernel_rfl
theorem Ue:mapsRowed Try.pinned.checked.prog=true:=by kernel_rfl
theorem Uf:joinedFacts Try.pinned.checked.prog 5 Try.f5 Rows.fnLatenessSpec Rows.fnLatenessRow=true:=by
 unfold joinedFacts;rw [T7,T8,T9,T_,Ua,Ub,Uc,Ud,Ue]
 kernel_rfl
end Go.Proofs.Ytmmomohapflagaa
