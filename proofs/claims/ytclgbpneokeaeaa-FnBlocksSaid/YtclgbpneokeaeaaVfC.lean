/- The closed facts of the statement, one by one. -/
import Derived.Test.YtclgbpneokeaeaaRows
import Derived.Test.YtclgbpneokeaeaaChecked
import Derived.KernelRfl
import Derived.JoinedTies
import Derived.ProofKit
namespace Go.Proofs.Ytclgbpneokeaeaa
open Go
set_option maxRecDepth 100000
theorem Xe:Try.pinned.checked.prog.inPlace 5=Rows.fnBlocksRow.inPlace:=by kernel_rfl
theorem Xf:Try.pinned.checked.prog.unfollowed 5=Rows.fnBlocksRow.unfollowed:=by kernel_rfl
theorem Xg:Try.pinned.checked.prog.recurses 5=Rows.fnBlocksRow.recurses:=by kernel_rfl
theorem Xh:Try.pinned.checked.prog.varsNamed 5=Rows.fnBlocksRow.named:=by kernel_rfl
theorem Xi:Try.pinned.checked.prog.liftsFinal=Rows.fnBlocksRow.lifted:=by kernel_rfl
theorem Xj:Try.pinned.checked.prog.stopsHeard=true:=by kernel_rfl
theorem Xk:Try.pinned.checked.prog.mayEnter=true:=by kernel_rfl
theorem Xl:laidOutB Try.pinned.checked.prog=true:=by kernel_rfl
theorem Xm:mapsRowed Try.pinned.checked.prog=true:=by kernel_rfl
theorem Xn:joinedFacts Try.pinned.checked.prog 5 Try.f5 Rows.fnBlocksSpec Rows.fnBlocksRow=true:=by
 unfold joinedFacts;rw [Xe,Xf,Xg,Xh,Xi,Xj,Xk,Xl,Xm]
 kernel_rfl
end Go.Proofs.Ytclgbpneokeaeaa
