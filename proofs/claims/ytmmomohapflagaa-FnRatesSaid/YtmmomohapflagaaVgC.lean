/- The closed facts of the statement, one by one. -/
import Derived.Test.YtmmomohapflagaaRows
import Derived.Test.YtmmomohapflagaaChecked
import Derived.KernelRfl
import Derived.JoinedTies
import Derived.ProofKit
namespace Go.Proofs.Ytmmomohapflagaa
open Go
set_option maxRecDepth 100000
theorem Sp:Try.pinned.checked.prog.inPlace 4=Rows.fnRatesRow.inPlace:=by kernel_rfl
theorem Sq:Try.pinned.checked.prog.unfollowed 4=Rows.fnRatesRow.unfollowed:=by kernel_rfl
theorem Sr:Try.pinned.checked.prog.recurses 4=Rows.fnRatesRow.recurses:=by kernel_rfl
theorem Ss:Try.pinned.checked.prog.varsNamed 4=Rows.fnRatesRow.named:=by kernel_rfl
theorem Su:Try.pinned.checked.prog.liftsFinal=Rows.fnRatesRow.lifted:=by kernel_rfl
theorem Sv:Try.pinned.checked.prog.stopsHeard=true:=by kernel_rfl
theorem Sw:Try.pinned.checked.prog.mayEnter=true:=by kernel_rfl
theorem Sx:laidOutB Try.pinned.checked.prog=true:=by kernel_rfl
theorem Sy:mapsRowed Try.pinned.checked.prog=true:=by kernel_rfl
theorem Sz:joinedFacts Try.pinned.checked.prog 4 Try.f4 Rows.fnRatesSpec Rows.fnRatesRow=true:=by
 unfold joinedFacts;rw [Sp,Sq,Sr,Ss,Su,Sv,Sw,Sx,Sy]
 kernel_rfl
end Go.Proofs.Ytmmomohapflagaa
