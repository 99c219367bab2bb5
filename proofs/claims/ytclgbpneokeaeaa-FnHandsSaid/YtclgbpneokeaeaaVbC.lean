/- The closed facts of the statement, one by one. -/
import Derived.Test.YtclgbpneokeaeaaRows
import Derived.Test.YtclgbpneokeaeaaChecked
import Derived.KernelRfl
import Derived.JoinedTies
import Derived.ProofKit
namespace Go.Proofs.Ytclgbpneokeaeaa
open Go
set_option maxRecDepth 100000
theorem RC:Try.pinned.checked.prog.inPlace 3=Rows.fnHandsRow.inPlace:=by kernel_rfl
theorem RD:Try.pinned.checked.prog.unfollowed 3=Rows.fnHandsRow.unfollowed:=by kernel_rfl
theorem RE:Try.pinned.checked.prog.recurses 3=Rows.fnHandsRow.recurses:=by kernel_rfl
theorem RF:Try.pinned.checked.prog.varsNamed 3=Rows.fnHandsRow.named:=by kernel_rfl
theorem RG:Try.pinned.checked.prog.liftsFinal=Rows.fnHandsRow.lifted:=by kernel_rfl
theorem RH:Try.pinned.checked.prog.stopsHeard=true:=by kernel_rfl
theorem RI:Try.pinned.checked.prog.mayEnter=true:=by kernel_rfl
theorem RJ:laidOutB Try.pinned.checked.prog=true:=by kernel_rfl
theorem RK:mapsRowed Try.pinned.checked.prog=true:=by kernel_rfl
theorem RL:joinedFacts Try.pinned.checked.prog 3 Try.f3 Rows.fnHandsSpec Rows.fnHandsRow=true:=by
 unfold joinedFacts;rw [RC,RD,RE,RF,RG,RH,RI,RJ,RK]
 kernel_rfl
end Go.Proofs.Ytclgbpneokeaeaa
