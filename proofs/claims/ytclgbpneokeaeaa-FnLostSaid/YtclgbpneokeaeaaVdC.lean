/- The closed facts of the statement, one by one. -/
import Derived.Test.YtclgbpneokeaeaaRows
import Derived.Test.YtclgbpneokeaeaaChecked
import Derived.KernelRfl
import Derived.JoinedTies
import Derived.ProofKit
namespace Go.Proofs.Ytclgbpneokeaeaa
open Go
set_option maxRecDepth 100000
theorem aap:Try.pinned.checked.prog.inPlace 6=Rows.fnLostRow.inPlace:=by kernel_rfl
theorem aaq:Try.pinned.checked.prog.unfollowed 6=Rows.fnLostRow.unfollowed:=by kernel_rfl
theorem aar:Try.pinned.checked.prog.recurses 6=Rows.fnLostRow.recurses:=by kernel_rfl
theorem aas:Try.pinned.checked.prog.varsNamed 6=Rows.fnLostRow.named:=by kernel_rfl
theorem aat:Try.pinned.checked.prog.liftsFinal=Rows.fnLostRow.lifted:=by kernel_rfl
theorem aau:Try.pinned.checked.prog.stopsHeard=true:=by kernel_rfl
theorem aav:Try.pinned.checked.prog.mayEnter=true:=by kernel_rfl
theorem aaw:laidOutB Try.pinned.checked.prog=true:=by kernel_rfl
theorem aax:mapsRowed Try.pinned.checked.prog=true:=by kernel_rfl
theorem aay:joinedFacts Try.pinned.checked.prog 6 Try.f6 Rows.fnLostSpec Rows.fnLostRow=true:=by
 unfold joinedFacts;rw [aap,aaq,aar,aas,aat,aau,aav,aaw,aax]
 kernel_rfl
end Go.Proofs.Ytclgbpneokeaeaa
