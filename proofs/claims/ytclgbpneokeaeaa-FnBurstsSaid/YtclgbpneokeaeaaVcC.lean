/- The closed facts of the statement, one by one. -/
import Derived.Test.YtclgbpneokeaeaaRows
import Derived.Test.YtclgbpneokeaeaaChecked
import Derived.KernelRfl
import Derived.JoinedTies
import Derived.ProofKit
namespace Go.Proofs.Ytclgbpneokeaeaa
open Go
set_option maxRecDepth 100000
theorem OE:Try.pinned.checked.prog.inPlace 4=Rows.fnBurstsRow.inPlace:=by kernel_rfl
theorem OF:Try.pinned.checked.prog.unfollowed 4=Rows.fnBurstsRow.unfollowed:=by kernel_rfl
theorem OG:Try.pinned.checked.prog.recurses 4=Rows.fnBurstsRow.recurses:=by kernel_rfl
theorem OH:Try.pinned.checked.prog.varsNamed 4=Rows.fnBurstsRow.named:=by kernel_rfl
theorem OI:Try.pinned.checked.prog.liftsFinal=Rows.fnBurstsRow.lifted:=by kernel_rfl
theorem OJ:Try.pinned.checked.prog.stopsHeard=true:=by kernel_rfl
theorem OK:Try.pinned.checked.prog.mayEnter=true:=by kernel_rfl
theorem OL:laidOutB Try.pinned.checked.prog=true:=by kernel_rfl
theorem OM:mapsRowed Try.pinned.checked.prog=true:=by kernel_rfl
theorem ON:joinedFacts Try.pinned.checked.prog 4 Try.f4 Rows.fnBurstsSpec Rows.fnBurstsRow=true:=by
 unfold joinedFacts;rw [OE,OF,OG,OH,OI,OJ,OK,OL,OM]
 kernel_rfl
end Go.Proofs.Ytclgbpneokeaeaa
