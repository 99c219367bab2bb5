/- The closed facts of the statement, one by one. -/
import Derived.Test.YtmmomohapflagaaRows
import Derived.Test.YtmmomohapflagaaChecked
import Derived.KernelRfl
import Derived.JoinedTies
import Derived.ProofKit
namespace Go.Proofs.Ytmmomohapflagaa
open Go
set_option maxRecDepth 100000
theorem S8:Try.pinned.checked.prog.inPlace 11=Rows.fnSpansRow.inPlace:=by kernel_rfl
theorem S9:Try.pinned.checked.prog.unfollowed 11=Rows.fnSpansRow.unfollowed:=by kernel_rfl
theorem S_:Try.pinned.checked.prog.recurses 11=Rows.fnSpansRow.recurses:=by kernel_rfl
theorem Ta:Try.pinned.checked.prog.varsNamed 11=Rows.fnSpansRow.named:=by kernel_rfl
theorem Tb:Try.pinned.checked.prog.liftsFinal=Rows.fnSpansRow.lifted:=by kernel_rfl
theorem Tc:Try.pinned.checked.prog.stopsHeard=true:=by kernel_rfl
theorem Td:Try.pinned.checked.prog.mayEnter=true:=by kernel_rfl
theorem Te:laidOutB Try.pinned.checked.prog=true:=by kernel_rfl
theorem Tf:mapsRowed Try.pinned.checked.prog=true:=by kernel_rfl
theorem Tg:joinedFacts Try.pinned.checked.prog 11 Try.f11 Rows.fnSpansSpec Rows.fnSpansRow=true:=by
 unfold joinedFacts;rw [S8,S9,S_,Ta,Tb,Tc,Td,Te,Tf]
 kernel_rfl
end Go.Proofs.Ytmmomohapflagaa
