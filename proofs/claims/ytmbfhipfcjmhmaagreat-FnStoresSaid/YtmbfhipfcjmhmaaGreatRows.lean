/-
  No cell of these rows narrows 'for every input' (looked for: loops, veiled, ifaces, maps, wideKeys, modest, calm, conditions, laid).
  DERIVED. THE GIVEN ROWS OF THIS SEAT. 4 by the template 'for every input the law returns true; each argument reads behind the call as it read before'; 0 by the template 'total and deterministic' (their statements: YtmbfhipfcjmhmaaGreatTotals.lean).
  GIVEN WITH THE SEED: the statements are not yours to turn. If you find one false, say at which input.
  Laid BY PROGRAM, IN A SANDBOX (cutbox-rows.mjs): the forced cells as the released guide's own fill.sh prints them over the translation 1c646d54d5ee8a02… (all of the seat's roots in one cut). By AI agents, Wed Nov 11 2026. No macro, syntax, notation, axiom, sorry.
-/
import Derived.Test.YtmbfhipfcjmhmaaGreatChecked
import GoSem.Claim
import GoSem.ClaimJoined
import GoSem.ClaimMapViews
import Derived.JoinedTies
import Derived.KernelRfl
namespace Go.Proofs.YtmbfhipfcjmhmaaGreat
/- THE CELL 'sum', in the pinned program and in every row, IS THE sha256 OF THE DUMP (.gsa) THAT YtmbfhipfcjmhmaaGreatProg.lean LOADS. Nothing in Lean hashes anything: it is a label: what it is worth is what the hold of that sum in a sandbox is worth. -/
noncomputable def Tryz.pinned : Pinned := { name := "ytmbfhipfcjmhmaagreat", sum := "1c646d54d5ee8a023ae66ff9e0dafcc293ed863815da5f06df2a37e78d7af944", checked := Tryz.checked }
namespace Rows
def none {H : Type} : Left H := { results := [], args := [] }

/-- 'laws.FnStores': WHATEVER THE INPUT: true; the input reads as it did. -/
def fnStoresSpec : ChangeSpec := { name := "fnStores", fn := fun _ => fun
  | [d1, d2] => { results := [.lit (.bool true)], args := [d1, d2] }
  | _ => none }
def fnStoresRow : OpenClaim := { program := "ytmbfhipfcjmhmaagreat", sum := "1c646d54d5ee8a023ae66ff9e0dafcc293ed863815da5f06df2a37e78d7af944", func := "loop.example/g00527/laws.FnStores", spec := "fnStores", inPlace := ["internal/abi.NoEscape", "internal/bytealg.MakeNoZero", "slices.overlaps[loop.example/g00527/impl.Block]"], unfollowed := true, recurses := true, apart := false }
def FnStoresSaid : Prop := fnStoresRow.holds Tryz.pinned (OpenSpec.ofChange fnStoresSpec)

/-- ITS FALSE NEIGHBOUR: 'it returns false'. Refute it at one input. -/
def fnStoresWrong : ChangeSpec := { name := "fnStores", fn := fun _ => fun
  | [d1, d2] => { results := [.lit (.bool false)], args := [d1, d2] }
  | _ => none }
def FnStoresWrongFalsely : Prop := fnStoresRow.holds Tryz.pinned (OpenSpec.ofChange fnStoresWrong)

/-- 'laws.FnCarried': WHATEVER THE INPUT: true; the input reads as it did. -/
def fnCarriedSpec : ChangeSpec := { name := "fnCarried", fn := fun _ => fun
  | [d1, d2] => { results := [.lit (.bool true)], args := [d1, d2] }
  | _ => none }
def fnCarriedRow : OpenClaim := { program := "ytmbfhipfcjmhmaagreat", sum := "1c646d54d5ee8a023ae66ff9e0dafcc293ed863815da5f06df2a37e78d7af944", func := "loop.example/g00527/laws.FnCarried", spec := "fnCarried", inPlace := ["internal/abi.NoEscape", "internal/bytealg.MakeNoZero", "slices.overlaps[loop.example/g00527/impl.Block]"], unfollowed := true, recurses := true, apart := false }
def FnCarriedSaid : Prop := fnCarriedRow.holds Tryz.pinned (OpenSpec.ofChange fnCarriedSpec)

/-- ITS FALSE NEIGHBOUR: 'it returns false'. Refute it at one input. -/
def fnCarriedWrong : ChangeSpec := { name := "fnCarried", fn := fun _ => fun
  | [d1, d2] => { results := [.lit (.bool false)], args := [d1, d2] }
  | _ => none }
def FnCarriedWrongFalsely : Prop := fnCarriedRow.holds Tryz.pinned (OpenSpec.ofChange fnCarriedWrong)

/-- 'laws.FnInTime': WHATEVER THE INPUT: true; the input reads as it did. -/
def fnInTimeSpec : ChangeSpec := { name := "fnInTime", fn := fun _ => fun
  | [d1, d2] => { results := [.lit (.bool true)], args := [d1, d2] }
  | _ => none }
def fnInTimeRow : OpenClaim := { program := "ytmbfhipfcjmhmaagreat", sum := "1c646d54d5ee8a023ae66ff9e0dafcc293ed863815da5f06df2a37e78d7af944", func := "loop.example/g00527/laws.FnInTime", spec := "fnInTime", inPlace := ["internal/abi.NoEscape", "internal/bytealg.MakeNoZero", "slices.overlaps[loop.example/g00527/impl.Block]"], unfollowed := true, recurses := true, apart := false }
def FnInTimeSaid : Prop := fnInTimeRow.holds Tryz.pinned (OpenSpec.ofChange fnInTimeSpec)

/-- ITS FALSE NEIGHBOUR: 'it returns false'. Refute it at one input. -/
def fnInTimeWrong : ChangeSpec := { name := "fnInTime", fn := fun _ => fun
  | [d1, d2] => { results := [.lit (.bool false)], args := [d1, d2] }
  | _ => none }
def FnInTimeWrongFalsely : Prop := fnInTimeRow.holds Tryz.pinned (OpenSpec.ofChange fnInTimeWrong)

/-- 'laws.FnExactFinalsOf': WHATEVER THE INPUT: true; the input reads as it did. -/
def fnExactFinalsOfSpec : ChangeSpec := { name := "fnExactFinalsOf", fn := fun _ => fun
  | [d] => { results := [.lit (.bool true)], args := [d] }
  | _ => none }
def fnExactFinalsOfRow : OpenClaim := { program := "ytmbfhipfcjmhmaagreat", sum := "1c646d54d5ee8a023ae66ff9e0dafcc293ed863815da5f06df2a37e78d7af944", func := "loop.example/g00527/laws.FnExactFinalsOf", spec := "fnExactFinalsOf", inPlace := ["internal/abi.NoEscape", "internal/bytealg.MakeNoZero", "slices.overlaps[loop.example/g00527/impl.Block]"], unfollowed := true, recurses := true, apart := false }
def FnExactFinalsOfSaid : Prop := fnExactFinalsOfRow.holds Tryz.pinned (OpenSpec.ofChange fnExactFinalsOfSpec)

/-- ITS FALSE NEIGHBOUR: 'it returns false'. Refute it at one input. -/
def fnExactFinalsOfWrong : ChangeSpec := { name := "fnExactFinalsOf", fn := fun _ => fun
  | [d] => { results := [.lit (.bool false)], args := [d] }
  | _ => none }
def FnExactFinalsOfWrongFalsely : Prop := fnExactFinalsOfRow.holds Tryz.pinned (OpenSpec.ofChange fnExactFinalsOfWrong)

/- THE SECOND FORM. 'bulk': how many values and letters a reading holds, each counted each time it is reached (what is shared counts as often as it is met; a slice's spare places count too). A statement '..UptoSaid' is the law's where the arguments, and the package variables that the reading takes, are together of bulk at most 1048576: NARROWER than '..Said'. Prove '..Said' where nothing that the law and all that it calls make is longer than what came in: it says more and counts as full. Else prove '..UptoSaid'. A law counts once. -/
mutual
def uptoBulk {H : Type} : DataW H → Nat
  | .lit (.string bytes) => bytes.length + 1
  | .lit _ => 1
  | .nil => 1
  | .ptr d => uptoBulk d + 1
  | .slice elems spare => uptoBulkAll elems + uptoBulkAll spare + 1
  | .agg parts => uptoBulkAll parts + 1
  | .iface _ d => uptoBulk d + 1
  | .map entries => uptoBulkEntries entries + 1
  | .held _ => 1
def uptoBulkAll {H : Type} : List (DataW H) → Nat
  | [] => 0
  | d :: r => uptoBulk d + uptoBulkAll r
def uptoBulkEntries {H : Type} : List (Lit × DataW H) → Nat
  | [] => 0
  | x :: r => uptoBulkEntry x + uptoBulkEntries r
def uptoBulkEntry {H : Type} : Lit × DataW H → Nat
  | (.string bytes, d) => bytes.length + uptoBulk d + 1
  | (_, d) => uptoBulk d + 1
 end
def uptoSmall : (H : Type) → List (DataW H) → Bool := fun _ ds => decide (uptoBulkAll ds ≤ 1048576)
def OpenSpec.upto (s : _root_.Go.ChangeSpec) : _root_.Go.OpenSpec := { _root_.Go.OpenSpec.ofChange s with cond := some uptoSmall }

/-- 'laws.FnStores', WHERE WHAT IT READS IS OF BULK AT MOST 1048576: true; the input reads as it did. -/
def fnStoresUptoRow : OpenClaim := { program := "ytmbfhipfcjmhmaagreat", sum := "1c646d54d5ee8a023ae66ff9e0dafcc293ed863815da5f06df2a37e78d7af944", func := "loop.example/g00527/laws.FnStores", spec := "fnStores", inPlace := ["internal/abi.NoEscape", "internal/bytealg.MakeNoZero", "slices.overlaps[loop.example/g00527/impl.Block]"], unfollowed := true, recurses := true, apart := false, narrowed := true }
def FnStoresUptoSaid : Prop := fnStoresUptoRow.holds Tryz.pinned (OpenSpec.upto fnStoresSpec)

/-- 'laws.FnCarried', WHERE WHAT IT READS IS OF BULK AT MOST 1048576: true; the input reads as it did. -/
def fnCarriedUptoRow : OpenClaim := { program := "ytmbfhipfcjmhmaagreat", sum := "1c646d54d5ee8a023ae66ff9e0dafcc293ed863815da5f06df2a37e78d7af944", func := "loop.example/g00527/laws.FnCarried", spec := "fnCarried", inPlace := ["internal/abi.NoEscape", "internal/bytealg.MakeNoZero", "slices.overlaps[loop.example/g00527/impl.Block]"], unfollowed := true, recurses := true, apart := false, narrowed := true }
def FnCarriedUptoSaid : Prop := fnCarriedUptoRow.holds Tryz.pinned (OpenSpec.upto fnCarriedSpec)

/-- 'laws.FnInTime', WHERE WHAT IT READS IS OF BULK AT MOST 1048576: true; the input reads as it did. -/
def fnInTimeUptoRow : OpenClaim := { program := "ytmbfhipfcjmhmaagreat", sum := "1c646d54d5ee8a023ae66ff9e0dafcc293ed863815da5f06df2a37e78d7af944", func := "loop.example/g00527/laws.FnInTime", spec := "fnInTime", inPlace := ["internal/abi.NoEscape", "internal/bytealg.MakeNoZero", "slices.overlaps[loop.example/g00527/impl.Block]"], unfollowed := true, recurses := true, apart := false, narrowed := true }
def FnInTimeUptoSaid : Prop := fnInTimeUptoRow.holds Tryz.pinned (OpenSpec.upto fnInTimeSpec)

/-- 'laws.FnExactFinalsOf', WHERE WHAT IT READS IS OF BULK AT MOST 1048576: true; the input reads as it did. -/
def fnExactFinalsOfUptoRow : OpenClaim := { program := "ytmbfhipfcjmhmaagreat", sum := "1c646d54d5ee8a023ae66ff9e0dafcc293ed863815da5f06df2a37e78d7af944", func := "loop.example/g00527/laws.FnExactFinalsOf", spec := "fnExactFinalsOf", inPlace := ["internal/abi.NoEscape", "internal/bytealg.MakeNoZero", "slices.overlaps[loop.example/g00527/impl.Block]"], unfollowed := true, recurses := true, apart := false, narrowed := true }
def FnExactFinalsOfUptoSaid : Prop := fnExactFinalsOfUptoRow.holds Tryz.pinned (OpenSpec.upto fnExactFinalsOfSpec)

end Rows
end Go.Proofs.YtmbfhipfcjmhmaaGreat
