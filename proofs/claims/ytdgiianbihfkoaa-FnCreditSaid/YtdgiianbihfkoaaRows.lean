/-
  No cell of these rows narrows 'for every input' (looked for: loops, veiled, ifaces, maps, wideKeys, modest, calm, conditions, laid).
  DERIVED. THE GIVEN ROWS OF THIS SEAT. 12 by the template 'for every input the law returns true; each argument reads behind the call as it read before'; 0 by the template 'total and deterministic' (their statements: YtdgiianbihfkoaaTotals.lean).
  GIVEN WITH THE SEED: the statements are not yours to turn. If you find one false, say at which input.
  Laid BY PROGRAM, IN A SANDBOX (cutbox-rows.mjs): the forced cells as the released guide's own fill.sh prints them over the translation aa5ca4e766cc90c5… (all of the seat's roots in one cut). By AI agents, Wed Nov 11 2026. No macro, syntax, notation, axiom, sorry.
-/
import Derived.Test.YtdgiianbihfkoaaChecked
import GoSem.Claim
import GoSem.ClaimJoined
import GoSem.ClaimMapViews
import Derived.JoinedTies
import Derived.KernelRfl
namespace Go.Proofs.Ytdgiianbihfkoaa
/- THE CELL 'sum', in the pinned program and in every row, IS THE sha256 OF THE DUMP (.gsa) THAT YtdgiianbihfkoaaProg.lean LOADS. Nothing in Lean hashes anything: it is a label: what it is worth is what the hold of that sum in a sandbox is worth. -/
noncomputable def Try.pinned : Pinned := { name := "ytdgiianbihfkoaa", sum := "aa5ca4e766cc90c54ede6702aa9728ac463e1f161f9225da39956665cb80e95a", checked := Try.checked }
namespace Rows
def none {H : Type} : Left H := { results := [], args := [] }

/-- 'laws.FnWays': WHATEVER THE INPUT: true; the input reads as it did. -/
def fnWaysSpec : ChangeSpec := { name := "fnWays", fn := fun _ => fun
  | [d1, d2] => { results := [.lit (.bool true)], args := [d1, d2] }
  | _ => none }
def fnWaysRow : OpenClaim := { program := "ytdgiianbihfkoaa", sum := "aa5ca4e766cc90c54ede6702aa9728ac463e1f161f9225da39956665cb80e95a", func := "loop.example/g00527/laws.FnWays", spec := "fnWays", unfollowed := true, recurses := true, apart := false }
def FnWaysSaid : Prop := fnWaysRow.holds Try.pinned (OpenSpec.ofChange fnWaysSpec)

/-- ITS FALSE NEIGHBOUR: 'it returns false'. Refute it at one input. -/
def fnWaysWrong : ChangeSpec := { name := "fnWays", fn := fun _ => fun
  | [d1, d2] => { results := [.lit (.bool false)], args := [d1, d2] }
  | _ => none }
def FnWaysWrongFalsely : Prop := fnWaysRow.holds Try.pinned (OpenSpec.ofChange fnWaysWrong)

/-- 'laws.FnShaped': WHATEVER THE INPUT: true; the input reads as it did. -/
def fnShapedSpec : ChangeSpec := { name := "fnShaped", fn := fun _ => fun
  | [d1, d2] => { results := [.lit (.bool true)], args := [d1, d2] }
  | _ => none }
def fnShapedRow : OpenClaim := { program := "ytdgiianbihfkoaa", sum := "aa5ca4e766cc90c54ede6702aa9728ac463e1f161f9225da39956665cb80e95a", func := "loop.example/g00527/laws.FnShaped", spec := "fnShaped", unfollowed := true, recurses := true, apart := false }
def FnShapedSaid : Prop := fnShapedRow.holds Try.pinned (OpenSpec.ofChange fnShapedSpec)

/-- ITS FALSE NEIGHBOUR: 'it returns false'. Refute it at one input. -/
def fnShapedWrong : ChangeSpec := { name := "fnShaped", fn := fun _ => fun
  | [d1, d2] => { results := [.lit (.bool false)], args := [d1, d2] }
  | _ => none }
def FnShapedWrongFalsely : Prop := fnShapedRow.holds Try.pinned (OpenSpec.ofChange fnShapedWrong)

/-- 'laws.FnRounds': WHATEVER THE INPUT: true; the input reads as it did. -/
def fnRoundsSpec : ChangeSpec := { name := "fnRounds", fn := fun _ => fun
  | [d1, d2] => { results := [.lit (.bool true)], args := [d1, d2] }
  | _ => none }
def fnRoundsRow : OpenClaim := { program := "ytdgiianbihfkoaa", sum := "aa5ca4e766cc90c54ede6702aa9728ac463e1f161f9225da39956665cb80e95a", func := "loop.example/g00527/laws.FnRounds", spec := "fnRounds", unfollowed := true, recurses := true, apart := false }
def FnRoundsSaid : Prop := fnRoundsRow.holds Try.pinned (OpenSpec.ofChange fnRoundsSpec)

/-- ITS FALSE NEIGHBOUR: 'it returns false'. Refute it at one input. -/
def fnRoundsWrong : ChangeSpec := { name := "fnRounds", fn := fun _ => fun
  | [d1, d2] => { results := [.lit (.bool false)], args := [d1, d2] }
  | _ => none }
def FnRoundsWrongFalsely : Prop := fnRoundsRow.holds Try.pinned (OpenSpec.ofChange fnRoundsWrong)

/-- 'laws.FnShares': WHATEVER THE INPUT: true; the input reads as it did. -/
def fnSharesSpec : ChangeSpec := { name := "fnShares", fn := fun _ => fun
  | [d1, d2] => { results := [.lit (.bool true)], args := [d1, d2] }
  | _ => none }
def fnSharesRow : OpenClaim := { program := "ytdgiianbihfkoaa", sum := "aa5ca4e766cc90c54ede6702aa9728ac463e1f161f9225da39956665cb80e95a", func := "loop.example/g00527/laws.FnShares", spec := "fnShares", unfollowed := true, recurses := true, apart := false }
def FnSharesSaid : Prop := fnSharesRow.holds Try.pinned (OpenSpec.ofChange fnSharesSpec)

/-- ITS FALSE NEIGHBOUR: 'it returns false'. Refute it at one input. -/
def fnSharesWrong : ChangeSpec := { name := "fnShares", fn := fun _ => fun
  | [d1, d2] => { results := [.lit (.bool false)], args := [d1, d2] }
  | _ => none }
def FnSharesWrongFalsely : Prop := fnSharesRow.holds Try.pinned (OpenSpec.ofChange fnSharesWrong)

/-- 'laws.FnCredit': WHATEVER THE INPUT: true; the input reads as it did. -/
def fnCreditSpec : ChangeSpec := { name := "fnCredit", fn := fun _ => fun
  | [d1, d2] => { results := [.lit (.bool true)], args := [d1, d2] }
  | _ => none }
def fnCreditRow : OpenClaim := { program := "ytdgiianbihfkoaa", sum := "aa5ca4e766cc90c54ede6702aa9728ac463e1f161f9225da39956665cb80e95a", func := "loop.example/g00527/laws.FnCredit", spec := "fnCredit", unfollowed := true, recurses := true, apart := false }
def FnCreditSaid : Prop := fnCreditRow.holds Try.pinned (OpenSpec.ofChange fnCreditSpec)

/-- ITS FALSE NEIGHBOUR: 'it returns false'. Refute it at one input. -/
def fnCreditWrong : ChangeSpec := { name := "fnCredit", fn := fun _ => fun
  | [d1, d2] => { results := [.lit (.bool false)], args := [d1, d2] }
  | _ => none }
def FnCreditWrongFalsely : Prop := fnCreditRow.holds Try.pinned (OpenSpec.ofChange fnCreditWrong)

/-- 'laws.FnDemand': WHATEVER THE INPUT: true; the input reads as it did. -/
def fnDemandSpec : ChangeSpec := { name := "fnDemand", fn := fun _ => fun
  | [d1, d2] => { results := [.lit (.bool true)], args := [d1, d2] }
  | _ => none }
def fnDemandRow : OpenClaim := { program := "ytdgiianbihfkoaa", sum := "aa5ca4e766cc90c54ede6702aa9728ac463e1f161f9225da39956665cb80e95a", func := "loop.example/g00527/laws.FnDemand", spec := "fnDemand", unfollowed := true, recurses := true, apart := false }
def FnDemandSaid : Prop := fnDemandRow.holds Try.pinned (OpenSpec.ofChange fnDemandSpec)

/-- ITS FALSE NEIGHBOUR: 'it returns false'. Refute it at one input. -/
def fnDemandWrong : ChangeSpec := { name := "fnDemand", fn := fun _ => fun
  | [d1, d2] => { results := [.lit (.bool false)], args := [d1, d2] }
  | _ => none }
def FnDemandWrongFalsely : Prop := fnDemandRow.holds Try.pinned (OpenSpec.ofChange fnDemandWrong)

/-- 'laws.FnEarliest': WHATEVER THE INPUT: true; the input reads as it did. -/
def fnEarliestSpec : ChangeSpec := { name := "fnEarliest", fn := fun _ => fun
  | [d1, d2] => { results := [.lit (.bool true)], args := [d1, d2] }
  | _ => none }
def fnEarliestRow : OpenClaim := { program := "ytdgiianbihfkoaa", sum := "aa5ca4e766cc90c54ede6702aa9728ac463e1f161f9225da39956665cb80e95a", func := "loop.example/g00527/laws.FnEarliest", spec := "fnEarliest", unfollowed := true, recurses := true, apart := false }
def FnEarliestSaid : Prop := fnEarliestRow.holds Try.pinned (OpenSpec.ofChange fnEarliestSpec)

/-- ITS FALSE NEIGHBOUR: 'it returns false'. Refute it at one input. -/
def fnEarliestWrong : ChangeSpec := { name := "fnEarliest", fn := fun _ => fun
  | [d1, d2] => { results := [.lit (.bool false)], args := [d1, d2] }
  | _ => none }
def FnEarliestWrongFalsely : Prop := fnEarliestRow.holds Try.pinned (OpenSpec.ofChange fnEarliestWrong)

/-- 'laws.FnDelays': WHATEVER THE INPUT: true; the input reads as it did. -/
def fnDelaysSpec : ChangeSpec := { name := "fnDelays", fn := fun _ => fun
  | [d1, d2] => { results := [.lit (.bool true)], args := [d1, d2] }
  | _ => none }
def fnDelaysRow : OpenClaim := { program := "ytdgiianbihfkoaa", sum := "aa5ca4e766cc90c54ede6702aa9728ac463e1f161f9225da39956665cb80e95a", func := "loop.example/g00527/laws.FnDelays", spec := "fnDelays", unfollowed := true, recurses := true, apart := false }
def FnDelaysSaid : Prop := fnDelaysRow.holds Try.pinned (OpenSpec.ofChange fnDelaysSpec)

/-- ITS FALSE NEIGHBOUR: 'it returns false'. Refute it at one input. -/
def fnDelaysWrong : ChangeSpec := { name := "fnDelays", fn := fun _ => fun
  | [d1, d2] => { results := [.lit (.bool false)], args := [d1, d2] }
  | _ => none }
def FnDelaysWrongFalsely : Prop := fnDelaysRow.holds Try.pinned (OpenSpec.ofChange fnDelaysWrong)

/-- 'laws.FnSorted': WHATEVER THE INPUT: true; the input reads as it did. -/
def fnSortedSpec : ChangeSpec := { name := "fnSorted", fn := fun _ => fun
  | [d1, d2] => { results := [.lit (.bool true)], args := [d1, d2] }
  | _ => none }
def fnSortedRow : OpenClaim := { program := "ytdgiianbihfkoaa", sum := "aa5ca4e766cc90c54ede6702aa9728ac463e1f161f9225da39956665cb80e95a", func := "loop.example/g00527/laws.FnSorted", spec := "fnSorted", unfollowed := true, recurses := true, apart := false }
def FnSortedSaid : Prop := fnSortedRow.holds Try.pinned (OpenSpec.ofChange fnSortedSpec)

/-- ITS FALSE NEIGHBOUR: 'it returns false'. Refute it at one input. -/
def fnSortedWrong : ChangeSpec := { name := "fnSorted", fn := fun _ => fun
  | [d1, d2] => { results := [.lit (.bool false)], args := [d1, d2] }
  | _ => none }
def FnSortedWrongFalsely : Prop := fnSortedRow.holds Try.pinned (OpenSpec.ofChange fnSortedWrong)

/-- 'laws.FnTexts': WHATEVER THE INPUT: true; the input reads as it did. -/
def fnTextsSpec : ChangeSpec := { name := "fnTexts", fn := fun _ => fun
  | [d1, d2] => { results := [.lit (.bool true)], args := [d1, d2] }
  | _ => none }
def fnTextsRow : OpenClaim := { program := "ytdgiianbihfkoaa", sum := "aa5ca4e766cc90c54ede6702aa9728ac463e1f161f9225da39956665cb80e95a", func := "loop.example/g00527/laws.FnTexts", spec := "fnTexts", apart := false }
def FnTextsSaid : Prop := fnTextsRow.holds Try.pinned (OpenSpec.ofChange fnTextsSpec)

/-- ITS FALSE NEIGHBOUR: 'it returns false'. Refute it at one input. -/
def fnTextsWrong : ChangeSpec := { name := "fnTexts", fn := fun _ => fun
  | [d1, d2] => { results := [.lit (.bool false)], args := [d1, d2] }
  | _ => none }
def FnTextsWrongFalsely : Prop := fnTextsRow.holds Try.pinned (OpenSpec.ofChange fnTextsWrong)

/-- 'laws.FnHeaps': WHATEVER THE INPUT: true; the input reads as it did. -/
def fnHeapsSpec : ChangeSpec := { name := "fnHeaps", fn := fun _ => fun
  | [d1, d2] => { results := [.lit (.bool true)], args := [d1, d2] }
  | _ => none }
def fnHeapsRow : OpenClaim := { program := "ytdgiianbihfkoaa", sum := "aa5ca4e766cc90c54ede6702aa9728ac463e1f161f9225da39956665cb80e95a", func := "loop.example/g00527/laws.FnHeaps", spec := "fnHeaps", unfollowed := true, recurses := true, apart := false }
def FnHeapsSaid : Prop := fnHeapsRow.holds Try.pinned (OpenSpec.ofChange fnHeapsSpec)

/-- ITS FALSE NEIGHBOUR: 'it returns false'. Refute it at one input. -/
def fnHeapsWrong : ChangeSpec := { name := "fnHeaps", fn := fun _ => fun
  | [d1, d2] => { results := [.lit (.bool false)], args := [d1, d2] }
  | _ => none }
def FnHeapsWrongFalsely : Prop := fnHeapsRow.holds Try.pinned (OpenSpec.ofChange fnHeapsWrong)

/-- 'laws.FnTurns': WHATEVER THE INPUT: true; the input reads as it did. -/
def fnTurnsSpec : ChangeSpec := { name := "fnTurns", fn := fun _ => fun
  | [d1, d2] => { results := [.lit (.bool true)], args := [d1, d2] }
  | _ => none }
def fnTurnsRow : OpenClaim := { program := "ytdgiianbihfkoaa", sum := "aa5ca4e766cc90c54ede6702aa9728ac463e1f161f9225da39956665cb80e95a", func := "loop.example/g00527/laws.FnTurns", spec := "fnTurns", unfollowed := true, recurses := true, apart := false }
def FnTurnsSaid : Prop := fnTurnsRow.holds Try.pinned (OpenSpec.ofChange fnTurnsSpec)

/-- ITS FALSE NEIGHBOUR: 'it returns false'. Refute it at one input. -/
def fnTurnsWrong : ChangeSpec := { name := "fnTurns", fn := fun _ => fun
  | [d1, d2] => { results := [.lit (.bool false)], args := [d1, d2] }
  | _ => none }
def FnTurnsWrongFalsely : Prop := fnTurnsRow.holds Try.pinned (OpenSpec.ofChange fnTurnsWrong)

/- THE SECOND FORM. 'bulk': how many values and letters a reading holds, each counted each time it is reached (what is shared counts as often as it is met; a slice's spare places count too). A statement '..UptoSaid' is the law's where the arguments, and the package variables that the reading takes, are together of bulk at most 1048576: NARROWER than '..Said'. Prove '..Said' where nothing that the law and all that it calls make is longer than what came in: it says more and counts as full. Else prove '..UptoSaid'. A law counts once. -/
mutual
def uptoBulk {H : Type} : DataW H → Nat
  | .lit (.string bytes) => bytes.length + 1
  | .lit _ => 1
  | .nil => 1
  | .ptr d => uptoBulk d + 1
  | .slice elems spare => uptoBulkAll elems + uptoBulkAll spare + 1
  | .agg parts => uptoBulkAll parts + 1
  | .iface _ d => uptoBulk d + 1
  | .map entries => uptoBulkEntries entries + 1
  | .held _ => 1
def uptoBulkAll {H : Type} : List (DataW H) → Nat
  | [] => 0
  | d :: r => uptoBulk d + uptoBulkAll r
def uptoBulkEntries {H : Type} : List (Lit × DataW H) → Nat
  | [] => 0
  | x :: r => uptoBulkEntry x + uptoBulkEntries r
def uptoBulkEntry {H : Type} : Lit × DataW H → Nat
  | (.string bytes, d) => bytes.length + uptoBulk d + 1
  | (_, d) => uptoBulk d + 1
 end
def uptoSmall : (H : Type) → List (DataW H) → Bool := fun _ ds => decide (uptoBulkAll ds ≤ 1048576)
def OpenSpec.upto (s : _root_.Go.ChangeSpec) : _root_.Go.OpenSpec := { _root_.Go.OpenSpec.ofChange s with cond := some uptoSmall }

/-- 'laws.FnWays', WHERE WHAT IT READS IS OF BULK AT MOST 1048576: true; the input reads as it did. -/
def fnWaysUptoRow : OpenClaim := { program := "ytdgiianbihfkoaa", sum := "aa5ca4e766cc90c54ede6702aa9728ac463e1f161f9225da39956665cb80e95a", func := "loop.example/g00527/laws.FnWays", spec := "fnWays", unfollowed := true, recurses := true, apart := false, narrowed := true }
def FnWaysUptoSaid : Prop := fnWaysUptoRow.holds Try.pinned (OpenSpec.upto fnWaysSpec)

/-- 'laws.FnShaped', WHERE WHAT IT READS IS OF BULK AT MOST 1048576: true; the input reads as it did. -/
def fnShapedUptoRow : OpenClaim := { program := "ytdgiianbihfkoaa", sum := "aa5ca4e766cc90c54ede6702aa9728ac463e1f161f9225da39956665cb80e95a", func := "loop.example/g00527/laws.FnShaped", spec := "fnShaped", unfollowed := true, recurses := true, apart := false, narrowed := true }
def FnShapedUptoSaid : Prop := fnShapedUptoRow.holds Try.pinned (OpenSpec.upto fnShapedSpec)

/-- 'laws.FnRounds', WHERE WHAT IT READS IS OF BULK AT MOST 1048576: true; the input reads as it did. -/
def fnRoundsUptoRow : OpenClaim := { program := "ytdgiianbihfkoaa", sum := "aa5ca4e766cc90c54ede6702aa9728ac463e1f161f9225da39956665cb80e95a", func := "loop.example/g00527/laws.FnRounds", spec := "fnRounds", unfollowed := true, recurses := true, apart := false, narrowed := true }
def FnRoundsUptoSaid : Prop := fnRoundsUptoRow.holds Try.pinned (OpenSpec.upto fnRoundsSpec)

/-- 'laws.FnShares', WHERE WHAT IT READS IS OF BULK AT MOST 1048576: true; the input reads as it did. -/
def fnSharesUptoRow : OpenClaim := { program := "ytdgiianbihfkoaa", sum := "aa5ca4e766cc90c54ede6702aa9728ac463e1f161f9225da39956665cb80e95a", func := "loop.example/g00527/laws.FnShares", spec := "fnShares", unfollowed := true, recurses := true, apart := false, narrowed := true }
def FnSharesUptoSaid : Prop := fnSharesUptoRow.holds Try.pinned (OpenSpec.upto fnSharesSpec)

/-- 'laws.FnCredit', WHERE WHAT IT READS IS OF BULK AT MOST 1048576: true; the input reads as it did. -/
def fnCreditUptoRow : OpenClaim := { program := "ytdgiianbihfkoaa", sum := "aa5ca4e766cc90c54ede6702aa9728ac463e1f161f9225da39956665cb80e95a", func := "loop.example/g00527/laws.FnCredit", spec := "fnCredit", unfollowed := true, recurses := true, apart := false, narrowed := true }
def FnCreditUptoSaid : Prop := fnCreditUptoRow.holds Try.pinned (OpenSpec.upto fnCreditSpec)

/-- 'laws.FnDemand', WHERE WHAT IT READS IS OF BULK AT MOST 1048576: true; the input reads as it did. -/
def fnDemandUptoRow : OpenClaim := { program := "ytdgiianbihfkoaa", sum := "aa5ca4e766cc90c54ede6702aa9728ac463e1f161f9225da39956665cb80e95a", func := "loop.example/g00527/laws.FnDemand", spec := "fnDemand", unfollowed := true, recurses := true, apart := false, narrowed := true }
def FnDemandUptoSaid : Prop := fnDemandUptoRow.holds Try.pinned (OpenSpec.upto fnDemandSpec)

/-- 'laws.FnEarliest', WHERE WHAT IT READS IS OF BULK AT MOST 1048576: true; the input reads as it did. -/
def fnEarliestUptoRow : OpenClaim := { program := "ytdgiianbihfkoaa", sum := "aa5ca4e766cc90c54ede6702aa9728ac463e1f161f9225da39956665cb80e95a", func := "loop.example/g00527/laws.FnEarliest", spec := "fnEarliest", unfollowed := true, recurses := true, apart := false, narrowed := true }
def FnEarliestUptoSaid : Prop := fnEarliestUptoRow.holds Try.pinned (OpenSpec.upto fnEarliestSpec)

/-- 'laws.FnDelays', WHERE WHAT IT READS IS OF BULK AT MOST 1048576: true; the input reads as it did. -/
def fnDelaysUptoRow : OpenClaim := { program := "ytdgiianbihfkoaa", sum := "aa5ca4e766cc90c54ede6702aa9728ac463e1f161f9225da39956665cb80e95a", func := "loop.example/g00527/laws.FnDelays", spec := "fnDelays", unfollowed := true, recurses := true, apart := false, narrowed := true }
def FnDelaysUptoSaid : Prop := fnDelaysUptoRow.holds Try.pinned (OpenSpec.upto fnDelaysSpec)

/-- 'laws.FnSorted', WHERE WHAT IT READS IS OF BULK AT MOST 1048576: true; the input reads as it did. -/
def fnSortedUptoRow : OpenClaim := { program := "ytdgiianbihfkoaa", sum := "aa5ca4e766cc90c54ede6702aa9728ac463e1f161f9225da39956665cb80e95a", func := "loop.example/g00527/laws.FnSorted", spec := "fnSorted", unfollowed := true, recurses := true, apart := false, narrowed := true }
def FnSortedUptoSaid : Prop := fnSortedUptoRow.holds Try.pinned (OpenSpec.upto fnSortedSpec)

/-- 'laws.FnTexts', WHERE WHAT IT READS IS OF BULK AT MOST 1048576: true; the input reads as it did. -/
def fnTextsUptoRow : OpenClaim := { program := "ytdgiianbihfkoaa", sum := "aa5ca4e766cc90c54ede6702aa9728ac463e1f161f9225da39956665cb80e95a", func := "loop.example/g00527/laws.FnTexts", spec := "fnTexts", apart := false, narrowed := true }
def FnTextsUptoSaid : Prop := fnTextsUptoRow.holds Try.pinned (OpenSpec.upto fnTextsSpec)

/-- 'laws.FnHeaps', WHERE WHAT IT READS IS OF BULK AT MOST 1048576: true; the input reads as it did. -/
def fnHeapsUptoRow : OpenClaim := { program := "ytdgiianbihfkoaa", sum := "aa5ca4e766cc90c54ede6702aa9728ac463e1f161f9225da39956665cb80e95a", func := "loop.example/g00527/laws.FnHeaps", spec := "fnHeaps", unfollowed := true, recurses := true, apart := false, narrowed := true }
def FnHeapsUptoSaid : Prop := fnHeapsUptoRow.holds Try.pinned (OpenSpec.upto fnHeapsSpec)

/-- 'laws.FnTurns', WHERE WHAT IT READS IS OF BULK AT MOST 1048576: true; the input reads as it did. -/
def fnTurnsUptoRow : OpenClaim := { program := "ytdgiianbihfkoaa", sum := "aa5ca4e766cc90c54ede6702aa9728ac463e1f161f9225da39956665cb80e95a", func := "loop.example/g00527/laws.FnTurns", spec := "fnTurns", unfollowed := true, recurses := true, apart := false, narrowed := true }
def FnTurnsUptoSaid : Prop := fnTurnsUptoRow.holds Try.pinned (OpenSpec.upto fnTurnsSpec)

end Rows
end Go.Proofs.Ytdgiianbihfkoaa
