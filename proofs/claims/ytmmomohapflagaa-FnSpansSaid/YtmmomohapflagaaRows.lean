/-
  No cell of these rows narrows 'for every input' (looked for: loops, veiled, ifaces, maps, wideKeys, modest, calm, conditions, laid).
  DERIVED. THE GIVEN ROWS OF THIS SEAT. 11 by the template 'for every input the law returns true; each argument reads behind the call as it read before'; 0 by the template 'total and deterministic' (their statements: YtmmomohapflagaaTotals.lean).
  GIVEN WITH THE SEED: the statements are not yours to turn. If you find one false, say at which input.
  Laid BY PROGRAM, IN A SANDBOX (cutbox-rows.mjs): the forced cells as the released guide's own fill.sh prints them over the translation d6ccc3d23d9f6151… (all of the seat's roots in one cut). By AI agents, Wed Nov 11 2026. No macro, syntax, notation, axiom, sorry.
-/
import Derived.Test.YtmmomohapflagaaChecked
import GoSem.Claim
import GoSem.ClaimJoined
import GoSem.ClaimMapViews
import Derived.JoinedTies
import Derived.KernelRfl
namespace Go.Proofs.Ytmmomohapflagaa
/- THE CELL 'sum', in the pinned program and in every row, IS THE sha256 OF THE DUMP (.gsa) THAT YtmmomohapflagaaProg.lean LOADS. Nothing in Lean hashes anything: it is a label: what it is worth is what the hold of that sum in a sandbox is worth. -/
noncomputable def Try.pinned : Pinned := { name := "ytmmomohapflagaa", sum := "d6ccc3d23d9f6151ae99994845e542d8557c92d6653497f5949b089be8cdd94e", checked := Try.checked }
namespace Rows
def none {H : Type} : Left H := { results := [], args := [] }

/-- 'laws.FnTurns': WHATEVER THE INPUT: true; the input reads as it did. -/
def fnTurnsSpec : ChangeSpec := { name := "fnTurns", fn := fun _ => fun
  | [d1, d2] => { results := [.lit (.bool true)], args := [d1, d2] }
  | _ => none }
def fnTurnsRow : OpenClaim := { program := "ytmmomohapflagaa", sum := "d6ccc3d23d9f6151ae99994845e542d8557c92d6653497f5949b089be8cdd94e", func := "loop.example/g00527/laws.FnTurns", spec := "fnTurns", unfollowed := true, recurses := true, apart := false }
def FnTurnsSaid : Prop := fnTurnsRow.holds Try.pinned (OpenSpec.ofChange fnTurnsSpec)

/-- ITS FALSE NEIGHBOUR: 'it returns false'. Refute it at one input. -/
def fnTurnsWrong : ChangeSpec := { name := "fnTurns", fn := fun _ => fun
  | [d1, d2] => { results := [.lit (.bool false)], args := [d1, d2] }
  | _ => none }
def FnTurnsWrongFalsely : Prop := fnTurnsRow.holds Try.pinned (OpenSpec.ofChange fnTurnsWrong)

/-- 'laws.FnRates': WHATEVER THE INPUT: true; the input reads as it did. -/
def fnRatesSpec : ChangeSpec := { name := "fnRates", fn := fun _ => fun
  | [d1, d2] => { results := [.lit (.bool true)], args := [d1, d2] }
  | _ => none }
def fnRatesRow : OpenClaim := { program := "ytmmomohapflagaa", sum := "d6ccc3d23d9f6151ae99994845e542d8557c92d6653497f5949b089be8cdd94e", func := "loop.example/g00527/laws.FnRates", spec := "fnRates", unfollowed := true, recurses := true, apart := false }
def FnRatesSaid : Prop := fnRatesRow.holds Try.pinned (OpenSpec.ofChange fnRatesSpec)

/-- ITS FALSE NEIGHBOUR: 'it returns false'. Refute it at one input. -/
def fnRatesWrong : ChangeSpec := { name := "fnRates", fn := fun _ => fun
  | [d1, d2] => { results := [.lit (.bool false)], args := [d1, d2] }
  | _ => none }
def FnRatesWrongFalsely : Prop := fnRatesRow.holds Try.pinned (OpenSpec.ofChange fnRatesWrong)

/-- 'laws.FnLateness': WHATEVER THE INPUT: true; the input reads as it did. -/
def fnLatenessSpec : ChangeSpec := { name := "fnLateness", fn := fun _ => fun
  | [d1, d2] => { results := [.lit (.bool true)], args := [d1, d2] }
  | _ => none }
def fnLatenessRow : OpenClaim := { program := "ytmmomohapflagaa", sum := "d6ccc3d23d9f6151ae99994845e542d8557c92d6653497f5949b089be8cdd94e", func := "loop.example/g00527/laws.FnLateness", spec := "fnLateness", unfollowed := true, recurses := true, apart := false }
def FnLatenessSaid : Prop := fnLatenessRow.holds Try.pinned (OpenSpec.ofChange fnLatenessSpec)

/-- ITS FALSE NEIGHBOUR: 'it returns false'. Refute it at one input. -/
def fnLatenessWrong : ChangeSpec := { name := "fnLateness", fn := fun _ => fun
  | [d1, d2] => { results := [.lit (.bool false)], args := [d1, d2] }
  | _ => none }
def FnLatenessWrongFalsely : Prop := fnLatenessRow.holds Try.pinned (OpenSpec.ofChange fnLatenessWrong)

/-- 'laws.FnHands': WHATEVER THE INPUT: true; the input reads as it did. -/
def fnHandsSpec : ChangeSpec := { name := "fnHands", fn := fun _ => fun
  | [d1, d2] => { results := [.lit (.bool true)], args := [d1, d2] }
  | _ => none }
def fnHandsRow : OpenClaim := { program := "ytmmomohapflagaa", sum := "d6ccc3d23d9f6151ae99994845e542d8557c92d6653497f5949b089be8cdd94e", func := "loop.example/g00527/laws.FnHands", spec := "fnHands", unfollowed := true, recurses := true, apart := false }
def FnHandsSaid : Prop := fnHandsRow.holds Try.pinned (OpenSpec.ofChange fnHandsSpec)

/-- ITS FALSE NEIGHBOUR: 'it returns false'. Refute it at one input. -/
def fnHandsWrong : ChangeSpec := { name := "fnHands", fn := fun _ => fun
  | [d1, d2] => { results := [.lit (.bool false)], args := [d1, d2] }
  | _ => none }
def FnHandsWrongFalsely : Prop := fnHandsRow.holds Try.pinned (OpenSpec.ofChange fnHandsWrong)

/-- 'laws.FnMoore': WHATEVER THE INPUT: true; the input reads as it did. -/
def fnMooreSpec : ChangeSpec := { name := "fnMoore", fn := fun _ => fun
  | [d1, d2] => { results := [.lit (.bool true)], args := [d1, d2] }
  | _ => none }
def fnMooreRow : OpenClaim := { program := "ytmmomohapflagaa", sum := "d6ccc3d23d9f6151ae99994845e542d8557c92d6653497f5949b089be8cdd94e", func := "loop.example/g00527/laws.FnMoore", spec := "fnMoore", unfollowed := true, recurses := true, apart := false }
def FnMooreSaid : Prop := fnMooreRow.holds Try.pinned (OpenSpec.ofChange fnMooreSpec)

/-- ITS FALSE NEIGHBOUR: 'it returns false'. Refute it at one input. -/
def fnMooreWrong : ChangeSpec := { name := "fnMoore", fn := fun _ => fun
  | [d1, d2] => { results := [.lit (.bool false)], args := [d1, d2] }
  | _ => none }
def FnMooreWrongFalsely : Prop := fnMooreRow.holds Try.pinned (OpenSpec.ofChange fnMooreWrong)

/-- 'laws.FnGreets': WHATEVER THE INPUT: true; the input reads as it did. -/
def fnGreetsSpec : ChangeSpec := { name := "fnGreets", fn := fun _ => fun
  | [d1, d2] => { results := [.lit (.bool true)], args := [d1, d2] }
  | _ => none }
def fnGreetsRow : OpenClaim := { program := "ytmmomohapflagaa", sum := "d6ccc3d23d9f6151ae99994845e542d8557c92d6653497f5949b089be8cdd94e", func := "loop.example/g00527/laws.FnGreets", spec := "fnGreets", unfollowed := true, recurses := true, apart := false }
def FnGreetsSaid : Prop := fnGreetsRow.holds Try.pinned (OpenSpec.ofChange fnGreetsSpec)

/-- ITS FALSE NEIGHBOUR: 'it returns false'. Refute it at one input. -/
def fnGreetsWrong : ChangeSpec := { name := "fnGreets", fn := fun _ => fun
  | [d1, d2] => { results := [.lit (.bool false)], args := [d1, d2] }
  | _ => none }
def FnGreetsWrongFalsely : Prop := fnGreetsRow.holds Try.pinned (OpenSpec.ofChange fnGreetsWrong)

/-- 'laws.FnBursts': WHATEVER THE INPUT: true; the input reads as it did. -/
def fnBurstsSpec : ChangeSpec := { name := "fnBursts", fn := fun _ => fun
  | [d1, d2] => { results := [.lit (.bool true)], args := [d1, d2] }
  | _ => none }
def fnBurstsRow : OpenClaim := { program := "ytmmomohapflagaa", sum := "d6ccc3d23d9f6151ae99994845e542d8557c92d6653497f5949b089be8cdd94e", func := "loop.example/g00527/laws.FnBursts", spec := "fnBursts", unfollowed := true, recurses := true, apart := false }
def FnBurstsSaid : Prop := fnBurstsRow.holds Try.pinned (OpenSpec.ofChange fnBurstsSpec)

/-- ITS FALSE NEIGHBOUR: 'it returns false'. Refute it at one input. -/
def fnBurstsWrong : ChangeSpec := { name := "fnBursts", fn := fun _ => fun
  | [d1, d2] => { results := [.lit (.bool false)], args := [d1, d2] }
  | _ => none }
def FnBurstsWrongFalsely : Prop := fnBurstsRow.holds Try.pinned (OpenSpec.ofChange fnBurstsWrong)

/-- 'laws.FnRelations': WHATEVER THE INPUT: true; the input reads as it did. -/
def fnRelationsSpec : ChangeSpec := { name := "fnRelations", fn := fun _ => fun
  | [d1, d2] => { results := [.lit (.bool true)], args := [d1, d2] }
  | _ => none }
def fnRelationsRow : OpenClaim := { program := "ytmmomohapflagaa", sum := "d6ccc3d23d9f6151ae99994845e542d8557c92d6653497f5949b089be8cdd94e", func := "loop.example/g00527/laws.FnRelations", spec := "fnRelations", unfollowed := true, recurses := true, apart := false }
def FnRelationsSaid : Prop := fnRelationsRow.holds Try.pinned (OpenSpec.ofChange fnRelationsSpec)

/-- ITS FALSE NEIGHBOUR: 'it returns false'. Refute it at one input. -/
def fnRelationsWrong : ChangeSpec := { name := "fnRelations", fn := fun _ => fun
  | [d1, d2] => { results := [.lit (.bool false)], args := [d1, d2] }
  | _ => none }
def FnRelationsWrongFalsely : Prop := fnRelationsRow.holds Try.pinned (OpenSpec.ofChange fnRelationsWrong)

/-- 'laws.FnSpans': WHATEVER THE INPUT: true; the input reads as it did. -/
def fnSpansSpec : ChangeSpec := { name := "fnSpans", fn := fun _ => fun
  | [d1, d2] => { results := [.lit (.bool true)], args := [d1, d2] }
  | _ => none }
def fnSpansRow : OpenClaim := { program := "ytmmomohapflagaa", sum := "d6ccc3d23d9f6151ae99994845e542d8557c92d6653497f5949b089be8cdd94e", func := "loop.example/g00527/laws.FnSpans", spec := "fnSpans", unfollowed := true, recurses := true, apart := false }
def FnSpansSaid : Prop := fnSpansRow.holds Try.pinned (OpenSpec.ofChange fnSpansSpec)

/-- ITS FALSE NEIGHBOUR: 'it returns false'. Refute it at one input. -/
def fnSpansWrong : ChangeSpec := { name := "fnSpans", fn := fun _ => fun
  | [d1, d2] => { results := [.lit (.bool false)], args := [d1, d2] }
  | _ => none }
def FnSpansWrongFalsely : Prop := fnSpansRow.holds Try.pinned (OpenSpec.ofChange fnSpansWrong)

/-- 'laws.FnBlocks': WHATEVER THE INPUT: true; the input reads as it did. -/
def fnBlocksSpec : ChangeSpec := { name := "fnBlocks", fn := fun _ => fun
  | [d1, d2] => { results := [.lit (.bool true)], args := [d1, d2] }
  | _ => none }
def fnBlocksRow : OpenClaim := { program := "ytmmomohapflagaa", sum := "d6ccc3d23d9f6151ae99994845e542d8557c92d6653497f5949b089be8cdd94e", func := "loop.example/g00527/laws.FnBlocks", spec := "fnBlocks", inPlace := ["internal/abi.NoEscape", "internal/bytealg.MakeNoZero"], unfollowed := true, recurses := true, apart := false }
def FnBlocksSaid : Prop := fnBlocksRow.holds Try.pinned (OpenSpec.ofChange fnBlocksSpec)

/-- ITS FALSE NEIGHBOUR: 'it returns false'. Refute it at one input. -/
def fnBlocksWrong : ChangeSpec := { name := "fnBlocks", fn := fun _ => fun
  | [d1, d2] => { results := [.lit (.bool false)], args := [d1, d2] }
  | _ => none }
def FnBlocksWrongFalsely : Prop := fnBlocksRow.holds Try.pinned (OpenSpec.ofChange fnBlocksWrong)

/-- 'laws.FnLost': WHATEVER THE INPUT: true; the input reads as it did. -/
def fnLostSpec : ChangeSpec := { name := "fnLost", fn := fun _ => fun
  | [d1, d2] => { results := [.lit (.bool true)], args := [d1, d2] }
  | _ => none }
def fnLostRow : OpenClaim := { program := "ytmmomohapflagaa", sum := "d6ccc3d23d9f6151ae99994845e542d8557c92d6653497f5949b089be8cdd94e", func := "loop.example/g00527/laws.FnLost", spec := "fnLost", unfollowed := true, recurses := true, apart := false }
def FnLostSaid : Prop := fnLostRow.holds Try.pinned (OpenSpec.ofChange fnLostSpec)

/-- ITS FALSE NEIGHBOUR: 'it returns false'. Refute it at one input. -/
def fnLostWrong : ChangeSpec := { name := "fnLost", fn := fun _ => fun
  | [d1, d2] => { results := [.lit (.bool false)], args := [d1, d2] }
  | _ => none }
def FnLostWrongFalsely : Prop := fnLostRow.holds Try.pinned (OpenSpec.ofChange fnLostWrong)

/- THE SECOND FORM. 'bulk': how many values and letters a reading holds, each counted each time it is reached (what is shared counts as often as it is met; a slice's spare places count too). A statement '..UptoSaid' is the law's where the arguments, and the package variables that the reading takes, are together of bulk at most 1048576: NARROWER than '..Said'. Prove '..Said' where nothing that the law and all that it calls make is longer than what came in: it says more and counts as full. Else prove '..UptoSaid'. A law counts once. -/
mutual
def uptoBulk {H : Type} : DataW H → Nat
  | .lit (.string bytes) => bytes.length + 1
  | .lit _ => 1
  | .nil => 1
  | .ptr d => uptoBulk d + 1
  | .slice elems spare => uptoBulkAll elems + uptoBulkAll spare + 1
  | .agg parts => uptoBulkAll parts + 1
  | .iface _ d => uptoBulk d + 1
  | .map entries => uptoBulkEntries entries + 1
  | .held _ => 1
def uptoBulkAll {H : Type} : List (DataW H) → Nat
  | [] => 0
  | d :: r => uptoBulk d + uptoBulkAll r
def uptoBulkEntries {H : Type} : List (Lit × DataW H) → Nat
  | [] => 0
  | x :: r => uptoBulkEntry x + uptoBulkEntries r
def uptoBulkEntry {H : Type} : Lit × DataW H → Nat
  | (.string bytes, d) => bytes.length + uptoBulk d + 1
  | (_, d) => uptoBulk d + 1
 end
def uptoSmall : (H : Type) → List (DataW H) → Bool := fun _ ds => decide (uptoBulkAll ds ≤ 1048576)
def OpenSpec.upto (s : _root_.Go.ChangeSpec) : _root_.Go.OpenSpec := { _root_.Go.OpenSpec.ofChange s with cond := some uptoSmall }

/-- 'laws.FnTurns', WHERE WHAT IT READS IS OF BULK AT MOST 1048576: true; the input reads as it did. -/
def fnTurnsUptoRow : OpenClaim := { program := "ytmmomohapflagaa", sum := "d6ccc3d23d9f6151ae99994845e542d8557c92d6653497f5949b089be8cdd94e", func := "loop.example/g00527/laws.FnTurns", spec := "fnTurns", unfollowed := true, recurses := true, apart := false, narrowed := true }
def FnTurnsUptoSaid : Prop := fnTurnsUptoRow.holds Try.pinned (OpenSpec.upto fnTurnsSpec)

/-- 'laws.FnRates', WHERE WHAT IT READS IS OF BULK AT MOST 1048576: true; the input reads as it did. -/
def fnRatesUptoRow : OpenClaim := { program := "ytmmomohapflagaa", sum := "d6ccc3d23d9f6151ae99994845e542d8557c92d6653497f5949b089be8cdd94e", func := "loop.example/g00527/laws.FnRates", spec := "fnRates", unfollowed := true, recurses := true, apart := false, narrowed := true }
def FnRatesUptoSaid : Prop := fnRatesUptoRow.holds Try.pinned (OpenSpec.upto fnRatesSpec)

/-- 'laws.FnLateness', WHERE WHAT IT READS IS OF BULK AT MOST 1048576: true; the input reads as it did. -/
def fnLatenessUptoRow : OpenClaim := { program := "ytmmomohapflagaa", sum := "d6ccc3d23d9f6151ae99994845e542d8557c92d6653497f5949b089be8cdd94e", func := "loop.example/g00527/laws.FnLateness", spec := "fnLateness", unfollowed := true, recurses := true, apart := false, narrowed := true }
def FnLatenessUptoSaid : Prop := fnLatenessUptoRow.holds Try.pinned (OpenSpec.upto fnLatenessSpec)

/-- 'laws.FnHands', WHERE WHAT IT READS IS OF BULK AT MOST 1048576: true; the input reads as it did. -/
def fnHandsUptoRow : OpenClaim := { program := "ytmmomohapflagaa", sum := "d6ccc3d23d9f6151ae99994845e542d8557c92d6653497f5949b089be8cdd94e", func := "loop.example/g00527/laws.FnHands", spec := "fnHands", unfollowed := true, recurses := true, apart := false, narrowed := true }
def FnHandsUptoSaid : Prop := fnHandsUptoRow.holds Try.pinned (OpenSpec.upto fnHandsSpec)

/-- 'laws.FnMoore', WHERE WHAT IT READS IS OF BULK AT MOST 1048576: true; the input reads as it did. -/
def fnMooreUptoRow : OpenClaim := { program := "ytmmomohapflagaa", sum := "d6ccc3d23d9f6151ae99994845e542d8557c92d6653497f5949b089be8cdd94e", func := "loop.example/g00527/laws.FnMoore", spec := "fnMoore", unfollowed := true, recurses := true, apart := false, narrowed := true }
def FnMooreUptoSaid : Prop := fnMooreUptoRow.holds Try.pinned (OpenSpec.upto fnMooreSpec)

/-- 'laws.FnGreets', WHERE WHAT IT READS IS OF BULK AT MOST 1048576: true; the input reads as it did. -/
def fnGreetsUptoRow : OpenClaim := { program := "ytmmomohapflagaa", sum := "d6ccc3d23d9f6151ae99994845e542d8557c92d6653497f5949b089be8cdd94e", func := "loop.example/g00527/laws.FnGreets", spec := "fnGreets", unfollowed := true, recurses := true, apart := false, narrowed := true }
def FnGreetsUptoSaid : Prop := fnGreetsUptoRow.holds Try.pinned (OpenSpec.upto fnGreetsSpec)

/-- 'laws.FnBursts', WHERE WHAT IT READS IS OF BULK AT MOST 1048576: true; the input reads as it did. -/
def fnBurstsUptoRow : OpenClaim := { program := "ytmmomohapflagaa", sum := "d6ccc3d23d9f6151ae99994845e542d8557c92d6653497f5949b089be8cdd94e", func := "loop.example/g00527/laws.FnBursts", spec := "fnBursts", unfollowed := true, recurses := true, apart := false, narrowed := true }
def FnBurstsUptoSaid : Prop := fnBurstsUptoRow.holds Try.pinned (OpenSpec.upto fnBurstsSpec)

/-- 'laws.FnRelations', WHERE WHAT IT READS IS OF BULK AT MOST 1048576: true; the input reads as it did. -/
def fnRelationsUptoRow : OpenClaim := { program := "ytmmomohapflagaa", sum := "d6ccc3d23d9f6151ae99994845e542d8557c92d6653497f5949b089be8cdd94e", func := "loop.example/g00527/laws.FnRelations", spec := "fnRelations", unfollowed := true, recurses := true, apart := false, narrowed := true }
def FnRelationsUptoSaid : Prop := fnRelationsUptoRow.holds Try.pinned (OpenSpec.upto fnRelationsSpec)

/-- 'laws.FnSpans', WHERE WHAT IT READS IS OF BULK AT MOST 1048576: true; the input reads as it did. -/
def fnSpansUptoRow : OpenClaim := { program := "ytmmomohapflagaa", sum := "d6ccc3d23d9f6151ae99994845e542d8557c92d6653497f5949b089be8cdd94e", func := "loop.example/g00527/laws.FnSpans", spec := "fnSpans", unfollowed := true, recurses := true, apart := false, narrowed := true }
def FnSpansUptoSaid : Prop := fnSpansUptoRow.holds Try.pinned (OpenSpec.upto fnSpansSpec)

/-- 'laws.FnBlocks', WHERE WHAT IT READS IS OF BULK AT MOST 1048576: true; the input reads as it did. -/
def fnBlocksUptoRow : OpenClaim := { program := "ytmmomohapflagaa", sum := "d6ccc3d23d9f6151ae99994845e542d8557c92d6653497f5949b089be8cdd94e", func := "loop.example/g00527/laws.FnBlocks", spec := "fnBlocks", inPlace := ["internal/abi.NoEscape", "internal/bytealg.MakeNoZero"], unfollowed := true, recurses := true, apart := false, narrowed := true }
def FnBlocksUptoSaid : Prop := fnBlocksUptoRow.holds Try.pinned (OpenSpec.upto fnBlocksSpec)

/-- 'laws.FnLost', WHERE WHAT IT READS IS OF BULK AT MOST 1048576: true; the input reads as it did. -/
def fnLostUptoRow : OpenClaim := { program := "ytmmomohapflagaa", sum := "d6ccc3d23d9f6151ae99994845e542d8557c92d6653497f5949b089be8cdd94e", func := "loop.example/g00527/laws.FnLost", spec := "fnLost", unfollowed := true, recurses := true, apart := false, narrowed := true }
def FnLostUptoSaid : Prop := fnLostUptoRow.holds Try.pinned (OpenSpec.upto fnLostSpec)

end Rows
end Go.Proofs.Ytmmomohapflagaa
