/-
  No cell of these rows narrows 'for every input' (looked for: loops, veiled, ifaces, maps, wideKeys, modest, calm, conditions, laid).
  DERIVED. THE GIVEN ROWS OF THIS SEAT. 12 by the template 'for every input the law returns true; each argument reads behind the call as it read before'; 0 by the template 'total and deterministic' (their statements: YtcgnkhdeckgaaaaTotals.lean).
  GIVEN WITH THE SEED: the statements are not yours to turn. If you find one false, say at which input.
  Laid BY PROGRAM, IN A SANDBOX (cutbox-rows.mjs): the forced cells as the released guide's own fill.sh prints them over the translation b1ce60cd1ee7e015… (all of the seat's roots in one cut). By AI agents, Wed Nov 11 2026. No macro, syntax, notation, axiom, sorry.
-/
import Derived.Test.YtcgnkhdeckgaaaaChecked
import GoSem.Claim
import GoSem.ClaimJoined
import GoSem.ClaimMapViews
import Derived.JoinedTies
import Derived.KernelRfl
namespace Go.Proofs.Ytcgnkhdeckgaaaa
/- THE CELL 'sum', in the pinned program and in every row, IS THE sha256 OF THE DUMP (.gsa) THAT YtcgnkhdeckgaaaaProg.lean LOADS. Nothing in Lean hashes anything: it is a label: what it is worth is what the hold of that sum in a sandbox is worth. -/
noncomputable def Try.pinned : Pinned := { name := "ytcgnkhdeckgaaaa", sum := "b1ce60cd1ee7e0154c35d7a1f2f5d75ef6843911f40c2a6349d7a820a20e7c60", checked := Try.checked }
namespace Rows
def none {H : Type} : Left H := { results := [], args := [] }

/-- 'laws.FnExactPutPacket': WHATEVER THE INPUT: true; the input reads as it did. -/
def fnExactPutPacketSpec : ChangeSpec := { name := "fnExactPutPacket", fn := fun _ => fun
  | [d1, d2, d3] => { results := [.lit (.bool true)], args := [d1, d2, d3] }
  | _ => none }
def fnExactPutPacketRow : OpenClaim := { program := "ytcgnkhdeckgaaaa", sum := "b1ce60cd1ee7e0154c35d7a1f2f5d75ef6843911f40c2a6349d7a820a20e7c60", func := "loop.example/g00527/laws.FnExactPutPacket", spec := "fnExactPutPacket", unfollowed := true, recurses := true, apart := false }
def FnExactPutPacketSaid : Prop := fnExactPutPacketRow.holds Try.pinned (OpenSpec.ofChange fnExactPutPacketSpec)

/-- ITS FALSE NEIGHBOUR: 'it returns false'. Refute it at one input. -/
def fnExactPutPacketWrong : ChangeSpec := { name := "fnExactPutPacket", fn := fun _ => fun
  | [d1, d2, d3] => { results := [.lit (.bool false)], args := [d1, d2, d3] }
  | _ => none }
def FnExactPutPacketWrongFalsely : Prop := fnExactPutPacketRow.holds Try.pinned (OpenSpec.ofChange fnExactPutPacketWrong)

/-- 'laws.FnExactNextTurn': WHATEVER THE INPUT: true; the input reads as it did. -/
def fnExactNextTurnSpec : ChangeSpec := { name := "fnExactNextTurn", fn := fun _ => fun
  | [d] => { results := [.lit (.bool true)], args := [d] }
  | _ => none }
def fnExactNextTurnRow : OpenClaim := { program := "ytcgnkhdeckgaaaa", sum := "b1ce60cd1ee7e0154c35d7a1f2f5d75ef6843911f40c2a6349d7a820a20e7c60", func := "loop.example/g00527/laws.FnExactNextTurn", spec := "fnExactNextTurn", unfollowed := true, recurses := true, apart := false }
def FnExactNextTurnSaid : Prop := fnExactNextTurnRow.holds Try.pinned (OpenSpec.ofChange fnExactNextTurnSpec)

/-- ITS FALSE NEIGHBOUR: 'it returns false'. Refute it at one input. -/
def fnExactNextTurnWrong : ChangeSpec := { name := "fnExactNextTurn", fn := fun _ => fun
  | [d] => { results := [.lit (.bool false)], args := [d] }
  | _ => none }
def FnExactNextTurnWrongFalsely : Prop := fnExactNextTurnRow.holds Try.pinned (OpenSpec.ofChange fnExactNextTurnWrong)

/-- 'laws.FnExactRunTurns': WHATEVER THE INPUT: true; the input reads as it did. -/
def fnExactRunTurnsSpec : ChangeSpec := { name := "fnExactRunTurns", fn := fun _ => fun
  | [d1, d2] => { results := [.lit (.bool true)], args := [d1, d2] }
  | _ => none }
def fnExactRunTurnsRow : OpenClaim := { program := "ytcgnkhdeckgaaaa", sum := "b1ce60cd1ee7e0154c35d7a1f2f5d75ef6843911f40c2a6349d7a820a20e7c60", func := "loop.example/g00527/laws.FnExactRunTurns", spec := "fnExactRunTurns", unfollowed := true, recurses := true, apart := false }
def FnExactRunTurnsSaid : Prop := fnExactRunTurnsRow.holds Try.pinned (OpenSpec.ofChange fnExactRunTurnsSpec)

/-- ITS FALSE NEIGHBOUR: 'it returns false'. Refute it at one input. -/
def fnExactRunTurnsWrong : ChangeSpec := { name := "fnExactRunTurns", fn := fun _ => fun
  | [d1, d2] => { results := [.lit (.bool false)], args := [d1, d2] }
  | _ => none }
def FnExactRunTurnsWrongFalsely : Prop := fnExactRunTurnsRow.holds Try.pinned (OpenSpec.ofChange fnExactRunTurnsWrong)

/-- 'laws.FnRates': WHATEVER THE INPUT: true; the input reads as it did. -/
def fnRatesSpec : ChangeSpec := { name := "fnRates", fn := fun _ => fun
  | [d1, d2] => { results := [.lit (.bool true)], args := [d1, d2] }
  | _ => none }
def fnRatesRow : OpenClaim := { program := "ytcgnkhdeckgaaaa", sum := "b1ce60cd1ee7e0154c35d7a1f2f5d75ef6843911f40c2a6349d7a820a20e7c60", func := "loop.example/g00527/laws.FnRates", spec := "fnRates", unfollowed := true, recurses := true, apart := false }
def FnRatesSaid : Prop := fnRatesRow.holds Try.pinned (OpenSpec.ofChange fnRatesSpec)

/-- ITS FALSE NEIGHBOUR: 'it returns false'. Refute it at one input. -/
def fnRatesWrong : ChangeSpec := { name := "fnRates", fn := fun _ => fun
  | [d1, d2] => { results := [.lit (.bool false)], args := [d1, d2] }
  | _ => none }
def FnRatesWrongFalsely : Prop := fnRatesRow.holds Try.pinned (OpenSpec.ofChange fnRatesWrong)

/-- 'laws.FnLateness': WHATEVER THE INPUT: true; the input reads as it did. -/
def fnLatenessSpec : ChangeSpec := { name := "fnLateness", fn := fun _ => fun
  | [d1, d2] => { results := [.lit (.bool true)], args := [d1, d2] }
  | _ => none }
def fnLatenessRow : OpenClaim := { program := "ytcgnkhdeckgaaaa", sum := "b1ce60cd1ee7e0154c35d7a1f2f5d75ef6843911f40c2a6349d7a820a20e7c60", func := "loop.example/g00527/laws.FnLateness", spec := "fnLateness", unfollowed := true, recurses := true, apart := false }
def FnLatenessSaid : Prop := fnLatenessRow.holds Try.pinned (OpenSpec.ofChange fnLatenessSpec)

/-- ITS FALSE NEIGHBOUR: 'it returns false'. Refute it at one input. -/
def fnLatenessWrong : ChangeSpec := { name := "fnLateness", fn := fun _ => fun
  | [d1, d2] => { results := [.lit (.bool false)], args := [d1, d2] }
  | _ => none }
def FnLatenessWrongFalsely : Prop := fnLatenessRow.holds Try.pinned (OpenSpec.ofChange fnLatenessWrong)

/-- 'laws.FnVerdicts': WHATEVER THE INPUT: true; the input reads as it did. -/
def fnVerdictsSpec : ChangeSpec := { name := "fnVerdicts", fn := fun _ => fun
  | [d1, d2] => { results := [.lit (.bool true)], args := [d1, d2] }
  | _ => none }
def fnVerdictsRow : OpenClaim := { program := "ytcgnkhdeckgaaaa", sum := "b1ce60cd1ee7e0154c35d7a1f2f5d75ef6843911f40c2a6349d7a820a20e7c60", func := "loop.example/g00527/laws.FnVerdicts", spec := "fnVerdicts", unfollowed := true, recurses := true, apart := false }
def FnVerdictsSaid : Prop := fnVerdictsRow.holds Try.pinned (OpenSpec.ofChange fnVerdictsSpec)

/-- ITS FALSE NEIGHBOUR: 'it returns false'. Refute it at one input. -/
def fnVerdictsWrong : ChangeSpec := { name := "fnVerdicts", fn := fun _ => fun
  | [d1, d2] => { results := [.lit (.bool false)], args := [d1, d2] }
  | _ => none }
def FnVerdictsWrongFalsely : Prop := fnVerdictsRow.holds Try.pinned (OpenSpec.ofChange fnVerdictsWrong)

/-- 'laws.FnOpened': WHATEVER THE INPUT: true; the input reads as it did. -/
def fnOpenedSpec : ChangeSpec := { name := "fnOpened", fn := fun _ => fun
  | [d] => { results := [.lit (.bool true)], args := [d] }
  | _ => none }
def fnOpenedRow : OpenClaim := { program := "ytcgnkhdeckgaaaa", sum := "b1ce60cd1ee7e0154c35d7a1f2f5d75ef6843911f40c2a6349d7a820a20e7c60", func := "loop.example/g00527/laws.FnOpened", spec := "fnOpened", unfollowed := true, recurses := true, apart := false }
def FnOpenedSaid : Prop := fnOpenedRow.holds Try.pinned (OpenSpec.ofChange fnOpenedSpec)

/-- ITS FALSE NEIGHBOUR: 'it returns false'. Refute it at one input. -/
def fnOpenedWrong : ChangeSpec := { name := "fnOpened", fn := fun _ => fun
  | [d] => { results := [.lit (.bool false)], args := [d] }
  | _ => none }
def FnOpenedWrongFalsely : Prop := fnOpenedRow.holds Try.pinned (OpenSpec.ofChange fnOpenedWrong)

/-- 'laws.FnHands': WHATEVER THE INPUT: true; the input reads as it did. -/
def fnHandsSpec : ChangeSpec := { name := "fnHands", fn := fun _ => fun
  | [d1, d2] => { results := [.lit (.bool true)], args := [d1, d2] }
  | _ => none }
def fnHandsRow : OpenClaim := { program := "ytcgnkhdeckgaaaa", sum := "b1ce60cd1ee7e0154c35d7a1f2f5d75ef6843911f40c2a6349d7a820a20e7c60", func := "loop.example/g00527/laws.FnHands", spec := "fnHands", unfollowed := true, recurses := true, apart := false }
def FnHandsSaid : Prop := fnHandsRow.holds Try.pinned (OpenSpec.ofChange fnHandsSpec)

/-- ITS FALSE NEIGHBOUR: 'it returns false'. Refute it at one input. -/
def fnHandsWrong : ChangeSpec := { name := "fnHands", fn := fun _ => fun
  | [d1, d2] => { results := [.lit (.bool false)], args := [d1, d2] }
  | _ => none }
def FnHandsWrongFalsely : Prop := fnHandsRow.holds Try.pinned (OpenSpec.ofChange fnHandsWrong)

/-- 'laws.FnMoore': WHATEVER THE INPUT: true; the input reads as it did. -/
def fnMooreSpec : ChangeSpec := { name := "fnMoore", fn := fun _ => fun
  | [d1, d2] => { results := [.lit (.bool true)], args := [d1, d2] }
  | _ => none }
def fnMooreRow : OpenClaim := { program := "ytcgnkhdeckgaaaa", sum := "b1ce60cd1ee7e0154c35d7a1f2f5d75ef6843911f40c2a6349d7a820a20e7c60", func := "loop.example/g00527/laws.FnMoore", spec := "fnMoore", unfollowed := true, recurses := true, apart := false }
def FnMooreSaid : Prop := fnMooreRow.holds Try.pinned (OpenSpec.ofChange fnMooreSpec)

/-- ITS FALSE NEIGHBOUR: 'it returns false'. Refute it at one input. -/
def fnMooreWrong : ChangeSpec := { name := "fnMoore", fn := fun _ => fun
  | [d1, d2] => { results := [.lit (.bool false)], args := [d1, d2] }
  | _ => none }
def FnMooreWrongFalsely : Prop := fnMooreRow.holds Try.pinned (OpenSpec.ofChange fnMooreWrong)

/-- 'laws.FnCourts': WHATEVER THE INPUT: true; the input reads as it did. -/
def fnCourtsSpec : ChangeSpec := { name := "fnCourts", fn := fun _ => fun
  | [d1, d2] => { results := [.lit (.bool true)], args := [d1, d2] }
  | _ => none }
def fnCourtsRow : OpenClaim := { program := "ytcgnkhdeckgaaaa", sum := "b1ce60cd1ee7e0154c35d7a1f2f5d75ef6843911f40c2a6349d7a820a20e7c60", func := "loop.example/g00527/laws.FnCourts", spec := "fnCourts", unfollowed := true, recurses := true, apart := false }
def FnCourtsSaid : Prop := fnCourtsRow.holds Try.pinned (OpenSpec.ofChange fnCourtsSpec)

/-- ITS FALSE NEIGHBOUR: 'it returns false'. Refute it at one input. -/
def fnCourtsWrong : ChangeSpec := { name := "fnCourts", fn := fun _ => fun
  | [d1, d2] => { results := [.lit (.bool false)], args := [d1, d2] }
  | _ => none }
def FnCourtsWrongFalsely : Prop := fnCourtsRow.holds Try.pinned (OpenSpec.ofChange fnCourtsWrong)

/-- 'laws.FnExactSettleCourt': WHATEVER THE INPUT: true; the input reads as it did. -/
def fnExactSettleCourtSpec : ChangeSpec := { name := "fnExactSettleCourt", fn := fun _ => fun
  | [d] => { results := [.lit (.bool true)], args := [d] }
  | _ => none }
def fnExactSettleCourtRow : OpenClaim := { program := "ytcgnkhdeckgaaaa", sum := "b1ce60cd1ee7e0154c35d7a1f2f5d75ef6843911f40c2a6349d7a820a20e7c60", func := "loop.example/g00527/laws.FnExactSettleCourt", spec := "fnExactSettleCourt", unfollowed := true, recurses := true, apart := false }
def FnExactSettleCourtSaid : Prop := fnExactSettleCourtRow.holds Try.pinned (OpenSpec.ofChange fnExactSettleCourtSpec)

/-- ITS FALSE NEIGHBOUR: 'it returns false'. Refute it at one input. -/
def fnExactSettleCourtWrong : ChangeSpec := { name := "fnExactSettleCourt", fn := fun _ => fun
  | [d] => { results := [.lit (.bool false)], args := [d] }
  | _ => none }
def FnExactSettleCourtWrongFalsely : Prop := fnExactSettleCourtRow.holds Try.pinned (OpenSpec.ofChange fnExactSettleCourtWrong)

/-- 'laws.FnExactSettleGreet': WHATEVER THE INPUT: true; the input reads as it did. -/
def fnExactSettleGreetSpec : ChangeSpec := { name := "fnExactSettleGreet", fn := fun _ => fun
  | [d] => { results := [.lit (.bool true)], args := [d] }
  | _ => none }
def fnExactSettleGreetRow : OpenClaim := { program := "ytcgnkhdeckgaaaa", sum := "b1ce60cd1ee7e0154c35d7a1f2f5d75ef6843911f40c2a6349d7a820a20e7c60", func := "loop.example/g00527/laws.FnExactSettleGreet", spec := "fnExactSettleGreet", unfollowed := true, recurses := true, apart := false }
def FnExactSettleGreetSaid : Prop := fnExactSettleGreetRow.holds Try.pinned (OpenSpec.ofChange fnExactSettleGreetSpec)

/-- ITS FALSE NEIGHBOUR: 'it returns false'. Refute it at one input. -/
def fnExactSettleGreetWrong : ChangeSpec := { name := "fnExactSettleGreet", fn := fun _ => fun
  | [d] => { results := [.lit (.bool false)], args := [d] }
  | _ => none }
def FnExactSettleGreetWrongFalsely : Prop := fnExactSettleGreetRow.holds Try.pinned (OpenSpec.ofChange fnExactSettleGreetWrong)

/- THE SECOND FORM. 'bulk': how many values and letters a reading holds, each counted each time it is reached (what is shared counts as often as it is met; a slice's spare places count too). A statement '..UptoSaid' is the law's where the arguments, and the package variables that the reading takes, are together of bulk at most 1048576: NARROWER than '..Said'. Prove '..Said' where nothing that the law and all that it calls make is longer than what came in: it says more and counts as full. Else prove '..UptoSaid'. A law counts once. -/
mutual
def uptoBulk {H : Type} : DataW H → Nat
  | .lit (.string bytes) => bytes.length + 1
  | .lit _ => 1
  | .nil => 1
  | .ptr d => uptoBulk d + 1
  | .slice elems spare => uptoBulkAll elems + uptoBulkAll spare + 1
  | .agg parts => uptoBulkAll parts + 1
  | .iface _ d => uptoBulk d + 1
  | .map entries => uptoBulkEntries entries + 1
  | .held _ => 1
def uptoBulkAll {H : Type} : List (DataW H) → Nat
  | [] => 0
  | d :: r => uptoBulk d + uptoBulkAll r
def uptoBulkEntries {H : Type} : List (Lit × DataW H) → Nat
  | [] => 0
  | x :: r => uptoBulkEntry x + uptoBulkEntries r
def uptoBulkEntry {H : Type} : Lit × DataW H → Nat
  | (.string bytes, d) => bytes.length + uptoBulk d + 1
  | (_, d) => uptoBulk d + 1
 end
def uptoSmall : (H : Type) → List (DataW H) → Bool := fun _ ds => decide (uptoBulkAll ds ≤ 1048576)
def OpenSpec.upto (s : _root_.Go.ChangeSpec) : _root_.Go.OpenSpec := { _root_.Go.OpenSpec.ofChange s with cond := some uptoSmall }

/-- 'laws.FnExactPutPacket', WHERE WHAT IT READS IS OF BULK AT MOST 1048576: true; the input reads as it did. -/
def fnExactPutPacketUptoRow : OpenClaim := { program := "ytcgnkhdeckgaaaa", sum := "b1ce60cd1ee7e0154c35d7a1f2f5d75ef6843911f40c2a6349d7a820a20e7c60", func := "loop.example/g00527/laws.FnExactPutPacket", spec := "fnExactPutPacket", unfollowed := true, recurses := true, apart := false, narrowed := true }
def FnExactPutPacketUptoSaid : Prop := fnExactPutPacketUptoRow.holds Try.pinned (OpenSpec.upto fnExactPutPacketSpec)

/-- 'laws.FnExactNextTurn', WHERE WHAT IT READS IS OF BULK AT MOST 1048576: true; the input reads as it did. -/
def fnExactNextTurnUptoRow : OpenClaim := { program := "ytcgnkhdeckgaaaa", sum := "b1ce60cd1ee7e0154c35d7a1f2f5d75ef6843911f40c2a6349d7a820a20e7c60", func := "loop.example/g00527/laws.FnExactNextTurn", spec := "fnExactNextTurn", unfollowed := true, recurses := true, apart := false, narrowed := true }
def FnExactNextTurnUptoSaid : Prop := fnExactNextTurnUptoRow.holds Try.pinned (OpenSpec.upto fnExactNextTurnSpec)

/-- 'laws.FnExactRunTurns', WHERE WHAT IT READS IS OF BULK AT MOST 1048576: true; the input reads as it did. -/
def fnExactRunTurnsUptoRow : OpenClaim := { program := "ytcgnkhdeckgaaaa", sum := "b1ce60cd1ee7e0154c35d7a1f2f5d75ef6843911f40c2a6349d7a820a20e7c60", func := "loop.example/g00527/laws.FnExactRunTurns", spec := "fnExactRunTurns", unfollowed := true, recurses := true, apart := false, narrowed := true }
def FnExactRunTurnsUptoSaid : Prop := fnExactRunTurnsUptoRow.holds Try.pinned (OpenSpec.upto fnExactRunTurnsSpec)

/-- 'laws.FnRates', WHERE WHAT IT READS IS OF BULK AT MOST 1048576: true; the input reads as it did. -/
def fnRatesUptoRow : OpenClaim := { program := "ytcgnkhdeckgaaaa", sum := "b1ce60cd1ee7e0154c35d7a1f2f5d75ef6843911f40c2a6349d7a820a20e7c60", func := "loop.example/g00527/laws.FnRates", spec := "fnRates", unfollowed := true, recurses := true, apart := false, narrowed := true }
def FnRatesUptoSaid : Prop := fnRatesUptoRow.holds Try.pinned (OpenSpec.upto fnRatesSpec)

/-- 'laws.FnLateness', WHERE WHAT IT READS IS OF BULK AT MOST 1048576: true; the input reads as it did. -/
def fnLatenessUptoRow : OpenClaim := { program := "ytcgnkhdeckgaaaa", sum := "b1ce60cd1ee7e0154c35d7a1f2f5d75ef6843911f40c2a6349d7a820a20e7c60", func := "loop.example/g00527/laws.FnLateness", spec := "fnLateness", unfollowed := true, recurses := true, apart := false, narrowed := true }
def FnLatenessUptoSaid : Prop := fnLatenessUptoRow.holds Try.pinned (OpenSpec.upto fnLatenessSpec)

/-- 'laws.FnVerdicts', WHERE WHAT IT READS IS OF BULK AT MOST 1048576: true; the input reads as it did. -/
def fnVerdictsUptoRow : OpenClaim := { program := "ytcgnkhdeckgaaaa", sum := "b1ce60cd1ee7e0154c35d7a1f2f5d75ef6843911f40c2a6349d7a820a20e7c60", func := "loop.example/g00527/laws.FnVerdicts", spec := "fnVerdicts", unfollowed := true, recurses := true, apart := false, narrowed := true }
def FnVerdictsUptoSaid : Prop := fnVerdictsUptoRow.holds Try.pinned (OpenSpec.upto fnVerdictsSpec)

/-- 'laws.FnOpened', WHERE WHAT IT READS IS OF BULK AT MOST 1048576: true; the input reads as it did. -/
def fnOpenedUptoRow : OpenClaim := { program := "ytcgnkhdeckgaaaa", sum := "b1ce60cd1ee7e0154c35d7a1f2f5d75ef6843911f40c2a6349d7a820a20e7c60", func := "loop.example/g00527/laws.FnOpened", spec := "fnOpened", unfollowed := true, recurses := true, apart := false, narrowed := true }
def FnOpenedUptoSaid : Prop := fnOpenedUptoRow.holds Try.pinned (OpenSpec.upto fnOpenedSpec)

/-- 'laws.FnHands', WHERE WHAT IT READS IS OF BULK AT MOST 1048576: true; the input reads as it did. -/
def fnHandsUptoRow : OpenClaim := { program := "ytcgnkhdeckgaaaa", sum := "b1ce60cd1ee7e0154c35d7a1f2f5d75ef6843911f40c2a6349d7a820a20e7c60", func := "loop.example/g00527/laws.FnHands", spec := "fnHands", unfollowed := true, recurses := true, apart := false, narrowed := true }
def FnHandsUptoSaid : Prop := fnHandsUptoRow.holds Try.pinned (OpenSpec.upto fnHandsSpec)

/-- 'laws.FnMoore', WHERE WHAT IT READS IS OF BULK AT MOST 1048576: true; the input reads as it did. -/
def fnMooreUptoRow : OpenClaim := { program := "ytcgnkhdeckgaaaa", sum := "b1ce60cd1ee7e0154c35d7a1f2f5d75ef6843911f40c2a6349d7a820a20e7c60", func := "loop.example/g00527/laws.FnMoore", spec := "fnMoore", unfollowed := true, recurses := true, apart := false, narrowed := true }
def FnMooreUptoSaid : Prop := fnMooreUptoRow.holds Try.pinned (OpenSpec.upto fnMooreSpec)

/-- 'laws.FnCourts', WHERE WHAT IT READS IS OF BULK AT MOST 1048576: true; the input reads as it did. -/
def fnCourtsUptoRow : OpenClaim := { program := "ytcgnkhdeckgaaaa", sum := "b1ce60cd1ee7e0154c35d7a1f2f5d75ef6843911f40c2a6349d7a820a20e7c60", func := "loop.example/g00527/laws.FnCourts", spec := "fnCourts", unfollowed := true, recurses := true, apart := false, narrowed := true }
def FnCourtsUptoSaid : Prop := fnCourtsUptoRow.holds Try.pinned (OpenSpec.upto fnCourtsSpec)

/-- 'laws.FnExactSettleCourt', WHERE WHAT IT READS IS OF BULK AT MOST 1048576: true; the input reads as it did. -/
def fnExactSettleCourtUptoRow : OpenClaim := { program := "ytcgnkhdeckgaaaa", sum := "b1ce60cd1ee7e0154c35d7a1f2f5d75ef6843911f40c2a6349d7a820a20e7c60", func := "loop.example/g00527/laws.FnExactSettleCourt", spec := "fnExactSettleCourt", unfollowed := true, recurses := true, apart := false, narrowed := true }
def FnExactSettleCourtUptoSaid : Prop := fnExactSettleCourtUptoRow.holds Try.pinned (OpenSpec.upto fnExactSettleCourtSpec)

/-- 'laws.FnExactSettleGreet', WHERE WHAT IT READS IS OF BULK AT MOST 1048576: true; the input reads as it did. -/
def fnExactSettleGreetUptoRow : OpenClaim := { program := "ytcgnkhdeckgaaaa", sum := "b1ce60cd1ee7e0154c35d7a1f2f5d75ef6843911f40c2a6349d7a820a20e7c60", func := "loop.example/g00527/laws.FnExactSettleGreet", spec := "fnExactSettleGreet", unfollowed := true, recurses := true, apart := false, narrowed := true }
def FnExactSettleGreetUptoSaid : Prop := fnExactSettleGreetUptoRow.holds Try.pinned (OpenSpec.upto fnExactSettleGreetSpec)

end Rows
end Go.Proofs.Ytcgnkhdeckgaaaa
