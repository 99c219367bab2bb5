/-
  No cell of these rows narrows 'for every input' (looked for: loops, veiled, ifaces, maps, wideKeys, modest, calm, conditions, laid).
  DERIVED. THE GIVEN ROWS OF THIS SEAT. 12 by the template 'for every input the law returns true; each argument reads behind the call as it read before'; 0 by the template 'total and deterministic' (their statements: YtkmcnmjjfgahpaaTotals.lean).
  GIVEN WITH THE SEED: the statements are not yours to turn. If you find one false, say at which input.
  Laid BY PROGRAM, IN A SANDBOX (cutbox-rows.mjs): the forced cells as the released guide's own fill.sh prints them over the translation 3ecb575521a307e7… (all of the seat's roots in one cut). By AI agents, Wed Nov 11 2026. No macro, syntax, notation, axiom, sorry.
-/
import Derived.Test.YtkmcnmjjfgahpaaChecked
import GoSem.Claim
import GoSem.ClaimJoined
import GoSem.ClaimMapViews
import Derived.JoinedTies
import Derived.KernelRfl
namespace Go.Proofs.Ytkmcnmjjfgahpaa
/- THE CELL 'sum', in the pinned program and in every row, IS THE sha256 OF THE DUMP (.gsa) THAT YtkmcnmjjfgahpaaProg.lean LOADS. Nothing in Lean hashes anything: it is a label: what it is worth is what the hold of that sum in a sandbox is worth. -/
noncomputable def Try.pinned : Pinned := { name := "ytkmcnmjjfgahpaa", sum := "3ecb575521a307e7dfedb5191b0b027aaf5bf7c11e1e668ae81808db593e2542", checked := Try.checked }
namespace Rows
def none {H : Type} : Left H := { results := [], args := [] }

/-- 'laws.FnExactGoodOuts': WHATEVER THE INPUT: true; the input reads as it did. -/
def fnExactGoodOutsSpec : ChangeSpec := { name := "fnExactGoodOuts", fn := fun _ => fun
  | [d] => { results := [.lit (.bool true)], args := [d] }
  | _ => none }
def fnExactGoodOutsRow : OpenClaim := { program := "ytkmcnmjjfgahpaa", sum := "3ecb575521a307e7dfedb5191b0b027aaf5bf7c11e1e668ae81808db593e2542", func := "loop.example/g00527/laws.FnExactGoodOuts", spec := "fnExactGoodOuts", unfollowed := true, recurses := true, apart := false }
def FnExactGoodOutsSaid : Prop := fnExactGoodOutsRow.holds Try.pinned (OpenSpec.ofChange fnExactGoodOutsSpec)

/-- ITS FALSE NEIGHBOUR: 'it returns false'. Refute it at one input. -/
def fnExactGoodOutsWrong : ChangeSpec := { name := "fnExactGoodOuts", fn := fun _ => fun
  | [d] => { results := [.lit (.bool false)], args := [d] }
  | _ => none }
def FnExactGoodOutsWrongFalsely : Prop := fnExactGoodOutsRow.holds Try.pinned (OpenSpec.ofChange fnExactGoodOutsWrong)

/-- 'laws.FnExactDueIn': WHATEVER THE INPUT: true; the input reads as it did. -/
def fnExactDueInSpec : ChangeSpec := { name := "fnExactDueIn", fn := fun _ => fun
  | [d1, d2] => { results := [.lit (.bool true)], args := [d1, d2] }
  | _ => none }
def fnExactDueInRow : OpenClaim := { program := "ytkmcnmjjfgahpaa", sum := "3ecb575521a307e7dfedb5191b0b027aaf5bf7c11e1e668ae81808db593e2542", func := "loop.example/g00527/laws.FnExactDueIn", spec := "fnExactDueIn", unfollowed := true, recurses := true, apart := false }
def FnExactDueInSaid : Prop := fnExactDueInRow.holds Try.pinned (OpenSpec.ofChange fnExactDueInSpec)

/-- ITS FALSE NEIGHBOUR: 'it returns false'. Refute it at one input. -/
def fnExactDueInWrong : ChangeSpec := { name := "fnExactDueIn", fn := fun _ => fun
  | [d1, d2] => { results := [.lit (.bool false)], args := [d1, d2] }
  | _ => none }
def FnExactDueInWrongFalsely : Prop := fnExactDueInRow.holds Try.pinned (OpenSpec.ofChange fnExactDueInWrong)

/-- 'laws.FnExactPickPart': WHATEVER THE INPUT: true; the input reads as it did. -/
def fnExactPickPartSpec : ChangeSpec := { name := "fnExactPickPart", fn := fun _ => fun
  | [d] => { results := [.lit (.bool true)], args := [d] }
  | _ => none }
def fnExactPickPartRow : OpenClaim := { program := "ytkmcnmjjfgahpaa", sum := "3ecb575521a307e7dfedb5191b0b027aaf5bf7c11e1e668ae81808db593e2542", func := "loop.example/g00527/laws.FnExactPickPart", spec := "fnExactPickPart", unfollowed := true, recurses := true, apart := false }
def FnExactPickPartSaid : Prop := fnExactPickPartRow.holds Try.pinned (OpenSpec.ofChange fnExactPickPartSpec)

/-- ITS FALSE NEIGHBOUR: 'it returns false'. Refute it at one input. -/
def fnExactPickPartWrong : ChangeSpec := { name := "fnExactPickPart", fn := fun _ => fun
  | [d] => { results := [.lit (.bool false)], args := [d] }
  | _ => none }
def FnExactPickPartWrongFalsely : Prop := fnExactPickPartRow.holds Try.pinned (OpenSpec.ofChange fnExactPickPartWrong)

/-- 'laws.FnExactIsSettled': WHATEVER THE INPUT: true; the input reads as it did. -/
def fnExactIsSettledSpec : ChangeSpec := { name := "fnExactIsSettled", fn := fun _ => fun
  | [d] => { results := [.lit (.bool true)], args := [d] }
  | _ => none }
def fnExactIsSettledRow : OpenClaim := { program := "ytkmcnmjjfgahpaa", sum := "3ecb575521a307e7dfedb5191b0b027aaf5bf7c11e1e668ae81808db593e2542", func := "loop.example/g00527/laws.FnExactIsSettled", spec := "fnExactIsSettled", unfollowed := true, recurses := true, apart := false }
def FnExactIsSettledSaid : Prop := fnExactIsSettledRow.holds Try.pinned (OpenSpec.ofChange fnExactIsSettledSpec)

/-- ITS FALSE NEIGHBOUR: 'it returns false'. Refute it at one input. -/
def fnExactIsSettledWrong : ChangeSpec := { name := "fnExactIsSettled", fn := fun _ => fun
  | [d] => { results := [.lit (.bool false)], args := [d] }
  | _ => none }
def FnExactIsSettledWrongFalsely : Prop := fnExactIsSettledRow.holds Try.pinned (OpenSpec.ofChange fnExactIsSettledWrong)

/-- 'laws.FnExactNewCourt': WHATEVER THE INPUT: true; the input reads as it did. -/
def fnExactNewCourtSpec : ChangeSpec := { name := "fnExactNewCourt", fn := fun _ => fun
  | [d] => { results := [.lit (.bool true)], args := [d] }
  | _ => none }
def fnExactNewCourtRow : OpenClaim := { program := "ytkmcnmjjfgahpaa", sum := "3ecb575521a307e7dfedb5191b0b027aaf5bf7c11e1e668ae81808db593e2542", func := "loop.example/g00527/laws.FnExactNewCourt", spec := "fnExactNewCourt", unfollowed := true, recurses := true, apart := false }
def FnExactNewCourtSaid : Prop := fnExactNewCourtRow.holds Try.pinned (OpenSpec.ofChange fnExactNewCourtSpec)

/-- ITS FALSE NEIGHBOUR: 'it returns false'. Refute it at one input. -/
def fnExactNewCourtWrong : ChangeSpec := { name := "fnExactNewCourt", fn := fun _ => fun
  | [d] => { results := [.lit (.bool false)], args := [d] }
  | _ => none }
def FnExactNewCourtWrongFalsely : Prop := fnExactNewCourtRow.holds Try.pinned (OpenSpec.ofChange fnExactNewCourtWrong)

/-- 'laws.FnExactPutPacket': WHATEVER THE INPUT: true; the input reads as it did. -/
def fnExactPutPacketSpec : ChangeSpec := { name := "fnExactPutPacket", fn := fun _ => fun
  | [d1, d2, d3] => { results := [.lit (.bool true)], args := [d1, d2, d3] }
  | _ => none }
def fnExactPutPacketRow : OpenClaim := { program := "ytkmcnmjjfgahpaa", sum := "3ecb575521a307e7dfedb5191b0b027aaf5bf7c11e1e668ae81808db593e2542", func := "loop.example/g00527/laws.FnExactPutPacket", spec := "fnExactPutPacket", unfollowed := true, recurses := true, apart := false }
def FnExactPutPacketSaid : Prop := fnExactPutPacketRow.holds Try.pinned (OpenSpec.ofChange fnExactPutPacketSpec)

/-- ITS FALSE NEIGHBOUR: 'it returns false'. Refute it at one input. -/
def fnExactPutPacketWrong : ChangeSpec := { name := "fnExactPutPacket", fn := fun _ => fun
  | [d1, d2, d3] => { results := [.lit (.bool false)], args := [d1, d2, d3] }
  | _ => none }
def FnExactPutPacketWrongFalsely : Prop := fnExactPutPacketRow.holds Try.pinned (OpenSpec.ofChange fnExactPutPacketWrong)

/-- 'laws.FnExactNextTurn': WHATEVER THE INPUT: true; the input reads as it did. -/
def fnExactNextTurnSpec : ChangeSpec := { name := "fnExactNextTurn", fn := fun _ => fun
  | [d] => { results := [.lit (.bool true)], args := [d] }
  | _ => none }
def fnExactNextTurnRow : OpenClaim := { program := "ytkmcnmjjfgahpaa", sum := "3ecb575521a307e7dfedb5191b0b027aaf5bf7c11e1e668ae81808db593e2542", func := "loop.example/g00527/laws.FnExactNextTurn", spec := "fnExactNextTurn", unfollowed := true, recurses := true, apart := false }
def FnExactNextTurnSaid : Prop := fnExactNextTurnRow.holds Try.pinned (OpenSpec.ofChange fnExactNextTurnSpec)

/-- ITS FALSE NEIGHBOUR: 'it returns false'. Refute it at one input. -/
def fnExactNextTurnWrong : ChangeSpec := { name := "fnExactNextTurn", fn := fun _ => fun
  | [d] => { results := [.lit (.bool false)], args := [d] }
  | _ => none }
def FnExactNextTurnWrongFalsely : Prop := fnExactNextTurnRow.holds Try.pinned (OpenSpec.ofChange fnExactNextTurnWrong)

/-- 'laws.FnExactRunTurns': WHATEVER THE INPUT: true; the input reads as it did. -/
def fnExactRunTurnsSpec : ChangeSpec := { name := "fnExactRunTurns", fn := fun _ => fun
  | [d1, d2] => { results := [.lit (.bool true)], args := [d1, d2] }
  | _ => none }
def fnExactRunTurnsRow : OpenClaim := { program := "ytkmcnmjjfgahpaa", sum := "3ecb575521a307e7dfedb5191b0b027aaf5bf7c11e1e668ae81808db593e2542", func := "loop.example/g00527/laws.FnExactRunTurns", spec := "fnExactRunTurns", unfollowed := true, recurses := true, apart := false }
def FnExactRunTurnsSaid : Prop := fnExactRunTurnsRow.holds Try.pinned (OpenSpec.ofChange fnExactRunTurnsSpec)

/-- ITS FALSE NEIGHBOUR: 'it returns false'. Refute it at one input. -/
def fnExactRunTurnsWrong : ChangeSpec := { name := "fnExactRunTurns", fn := fun _ => fun
  | [d1, d2] => { results := [.lit (.bool false)], args := [d1, d2] }
  | _ => none }
def FnExactRunTurnsWrongFalsely : Prop := fnExactRunTurnsRow.holds Try.pinned (OpenSpec.ofChange fnExactRunTurnsWrong)

/-- 'laws.FnGuesses': WHATEVER THE INPUT: true; the input reads as it did. -/
def fnGuessesSpec : ChangeSpec := { name := "fnGuesses", fn := fun _ => fun
  | [d1, d2] => { results := [.lit (.bool true)], args := [d1, d2] }
  | _ => none }
def fnGuessesRow : OpenClaim := { program := "ytkmcnmjjfgahpaa", sum := "3ecb575521a307e7dfedb5191b0b027aaf5bf7c11e1e668ae81808db593e2542", func := "loop.example/g00527/laws.FnGuesses", spec := "fnGuesses", apart := false }
def FnGuessesSaid : Prop := fnGuessesRow.holds Try.pinned (OpenSpec.ofChange fnGuessesSpec)

/-- ITS FALSE NEIGHBOUR: 'it returns false'. Refute it at one input. -/
def fnGuessesWrong : ChangeSpec := { name := "fnGuesses", fn := fun _ => fun
  | [d1, d2] => { results := [.lit (.bool false)], args := [d1, d2] }
  | _ => none }
def FnGuessesWrongFalsely : Prop := fnGuessesRow.holds Try.pinned (OpenSpec.ofChange fnGuessesWrong)

/-- 'laws.FnKarn': WHATEVER THE INPUT: true; the input reads as it did. -/
def fnKarnSpec : ChangeSpec := { name := "fnKarn", fn := fun _ => fun
  | [d1, d2] => { results := [.lit (.bool true)], args := [d1, d2] }
  | _ => none }
def fnKarnRow : OpenClaim := { program := "ytkmcnmjjfgahpaa", sum := "3ecb575521a307e7dfedb5191b0b027aaf5bf7c11e1e668ae81808db593e2542", func := "loop.example/g00527/laws.FnKarn", spec := "fnKarn", apart := false }
def FnKarnSaid : Prop := fnKarnRow.holds Try.pinned (OpenSpec.ofChange fnKarnSpec)

/-- ITS FALSE NEIGHBOUR: 'it returns false'. Refute it at one input. -/
def fnKarnWrong : ChangeSpec := { name := "fnKarn", fn := fun _ => fun
  | [d1, d2] => { results := [.lit (.bool false)], args := [d1, d2] }
  | _ => none }
def FnKarnWrongFalsely : Prop := fnKarnRow.holds Try.pinned (OpenSpec.ofChange fnKarnWrong)

/-- 'laws.FnNumbers': WHATEVER THE INPUT: true; the input reads as it did. -/
def fnNumbersSpec : ChangeSpec := { name := "fnNumbers", fn := fun _ => fun
  | [d1, d2] => { results := [.lit (.bool true)], args := [d1, d2] }
  | _ => none }
def fnNumbersRow : OpenClaim := { program := "ytkmcnmjjfgahpaa", sum := "3ecb575521a307e7dfedb5191b0b027aaf5bf7c11e1e668ae81808db593e2542", func := "loop.example/g00527/laws.FnNumbers", spec := "fnNumbers", apart := false }
def FnNumbersSaid : Prop := fnNumbersRow.holds Try.pinned (OpenSpec.ofChange fnNumbersSpec)

/-- ITS FALSE NEIGHBOUR: 'it returns false'. Refute it at one input. -/
def fnNumbersWrong : ChangeSpec := { name := "fnNumbers", fn := fun _ => fun
  | [d1, d2] => { results := [.lit (.bool false)], args := [d1, d2] }
  | _ => none }
def FnNumbersWrongFalsely : Prop := fnNumbersRow.holds Try.pinned (OpenSpec.ofChange fnNumbersWrong)

/-- 'laws.FnAgain': WHATEVER THE INPUT: true; the input reads as it did. -/
def fnAgainSpec : ChangeSpec := { name := "fnAgain", fn := fun _ => fun
  | [d1, d2] => { results := [.lit (.bool true)], args := [d1, d2] }
  | _ => none }
def fnAgainRow : OpenClaim := { program := "ytkmcnmjjfgahpaa", sum := "3ecb575521a307e7dfedb5191b0b027aaf5bf7c11e1e668ae81808db593e2542", func := "loop.example/g00527/laws.FnAgain", spec := "fnAgain", unfollowed := true, recurses := true, apart := false }
def FnAgainSaid : Prop := fnAgainRow.holds Try.pinned (OpenSpec.ofChange fnAgainSpec)

/-- ITS FALSE NEIGHBOUR: 'it returns false'. Refute it at one input. -/
def fnAgainWrong : ChangeSpec := { name := "fnAgain", fn := fun _ => fun
  | [d1, d2] => { results := [.lit (.bool false)], args := [d1, d2] }
  | _ => none }
def FnAgainWrongFalsely : Prop := fnAgainRow.holds Try.pinned (OpenSpec.ofChange fnAgainWrong)

/- THE SECOND FORM. 'bulk': how many values and letters a reading holds, each counted each time it is reached (what is shared counts as often as it is met; a slice's spare places count too). A statement '..UptoSaid' is the law's where the arguments, and the package variables that the reading takes, are together of bulk at most 1048576: NARROWER than '..Said'. Prove '..Said' where nothing that the law and all that it calls make is longer than what came in: it says more and counts as full. Else prove '..UptoSaid'. A law counts once. -/
mutual
def uptoBulk {H : Type} : DataW H → Nat
  | .lit (.string bytes) => bytes.length + 1
  | .lit _ => 1
  | .nil => 1
  | .ptr d => uptoBulk d + 1
  | .slice elems spare => uptoBulkAll elems + uptoBulkAll spare + 1
  | .agg parts => uptoBulkAll parts + 1
  | .iface _ d => uptoBulk d + 1
  | .map entries => uptoBulkEntries entries + 1
  | .held _ => 1
def uptoBulkAll {H : Type} : List (DataW H) → Nat
  | [] => 0
  | d :: r => uptoBulk d + uptoBulkAll r
def uptoBulkEntries {H : Type} : List (Lit × DataW H) → Nat
  | [] => 0
  | x :: r => uptoBulkEntry x + uptoBulkEntries r
def uptoBulkEntry {H : Type} : Lit × DataW H → Nat
  | (.string bytes, d) => bytes.length + uptoBulk d + 1
  | (_, d) => uptoBulk d + 1
 end
def uptoSmall : (H : Type) → List (DataW H) → Bool := fun _ ds => decide (uptoBulkAll ds ≤ 1048576)
def OpenSpec.upto (s : _root_.Go.ChangeSpec) : _root_.Go.OpenSpec := { _root_.Go.OpenSpec.ofChange s with cond := some uptoSmall }

/-- 'laws.FnExactGoodOuts', WHERE WHAT IT READS IS OF BULK AT MOST 1048576: true; the input reads as it did. -/
def fnExactGoodOutsUptoRow : OpenClaim := { program := "ytkmcnmjjfgahpaa", sum := "3ecb575521a307e7dfedb5191b0b027aaf5bf7c11e1e668ae81808db593e2542", func := "loop.example/g00527/laws.FnExactGoodOuts", spec := "fnExactGoodOuts", unfollowed := true, recurses := true, apart := false, narrowed := true }
def FnExactGoodOutsUptoSaid : Prop := fnExactGoodOutsUptoRow.holds Try.pinned (OpenSpec.upto fnExactGoodOutsSpec)

/-- 'laws.FnExactDueIn', WHERE WHAT IT READS IS OF BULK AT MOST 1048576: true; the input reads as it did. -/
def fnExactDueInUptoRow : OpenClaim := { program := "ytkmcnmjjfgahpaa", sum := "3ecb575521a307e7dfedb5191b0b027aaf5bf7c11e1e668ae81808db593e2542", func := "loop.example/g00527/laws.FnExactDueIn", spec := "fnExactDueIn", unfollowed := true, recurses := true, apart := false, narrowed := true }
def FnExactDueInUptoSaid : Prop := fnExactDueInUptoRow.holds Try.pinned (OpenSpec.upto fnExactDueInSpec)

/-- 'laws.FnExactPickPart', WHERE WHAT IT READS IS OF BULK AT MOST 1048576: true; the input reads as it did. -/
def fnExactPickPartUptoRow : OpenClaim := { program := "ytkmcnmjjfgahpaa", sum := "3ecb575521a307e7dfedb5191b0b027aaf5bf7c11e1e668ae81808db593e2542", func := "loop.example/g00527/laws.FnExactPickPart", spec := "fnExactPickPart", unfollowed := true, recurses := true, apart := false, narrowed := true }
def FnExactPickPartUptoSaid : Prop := fnExactPickPartUptoRow.holds Try.pinned (OpenSpec.upto fnExactPickPartSpec)

/-- 'laws.FnExactIsSettled', WHERE WHAT IT READS IS OF BULK AT MOST 1048576: true; the input reads as it did. -/
def fnExactIsSettledUptoRow : OpenClaim := { program := "ytkmcnmjjfgahpaa", sum := "3ecb575521a307e7dfedb5191b0b027aaf5bf7c11e1e668ae81808db593e2542", func := "loop.example/g00527/laws.FnExactIsSettled", spec := "fnExactIsSettled", unfollowed := true, recurses := true, apart := false, narrowed := true }
def FnExactIsSettledUptoSaid : Prop := fnExactIsSettledUptoRow.holds Try.pinned (OpenSpec.upto fnExactIsSettledSpec)

/-- 'laws.FnExactNewCourt', WHERE WHAT IT READS IS OF BULK AT MOST 1048576: true; the input reads as it did. -/
def fnExactNewCourtUptoRow : OpenClaim := { program := "ytkmcnmjjfgahpaa", sum := "3ecb575521a307e7dfedb5191b0b027aaf5bf7c11e1e668ae81808db593e2542", func := "loop.example/g00527/laws.FnExactNewCourt", spec := "fnExactNewCourt", unfollowed := true, recurses := true, apart := false, narrowed := true }
def FnExactNewCourtUptoSaid : Prop := fnExactNewCourtUptoRow.holds Try.pinned (OpenSpec.upto fnExactNewCourtSpec)

/-- 'laws.FnExactPutPacket', WHERE WHAT IT READS IS OF BULK AT MOST 1048576: true; the input reads as it did. -/
def fnExactPutPacketUptoRow : OpenClaim := { program := "ytkmcnmjjfgahpaa", sum := "3ecb575521a307e7dfedb5191b0b027aaf5bf7c11e1e668ae81808db593e2542", func := "loop.example/g00527/laws.FnExactPutPacket", spec := "fnExactPutPacket", unfollowed := true, recurses := true, apart := false, narrowed := true }
def FnExactPutPacketUptoSaid : Prop := fnExactPutPacketUptoRow.holds Try.pinned (OpenSpec.upto fnExactPutPacketSpec)

/-- 'laws.FnExactNextTurn', WHERE WHAT IT READS IS OF BULK AT MOST 1048576: true; the input reads as it did. -/
def fnExactNextTurnUptoRow : OpenClaim := { program := "ytkmcnmjjfgahpaa", sum := "3ecb575521a307e7dfedb5191b0b027aaf5bf7c11e1e668ae81808db593e2542", func := "loop.example/g00527/laws.FnExactNextTurn", spec := "fnExactNextTurn", unfollowed := true, recurses := true, apart := false, narrowed := true }
def FnExactNextTurnUptoSaid : Prop := fnExactNextTurnUptoRow.holds Try.pinned (OpenSpec.upto fnExactNextTurnSpec)

/-- 'laws.FnExactRunTurns', WHERE WHAT IT READS IS OF BULK AT MOST 1048576: true; the input reads as it did. -/
def fnExactRunTurnsUptoRow : OpenClaim := { program := "ytkmcnmjjfgahpaa", sum := "3ecb575521a307e7dfedb5191b0b027aaf5bf7c11e1e668ae81808db593e2542", func := "loop.example/g00527/laws.FnExactRunTurns", spec := "fnExactRunTurns", unfollowed := true, recurses := true, apart := false, narrowed := true }
def FnExactRunTurnsUptoSaid : Prop := fnExactRunTurnsUptoRow.holds Try.pinned (OpenSpec.upto fnExactRunTurnsSpec)

/-- 'laws.FnGuesses', WHERE WHAT IT READS IS OF BULK AT MOST 1048576: true; the input reads as it did. -/
def fnGuessesUptoRow : OpenClaim := { program := "ytkmcnmjjfgahpaa", sum := "3ecb575521a307e7dfedb5191b0b027aaf5bf7c11e1e668ae81808db593e2542", func := "loop.example/g00527/laws.FnGuesses", spec := "fnGuesses", apart := false, narrowed := true }
def FnGuessesUptoSaid : Prop := fnGuessesUptoRow.holds Try.pinned (OpenSpec.upto fnGuessesSpec)

/-- 'laws.FnKarn', WHERE WHAT IT READS IS OF BULK AT MOST 1048576: true; the input reads as it did. -/
def fnKarnUptoRow : OpenClaim := { program := "ytkmcnmjjfgahpaa", sum := "3ecb575521a307e7dfedb5191b0b027aaf5bf7c11e1e668ae81808db593e2542", func := "loop.example/g00527/laws.FnKarn", spec := "fnKarn", apart := false, narrowed := true }
def FnKarnUptoSaid : Prop := fnKarnUptoRow.holds Try.pinned (OpenSpec.upto fnKarnSpec)

/-- 'laws.FnNumbers', WHERE WHAT IT READS IS OF BULK AT MOST 1048576: true; the input reads as it did. -/
def fnNumbersUptoRow : OpenClaim := { program := "ytkmcnmjjfgahpaa", sum := "3ecb575521a307e7dfedb5191b0b027aaf5bf7c11e1e668ae81808db593e2542", func := "loop.example/g00527/laws.FnNumbers", spec := "fnNumbers", apart := false, narrowed := true }
def FnNumbersUptoSaid : Prop := fnNumbersUptoRow.holds Try.pinned (OpenSpec.upto fnNumbersSpec)

/-- 'laws.FnAgain', WHERE WHAT IT READS IS OF BULK AT MOST 1048576: true; the input reads as it did. -/
def fnAgainUptoRow : OpenClaim := { program := "ytkmcnmjjfgahpaa", sum := "3ecb575521a307e7dfedb5191b0b027aaf5bf7c11e1e668ae81808db593e2542", func := "loop.example/g00527/laws.FnAgain", spec := "fnAgain", unfollowed := true, recurses := true, apart := false, narrowed := true }
def FnAgainUptoSaid : Prop := fnAgainUptoRow.holds Try.pinned (OpenSpec.upto fnAgainSpec)

end Rows
end Go.Proofs.Ytkmcnmjjfgahpaa
