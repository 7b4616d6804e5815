/-
  No cell of these rows narrows 'for every input' (looked for: loops, veiled, ifaces, maps, wideKeys, modest, calm, conditions, laid).
  DERIVED. THE GIVEN ROWS OF THIS SEAT. 12 by the template 'for every input the law returns true; each argument reads behind the call as it read before'; 0 by the template 'total and deterministic' (their statements: YthenlapjhlljnaaTotals.lean).
  GIVEN WITH THE SEED: the statements are not yours to turn. If you find one false, say at which input.
  Laid BY PROGRAM, IN A SANDBOX (cutbox-rows.mjs): the forced cells as the released guide's own fill.sh prints them over the translation 3a3bfa6550ce30a0… (all of the seat's roots in one cut). By AI agents, Wed Nov 11 2026. No macro, syntax, notation, axiom, sorry.
-/
import Derived.Test.YthenlapjhlljnaaChecked
import GoSem.Claim
import GoSem.ClaimJoined
import GoSem.ClaimMapViews
import Derived.JoinedTies
import Derived.KernelRfl
namespace Go.Proofs.Ythenlapjhlljnaa
/- THE CELL 'sum', in the pinned program and in every row, IS THE sha256 OF THE DUMP (.gsa) THAT YthenlapjhlljnaaProg.lean LOADS. Nothing in Lean hashes anything: it is a label: what it is worth is what the hold of that sum in a sandbox is worth. -/
noncomputable def Try.pinned : Pinned := { name := "ythenlapjhlljnaa", sum := "3a3bfa6550ce30a0e66747e465cff5d5efa2bf869e6748a416022e26da100cf7", checked := Try.checked }
namespace Rows
def none {H : Type} : Left H := { results := [], args := [] }

/-- 'laws.FnCarpetsLookOfAll': WHATEVER THE INPUT: true; the input reads as it did. -/
def fnCarpetsLookOfAllSpec : ChangeSpec := { name := "fnCarpetsLookOfAll", fn := fun _ => fun
  | [d1, d2, d3, d4, d5, d6, d7, d8, d9, d10] => { results := [.lit (.bool true)], args := [d1, d2, d3, d4, d5, d6, d7, d8, d9, d10] }
  | _ => none }
def fnCarpetsLookOfAllRow : OpenClaim := { program := "ythenlapjhlljnaa", sum := "3a3bfa6550ce30a0e66747e465cff5d5efa2bf869e6748a416022e26da100cf7", func := "loop.example/g01374/laws.FnCarpetsLookOfAll", spec := "fnCarpetsLookOfAll", apart := false }
def FnCarpetsLookOfAllSaid : Prop := fnCarpetsLookOfAllRow.holds Try.pinned (OpenSpec.ofChange fnCarpetsLookOfAllSpec)

/-- ITS FALSE NEIGHBOUR: 'it returns false'. Refute it at one input. -/
def fnCarpetsLookOfAllWrong : ChangeSpec := { name := "fnCarpetsLookOfAll", fn := fun _ => fun
  | [d1, d2, d3, d4, d5, d6, d7, d8, d9, d10] => { results := [.lit (.bool false)], args := [d1, d2, d3, d4, d5, d6, d7, d8, d9, d10] }
  | _ => none }
def FnCarpetsLookOfAllWrongFalsely : Prop := fnCarpetsLookOfAllRow.holds Try.pinned (OpenSpec.ofChange fnCarpetsLookOfAllWrong)

/-- 'laws.FnCarpetsLook': WHATEVER THE INPUT: true; the input reads as it did. -/
def fnCarpetsLookSpec : ChangeSpec := { name := "fnCarpetsLook", fn := fun _ => fun
  | [d1, d2] => { results := [.lit (.bool true)], args := [d1, d2] }
  | _ => none }
def fnCarpetsLookRow : OpenClaim := { program := "ythenlapjhlljnaa", sum := "3a3bfa6550ce30a0e66747e465cff5d5efa2bf869e6748a416022e26da100cf7", func := "loop.example/g01374/laws.FnCarpetsLook", spec := "fnCarpetsLook", apart := false }
def FnCarpetsLookSaid : Prop := fnCarpetsLookRow.holds Try.pinned (OpenSpec.ofChange fnCarpetsLookSpec)

/-- ITS FALSE NEIGHBOUR: 'it returns false'. Refute it at one input. -/
def fnCarpetsLookWrong : ChangeSpec := { name := "fnCarpetsLook", fn := fun _ => fun
  | [d1, d2] => { results := [.lit (.bool false)], args := [d1, d2] }
  | _ => none }
def FnCarpetsLookWrongFalsely : Prop := fnCarpetsLookRow.holds Try.pinned (OpenSpec.ofChange fnCarpetsLookWrong)

/-- 'laws.FnRisersPlaced': WHATEVER THE INPUT: true; the input reads as it did. -/
def fnRisersPlacedSpec : ChangeSpec := { name := "fnRisersPlaced", fn := fun _ => fun
  | [d1, d2] => { results := [.lit (.bool true)], args := [d1, d2] }
  | _ => none }
def fnRisersPlacedRow : OpenClaim := { program := "ythenlapjhlljnaa", sum := "3a3bfa6550ce30a0e66747e465cff5d5efa2bf869e6748a416022e26da100cf7", func := "loop.example/g01374/laws.FnRisersPlaced", spec := "fnRisersPlaced", apart := false }
def FnRisersPlacedSaid : Prop := fnRisersPlacedRow.holds Try.pinned (OpenSpec.ofChange fnRisersPlacedSpec)

/-- ITS FALSE NEIGHBOUR: 'it returns false'. Refute it at one input. -/
def fnRisersPlacedWrong : ChangeSpec := { name := "fnRisersPlaced", fn := fun _ => fun
  | [d1, d2] => { results := [.lit (.bool false)], args := [d1, d2] }
  | _ => none }
def FnRisersPlacedWrongFalsely : Prop := fnRisersPlacedRow.holds Try.pinned (OpenSpec.ofChange fnRisersPlacedWrong)

/-- 'laws.FnBallsGo': WHATEVER THE INPUT: true; the input reads as it did. -/
def fnBallsGoSpec : ChangeSpec := { name := "fnBallsGo", fn := fun _ => fun
  | [d1, d2] => { results := [.lit (.bool true)], args := [d1, d2] }
  | _ => none }
def fnBallsGoRow : OpenClaim := { program := "ythenlapjhlljnaa", sum := "3a3bfa6550ce30a0e66747e465cff5d5efa2bf869e6748a416022e26da100cf7", func := "loop.example/g01374/laws.FnBallsGo", spec := "fnBallsGo", unfollowed := true, recurses := true, apart := false }
def FnBallsGoSaid : Prop := fnBallsGoRow.holds Try.pinned (OpenSpec.ofChange fnBallsGoSpec)

/-- ITS FALSE NEIGHBOUR: 'it returns false'. Refute it at one input. -/
def fnBallsGoWrong : ChangeSpec := { name := "fnBallsGo", fn := fun _ => fun
  | [d1, d2] => { results := [.lit (.bool false)], args := [d1, d2] }
  | _ => none }
def FnBallsGoWrongFalsely : Prop := fnBallsGoRow.holds Try.pinned (OpenSpec.ofChange fnBallsGoWrong)

/-- 'laws.FnSpiralsTurn': WHATEVER THE INPUT: true; the input reads as it did. -/
def fnSpiralsTurnSpec : ChangeSpec := { name := "fnSpiralsTurn", fn := fun _ => fun
  | [d1, d2] => { results := [.lit (.bool true)], args := [d1, d2] }
  | _ => none }
def fnSpiralsTurnRow : OpenClaim := { program := "ythenlapjhlljnaa", sum := "3a3bfa6550ce30a0e66747e465cff5d5efa2bf869e6748a416022e26da100cf7", func := "loop.example/g01374/laws.FnSpiralsTurn", spec := "fnSpiralsTurn", inPlace := ["internal/bytealg.IndexByteString", "internal/bytealg.IndexString"], unfollowed := true, recurses := true, named := ["internal/bytealg.MaxLen"], apart := false }
def FnSpiralsTurnSaid : Prop := fnSpiralsTurnRow.holds Try.pinned (OpenSpec.ofChange fnSpiralsTurnSpec)

/-- ITS FALSE NEIGHBOUR: 'it returns false'. Refute it at one input. -/
def fnSpiralsTurnWrong : ChangeSpec := { name := "fnSpiralsTurn", fn := fun _ => fun
  | [d1, d2] => { results := [.lit (.bool false)], args := [d1, d2] }
  | _ => none }
def FnSpiralsTurnWrongFalsely : Prop := fnSpiralsTurnRow.holds Try.pinned (OpenSpec.ofChange fnSpiralsTurnWrong)

/-- 'laws.FnExactFewestRolls': WHATEVER THE INPUT: true; the input reads as it did. -/
def fnExactFewestRollsSpec : ChangeSpec := { name := "fnExactFewestRolls", fn := fun _ => fun
  | [d1, d2, d3] => { results := [.lit (.bool true)], args := [d1, d2, d3] }
  | _ => none }
def fnExactFewestRollsRow : OpenClaim := { program := "ythenlapjhlljnaa", sum := "3a3bfa6550ce30a0e66747e465cff5d5efa2bf869e6748a416022e26da100cf7", func := "loop.example/g01374/laws.FnExactFewestRolls", spec := "fnExactFewestRolls", unfollowed := true, recurses := true, apart := false }
def FnExactFewestRollsSaid : Prop := fnExactFewestRollsRow.holds Try.pinned (OpenSpec.ofChange fnExactFewestRollsSpec)

/-- ITS FALSE NEIGHBOUR: 'it returns false'. Refute it at one input. -/
def fnExactFewestRollsWrong : ChangeSpec := { name := "fnExactFewestRolls", fn := fun _ => fun
  | [d1, d2, d3] => { results := [.lit (.bool false)], args := [d1, d2, d3] }
  | _ => none }
def FnExactFewestRollsWrongFalsely : Prop := fnExactFewestRollsRow.holds Try.pinned (OpenSpec.ofChange fnExactFewestRollsWrong)

/-- 'laws.FnExactLeastLength': WHATEVER THE INPUT: true; the input reads as it did. -/
def fnExactLeastLengthSpec : ChangeSpec := { name := "fnExactLeastLength", fn := fun _ => fun
  | [d1, d2, d3] => { results := [.lit (.bool true)], args := [d1, d2, d3] }
  | _ => none }
def fnExactLeastLengthRow : OpenClaim := { program := "ythenlapjhlljnaa", sum := "3a3bfa6550ce30a0e66747e465cff5d5efa2bf869e6748a416022e26da100cf7", func := "loop.example/g01374/laws.FnExactLeastLength", spec := "fnExactLeastLength", unfollowed := true, recurses := true, apart := false }
def FnExactLeastLengthSaid : Prop := fnExactLeastLengthRow.holds Try.pinned (OpenSpec.ofChange fnExactLeastLengthSpec)

/-- ITS FALSE NEIGHBOUR: 'it returns false'. Refute it at one input. -/
def fnExactLeastLengthWrong : ChangeSpec := { name := "fnExactLeastLength", fn := fun _ => fun
  | [d1, d2, d3] => { results := [.lit (.bool false)], args := [d1, d2, d3] }
  | _ => none }
def FnExactLeastLengthWrongFalsely : Prop := fnExactLeastLengthRow.holds Try.pinned (OpenSpec.ofChange fnExactLeastLengthWrong)

/-- 'laws.FnExactFirstRolls': WHATEVER THE INPUT: true; the input reads as it did. -/
def fnExactFirstRollsSpec : ChangeSpec := { name := "fnExactFirstRolls", fn := fun _ => fun
  | [d1, d2, d3] => { results := [.lit (.bool true)], args := [d1, d2, d3] }
  | _ => none }
def fnExactFirstRollsRow : OpenClaim := { program := "ythenlapjhlljnaa", sum := "3a3bfa6550ce30a0e66747e465cff5d5efa2bf869e6748a416022e26da100cf7", func := "loop.example/g01374/laws.FnExactFirstRolls", spec := "fnExactFirstRolls", unfollowed := true, recurses := true, apart := false }
def FnExactFirstRollsSaid : Prop := fnExactFirstRollsRow.holds Try.pinned (OpenSpec.ofChange fnExactFirstRollsSpec)

/-- ITS FALSE NEIGHBOUR: 'it returns false'. Refute it at one input. -/
def fnExactFirstRollsWrong : ChangeSpec := { name := "fnExactFirstRolls", fn := fun _ => fun
  | [d1, d2, d3] => { results := [.lit (.bool false)], args := [d1, d2, d3] }
  | _ => none }
def FnExactFirstRollsWrongFalsely : Prop := fnExactFirstRollsRow.holds Try.pinned (OpenSpec.ofChange fnExactFirstRollsWrong)

/-- 'laws.FnExactRollsOfLeast': WHATEVER THE INPUT: true; the input reads as it did. -/
def fnExactRollsOfLeastSpec : ChangeSpec := { name := "fnExactRollsOfLeast", fn := fun _ => fun
  | [d1, d2, d3] => { results := [.lit (.bool true)], args := [d1, d2, d3] }
  | _ => none }
def fnExactRollsOfLeastRow : OpenClaim := { program := "ythenlapjhlljnaa", sum := "3a3bfa6550ce30a0e66747e465cff5d5efa2bf869e6748a416022e26da100cf7", func := "loop.example/g01374/laws.FnExactRollsOfLeast", spec := "fnExactRollsOfLeast", unfollowed := true, recurses := true, apart := false }
def FnExactRollsOfLeastSaid : Prop := fnExactRollsOfLeastRow.holds Try.pinned (OpenSpec.ofChange fnExactRollsOfLeastSpec)

/-- ITS FALSE NEIGHBOUR: 'it returns false'. Refute it at one input. -/
def fnExactRollsOfLeastWrong : ChangeSpec := { name := "fnExactRollsOfLeast", fn := fun _ => fun
  | [d1, d2, d3] => { results := [.lit (.bool false)], args := [d1, d2, d3] }
  | _ => none }
def FnExactRollsOfLeastWrongFalsely : Prop := fnExactRollsOfLeastRow.holds Try.pinned (OpenSpec.ofChange fnExactRollsOfLeastWrong)

/-- 'laws.FnClimbsRankedOfAll': WHATEVER THE INPUT: true; the input reads as it did. -/
def fnClimbsRankedOfAllSpec : ChangeSpec := { name := "fnClimbsRankedOfAll", fn := fun _ => fun
  | [d1, d2, d3, d4, d5, d6] => { results := [.lit (.bool true)], args := [d1, d2, d3, d4, d5, d6] }
  | _ => none }
def fnClimbsRankedOfAllRow : OpenClaim := { program := "ythenlapjhlljnaa", sum := "3a3bfa6550ce30a0e66747e465cff5d5efa2bf869e6748a416022e26da100cf7", func := "loop.example/g01374/laws.FnClimbsRankedOfAll", spec := "fnClimbsRankedOfAll", unfollowed := true, recurses := true, apart := false }
def FnClimbsRankedOfAllSaid : Prop := fnClimbsRankedOfAllRow.holds Try.pinned (OpenSpec.ofChange fnClimbsRankedOfAllSpec)

/-- ITS FALSE NEIGHBOUR: 'it returns false'. Refute it at one input. -/
def fnClimbsRankedOfAllWrong : ChangeSpec := { name := "fnClimbsRankedOfAll", fn := fun _ => fun
  | [d1, d2, d3, d4, d5, d6] => { results := [.lit (.bool false)], args := [d1, d2, d3, d4, d5, d6] }
  | _ => none }
def FnClimbsRankedOfAllWrongFalsely : Prop := fnClimbsRankedOfAllRow.holds Try.pinned (OpenSpec.ofChange fnClimbsRankedOfAllWrong)

/-- 'laws.FnClimbsRanked': WHATEVER THE INPUT: true; the input reads as it did. -/
def fnClimbsRankedSpec : ChangeSpec := { name := "fnClimbsRanked", fn := fun _ => fun
  | [d1, d2] => { results := [.lit (.bool true)], args := [d1, d2] }
  | _ => none }
def fnClimbsRankedRow : OpenClaim := { program := "ythenlapjhlljnaa", sum := "3a3bfa6550ce30a0e66747e465cff5d5efa2bf869e6748a416022e26da100cf7", func := "loop.example/g01374/laws.FnClimbsRanked", spec := "fnClimbsRanked", unfollowed := true, recurses := true, apart := false }
def FnClimbsRankedSaid : Prop := fnClimbsRankedRow.holds Try.pinned (OpenSpec.ofChange fnClimbsRankedSpec)

/-- ITS FALSE NEIGHBOUR: 'it returns false'. Refute it at one input. -/
def fnClimbsRankedWrong : ChangeSpec := { name := "fnClimbsRanked", fn := fun _ => fun
  | [d1, d2] => { results := [.lit (.bool false)], args := [d1, d2] }
  | _ => none }
def FnClimbsRankedWrongFalsely : Prop := fnClimbsRankedRow.holds Try.pinned (OpenSpec.ofChange fnClimbsRankedWrong)

/-- 'laws.FnExactBreakStep': WHATEVER THE INPUT: true; the input reads as it did. -/
def fnExactBreakStepSpec : ChangeSpec := { name := "fnExactBreakStep", fn := fun _ => fun
  | [d1, d2] => { results := [.lit (.bool true)], args := [d1, d2] }
  | _ => none }
def fnExactBreakStepRow : OpenClaim := { program := "ythenlapjhlljnaa", sum := "3a3bfa6550ce30a0e66747e465cff5d5efa2bf869e6748a416022e26da100cf7", func := "loop.example/g01374/laws.FnExactBreakStep", spec := "fnExactBreakStep", recurses := true, apart := false }
def FnExactBreakStepSaid : Prop := fnExactBreakStepRow.holds Try.pinned (OpenSpec.ofChange fnExactBreakStepSpec)

/-- ITS FALSE NEIGHBOUR: 'it returns false'. Refute it at one input. -/
def fnExactBreakStepWrong : ChangeSpec := { name := "fnExactBreakStep", fn := fun _ => fun
  | [d1, d2] => { results := [.lit (.bool false)], args := [d1, d2] }
  | _ => none }
def FnExactBreakStepWrongFalsely : Prop := fnExactBreakStepRow.holds Try.pinned (OpenSpec.ofChange fnExactBreakStepWrong)

/- THE SECOND FORM. 'bulk': how many values and letters a reading holds, each counted each time it is reached (what is shared counts as often as it is met; a slice's spare places count too). A statement '..UptoSaid' is the law's where the arguments, and the package variables that the reading takes, are together of bulk at most 1048576: NARROWER than '..Said'. Prove '..Said' where nothing that the law and all that it calls make is longer than what came in: it says more and counts as full. Else prove '..UptoSaid'. A law counts once. -/
mutual
def uptoBulk {H : Type} : DataW H → Nat
  | .lit (.string bytes) => bytes.length + 1
  | .lit _ => 1
  | .nil => 1
  | .ptr d => uptoBulk d + 1
  | .slice elems spare => uptoBulkAll elems + uptoBulkAll spare + 1
  | .agg parts => uptoBulkAll parts + 1
  | .iface _ d => uptoBulk d + 1
  | .map entries => uptoBulkEntries entries + 1
  | .held _ => 1
def uptoBulkAll {H : Type} : List (DataW H) → Nat
  | [] => 0
  | d :: r => uptoBulk d + uptoBulkAll r
def uptoBulkEntries {H : Type} : List (Lit × DataW H) → Nat
  | [] => 0
  | x :: r => uptoBulkEntry x + uptoBulkEntries r
def uptoBulkEntry {H : Type} : Lit × DataW H → Nat
  | (.string bytes, d) => bytes.length + uptoBulk d + 1
  | (_, d) => uptoBulk d + 1
 end
def uptoSmall : (H : Type) → List (DataW H) → Bool := fun _ ds => decide (uptoBulkAll ds ≤ 1048576)
def OpenSpec.upto (s : _root_.Go.ChangeSpec) : _root_.Go.OpenSpec := { _root_.Go.OpenSpec.ofChange s with cond := some uptoSmall }

/-- 'laws.FnCarpetsLookOfAll', WHERE WHAT IT READS IS OF BULK AT MOST 1048576: true; the input reads as it did. -/
def fnCarpetsLookOfAllUptoRow : OpenClaim := { program := "ythenlapjhlljnaa", sum := "3a3bfa6550ce30a0e66747e465cff5d5efa2bf869e6748a416022e26da100cf7", func := "loop.example/g01374/laws.FnCarpetsLookOfAll", spec := "fnCarpetsLookOfAll", apart := false, narrowed := true }
def FnCarpetsLookOfAllUptoSaid : Prop := fnCarpetsLookOfAllUptoRow.holds Try.pinned (OpenSpec.upto fnCarpetsLookOfAllSpec)

/-- 'laws.FnCarpetsLook', WHERE WHAT IT READS IS OF BULK AT MOST 1048576: true; the input reads as it did. -/
def fnCarpetsLookUptoRow : OpenClaim := { program := "ythenlapjhlljnaa", sum := "3a3bfa6550ce30a0e66747e465cff5d5efa2bf869e6748a416022e26da100cf7", func := "loop.example/g01374/laws.FnCarpetsLook", spec := "fnCarpetsLook", apart := false, narrowed := true }
def FnCarpetsLookUptoSaid : Prop := fnCarpetsLookUptoRow.holds Try.pinned (OpenSpec.upto fnCarpetsLookSpec)

/-- 'laws.FnRisersPlaced', WHERE WHAT IT READS IS OF BULK AT MOST 1048576: true; the input reads as it did. -/
def fnRisersPlacedUptoRow : OpenClaim := { program := "ythenlapjhlljnaa", sum := "3a3bfa6550ce30a0e66747e465cff5d5efa2bf869e6748a416022e26da100cf7", func := "loop.example/g01374/laws.FnRisersPlaced", spec := "fnRisersPlaced", apart := false, narrowed := true }
def FnRisersPlacedUptoSaid : Prop := fnRisersPlacedUptoRow.holds Try.pinned (OpenSpec.upto fnRisersPlacedSpec)

/-- 'laws.FnBallsGo', WHERE WHAT IT READS IS OF BULK AT MOST 1048576: true; the input reads as it did. -/
def fnBallsGoUptoRow : OpenClaim := { program := "ythenlapjhlljnaa", sum := "3a3bfa6550ce30a0e66747e465cff5d5efa2bf869e6748a416022e26da100cf7", func := "loop.example/g01374/laws.FnBallsGo", spec := "fnBallsGo", unfollowed := true, recurses := true, apart := false, narrowed := true }
def FnBallsGoUptoSaid : Prop := fnBallsGoUptoRow.holds Try.pinned (OpenSpec.upto fnBallsGoSpec)

/-- 'laws.FnSpiralsTurn', WHERE WHAT IT READS IS OF BULK AT MOST 1048576: true; the input reads as it did. -/
def fnSpiralsTurnUptoRow : OpenClaim := { program := "ythenlapjhlljnaa", sum := "3a3bfa6550ce30a0e66747e465cff5d5efa2bf869e6748a416022e26da100cf7", func := "loop.example/g01374/laws.FnSpiralsTurn", spec := "fnSpiralsTurn", inPlace := ["internal/bytealg.IndexByteString", "internal/bytealg.IndexString"], unfollowed := true, recurses := true, named := ["internal/bytealg.MaxLen"], apart := false, narrowed := true }
def FnSpiralsTurnUptoSaid : Prop := fnSpiralsTurnUptoRow.holds Try.pinned (OpenSpec.upto fnSpiralsTurnSpec)

/-- 'laws.FnExactFewestRolls', WHERE WHAT IT READS IS OF BULK AT MOST 1048576: true; the input reads as it did. -/
def fnExactFewestRollsUptoRow : OpenClaim := { program := "ythenlapjhlljnaa", sum := "3a3bfa6550ce30a0e66747e465cff5d5efa2bf869e6748a416022e26da100cf7", func := "loop.example/g01374/laws.FnExactFewestRolls", spec := "fnExactFewestRolls", unfollowed := true, recurses := true, apart := false, narrowed := true }
def FnExactFewestRollsUptoSaid : Prop := fnExactFewestRollsUptoRow.holds Try.pinned (OpenSpec.upto fnExactFewestRollsSpec)

/-- 'laws.FnExactLeastLength', WHERE WHAT IT READS IS OF BULK AT MOST 1048576: true; the input reads as it did. -/
def fnExactLeastLengthUptoRow : OpenClaim := { program := "ythenlapjhlljnaa", sum := "3a3bfa6550ce30a0e66747e465cff5d5efa2bf869e6748a416022e26da100cf7", func := "loop.example/g01374/laws.FnExactLeastLength", spec := "fnExactLeastLength", unfollowed := true, recurses := true, apart := false, narrowed := true }
def FnExactLeastLengthUptoSaid : Prop := fnExactLeastLengthUptoRow.holds Try.pinned (OpenSpec.upto fnExactLeastLengthSpec)

/-- 'laws.FnExactFirstRolls', WHERE WHAT IT READS IS OF BULK AT MOST 1048576: true; the input reads as it did. -/
def fnExactFirstRollsUptoRow : OpenClaim := { program := "ythenlapjhlljnaa", sum := "3a3bfa6550ce30a0e66747e465cff5d5efa2bf869e6748a416022e26da100cf7", func := "loop.example/g01374/laws.FnExactFirstRolls", spec := "fnExactFirstRolls", unfollowed := true, recurses := true, apart := false, narrowed := true }
def FnExactFirstRollsUptoSaid : Prop := fnExactFirstRollsUptoRow.holds Try.pinned (OpenSpec.upto fnExactFirstRollsSpec)

/-- 'laws.FnExactRollsOfLeast', WHERE WHAT IT READS IS OF BULK AT MOST 1048576: true; the input reads as it did. -/
def fnExactRollsOfLeastUptoRow : OpenClaim := { program := "ythenlapjhlljnaa", sum := "3a3bfa6550ce30a0e66747e465cff5d5efa2bf869e6748a416022e26da100cf7", func := "loop.example/g01374/laws.FnExactRollsOfLeast", spec := "fnExactRollsOfLeast", unfollowed := true, recurses := true, apart := false, narrowed := true }
def FnExactRollsOfLeastUptoSaid : Prop := fnExactRollsOfLeastUptoRow.holds Try.pinned (OpenSpec.upto fnExactRollsOfLeastSpec)

/-- 'laws.FnClimbsRankedOfAll', WHERE WHAT IT READS IS OF BULK AT MOST 1048576: true; the input reads as it did. -/
def fnClimbsRankedOfAllUptoRow : OpenClaim := { program := "ythenlapjhlljnaa", sum := "3a3bfa6550ce30a0e66747e465cff5d5efa2bf869e6748a416022e26da100cf7", func := "loop.example/g01374/laws.FnClimbsRankedOfAll", spec := "fnClimbsRankedOfAll", unfollowed := true, recurses := true, apart := false, narrowed := true }
def FnClimbsRankedOfAllUptoSaid : Prop := fnClimbsRankedOfAllUptoRow.holds Try.pinned (OpenSpec.upto fnClimbsRankedOfAllSpec)

/-- 'laws.FnClimbsRanked', WHERE WHAT IT READS IS OF BULK AT MOST 1048576: true; the input reads as it did. -/
def fnClimbsRankedUptoRow : OpenClaim := { program := "ythenlapjhlljnaa", sum := "3a3bfa6550ce30a0e66747e465cff5d5efa2bf869e6748a416022e26da100cf7", func := "loop.example/g01374/laws.FnClimbsRanked", spec := "fnClimbsRanked", unfollowed := true, recurses := true, apart := false, narrowed := true }
def FnClimbsRankedUptoSaid : Prop := fnClimbsRankedUptoRow.holds Try.pinned (OpenSpec.upto fnClimbsRankedSpec)

/-- 'laws.FnExactBreakStep', WHERE WHAT IT READS IS OF BULK AT MOST 1048576: true; the input reads as it did. -/
def fnExactBreakStepUptoRow : OpenClaim := { program := "ythenlapjhlljnaa", sum := "3a3bfa6550ce30a0e66747e465cff5d5efa2bf869e6748a416022e26da100cf7", func := "loop.example/g01374/laws.FnExactBreakStep", spec := "fnExactBreakStep", recurses := true, apart := false, narrowed := true }
def FnExactBreakStepUptoSaid : Prop := fnExactBreakStepUptoRow.holds Try.pinned (OpenSpec.upto fnExactBreakStepSpec)

end Rows
end Go.Proofs.Ythenlapjhlljnaa
