/-
  No cell of these rows narrows 'for every input' (looked for: loops, veiled, ifaces, maps, wideKeys, modest, calm, conditions, laid).
  DERIVED. THE GIVEN ROWS OF THIS SEAT. 12 by the template 'for every input the law returns true; each argument reads behind the call as it read before'; 0 by the template 'total and deterministic' (their statements: YtinmfblemgkboaaTotals.lean).
  GIVEN WITH THE SEED: the statements are not yours to turn. If you find one false, say at which input.
  Laid BY PROGRAM, IN A SANDBOX (cutbox-rows.mjs): the forced cells as the released guide's own fill.sh prints them over the translation a0a83510279020a9… (all of the seat's roots in one cut). By AI agents, Wed Nov 11 2026. No macro, syntax, notation, axiom, sorry.
-/
import Derived.Test.YtinmfblemgkboaaChecked
import GoSem.Claim
import GoSem.ClaimJoined
import GoSem.ClaimMapViews
import Derived.JoinedTies
import Derived.KernelRfl
namespace Go.Proofs.Ytinmfblemgkboaa
/- THE CELL 'sum', in the pinned program and in every row, IS THE sha256 OF THE DUMP (.gsa) THAT YtinmfblemgkboaaProg.lean LOADS. Nothing in Lean hashes anything: it is a label: what it is worth is what the hold of that sum in a sandbox is worth. -/
noncomputable def Try.pinned : Pinned := { name := "ytinmfblemgkboaa", sum := "a0a83510279020a975d8f61dbe1adb82fc884fc8a5d8b891c0b00dd72578058f", checked := Try.checked }
namespace Rows
def none {H : Type} : Left H := { results := [], args := [] }

/-- 'laws.FnExactIsClue': WHATEVER THE INPUT: true; the input reads as it did. -/
def fnExactIsClueSpec : ChangeSpec := { name := "fnExactIsClue", fn := fun _ => fun
  | [d] => { results := [.lit (.bool true)], args := [d] }
  | _ => none }
def fnExactIsClueRow : OpenClaim := { program := "ytinmfblemgkboaa", sum := "a0a83510279020a975d8f61dbe1adb82fc884fc8a5d8b891c0b00dd72578058f", func := "loop.example/g01374/laws.FnExactIsClue", spec := "fnExactIsClue", apart := false }
def FnExactIsClueSaid : Prop := fnExactIsClueRow.holds Try.pinned (OpenSpec.ofChange fnExactIsClueSpec)

/-- ITS FALSE NEIGHBOUR: 'it returns false'. Refute it at one input. -/
def fnExactIsClueWrong : ChangeSpec := { name := "fnExactIsClue", fn := fun _ => fun
  | [d] => { results := [.lit (.bool false)], args := [d] }
  | _ => none }
def FnExactIsClueWrongFalsely : Prop := fnExactIsClueRow.holds Try.pinned (OpenSpec.ofChange fnExactIsClueWrong)

/-- 'laws.FnExactFirstDesk': WHATEVER THE INPUT: true; the input reads as it did. -/
def fnExactFirstDeskSpec : ChangeSpec := { name := "fnExactFirstDesk", fn := fun _ => fun
  | [] => { results := [.lit (.bool true)], args := [] }
  | _ => none }
def fnExactFirstDeskRow : OpenClaim := { program := "ytinmfblemgkboaa", sum := "a0a83510279020a975d8f61dbe1adb82fc884fc8a5d8b891c0b00dd72578058f", func := "loop.example/g01374/laws.FnExactFirstDesk", spec := "fnExactFirstDesk", apart := false }
def FnExactFirstDeskSaid : Prop := fnExactFirstDeskRow.holds Try.pinned (OpenSpec.ofChange fnExactFirstDeskSpec)

/-- ITS FALSE NEIGHBOUR: 'it returns false'. Refute it at one input. -/
def fnExactFirstDeskWrong : ChangeSpec := { name := "fnExactFirstDesk", fn := fun _ => fun
  | [] => { results := [.lit (.bool false)], args := [] }
  | _ => none }
def FnExactFirstDeskWrongFalsely : Prop := fnExactFirstDeskRow.holds Try.pinned (OpenSpec.ofChange fnExactFirstDeskWrong)

/-- 'laws.FnExactIsPuzzle': WHATEVER THE INPUT: true; the input reads as it did. -/
def fnExactIsPuzzleSpec : ChangeSpec := { name := "fnExactIsPuzzle", fn := fun _ => fun
  | [d] => { results := [.lit (.bool true)], args := [d] }
  | _ => none }
def fnExactIsPuzzleRow : OpenClaim := { program := "ytinmfblemgkboaa", sum := "a0a83510279020a975d8f61dbe1adb82fc884fc8a5d8b891c0b00dd72578058f", func := "loop.example/g01374/laws.FnExactIsPuzzle", spec := "fnExactIsPuzzle", unfollowed := true, recurses := true, apart := false }
def FnExactIsPuzzleSaid : Prop := fnExactIsPuzzleRow.holds Try.pinned (OpenSpec.ofChange fnExactIsPuzzleSpec)

/-- ITS FALSE NEIGHBOUR: 'it returns false'. Refute it at one input. -/
def fnExactIsPuzzleWrong : ChangeSpec := { name := "fnExactIsPuzzle", fn := fun _ => fun
  | [d] => { results := [.lit (.bool false)], args := [d] }
  | _ => none }
def FnExactIsPuzzleWrongFalsely : Prop := fnExactIsPuzzleRow.holds Try.pinned (OpenSpec.ofChange fnExactIsPuzzleWrong)

/-- 'laws.FnExactTurnStairs': WHATEVER THE INPUT: true; the input reads as it did. -/
def fnExactTurnStairsSpec : ChangeSpec := { name := "fnExactTurnStairs", fn := fun _ => fun
  | [d] => { results := [.lit (.bool true)], args := [d] }
  | _ => none }
def fnExactTurnStairsRow : OpenClaim := { program := "ytinmfblemgkboaa", sum := "a0a83510279020a975d8f61dbe1adb82fc884fc8a5d8b891c0b00dd72578058f", func := "loop.example/g01374/laws.FnExactTurnStairs", spec := "fnExactTurnStairs", apart := false }
def FnExactTurnStairsSaid : Prop := fnExactTurnStairsRow.holds Try.pinned (OpenSpec.ofChange fnExactTurnStairsSpec)

/-- ITS FALSE NEIGHBOUR: 'it returns false'. Refute it at one input. -/
def fnExactTurnStairsWrong : ChangeSpec := { name := "fnExactTurnStairs", fn := fun _ => fun
  | [d] => { results := [.lit (.bool false)], args := [d] }
  | _ => none }
def FnExactTurnStairsWrongFalsely : Prop := fnExactTurnStairsRow.holds Try.pinned (OpenSpec.ofChange fnExactTurnStairsWrong)

/-- 'laws.FnExactAddClue': WHATEVER THE INPUT: true; the input reads as it did. -/
def fnExactAddClueSpec : ChangeSpec := { name := "fnExactAddClue", fn := fun _ => fun
  | [d1, d2] => { results := [.lit (.bool true)], args := [d1, d2] }
  | _ => none }
def fnExactAddClueRow : OpenClaim := { program := "ytinmfblemgkboaa", sum := "a0a83510279020a975d8f61dbe1adb82fc884fc8a5d8b891c0b00dd72578058f", func := "loop.example/g01374/laws.FnExactAddClue", spec := "fnExactAddClue", unfollowed := true, recurses := true, apart := false }
def FnExactAddClueSaid : Prop := fnExactAddClueRow.holds Try.pinned (OpenSpec.ofChange fnExactAddClueSpec)

/-- ITS FALSE NEIGHBOUR: 'it returns false'. Refute it at one input. -/
def fnExactAddClueWrong : ChangeSpec := { name := "fnExactAddClue", fn := fun _ => fun
  | [d1, d2] => { results := [.lit (.bool false)], args := [d1, d2] }
  | _ => none }
def FnExactAddClueWrongFalsely : Prop := fnExactAddClueRow.holds Try.pinned (OpenSpec.ofChange fnExactAddClueWrong)

/-- 'laws.FnExactMendStep': WHATEVER THE INPUT: true; the input reads as it did. -/
def fnExactMendStepSpec : ChangeSpec := { name := "fnExactMendStep", fn := fun _ => fun
  | [d1, d2] => { results := [.lit (.bool true)], args := [d1, d2] }
  | _ => none }
def fnExactMendStepRow : OpenClaim := { program := "ytinmfblemgkboaa", sum := "a0a83510279020a975d8f61dbe1adb82fc884fc8a5d8b891c0b00dd72578058f", func := "loop.example/g01374/laws.FnExactMendStep", spec := "fnExactMendStep", unfollowed := true, recurses := true, apart := false }
def FnExactMendStepSaid : Prop := fnExactMendStepRow.holds Try.pinned (OpenSpec.ofChange fnExactMendStepSpec)

/-- ITS FALSE NEIGHBOUR: 'it returns false'. Refute it at one input. -/
def fnExactMendStepWrong : ChangeSpec := { name := "fnExactMendStep", fn := fun _ => fun
  | [d1, d2] => { results := [.lit (.bool false)], args := [d1, d2] }
  | _ => none }
def FnExactMendStepWrongFalsely : Prop := fnExactMendStepRow.holds Try.pinned (OpenSpec.ofChange fnExactMendStepWrong)

/-- 'laws.FnExactIsDesk': WHATEVER THE INPUT: true; the input reads as it did. -/
def fnExactIsDeskSpec : ChangeSpec := { name := "fnExactIsDesk", fn := fun _ => fun
  | [d] => { results := [.lit (.bool true)], args := [d] }
  | _ => none }
def fnExactIsDeskRow : OpenClaim := { program := "ytinmfblemgkboaa", sum := "a0a83510279020a975d8f61dbe1adb82fc884fc8a5d8b891c0b00dd72578058f", func := "loop.example/g01374/laws.FnExactIsDesk", spec := "fnExactIsDesk", unfollowed := true, recurses := true, apart := false }
def FnExactIsDeskSaid : Prop := fnExactIsDeskRow.holds Try.pinned (OpenSpec.ofChange fnExactIsDeskSpec)

/-- ITS FALSE NEIGHBOUR: 'it returns false'. Refute it at one input. -/
def fnExactIsDeskWrong : ChangeSpec := { name := "fnExactIsDesk", fn := fun _ => fun
  | [d] => { results := [.lit (.bool false)], args := [d] }
  | _ => none }
def FnExactIsDeskWrongFalsely : Prop := fnExactIsDeskRow.holds Try.pinned (OpenSpec.ofChange fnExactIsDeskWrong)

/-- 'laws.FnExactDropClue': WHATEVER THE INPUT: true; the input reads as it did. -/
def fnExactDropClueSpec : ChangeSpec := { name := "fnExactDropClue", fn := fun _ => fun
  | [d1, d2] => { results := [.lit (.bool true)], args := [d1, d2] }
  | _ => none }
def fnExactDropClueRow : OpenClaim := { program := "ytinmfblemgkboaa", sum := "a0a83510279020a975d8f61dbe1adb82fc884fc8a5d8b891c0b00dd72578058f", func := "loop.example/g01374/laws.FnExactDropClue", spec := "fnExactDropClue", unfollowed := true, recurses := true, apart := false }
def FnExactDropClueSaid : Prop := fnExactDropClueRow.holds Try.pinned (OpenSpec.ofChange fnExactDropClueSpec)

/-- ITS FALSE NEIGHBOUR: 'it returns false'. Refute it at one input. -/
def fnExactDropClueWrong : ChangeSpec := { name := "fnExactDropClue", fn := fun _ => fun
  | [d1, d2] => { results := [.lit (.bool false)], args := [d1, d2] }
  | _ => none }
def FnExactDropClueWrongFalsely : Prop := fnExactDropClueRow.holds Try.pinned (OpenSpec.ofChange fnExactDropClueWrong)

/-- 'laws.FnCarpetsLookOfAll': WHATEVER THE INPUT: true; the input reads as it did. -/
def fnCarpetsLookOfAllSpec : ChangeSpec := { name := "fnCarpetsLookOfAll", fn := fun _ => fun
  | [d1, d2, d3, d4, d5, d6, d7, d8, d9, d10] => { results := [.lit (.bool true)], args := [d1, d2, d3, d4, d5, d6, d7, d8, d9, d10] }
  | _ => none }
def fnCarpetsLookOfAllRow : OpenClaim := { program := "ytinmfblemgkboaa", sum := "a0a83510279020a975d8f61dbe1adb82fc884fc8a5d8b891c0b00dd72578058f", func := "loop.example/g01374/laws.FnCarpetsLookOfAll", spec := "fnCarpetsLookOfAll", apart := false }
def FnCarpetsLookOfAllSaid : Prop := fnCarpetsLookOfAllRow.holds Try.pinned (OpenSpec.ofChange fnCarpetsLookOfAllSpec)

/-- ITS FALSE NEIGHBOUR: 'it returns false'. Refute it at one input. -/
def fnCarpetsLookOfAllWrong : ChangeSpec := { name := "fnCarpetsLookOfAll", fn := fun _ => fun
  | [d1, d2, d3, d4, d5, d6, d7, d8, d9, d10] => { results := [.lit (.bool false)], args := [d1, d2, d3, d4, d5, d6, d7, d8, d9, d10] }
  | _ => none }
def FnCarpetsLookOfAllWrongFalsely : Prop := fnCarpetsLookOfAllRow.holds Try.pinned (OpenSpec.ofChange fnCarpetsLookOfAllWrong)

/-- 'laws.FnCarpetsLook': WHATEVER THE INPUT: true; the input reads as it did. -/
def fnCarpetsLookSpec : ChangeSpec := { name := "fnCarpetsLook", fn := fun _ => fun
  | [d1, d2] => { results := [.lit (.bool true)], args := [d1, d2] }
  | _ => none }
def fnCarpetsLookRow : OpenClaim := { program := "ytinmfblemgkboaa", sum := "a0a83510279020a975d8f61dbe1adb82fc884fc8a5d8b891c0b00dd72578058f", func := "loop.example/g01374/laws.FnCarpetsLook", spec := "fnCarpetsLook", apart := false }
def FnCarpetsLookSaid : Prop := fnCarpetsLookRow.holds Try.pinned (OpenSpec.ofChange fnCarpetsLookSpec)

/-- ITS FALSE NEIGHBOUR: 'it returns false'. Refute it at one input. -/
def fnCarpetsLookWrong : ChangeSpec := { name := "fnCarpetsLook", fn := fun _ => fun
  | [d1, d2] => { results := [.lit (.bool false)], args := [d1, d2] }
  | _ => none }
def FnCarpetsLookWrongFalsely : Prop := fnCarpetsLookRow.holds Try.pinned (OpenSpec.ofChange fnCarpetsLookWrong)

/-- 'laws.FnRisersPlaced': WHATEVER THE INPUT: true; the input reads as it did. -/
def fnRisersPlacedSpec : ChangeSpec := { name := "fnRisersPlaced", fn := fun _ => fun
  | [d1, d2] => { results := [.lit (.bool true)], args := [d1, d2] }
  | _ => none }
def fnRisersPlacedRow : OpenClaim := { program := "ytinmfblemgkboaa", sum := "a0a83510279020a975d8f61dbe1adb82fc884fc8a5d8b891c0b00dd72578058f", func := "loop.example/g01374/laws.FnRisersPlaced", spec := "fnRisersPlaced", apart := false }
def FnRisersPlacedSaid : Prop := fnRisersPlacedRow.holds Try.pinned (OpenSpec.ofChange fnRisersPlacedSpec)

/-- ITS FALSE NEIGHBOUR: 'it returns false'. Refute it at one input. -/
def fnRisersPlacedWrong : ChangeSpec := { name := "fnRisersPlaced", fn := fun _ => fun
  | [d1, d2] => { results := [.lit (.bool false)], args := [d1, d2] }
  | _ => none }
def FnRisersPlacedWrongFalsely : Prop := fnRisersPlacedRow.holds Try.pinned (OpenSpec.ofChange fnRisersPlacedWrong)

/-- 'laws.FnExactDoesFit': WHATEVER THE INPUT: true; the input reads as it did. -/
def fnExactDoesFitSpec : ChangeSpec := { name := "fnExactDoesFit", fn := fun _ => fun
  | [d1, d2] => { results := [.lit (.bool true)], args := [d1, d2] }
  | _ => none }
def fnExactDoesFitRow : OpenClaim := { program := "ytinmfblemgkboaa", sum := "a0a83510279020a975d8f61dbe1adb82fc884fc8a5d8b891c0b00dd72578058f", func := "loop.example/g01374/laws.FnExactDoesFit", spec := "fnExactDoesFit", unfollowed := true, recurses := true, apart := false }
def FnExactDoesFitSaid : Prop := fnExactDoesFitRow.holds Try.pinned (OpenSpec.ofChange fnExactDoesFitSpec)

/-- ITS FALSE NEIGHBOUR: 'it returns false'. Refute it at one input. -/
def fnExactDoesFitWrong : ChangeSpec := { name := "fnExactDoesFit", fn := fun _ => fun
  | [d1, d2] => { results := [.lit (.bool false)], args := [d1, d2] }
  | _ => none }
def FnExactDoesFitWrongFalsely : Prop := fnExactDoesFitRow.holds Try.pinned (OpenSpec.ofChange fnExactDoesFitWrong)

/- THE SECOND FORM. 'bulk': how many values and letters a reading holds, each counted each time it is reached (what is shared counts as often as it is met; a slice's spare places count too). A statement '..UptoSaid' is the law's where the arguments, and the package variables that the reading takes, are together of bulk at most 1048576: NARROWER than '..Said'. Prove '..Said' where nothing that the law and all that it calls make is longer than what came in: it says more and counts as full. Else prove '..UptoSaid'. A law counts once. -/
mutual
def uptoBulk {H : Type} : DataW H → Nat
  | .lit (.string bytes) => bytes.length + 1
  | .lit _ => 1
  | .nil => 1
  | .ptr d => uptoBulk d + 1
  | .slice elems spare => uptoBulkAll elems + uptoBulkAll spare + 1
  | .agg parts => uptoBulkAll parts + 1
  | .iface _ d => uptoBulk d + 1
  | .map entries => uptoBulkEntries entries + 1
  | .held _ => 1
def uptoBulkAll {H : Type} : List (DataW H) → Nat
  | [] => 0
  | d :: r => uptoBulk d + uptoBulkAll r
def uptoBulkEntries {H : Type} : List (Lit × DataW H) → Nat
  | [] => 0
  | x :: r => uptoBulkEntry x + uptoBulkEntries r
def uptoBulkEntry {H : Type} : Lit × DataW H → Nat
  | (.string bytes, d) => bytes.length + uptoBulk d + 1
  | (_, d) => uptoBulk d + 1
 end
def uptoSmall : (H : Type) → List (DataW H) → Bool := fun _ ds => decide (uptoBulkAll ds ≤ 1048576)
def OpenSpec.upto (s : _root_.Go.ChangeSpec) : _root_.Go.OpenSpec := { _root_.Go.OpenSpec.ofChange s with cond := some uptoSmall }

/-- 'laws.FnExactIsClue', WHERE WHAT IT READS IS OF BULK AT MOST 1048576: true; the input reads as it did. -/
def fnExactIsClueUptoRow : OpenClaim := { program := "ytinmfblemgkboaa", sum := "a0a83510279020a975d8f61dbe1adb82fc884fc8a5d8b891c0b00dd72578058f", func := "loop.example/g01374/laws.FnExactIsClue", spec := "fnExactIsClue", apart := false, narrowed := true }
def FnExactIsClueUptoSaid : Prop := fnExactIsClueUptoRow.holds Try.pinned (OpenSpec.upto fnExactIsClueSpec)

/-- 'laws.FnExactFirstDesk', WHERE WHAT IT READS IS OF BULK AT MOST 1048576: true; the input reads as it did. -/
def fnExactFirstDeskUptoRow : OpenClaim := { program := "ytinmfblemgkboaa", sum := "a0a83510279020a975d8f61dbe1adb82fc884fc8a5d8b891c0b00dd72578058f", func := "loop.example/g01374/laws.FnExactFirstDesk", spec := "fnExactFirstDesk", apart := false, narrowed := true }
def FnExactFirstDeskUptoSaid : Prop := fnExactFirstDeskUptoRow.holds Try.pinned (OpenSpec.upto fnExactFirstDeskSpec)

/-- 'laws.FnExactIsPuzzle', WHERE WHAT IT READS IS OF BULK AT MOST 1048576: true; the input reads as it did. -/
def fnExactIsPuzzleUptoRow : OpenClaim := { program := "ytinmfblemgkboaa", sum := "a0a83510279020a975d8f61dbe1adb82fc884fc8a5d8b891c0b00dd72578058f", func := "loop.example/g01374/laws.FnExactIsPuzzle", spec := "fnExactIsPuzzle", unfollowed := true, recurses := true, apart := false, narrowed := true }
def FnExactIsPuzzleUptoSaid : Prop := fnExactIsPuzzleUptoRow.holds Try.pinned (OpenSpec.upto fnExactIsPuzzleSpec)

/-- 'laws.FnExactTurnStairs', WHERE WHAT IT READS IS OF BULK AT MOST 1048576: true; the input reads as it did. -/
def fnExactTurnStairsUptoRow : OpenClaim := { program := "ytinmfblemgkboaa", sum := "a0a83510279020a975d8f61dbe1adb82fc884fc8a5d8b891c0b00dd72578058f", func := "loop.example/g01374/laws.FnExactTurnStairs", spec := "fnExactTurnStairs", apart := false, narrowed := true }
def FnExactTurnStairsUptoSaid : Prop := fnExactTurnStairsUptoRow.holds Try.pinned (OpenSpec.upto fnExactTurnStairsSpec)

/-- 'laws.FnExactAddClue', WHERE WHAT IT READS IS OF BULK AT MOST 1048576: true; the input reads as it did. -/
def fnExactAddClueUptoRow : OpenClaim := { program := "ytinmfblemgkboaa", sum := "a0a83510279020a975d8f61dbe1adb82fc884fc8a5d8b891c0b00dd72578058f", func := "loop.example/g01374/laws.FnExactAddClue", spec := "fnExactAddClue", unfollowed := true, recurses := true, apart := false, narrowed := true }
def FnExactAddClueUptoSaid : Prop := fnExactAddClueUptoRow.holds Try.pinned (OpenSpec.upto fnExactAddClueSpec)

/-- 'laws.FnExactMendStep', WHERE WHAT IT READS IS OF BULK AT MOST 1048576: true; the input reads as it did. -/
def fnExactMendStepUptoRow : OpenClaim := { program := "ytinmfblemgkboaa", sum := "a0a83510279020a975d8f61dbe1adb82fc884fc8a5d8b891c0b00dd72578058f", func := "loop.example/g01374/laws.FnExactMendStep", spec := "fnExactMendStep", unfollowed := true, recurses := true, apart := false, narrowed := true }
def FnExactMendStepUptoSaid : Prop := fnExactMendStepUptoRow.holds Try.pinned (OpenSpec.upto fnExactMendStepSpec)

/-- 'laws.FnExactIsDesk', WHERE WHAT IT READS IS OF BULK AT MOST 1048576: true; the input reads as it did. -/
def fnExactIsDeskUptoRow : OpenClaim := { program := "ytinmfblemgkboaa", sum := "a0a83510279020a975d8f61dbe1adb82fc884fc8a5d8b891c0b00dd72578058f", func := "loop.example/g01374/laws.FnExactIsDesk", spec := "fnExactIsDesk", unfollowed := true, recurses := true, apart := false, narrowed := true }
def FnExactIsDeskUptoSaid : Prop := fnExactIsDeskUptoRow.holds Try.pinned (OpenSpec.upto fnExactIsDeskSpec)

/-- 'laws.FnExactDropClue', WHERE WHAT IT READS IS OF BULK AT MOST 1048576: true; the input reads as it did. -/
def fnExactDropClueUptoRow : OpenClaim := { program := "ytinmfblemgkboaa", sum := "a0a83510279020a975d8f61dbe1adb82fc884fc8a5d8b891c0b00dd72578058f", func := "loop.example/g01374/laws.FnExactDropClue", spec := "fnExactDropClue", unfollowed := true, recurses := true, apart := false, narrowed := true }
def FnExactDropClueUptoSaid : Prop := fnExactDropClueUptoRow.holds Try.pinned (OpenSpec.upto fnExactDropClueSpec)

/-- 'laws.FnCarpetsLookOfAll', WHERE WHAT IT READS IS OF BULK AT MOST 1048576: true; the input reads as it did. -/
def fnCarpetsLookOfAllUptoRow : OpenClaim := { program := "ytinmfblemgkboaa", sum := "a0a83510279020a975d8f61dbe1adb82fc884fc8a5d8b891c0b00dd72578058f", func := "loop.example/g01374/laws.FnCarpetsLookOfAll", spec := "fnCarpetsLookOfAll", apart := false, narrowed := true }
def FnCarpetsLookOfAllUptoSaid : Prop := fnCarpetsLookOfAllUptoRow.holds Try.pinned (OpenSpec.upto fnCarpetsLookOfAllSpec)

/-- 'laws.FnCarpetsLook', WHERE WHAT IT READS IS OF BULK AT MOST 1048576: true; the input reads as it did. -/
def fnCarpetsLookUptoRow : OpenClaim := { program := "ytinmfblemgkboaa", sum := "a0a83510279020a975d8f61dbe1adb82fc884fc8a5d8b891c0b00dd72578058f", func := "loop.example/g01374/laws.FnCarpetsLook", spec := "fnCarpetsLook", apart := false, narrowed := true }
def FnCarpetsLookUptoSaid : Prop := fnCarpetsLookUptoRow.holds Try.pinned (OpenSpec.upto fnCarpetsLookSpec)

/-- 'laws.FnRisersPlaced', WHERE WHAT IT READS IS OF BULK AT MOST 1048576: true; the input reads as it did. -/
def fnRisersPlacedUptoRow : OpenClaim := { program := "ytinmfblemgkboaa", sum := "a0a83510279020a975d8f61dbe1adb82fc884fc8a5d8b891c0b00dd72578058f", func := "loop.example/g01374/laws.FnRisersPlaced", spec := "fnRisersPlaced", apart := false, narrowed := true }
def FnRisersPlacedUptoSaid : Prop := fnRisersPlacedUptoRow.holds Try.pinned (OpenSpec.upto fnRisersPlacedSpec)

/-- 'laws.FnExactDoesFit', WHERE WHAT IT READS IS OF BULK AT MOST 1048576: true; the input reads as it did. -/
def fnExactDoesFitUptoRow : OpenClaim := { program := "ytinmfblemgkboaa", sum := "a0a83510279020a975d8f61dbe1adb82fc884fc8a5d8b891c0b00dd72578058f", func := "loop.example/g01374/laws.FnExactDoesFit", spec := "fnExactDoesFit", unfollowed := true, recurses := true, apart := false, narrowed := true }
def FnExactDoesFitUptoSaid : Prop := fnExactDoesFitUptoRow.holds Try.pinned (OpenSpec.upto fnExactDoesFitSpec)

end Rows
end Go.Proofs.Ytinmfblemgkboaa
