/-
  DERIVED. GIVEN WITH THE SEED: THE CARDS: each row of YtadcmhdjoglagaaGreatDoorRows.lean that lists a variable, with what it lists TIED to the program's text (the seventh form; the later family's looks); each row that meets fmt, with fmt's text TOLD by the authors' own Lean function (tested against real Go, not proved from fmt's source: count such statements apart). THE CARD IS WHAT COUNTS. Prove the row's statement (the work); the ties are given (YtadcmhdjoglagaaGreatDoorTie.lean); close each card by the builder's one call (the guide's Derived/Test/ToyasCard.lean, 'card_holds'). Laid BY PROGRAM, IN A SANDBOX (cutbox-door.mjs). By AI agents, Wed Nov 11 2026. No macro, syntax, notation, axiom, sorry.
-/
import Derived.Test.YtadcmhdjoglagaaGreatDoorRows
import GoSem.ClaimSeven
namespace Go.Proofs.YtadcmhdjoglagaaGreatDoor
namespace Rows

/-- THE TIED CARD OF 'laws.FnMovingTimed'. -/
def fnMovingTimedCard : Claim7 := { stood := { row := fnMovingTimedRow, standIns := [], harness := (true, "417a614d394cd63e067766a6e09e7e707078fd984fc38b570ecce2daf4bce613"), looks := true }, kinds := [], alts := [], laidByText := true, laidKinds := [.data, .data, .data, .sentinel, .sentinel], laidTests := true, laidLooks := .later }
def FnMovingTimedCardSaid : Prop := Claim7.holds Tryz.pinned (.plain (OpenSpec.ofChange fnMovingTimedSpec)) fnMovingTimedCard

/-- THE SECOND FORM's CARD OF 'laws.FnMovingTimed'. -/
def fnMovingTimedUptoCard : Claim7 := { stood := { row := fnMovingTimedUptoRow, standIns := [], harness := (true, "417a614d394cd63e067766a6e09e7e707078fd984fc38b570ecce2daf4bce613"), looks := true }, kinds := [], alts := [], laidByText := true, laidKinds := [.data, .data, .data, .sentinel, .sentinel], laidTests := true, laidLooks := .later }
def FnMovingTimedUptoCardSaid : Prop := Claim7.holds Tryz.pinned (.plain (OpenSpec.upto fnMovingTimedSpec)) fnMovingTimedUptoCard
end Rows
end Go.Proofs.YtadcmhdjoglagaaGreatDoor
