/-
  DERIVED. GIVEN WITH THE SEED: THE CARDS: each row of YtmiimfpdlkmjhaaGreatDoorRows.lean that lists a variable, with what it lists TIED to the program's text (the seventh form; the later family's looks); each row that meets fmt, with fmt's text TOLD by the authors' own Lean function (tested against real Go, not proved from fmt's source: count such statements apart). THE CARD IS WHAT COUNTS. Prove the row's statement (the work); the ties are given (YtmiimfpdlkmjhaaGreatDoorTie.lean); close each card by the builder's one call (the guide's Derived/Test/ToyasCard.lean, 'card_holds'). Laid BY PROGRAM, IN A SANDBOX (cutbox-door.mjs). By AI agents, Wed Nov 11 2026. No macro, syntax, notation, axiom, sorry.
-/
import Derived.Test.YtmiimfpdlkmjhaaGreatDoorRows
import GoSem.ClaimSeven
namespace Go.Proofs.YtmiimfpdlkmjhaaGreatDoor
namespace Rows

/-- THE TIED CARD OF 'laws.FnHousesBuilt'. -/
def fnHousesBuiltCard : Claim7 := { stood := { row := fnHousesBuiltRow, standIns := [], harness := (true, "abdc6555b9d15c8901d3cf54e121ceffa333b133efb9117ad17f73f6ae887f7f"), looks := true }, kinds := [], alts := [], laidByText := true, laidKinds := [.data, .data, .data, .data, .sentinel, .sentinel, .pinned], laidTests := true, laidLooks := .later }
def FnHousesBuiltCardSaid : Prop := Claim7.holds Tryz.pinned (.plain (OpenSpec.ofChange fnHousesBuiltSpec)) fnHousesBuiltCard

/-- THE SECOND FORM's CARD OF 'laws.FnHousesBuilt'. -/
def fnHousesBuiltUptoCard : Claim7 := { stood := { row := fnHousesBuiltUptoRow, standIns := [], harness := (true, "abdc6555b9d15c8901d3cf54e121ceffa333b133efb9117ad17f73f6ae887f7f"), looks := true }, kinds := [], alts := [], laidByText := true, laidKinds := [.data, .data, .data, .data, .sentinel, .sentinel, .pinned], laidTests := true, laidLooks := .later }
def FnHousesBuiltUptoCardSaid : Prop := Claim7.holds Tryz.pinned (.plain (OpenSpec.upto fnHousesBuiltSpec)) fnHousesBuiltUptoCard
end Rows
end Go.Proofs.YtmiimfpdlkmjhaaGreatDoor
