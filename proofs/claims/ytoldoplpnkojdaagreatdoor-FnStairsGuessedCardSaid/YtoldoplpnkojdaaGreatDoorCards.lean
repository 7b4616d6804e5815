/-
  DERIVED. GIVEN WITH THE SEED: THE CARDS: each row of YtoldoplpnkojdaaGreatDoorRows.lean that lists a variable, with what it lists TIED to the program's text (the seventh form; the later family's looks); each row that meets fmt, with fmt's text TOLD by the authors' own Lean function (tested against real Go, not proved from fmt's source: count such statements apart). THE CARD IS WHAT COUNTS. Prove the row's statement (the work); the ties are given (YtoldoplpnkojdaaGreatDoorTie.lean); close each card by the builder's one call (the guide's Derived/Test/ToyasCard.lean, 'card_holds'). Laid BY PROGRAM, IN A SANDBOX (cutbox-door.mjs). By AI agents, Wed Nov 11 2026. No macro, syntax, notation, axiom, sorry.
-/
import Derived.Test.YtoldoplpnkojdaaGreatDoorRows
import GoSem.ClaimSeven
namespace Go.Proofs.YtoldoplpnkojdaaGreatDoor
namespace Rows

/-- THE TIED CARD OF 'laws.FnStairsGuessedOfAll'. -/
def fnStairsGuessedOfAllCard : Claim7 := { stood := { row := fnStairsGuessedOfAllRow, standIns := [], harness := (true, "f83f63635ff58834eec20d9c6ebde80796489a7f5b26dcb556e1ca35045c4ee1"), looks := true }, kinds := [], alts := [], laidByText := true, laidKinds := [.data, .data, .data, .data, .sentinel, .sentinel, .pinned], laidTests := true, laidLooks := .later }
def FnStairsGuessedOfAllCardSaid : Prop := Claim7.holds Tryz.pinned (.plain (OpenSpec.ofChange fnStairsGuessedOfAllSpec)) fnStairsGuessedOfAllCard

/-- THE TIED CARD OF 'laws.FnStairsGuessed'. -/
def fnStairsGuessedCard : Claim7 := { stood := { row := fnStairsGuessedRow, standIns := [], harness := (true, "f83f63635ff58834eec20d9c6ebde80796489a7f5b26dcb556e1ca35045c4ee1"), looks := true }, kinds := [], alts := [], laidByText := true, laidKinds := [.data, .data, .data, .data, .sentinel, .sentinel, .pinned], laidTests := true, laidLooks := .later }
def FnStairsGuessedCardSaid : Prop := Claim7.holds Tryz.pinned (.plain (OpenSpec.ofChange fnStairsGuessedSpec)) fnStairsGuessedCard

/-- THE SECOND FORM's CARD OF 'laws.FnStairsGuessedOfAll'. -/
def fnStairsGuessedOfAllUptoCard : Claim7 := { stood := { row := fnStairsGuessedOfAllUptoRow, standIns := [], harness := (true, "f83f63635ff58834eec20d9c6ebde80796489a7f5b26dcb556e1ca35045c4ee1"), looks := true }, kinds := [], alts := [], laidByText := true, laidKinds := [.data, .data, .data, .data, .sentinel, .sentinel, .pinned], laidTests := true, laidLooks := .later }
def FnStairsGuessedOfAllUptoCardSaid : Prop := Claim7.holds Tryz.pinned (.plain (OpenSpec.upto fnStairsGuessedOfAllSpec)) fnStairsGuessedOfAllUptoCard

/-- THE SECOND FORM's CARD OF 'laws.FnStairsGuessed'. -/
def fnStairsGuessedUptoCard : Claim7 := { stood := { row := fnStairsGuessedUptoRow, standIns := [], harness := (true, "f83f63635ff58834eec20d9c6ebde80796489a7f5b26dcb556e1ca35045c4ee1"), looks := true }, kinds := [], alts := [], laidByText := true, laidKinds := [.data, .data, .data, .data, .sentinel, .sentinel, .pinned], laidTests := true, laidLooks := .later }
def FnStairsGuessedUptoCardSaid : Prop := Claim7.holds Tryz.pinned (.plain (OpenSpec.upto fnStairsGuessedSpec)) fnStairsGuessedUptoCard
end Rows
end Go.Proofs.YtoldoplpnkojdaaGreatDoor
