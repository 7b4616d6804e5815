/-
  DERIVED. GIVEN WITH THE SEED: THE CARDS: each row of YtddiigejhjfhdaaGreatDoorRows.lean that lists a variable, with what it lists TIED to the program's text (the seventh form; the later family's looks); each row that meets fmt, with fmt's text TOLD by the authors' own Lean function (tested against real Go, not proved from fmt's source: count such statements apart). THE CARD IS WHAT COUNTS. Prove the row's statement (the work); the ties are given (YtddiigejhjfhdaaGreatDoorTie.lean); close each card by the builder's one call (the guide's Derived/Test/ToyasCard.lean, 'card_holds'). Laid BY PROGRAM, IN A SANDBOX (cutbox-door.mjs). By AI agents, Wed Nov 11 2026. No macro, syntax, notation, axiom, sorry.
-/
import Derived.Test.YtddiigejhjfhdaaGreatDoorRows
import GoSem.ClaimSeven
namespace Go.Proofs.YtddiigejhjfhdaaGreatDoor
namespace Rows

/-- THE TIED CARD OF 'laws.FnCarpetsCutOfAll'. -/
def fnCarpetsCutOfAllCard : Claim7 := { stood := { row := fnCarpetsCutOfAllRow, standIns := [], harness := (true, "11e9dd4d1cfe3fdb9900275ed3acf1d851f27149f593026c0947c412e070f211"), looks := true }, kinds := [], alts := [], laidByText := true, laidKinds := [.data, .data, .data, .data, .sentinel, .sentinel, .pinned], laidTests := true, laidLooks := .later }
def FnCarpetsCutOfAllCardSaid : Prop := Claim7.holds Tryz.pinned (.plain (OpenSpec.ofChange fnCarpetsCutOfAllSpec)) fnCarpetsCutOfAllCard

/-- THE TIED CARD OF 'laws.FnCarpetsCut'. -/
def fnCarpetsCutCard : Claim7 := { stood := { row := fnCarpetsCutRow, standIns := [], harness := (true, "11e9dd4d1cfe3fdb9900275ed3acf1d851f27149f593026c0947c412e070f211"), looks := true }, kinds := [], alts := [], laidByText := true, laidKinds := [.data, .data, .data, .data, .sentinel, .sentinel, .pinned], laidTests := true, laidLooks := .later }
def FnCarpetsCutCardSaid : Prop := Claim7.holds Tryz.pinned (.plain (OpenSpec.ofChange fnCarpetsCutSpec)) fnCarpetsCutCard

/-- THE SECOND FORM's CARD OF 'laws.FnCarpetsCutOfAll'. -/
def fnCarpetsCutOfAllUptoCard : Claim7 := { stood := { row := fnCarpetsCutOfAllUptoRow, standIns := [], harness := (true, "11e9dd4d1cfe3fdb9900275ed3acf1d851f27149f593026c0947c412e070f211"), looks := true }, kinds := [], alts := [], laidByText := true, laidKinds := [.data, .data, .data, .data, .sentinel, .sentinel, .pinned], laidTests := true, laidLooks := .later }
def FnCarpetsCutOfAllUptoCardSaid : Prop := Claim7.holds Tryz.pinned (.plain (OpenSpec.upto fnCarpetsCutOfAllSpec)) fnCarpetsCutOfAllUptoCard

/-- THE SECOND FORM's CARD OF 'laws.FnCarpetsCut'. -/
def fnCarpetsCutUptoCard : Claim7 := { stood := { row := fnCarpetsCutUptoRow, standIns := [], harness := (true, "11e9dd4d1cfe3fdb9900275ed3acf1d851f27149f593026c0947c412e070f211"), looks := true }, kinds := [], alts := [], laidByText := true, laidKinds := [.data, .data, .data, .data, .sentinel, .sentinel, .pinned], laidTests := true, laidLooks := .later }
def FnCarpetsCutUptoCardSaid : Prop := Claim7.holds Tryz.pinned (.plain (OpenSpec.upto fnCarpetsCutSpec)) fnCarpetsCutUptoCard
end Rows
end Go.Proofs.YtddiigejhjfhdaaGreatDoor
