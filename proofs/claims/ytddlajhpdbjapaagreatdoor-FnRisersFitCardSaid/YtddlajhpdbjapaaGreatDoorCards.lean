/-
  DERIVED. GIVEN WITH THE SEED: THE CARDS: each row of YtddlajhpdbjapaaGreatDoorRows.lean that lists a variable, with what it lists TIED to the program's text (the seventh form; the later family's looks); each row that meets fmt, with fmt's text TOLD by the authors' own Lean function (tested against real Go, not proved from fmt's source: count such statements apart). THE CARD IS WHAT COUNTS. Prove the row's statement (the work); the ties are given (YtddlajhpdbjapaaGreatDoorTie.lean); close each card by the builder's one call (the guide's Derived/Test/ToyasCard.lean, 'card_holds'). Laid BY PROGRAM, IN A SANDBOX (cutbox-door.mjs). By AI agents, Wed Nov 11 2026. No macro, syntax, notation, axiom, sorry.
-/
import Derived.Test.YtddlajhpdbjapaaGreatDoorRows
import GoSem.ClaimSeven
namespace Go.Proofs.YtddlajhpdbjapaaGreatDoor
namespace Rows

/-- THE TIED CARD OF 'laws.FnSpiralsMeet'. -/
def fnSpiralsMeetCard : Claim7 := { stood := { row := fnSpiralsMeetRow, standIns := [], harness := (true, "9add8239516393a8bdc34b56e6264aa767e895aa7b4f0c15affd49cba232a06b"), looks := true }, kinds := [], alts := [], laidByText := true, laidKinds := [.data, .data, .data, .sentinel, .sentinel], laidTests := true, laidLooks := .later }
def FnSpiralsMeetCardSaid : Prop := Claim7.holds Tryz.pinned (.plain (OpenSpec.ofChange fnSpiralsMeetSpec)) fnSpiralsMeetCard

/-- THE TIED CARD OF 'laws.FnRisersFit'. -/
def fnRisersFitCard : Claim7 := { stood := { row := fnRisersFitRow, standIns := [], harness := (true, "9add8239516393a8bdc34b56e6264aa767e895aa7b4f0c15affd49cba232a06b"), looks := true }, kinds := [], alts := [], laidByText := true, laidKinds := [.data, .data, .data, .sentinel, .sentinel], laidTests := true, laidLooks := .later }
def FnRisersFitCardSaid : Prop := Claim7.holds Tryz.pinned (.plain (OpenSpec.ofChange fnRisersFitSpec)) fnRisersFitCard

/-- THE SECOND FORM's CARD OF 'laws.FnSpiralsMeet'. -/
def fnSpiralsMeetUptoCard : Claim7 := { stood := { row := fnSpiralsMeetUptoRow, standIns := [], harness := (true, "9add8239516393a8bdc34b56e6264aa767e895aa7b4f0c15affd49cba232a06b"), looks := true }, kinds := [], alts := [], laidByText := true, laidKinds := [.data, .data, .data, .sentinel, .sentinel], laidTests := true, laidLooks := .later }
def FnSpiralsMeetUptoCardSaid : Prop := Claim7.holds Tryz.pinned (.plain (OpenSpec.upto fnSpiralsMeetSpec)) fnSpiralsMeetUptoCard

/-- THE SECOND FORM's CARD OF 'laws.FnRisersFit'. -/
def fnRisersFitUptoCard : Claim7 := { stood := { row := fnRisersFitUptoRow, standIns := [], harness := (true, "9add8239516393a8bdc34b56e6264aa767e895aa7b4f0c15affd49cba232a06b"), looks := true }, kinds := [], alts := [], laidByText := true, laidKinds := [.data, .data, .data, .sentinel, .sentinel], laidTests := true, laidLooks := .later }
def FnRisersFitUptoCardSaid : Prop := Claim7.holds Tryz.pinned (.plain (OpenSpec.upto fnRisersFitSpec)) fnRisersFitUptoCard
end Rows
end Go.Proofs.YtddlajhpdbjapaaGreatDoor
