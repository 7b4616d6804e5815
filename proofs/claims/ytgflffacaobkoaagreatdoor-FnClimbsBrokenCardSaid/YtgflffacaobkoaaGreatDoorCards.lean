/-
  DERIVED. GIVEN WITH THE SEED: THE CARDS: each row of YtgflffacaobkoaaGreatDoorRows.lean that lists a variable, with what it lists TIED to the program's text (the seventh form; the later family's looks); each row that meets fmt, with fmt's text TOLD by the authors' own Lean function (tested against real Go, not proved from fmt's source: count such statements apart). THE CARD IS WHAT COUNTS. Prove the row's statement (the work); the ties are given (YtgflffacaobkoaaGreatDoorTie.lean); close each card by the builder's one call (the guide's Derived/Test/ToyasCard.lean, 'card_holds'). Laid BY PROGRAM, IN A SANDBOX (cutbox-door.mjs). By AI agents, Wed Nov 11 2026. No macro, syntax, notation, axiom, sorry.
-/
import Derived.Test.YtgflffacaobkoaaGreatDoorRows
import GoSem.ClaimSeven
namespace Go.Proofs.YtgflffacaobkoaaGreatDoor
namespace Rows

/-- THE TIED CARD OF 'laws.FnClimbsBrokenOfAll'. -/
def fnClimbsBrokenOfAllCard : Claim7 := { stood := { row := fnClimbsBrokenOfAllRow, standIns := [], harness := (true, "121bea842fa5af22e9ffd58235874d44cb7c632c93a5f05b0172b1bb6ab3167f"), looks := true }, kinds := [], alts := [], laidByText := true, laidKinds := [.data, .data, .data, .data, .sentinel, .sentinel, .pinned], laidTests := true, laidLooks := .later }
def FnClimbsBrokenOfAllCardSaid : Prop := Claim7.holds Tryz.pinned (.plain (OpenSpec.ofChange fnClimbsBrokenOfAllSpec)) fnClimbsBrokenOfAllCard

/-- THE TIED CARD OF 'laws.FnClimbsBroken'. -/
def fnClimbsBrokenCard : Claim7 := { stood := { row := fnClimbsBrokenRow, standIns := [], harness := (true, "121bea842fa5af22e9ffd58235874d44cb7c632c93a5f05b0172b1bb6ab3167f"), looks := true }, kinds := [], alts := [], laidByText := true, laidKinds := [.data, .data, .data, .data, .sentinel, .sentinel, .pinned], laidTests := true, laidLooks := .later }
def FnClimbsBrokenCardSaid : Prop := Claim7.holds Tryz.pinned (.plain (OpenSpec.ofChange fnClimbsBrokenSpec)) fnClimbsBrokenCard

/-- THE SECOND FORM's CARD OF 'laws.FnClimbsBrokenOfAll'. -/
def fnClimbsBrokenOfAllUptoCard : Claim7 := { stood := { row := fnClimbsBrokenOfAllUptoRow, standIns := [], harness := (true, "121bea842fa5af22e9ffd58235874d44cb7c632c93a5f05b0172b1bb6ab3167f"), looks := true }, kinds := [], alts := [], laidByText := true, laidKinds := [.data, .data, .data, .data, .sentinel, .sentinel, .pinned], laidTests := true, laidLooks := .later }
def FnClimbsBrokenOfAllUptoCardSaid : Prop := Claim7.holds Tryz.pinned (.plain (OpenSpec.upto fnClimbsBrokenOfAllSpec)) fnClimbsBrokenOfAllUptoCard

/-- THE SECOND FORM's CARD OF 'laws.FnClimbsBroken'. -/
def fnClimbsBrokenUptoCard : Claim7 := { stood := { row := fnClimbsBrokenUptoRow, standIns := [], harness := (true, "121bea842fa5af22e9ffd58235874d44cb7c632c93a5f05b0172b1bb6ab3167f"), looks := true }, kinds := [], alts := [], laidByText := true, laidKinds := [.data, .data, .data, .data, .sentinel, .sentinel, .pinned], laidTests := true, laidLooks := .later }
def FnClimbsBrokenUptoCardSaid : Prop := Claim7.holds Tryz.pinned (.plain (OpenSpec.upto fnClimbsBrokenSpec)) fnClimbsBrokenUptoCard
end Rows
end Go.Proofs.YtgflffacaobkoaaGreatDoor
