/-
  DERIVED. GIVEN WITH THE SEED: THE CARDS: each row of YtadcmhdjoglagaaDoorRows.lean that lists a variable, with what it lists TIED to the program's text (the seventh form; the later family's looks); each row that meets fmt, with fmt's text TOLD by the authors' own Lean function (tested against real Go, not proved from fmt's source: count such statements apart). THE CARD IS WHAT COUNTS. Prove the row's statement (the work); the ties are given (YtadcmhdjoglagaaDoorTie.lean); close each card by the builder's one call (the guide's Derived/Test/ToyasCard.lean, 'card_holds'). Laid BY PROGRAM, IN A SANDBOX (cutbox-door.mjs). By AI agents, Wed Nov 11 2026. No macro, syntax, notation, axiom, sorry.
-/
import Derived.Test.YtadcmhdjoglagaaDoorRows
import GoSem.ClaimSeven
namespace Go.Proofs.YtadcmhdjoglagaaDoor
namespace Rows

/-- THE TIED CARD OF 'laws.FnMovingMeet'. -/
def fnMovingMeetCard : Claim7 := { stood := { row := fnMovingMeetRow, standIns := [], harness := (true, "7eb52fd799502ceb0b26bbcd1a955346291783d90e0251a129223f4511cf42fa"), looks := true }, kinds := [], alts := [], laidByText := true, laidKinds := [.data, .data, .data, .sentinel, .sentinel], laidTests := true, laidLooks := .later }
def FnMovingMeetCardSaid : Prop := Claim7.holds Tryd.pinned (.plain (OpenSpec.ofChange fnMovingMeetSpec)) fnMovingMeetCard

/-- THE SECOND FORM's CARD OF 'laws.FnMovingMeet'. -/
def fnMovingMeetUptoCard : Claim7 := { stood := { row := fnMovingMeetUptoRow, standIns := [], harness := (true, "7eb52fd799502ceb0b26bbcd1a955346291783d90e0251a129223f4511cf42fa"), looks := true }, kinds := [], alts := [], laidByText := true, laidKinds := [.data, .data, .data, .sentinel, .sentinel], laidTests := true, laidLooks := .later }
def FnMovingMeetUptoCardSaid : Prop := Claim7.holds Tryd.pinned (.plain (OpenSpec.upto fnMovingMeetSpec)) fnMovingMeetUptoCard
end Rows
end Go.Proofs.YtadcmhdjoglagaaDoor
