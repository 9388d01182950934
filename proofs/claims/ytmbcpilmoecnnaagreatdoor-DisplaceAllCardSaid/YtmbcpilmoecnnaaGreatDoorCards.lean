/-
  DERIVED. GIVEN WITH THE SEED: THE CARDS: each row of YtmbcpilmoecnnaaGreatDoorRows.lean that lists a variable, with what it lists TIED to the program's text (the seventh form; the later family's looks); each row that meets fmt, with fmt's text TOLD by the authors' own Lean function (tested against real Go, not proved from fmt's source: count such statements apart). THE CARD IS WHAT COUNTS. Prove the row's statement (the work); the ties are given (YtmbcpilmoecnnaaGreatDoorTie.lean); close each card by the builder's one call (the guide's Derived/Test/ToyasCard.lean, 'card_holds'). Laid BY PROGRAM, IN A SANDBOX (cutbox-door.mjs). By AI agents, Wed Nov 11 2026. No macro, syntax, notation, axiom, sorry.
-/
import Derived.Test.YtmbcpilmoecnnaaGreatDoorRows
import GoSem.ClaimSeven
namespace Go.Proofs.YtmbcpilmoecnnaaGreatDoor
namespace Rows

/-- THE TIED CARD OF 'mapsheetslaw35.DisplaceSteps'. -/
def displaceStepsCard : Claim7 := { stood := { row := displaceStepsRow, standIns := [], harness := (true, "5732ab62ce3060f142953997d2974171917e1abb41986648adaec01ec3d2aa99"), looks := false }, kinds := [], alts := [], laidByText := true, laidKinds := [.data], laidTests := true, laidLooks := .later }
def DisplaceStepsCardSaid : Prop := Claim7.holds Tryz.pinned (.plain (OpenSpec.ofChange displaceStepsSpec)) displaceStepsCard

/-- THE TIED CARD OF 'mapsheetslaw35.DisplaceAll'. -/
def displaceAllCard : Claim7 := { stood := { row := displaceAllRow, standIns := [], harness := (true, "5732ab62ce3060f142953997d2974171917e1abb41986648adaec01ec3d2aa99"), looks := false }, kinds := [], alts := [], laidByText := true, laidKinds := [.data], laidTests := true, laidLooks := .later }
def DisplaceAllCardSaid : Prop := Claim7.holds Tryz.pinned (.plain (OpenSpec.ofChange displaceAllSpec)) displaceAllCard

/-- THE SECOND FORM's CARD OF 'mapsheetslaw35.DisplaceSteps'. -/
def displaceStepsUptoCard : Claim7 := { stood := { row := displaceStepsUptoRow, standIns := [], harness := (true, "5732ab62ce3060f142953997d2974171917e1abb41986648adaec01ec3d2aa99"), looks := false }, kinds := [], alts := [], laidByText := true, laidKinds := [.data], laidTests := true, laidLooks := .later }
def DisplaceStepsUptoCardSaid : Prop := Claim7.holds Tryz.pinned (.plain (OpenSpec.upto displaceStepsSpec)) displaceStepsUptoCard

/-- THE SECOND FORM's CARD OF 'mapsheetslaw35.DisplaceAll'. -/
def displaceAllUptoCard : Claim7 := { stood := { row := displaceAllUptoRow, standIns := [], harness := (true, "5732ab62ce3060f142953997d2974171917e1abb41986648adaec01ec3d2aa99"), looks := false }, kinds := [], alts := [], laidByText := true, laidKinds := [.data], laidTests := true, laidLooks := .later }
def DisplaceAllUptoCardSaid : Prop := Claim7.holds Tryz.pinned (.plain (OpenSpec.upto displaceAllSpec)) displaceAllUptoCard
end Rows
end Go.Proofs.YtmbcpilmoecnnaaGreatDoor
