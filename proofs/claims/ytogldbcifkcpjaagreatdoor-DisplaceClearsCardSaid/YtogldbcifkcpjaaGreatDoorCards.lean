/-
  DERIVED. GIVEN WITH THE SEED: THE CARDS: each row of YtogldbcifkcpjaaGreatDoorRows.lean that lists a variable, with what it lists TIED to the program's text (the seventh form; the later family's looks); each row that meets fmt, with fmt's text TOLD by the authors' own Lean function (tested against real Go, not proved from fmt's source: count such statements apart). THE CARD IS WHAT COUNTS. Prove the row's statement (the work); the ties are given (YtogldbcifkcpjaaGreatDoorTie.lean); close each card by the builder's one call (the guide's Derived/Test/ToyasCard.lean, 'card_holds'). Laid BY PROGRAM, IN A SANDBOX (cutbox-door.mjs). By AI agents, Wed Nov 11 2026. No macro, syntax, notation, axiom, sorry.
-/
import Derived.Test.YtogldbcifkcpjaaGreatDoorRows
import GoSem.ClaimSeven
namespace Go.Proofs.YtogldbcifkcpjaaGreatDoor
namespace Rows

/-- THE TIED CARD OF 'mapsheetslaw35.DisplaceClears'. -/
def displaceClearsCard : Claim7 := { stood := { row := displaceClearsRow, standIns := [], harness := (true, "6a63ba574c5e90382cf9a051867c435c412abfeefae36b2f2291cc10c1f10d7f"), looks := false }, kinds := [], alts := [], laidByText := true, laidKinds := [.data], laidTests := true, laidLooks := .later }
def DisplaceClearsCardSaid : Prop := Claim7.holds Tryz.pinned (.plain (OpenSpec.ofChange displaceClearsSpec)) displaceClearsCard

/-- THE SECOND FORM's CARD OF 'mapsheetslaw35.DisplaceClears'. -/
def displaceClearsUptoCard : Claim7 := { stood := { row := displaceClearsUptoRow, standIns := [], harness := (true, "6a63ba574c5e90382cf9a051867c435c412abfeefae36b2f2291cc10c1f10d7f"), looks := false }, kinds := [], alts := [], laidByText := true, laidKinds := [.data], laidTests := true, laidLooks := .later }
def DisplaceClearsUptoCardSaid : Prop := Claim7.holds Tryz.pinned (.plain (OpenSpec.upto displaceClearsSpec)) displaceClearsUptoCard
end Rows
end Go.Proofs.YtogldbcifkcpjaaGreatDoor
