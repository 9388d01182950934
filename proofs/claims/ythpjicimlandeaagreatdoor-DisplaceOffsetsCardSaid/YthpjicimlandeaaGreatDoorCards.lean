/-
  DERIVED. GIVEN WITH THE SEED: THE CARDS: each row of YthpjicimlandeaaGreatDoorRows.lean that lists a variable, with what it lists TIED to the program's text (the seventh form; the later family's looks); each row that meets fmt, with fmt's text TOLD by the authors' own Lean function (tested against real Go, not proved from fmt's source: count such statements apart). THE CARD IS WHAT COUNTS. Prove the row's statement (the work); the ties are given (YthpjicimlandeaaGreatDoorTie.lean); close each card by the builder's one call (the guide's Derived/Test/ToyasCard.lean, 'card_holds'). Laid BY PROGRAM, IN A SANDBOX (cutbox-door.mjs). By AI agents, Wed Nov 11 2026. No macro, syntax, notation, axiom, sorry.
-/
import Derived.Test.YthpjicimlandeaaGreatDoorRows
import GoSem.ClaimSeven
namespace Go.Proofs.YthpjicimlandeaaGreatDoor
namespace Rows

/-- THE TIED CARD OF 'mapsheetslaw35.DisplaceOffsets'. -/
def displaceOffsetsCard : Claim7 := { stood := { row := displaceOffsetsRow, standIns := [], harness := (true, "ab0282d8a59a6bcf7ba2c2fda1ff12c193c94eca8a0681f89465c28adb9803ec"), looks := false }, kinds := [], alts := [], laidByText := true, laidKinds := [.data], laidTests := true, laidLooks := .later }
def DisplaceOffsetsCardSaid : Prop := Claim7.holds Tryz.pinned (.plain (OpenSpec.ofChange displaceOffsetsSpec)) displaceOffsetsCard

/-- THE SECOND FORM's CARD OF 'mapsheetslaw35.DisplaceOffsets'. -/
def displaceOffsetsUptoCard : Claim7 := { stood := { row := displaceOffsetsUptoRow, standIns := [], harness := (true, "ab0282d8a59a6bcf7ba2c2fda1ff12c193c94eca8a0681f89465c28adb9803ec"), looks := false }, kinds := [], alts := [], laidByText := true, laidKinds := [.data], laidTests := true, laidLooks := .later }
def DisplaceOffsetsUptoCardSaid : Prop := Claim7.holds Tryz.pinned (.plain (OpenSpec.upto displaceOffsetsSpec)) displaceOffsetsUptoCard
end Rows
end Go.Proofs.YthpjicimlandeaaGreatDoor
