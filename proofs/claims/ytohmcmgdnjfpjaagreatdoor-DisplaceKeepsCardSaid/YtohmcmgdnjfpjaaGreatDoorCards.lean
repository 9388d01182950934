/-
  DERIVED. GIVEN WITH THE SEED: THE CARDS: each row of YtohmcmgdnjfpjaaGreatDoorRows.lean that lists a variable, with what it lists TIED to the program's text (the seventh form; the later family's looks); each row that meets fmt, with fmt's text TOLD by the authors' own Lean function (tested against real Go, not proved from fmt's source: count such statements apart). THE CARD IS WHAT COUNTS. Prove the row's statement (the work); the ties are given (YtohmcmgdnjfpjaaGreatDoorTie.lean); close each card by the builder's one call (the guide's Derived/Test/ToyasCard.lean, 'card_holds'). Laid BY PROGRAM, IN A SANDBOX (cutbox-door.mjs). By AI agents, Wed Nov 11 2026. No macro, syntax, notation, axiom, sorry.
-/
import Derived.Test.YtohmcmgdnjfpjaaGreatDoorRows
import GoSem.ClaimSeven
namespace Go.Proofs.YtohmcmgdnjfpjaaGreatDoor
namespace Rows

/-- THE TIED CARD OF 'mapsheetslaw35.DisplaceKeeps'. -/
def displaceKeepsCard : Claim7 := { stood := { row := displaceKeepsRow, standIns := [], harness := (true, "c2e2b71f736e415f0e6d2321c8392a857425a33a037be19d285538d15e8cc3bb"), looks := false }, kinds := [], alts := [], laidByText := true, laidKinds := [.data], laidTests := true, laidLooks := .later }
def DisplaceKeepsCardSaid : Prop := Claim7.holds Tryz.pinned (.plain (OpenSpec.ofChange displaceKeepsSpec)) displaceKeepsCard

/-- THE SECOND FORM's CARD OF 'mapsheetslaw35.DisplaceKeeps'. -/
def displaceKeepsUptoCard : Claim7 := { stood := { row := displaceKeepsUptoRow, standIns := [], harness := (true, "c2e2b71f736e415f0e6d2321c8392a857425a33a037be19d285538d15e8cc3bb"), looks := false }, kinds := [], alts := [], laidByText := true, laidKinds := [.data], laidTests := true, laidLooks := .later }
def DisplaceKeepsUptoCardSaid : Prop := Claim7.holds Tryz.pinned (.plain (OpenSpec.upto displaceKeepsSpec)) displaceKeepsUptoCard
end Rows
end Go.Proofs.YtohmcmgdnjfpjaaGreatDoor
