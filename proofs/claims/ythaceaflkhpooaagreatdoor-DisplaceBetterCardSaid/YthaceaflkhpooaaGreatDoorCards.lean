/-
  DERIVED. GIVEN WITH THE SEED: THE CARDS: each row of YthaceaflkhpooaaGreatDoorRows.lean that lists a variable, with what it lists TIED to the program's text (the seventh form; the later family's looks); each row that meets fmt, with fmt's text TOLD by the authors' own Lean function (tested against real Go, not proved from fmt's source: count such statements apart). THE CARD IS WHAT COUNTS. Prove the row's statement (the work); the ties are given (YthaceaflkhpooaaGreatDoorTie.lean); close each card by the builder's one call (the guide's Derived/Test/ToyasCard.lean, 'card_holds'). Laid BY PROGRAM, IN A SANDBOX (cutbox-door.mjs). By AI agents, Wed Nov 11 2026. No macro, syntax, notation, axiom, sorry.
-/
import Derived.Test.YthaceaflkhpooaaGreatDoorRows
import GoSem.ClaimSeven
namespace Go.Proofs.YthaceaflkhpooaaGreatDoor
namespace Rows

/-- THE TIED CARD OF 'mapsheetslaw35.DisplaceBetter'. -/
def displaceBetterCard : Claim7 := { stood := { row := displaceBetterRow, standIns := [], harness := (true, "319484a6f68c9b97c7fcab7e95e6bd79666259baef9691f0a260e8cff783b533"), looks := false }, kinds := [], alts := [], laidByText := true, laidKinds := [.data], laidTests := true, laidLooks := .later }
def DisplaceBetterCardSaid : Prop := Claim7.holds Tryz.pinned (.plain (OpenSpec.ofChange displaceBetterSpec)) displaceBetterCard

/-- THE SECOND FORM's CARD OF 'mapsheetslaw35.DisplaceBetter'. -/
def displaceBetterUptoCard : Claim7 := { stood := { row := displaceBetterUptoRow, standIns := [], harness := (true, "319484a6f68c9b97c7fcab7e95e6bd79666259baef9691f0a260e8cff783b533"), looks := false }, kinds := [], alts := [], laidByText := true, laidKinds := [.data], laidTests := true, laidLooks := .later }
def DisplaceBetterUptoCardSaid : Prop := Claim7.holds Tryz.pinned (.plain (OpenSpec.upto displaceBetterSpec)) displaceBetterUptoCard
end Rows
end Go.Proofs.YthaceaflkhpooaaGreatDoor
