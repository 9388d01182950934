/-
  DERIVED. GIVEN WITH THE SEED: THE CARDS: each row of YtiogbkenmjdkoaaGreatDoorRows.lean that lists a variable, with what it lists TIED to the program's text (the seventh form; the later family's looks); each row that meets fmt, with fmt's text TOLD by the authors' own Lean function (tested against real Go, not proved from fmt's source: count such statements apart). THE CARD IS WHAT COUNTS. Prove the row's statement (the work); the ties are given (YtiogbkenmjdkoaaGreatDoorTie.lean); close each card by the builder's one call (the guide's Derived/Test/ToyasCard.lean, 'card_holds'). Laid BY PROGRAM, IN A SANDBOX (cutbox-door.mjs). By AI agents, Wed Nov 11 2026. No macro, syntax, notation, axiom, sorry.
-/
import Derived.Test.YtiogbkenmjdkoaaGreatDoorRows
import GoSem.ClaimSeven
namespace Go.Proofs.YtiogbkenmjdkoaaGreatDoor
namespace Rows

/-- THE TIED CARD OF 'mapsheetslaw33.CollapseRests'. -/
def collapseRestsCard : Claim7 := { stood := { row := collapseRestsRow, standIns := [], harness := (true, "048b70ce677f892a07e3c7fd140937f4814604ac258c4041364bda6e3f78004e"), looks := false }, kinds := [], alts := [], laidByText := true, laidKinds := [.data], laidTests := true, laidLooks := .later }
def CollapseRestsCardSaid : Prop := Claim7.holds Tryz.pinned (.plain (OpenSpec.ofChange collapseRestsSpec)) collapseRestsCard

/-- THE TIED CARD OF 'mapsheetslaw33.CollapseInside'. -/
def collapseInsideCard : Claim7 := { stood := { row := collapseInsideRow, standIns := [], harness := (true, "048b70ce677f892a07e3c7fd140937f4814604ac258c4041364bda6e3f78004e"), looks := false }, kinds := [], alts := [], laidByText := true, laidKinds := [.data], laidTests := true, laidLooks := .later }
def CollapseInsideCardSaid : Prop := Claim7.holds Tryz.pinned (.plain (OpenSpec.ofChange collapseInsideSpec)) collapseInsideCard

/-- THE SECOND FORM's CARD OF 'mapsheetslaw33.CollapseRests'. -/
def collapseRestsUptoCard : Claim7 := { stood := { row := collapseRestsUptoRow, standIns := [], harness := (true, "048b70ce677f892a07e3c7fd140937f4814604ac258c4041364bda6e3f78004e"), looks := false }, kinds := [], alts := [], laidByText := true, laidKinds := [.data], laidTests := true, laidLooks := .later }
def CollapseRestsUptoCardSaid : Prop := Claim7.holds Tryz.pinned (.plain (OpenSpec.upto collapseRestsSpec)) collapseRestsUptoCard

/-- THE SECOND FORM's CARD OF 'mapsheetslaw33.CollapseInside'. -/
def collapseInsideUptoCard : Claim7 := { stood := { row := collapseInsideUptoRow, standIns := [], harness := (true, "048b70ce677f892a07e3c7fd140937f4814604ac258c4041364bda6e3f78004e"), looks := false }, kinds := [], alts := [], laidByText := true, laidKinds := [.data], laidTests := true, laidLooks := .later }
def CollapseInsideUptoCardSaid : Prop := Claim7.holds Tryz.pinned (.plain (OpenSpec.upto collapseInsideSpec)) collapseInsideUptoCard
end Rows
end Go.Proofs.YtiogbkenmjdkoaaGreatDoor
