/-
  DERIVED. GIVEN WITH THE SEED: THE CARDS: each row of YtenigicdlmagjaaGreatDoorRows.lean that lists a variable, with what it lists TIED to the program's text (the seventh form; the later family's looks); each row that meets fmt, with fmt's text TOLD by the authors' own Lean function (tested against real Go, not proved from fmt's source: count such statements apart). THE CARD IS WHAT COUNTS. Prove the row's statement (the work); the ties are given (YtenigicdlmagjaaGreatDoorTie.lean); close each card by the builder's one call (the guide's Derived/Test/ToyasCard.lean, 'card_holds'). Laid BY PROGRAM, IN A SANDBOX (cutbox-door.mjs). By AI agents, Wed Nov 11 2026. No macro, syntax, notation, axiom, sorry.
-/
import Derived.Test.YtenigicdlmagjaaGreatDoorRows
import GoSem.ClaimSeven
namespace Go.Proofs.YtenigicdlmagjaaGreatDoor
namespace Rows

/-- THE TIED CARD OF 'mapsheetslaw33.CollapseOthers'. -/
def collapseOthersCard : Claim7 := { stood := { row := collapseOthersRow, standIns := [], harness := (true, "3ca8b9a62a0ff94486efdaa1bb970830e5eff10d81721cccf9b3317fc14054be"), looks := false }, kinds := [], alts := [], laidByText := true, laidKinds := [.data], laidTests := true, laidLooks := .later }
def CollapseOthersCardSaid : Prop := Claim7.holds Tryz.pinned (.plain (OpenSpec.ofChange collapseOthersSpec)) collapseOthersCard

/-- THE SECOND FORM's CARD OF 'mapsheetslaw33.CollapseOthers'. -/
def collapseOthersUptoCard : Claim7 := { stood := { row := collapseOthersUptoRow, standIns := [], harness := (true, "3ca8b9a62a0ff94486efdaa1bb970830e5eff10d81721cccf9b3317fc14054be"), looks := false }, kinds := [], alts := [], laidByText := true, laidKinds := [.data], laidTests := true, laidLooks := .later }
def CollapseOthersUptoCardSaid : Prop := Claim7.holds Tryz.pinned (.plain (OpenSpec.upto collapseOthersSpec)) collapseOthersUptoCard
end Rows
end Go.Proofs.YtenigicdlmagjaaGreatDoor
