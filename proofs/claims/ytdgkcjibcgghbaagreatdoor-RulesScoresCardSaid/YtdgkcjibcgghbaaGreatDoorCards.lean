/-
  DERIVED. GIVEN WITH THE SEED: THE CARDS: each row of YtdgkcjibcgghbaaGreatDoorRows.lean that lists a variable, with what it lists TIED to the program's text (the seventh form; the later family's looks); each row that meets fmt, with fmt's text TOLD by the authors' own Lean function (tested against real Go, not proved from fmt's source: count such statements apart). THE CARD IS WHAT COUNTS. Prove the row's statement (the work); the ties are given (YtdgkcjibcgghbaaGreatDoorTie.lean); close each card by the builder's one call (the guide's Derived/Test/ToyasCard.lean, 'card_holds'). Laid BY PROGRAM, IN A SANDBOX (cutbox-door.mjs). By AI agents, Wed Nov 11 2026. No macro, syntax, notation, axiom, sorry.
-/
import Derived.Test.YtdgkcjibcgghbaaGreatDoorRows
import GoSem.ClaimSeven
namespace Go.Proofs.YtdgkcjibcgghbaaGreatDoor
namespace Rows

/-- THE TIED CARD OF 'mapsheetslaw36.RulesChecks'. -/
def rulesChecksCard : Claim7 := { stood := { row := rulesChecksRow, standIns := [], harness := (true, "c72ad40f4a29fbdf37bd481fd27be09c84622180fb6b74226ab7e0886a5e6208"), looks := false }, kinds := [], alts := [], laidByText := true, laidKinds := [.data], laidTests := true, laidLooks := .later }
def RulesChecksCardSaid : Prop := Claim7.holds Tryz.pinned (.plain (OpenSpec.ofChange rulesChecksSpec)) rulesChecksCard

/-- THE TIED CARD OF 'mapsheetslaw36.RulesScores'. -/
def rulesScoresCard : Claim7 := { stood := { row := rulesScoresRow, standIns := [], harness := (true, "c72ad40f4a29fbdf37bd481fd27be09c84622180fb6b74226ab7e0886a5e6208"), looks := false }, kinds := [], alts := [], laidByText := true, laidKinds := [.data], laidTests := true, laidLooks := .later }
def RulesScoresCardSaid : Prop := Claim7.holds Tryz.pinned (.plain (OpenSpec.ofChange rulesScoresSpec)) rulesScoresCard

/-- THE SECOND FORM's CARD OF 'mapsheetslaw36.RulesChecks'. -/
def rulesChecksUptoCard : Claim7 := { stood := { row := rulesChecksUptoRow, standIns := [], harness := (true, "c72ad40f4a29fbdf37bd481fd27be09c84622180fb6b74226ab7e0886a5e6208"), looks := false }, kinds := [], alts := [], laidByText := true, laidKinds := [.data], laidTests := true, laidLooks := .later }
def RulesChecksUptoCardSaid : Prop := Claim7.holds Tryz.pinned (.plain (OpenSpec.upto rulesChecksSpec)) rulesChecksUptoCard

/-- THE SECOND FORM's CARD OF 'mapsheetslaw36.RulesScores'. -/
def rulesScoresUptoCard : Claim7 := { stood := { row := rulesScoresUptoRow, standIns := [], harness := (true, "c72ad40f4a29fbdf37bd481fd27be09c84622180fb6b74226ab7e0886a5e6208"), looks := false }, kinds := [], alts := [], laidByText := true, laidKinds := [.data], laidTests := true, laidLooks := .later }
def RulesScoresUptoCardSaid : Prop := Claim7.holds Tryz.pinned (.plain (OpenSpec.upto rulesScoresSpec)) rulesScoresUptoCard
end Rows
end Go.Proofs.YtdgkcjibcgghbaaGreatDoor
