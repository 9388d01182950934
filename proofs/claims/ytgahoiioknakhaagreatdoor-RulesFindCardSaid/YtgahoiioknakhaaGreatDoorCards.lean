/-
  DERIVED. GIVEN WITH THE SEED: THE CARDS: each row of YtgahoiioknakhaaGreatDoorRows.lean that lists a variable, with what it lists TIED to the program's text (the seventh form; the later family's looks); each row that meets fmt, with fmt's text TOLD by the authors' own Lean function (tested against real Go, not proved from fmt's source: count such statements apart). THE CARD IS WHAT COUNTS. Prove the row's statement (the work); the ties are given (YtgahoiioknakhaaGreatDoorTie.lean); close each card by the builder's one call (the guide's Derived/Test/ToyasCard.lean, 'card_holds'). Laid BY PROGRAM, IN A SANDBOX (cutbox-door.mjs). By AI agents, Wed Nov 11 2026. No macro, syntax, notation, axiom, sorry.
-/
import Derived.Test.YtgahoiioknakhaaGreatDoorRows
import GoSem.ClaimSeven
namespace Go.Proofs.YtgahoiioknakhaaGreatDoor
namespace Rows

/-- THE TIED CARD OF 'mapsheetslaw36.RulesFind'. -/
def rulesFindCard : Claim7 := { stood := { row := rulesFindRow, standIns := [], harness := (true, "fc50f1161da507d2cd34d836569bb4136d3aaad96c1d73399f4bf35b596c6b8b"), looks := false }, kinds := [], alts := [], laidByText := true, laidKinds := [.data], laidTests := true, laidLooks := .later }
def RulesFindCardSaid : Prop := Claim7.holds Tryz.pinned (.plain (OpenSpec.ofChange rulesFindSpec)) rulesFindCard

/-- THE SECOND FORM's CARD OF 'mapsheetslaw36.RulesFind'. -/
def rulesFindUptoCard : Claim7 := { stood := { row := rulesFindUptoRow, standIns := [], harness := (true, "fc50f1161da507d2cd34d836569bb4136d3aaad96c1d73399f4bf35b596c6b8b"), looks := false }, kinds := [], alts := [], laidByText := true, laidKinds := [.data], laidTests := true, laidLooks := .later }
def RulesFindUptoCardSaid : Prop := Claim7.holds Tryz.pinned (.plain (OpenSpec.upto rulesFindSpec)) rulesFindUptoCard
end Rows
end Go.Proofs.YtgahoiioknakhaaGreatDoor
