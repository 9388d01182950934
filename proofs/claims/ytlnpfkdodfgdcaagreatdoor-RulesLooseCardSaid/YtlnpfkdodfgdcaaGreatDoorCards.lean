/-
  DERIVED. GIVEN WITH THE SEED: THE CARDS: each row of YtlnpfkdodfgdcaaGreatDoorRows.lean that lists a variable, with what it lists TIED to the program's text (the seventh form; the later family's looks); each row that meets fmt, with fmt's text TOLD by the authors' own Lean function (tested against real Go, not proved from fmt's source: count such statements apart). THE CARD IS WHAT COUNTS. Prove the row's statement (the work); the ties are given (YtlnpfkdodfgdcaaGreatDoorTie.lean); close each card by the builder's one call (the guide's Derived/Test/ToyasCard.lean, 'card_holds'). Laid BY PROGRAM, IN A SANDBOX (cutbox-door.mjs). By AI agents, Wed Nov 11 2026. No macro, syntax, notation, axiom, sorry.
-/
import Derived.Test.YtlnpfkdodfgdcaaGreatDoorRows
import GoSem.ClaimSeven
namespace Go.Proofs.YtlnpfkdodfgdcaaGreatDoor
namespace Rows

/-- THE TIED CARD OF 'mapsheetslaw36.RulesOrder'. -/
def rulesOrderCard : Claim7 := { stood := { row := rulesOrderRow, standIns := [], harness := (true, "eb2f354af2446509ae479740f53f77c3fae138f91802d213f137e97729209b36"), looks := false }, kinds := [], alts := [], laidByText := true, laidKinds := [.data], laidTests := true, laidLooks := .later }
def RulesOrderCardSaid : Prop := Claim7.holds Tryz.pinned (.plain (OpenSpec.ofChange rulesOrderSpec)) rulesOrderCard

/-- THE TIED CARD OF 'mapsheetslaw36.RulesGrow'. -/
def rulesGrowCard : Claim7 := { stood := { row := rulesGrowRow, standIns := [], harness := (true, "eb2f354af2446509ae479740f53f77c3fae138f91802d213f137e97729209b36"), looks := false }, kinds := [], alts := [], laidByText := true, laidKinds := [.data], laidTests := true, laidLooks := .later }
def RulesGrowCardSaid : Prop := Claim7.holds Tryz.pinned (.plain (OpenSpec.ofChange rulesGrowSpec)) rulesGrowCard

/-- THE TIED CARD OF 'mapsheetslaw36.RulesLoose'. -/
def rulesLooseCard : Claim7 := { stood := { row := rulesLooseRow, standIns := [], harness := (true, "eb2f354af2446509ae479740f53f77c3fae138f91802d213f137e97729209b36"), looks := false }, kinds := [], alts := [], laidByText := true, laidKinds := [.data], laidTests := true, laidLooks := .later }
def RulesLooseCardSaid : Prop := Claim7.holds Tryz.pinned (.plain (OpenSpec.ofChange rulesLooseSpec)) rulesLooseCard

/-- THE SECOND FORM's CARD OF 'mapsheetslaw36.RulesOrder'. -/
def rulesOrderUptoCard : Claim7 := { stood := { row := rulesOrderUptoRow, standIns := [], harness := (true, "eb2f354af2446509ae479740f53f77c3fae138f91802d213f137e97729209b36"), looks := false }, kinds := [], alts := [], laidByText := true, laidKinds := [.data], laidTests := true, laidLooks := .later }
def RulesOrderUptoCardSaid : Prop := Claim7.holds Tryz.pinned (.plain (OpenSpec.upto rulesOrderSpec)) rulesOrderUptoCard

/-- THE SECOND FORM's CARD OF 'mapsheetslaw36.RulesGrow'. -/
def rulesGrowUptoCard : Claim7 := { stood := { row := rulesGrowUptoRow, standIns := [], harness := (true, "eb2f354af2446509ae479740f53f77c3fae138f91802d213f137e97729209b36"), looks := false }, kinds := [], alts := [], laidByText := true, laidKinds := [.data], laidTests := true, laidLooks := .later }
def RulesGrowUptoCardSaid : Prop := Claim7.holds Tryz.pinned (.plain (OpenSpec.upto rulesGrowSpec)) rulesGrowUptoCard

/-- THE SECOND FORM's CARD OF 'mapsheetslaw36.RulesLoose'. -/
def rulesLooseUptoCard : Claim7 := { stood := { row := rulesLooseUptoRow, standIns := [], harness := (true, "eb2f354af2446509ae479740f53f77c3fae138f91802d213f137e97729209b36"), looks := false }, kinds := [], alts := [], laidByText := true, laidKinds := [.data], laidTests := true, laidLooks := .later }
def RulesLooseUptoCardSaid : Prop := Claim7.holds Tryz.pinned (.plain (OpenSpec.upto rulesLooseSpec)) rulesLooseUptoCard
end Rows
end Go.Proofs.YtlnpfkdodfgdcaaGreatDoor
