/- Closed facts of the row: what the kernel sees of the program's table. -/
import Derived.Test.YtgahoiioknakhaaGreatDoorRows
import Derived.ProofKit
import Derived.JoinedOf
import Derived.SevenTiedAt
namespace Go.Proofs.YtgahoiioknakhaaGreatDoor
open Go Go.Proofs
set_option maxRecDepth 100000
theorem fitU : Tryz.pinned.checked.prog.unfollowed 3 = true := by kernel_rfl
theorem fitR : Tryz.pinned.checked.prog.recurses 3 = true := by kernel_rfl
theorem fitN : Tryz.pinned.checked.prog.varsNamed 3 = Rows.rulesFindRow.named := by kernel_rfl
theorem fitP : Tryz.pinned.checked.prog.inPlace 3 = Rows.rulesFindRow.inPlace := by kernel_rfl
theorem fits : joinedFacts Tryz.pinned.checked.prog 3 Tryz.f3 Rows.rulesFindSpec Rows.rulesFindRow = true := by
  unfold joinedFacts
  rw [fitU, fitR, fitN, fitP]
  kernel_rfl
theorem fitF : Tryz.pinned.checked.prog.funcNamed Rows.rulesFindRow.func = some 3 := by kernel_rfl
theorem fitI : Tryz.f3.isInstance Tryz.pinned.checked.prog Rows.rulesFindRow.origin Rows.rulesFindRow.targs := of_decide_eq_true (by kernel_rfl)
theorem fitW : Tryz.f3.isWrapper Tryz.pinned.checked.prog Rows.rulesFindRow.wrapper Rows.rulesFindRow.mainSum := by unfold Func.isWrapper; first | (rw [if_pos (by decide +kernel)]; kernel_rfl) | (rw [if_neg (by decide +kernel)]; exact ⟨rfl, rfl⟩)
theorem fitM : Tryz.pinned.checked.prog.mainIs = some (true, "fc50f1161da507d2cd34d836569bb4136d3aaad96c1d73399f4bf35b596c6b8b".toList) := by kernel_rfl
theorem fitL : false = Tryz.pinned.checked.prog.looks [] := by kernel_rfl
theorem fitS : ([29, 31].all fun u => !Tryz.prog.wantsStandIn u) = true := by kernel_rfl
theorem fitG : false = Rows.rulesFindRow.goesBy Tryz.pinned.checked.prog := by kernel_rfl
end Go.Proofs.YtgahoiioknakhaaGreatDoor
