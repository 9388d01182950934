/- Closed facts of the row: what the kernel sees of the program's table. -/
import Derived.Test.YtohmcmgdnjfpjaaGreatDoorRows
import Derived.ProofKit
import Derived.JoinedOf
import Derived.SevenTiedAt
namespace Go.Proofs.YtohmcmgdnjfpjaaGreatDoor
open Go Go.Proofs
set_option maxRecDepth 100000
theorem fitU : Tryz.pinned.checked.prog.unfollowed 3 = true := by kernel_rfl
theorem fitR : Tryz.pinned.checked.prog.recurses 3 = true := by kernel_rfl
theorem fitN : Tryz.pinned.checked.prog.varsNamed 3 = Rows.displaceKeepsRow.named := by kernel_rfl
theorem fitP : Tryz.pinned.checked.prog.inPlace 3 = Rows.displaceKeepsRow.inPlace := by kernel_rfl
theorem fits : joinedFacts Tryz.pinned.checked.prog 3 Tryz.f3 Rows.displaceKeepsSpec Rows.displaceKeepsRow = true := by
  unfold joinedFacts
  rw [fitU, fitR, fitN, fitP]
  kernel_rfl
theorem fitF : Tryz.pinned.checked.prog.funcNamed Rows.displaceKeepsRow.func = some 3 := by kernel_rfl
theorem fitI : Tryz.f3.isInstance Tryz.pinned.checked.prog Rows.displaceKeepsRow.origin Rows.displaceKeepsRow.targs := of_decide_eq_true (by kernel_rfl)
theorem fitW : Tryz.f3.isWrapper Tryz.pinned.checked.prog Rows.displaceKeepsRow.wrapper Rows.displaceKeepsRow.mainSum := by unfold Func.isWrapper; first | (rw [if_pos (by decide +kernel)]; kernel_rfl) | (rw [if_neg (by decide +kernel)]; exact ⟨rfl, rfl⟩)
theorem fitM : Tryz.pinned.checked.prog.mainIs = some (true, "c2e2b71f736e415f0e6d2321c8392a857425a33a037be19d285538d15e8cc3bb".toList) := by kernel_rfl
theorem fitL : false = Tryz.pinned.checked.prog.looks [] := by kernel_rfl
theorem fitS : ([29, 3].all fun u => !Tryz.prog.wantsStandIn u) = true := by kernel_rfl
theorem fitG : false = Rows.displaceKeepsRow.goesBy Tryz.pinned.checked.prog := by kernel_rfl
end Go.Proofs.YtohmcmgdnjfpjaaGreatDoor
