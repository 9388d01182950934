/- Closed facts of the row: what the kernel sees of the program's table. -/
import Derived.Test.YtmbcpilmoecnnaaGreatDoorRows
import Derived.ProofKit
import Derived.JoinedOf
import Derived.SevenTiedAt
namespace Go.Proofs.YtmbcpilmoecnnaaGreatDoor
open Go Go.Proofs
set_option maxRecDepth 100000
theorem fitU : Tryz.pinned.checked.prog.unfollowed 4 = true := by kernel_rfl
theorem fitR : Tryz.pinned.checked.prog.recurses 4 = true := by kernel_rfl
theorem fitN : Tryz.pinned.checked.prog.varsNamed 4 = Rows.displaceAllRow.named := by kernel_rfl
theorem fitP : Tryz.pinned.checked.prog.inPlace 4 = Rows.displaceAllRow.inPlace := by kernel_rfl
theorem fits : joinedFacts Tryz.pinned.checked.prog 4 Tryz.f4 Rows.displaceAllSpec Rows.displaceAllRow = true := by
  unfold joinedFacts
  rw [fitU, fitR, fitN, fitP]
  kernel_rfl
theorem fitF : Tryz.pinned.checked.prog.funcNamed Rows.displaceAllRow.func = some 4 := by kernel_rfl
theorem fitI : Tryz.f4.isInstance Tryz.pinned.checked.prog Rows.displaceAllRow.origin Rows.displaceAllRow.targs := of_decide_eq_true (by kernel_rfl)
theorem fitW : Tryz.f4.isWrapper Tryz.pinned.checked.prog Rows.displaceAllRow.wrapper Rows.displaceAllRow.mainSum := by unfold Func.isWrapper; first | (rw [if_pos (by decide +kernel)]; kernel_rfl) | (rw [if_neg (by decide +kernel)]; exact ⟨rfl, rfl⟩)
theorem fitM : Tryz.pinned.checked.prog.mainIs = some (true, "5732ab62ce3060f142953997d2974171917e1abb41986648adaec01ec3d2aa99".toList) := by kernel_rfl
theorem fitL : false = Tryz.pinned.checked.prog.looks [] := by kernel_rfl
theorem fitS : ([29, 3].all fun u => !Tryz.prog.wantsStandIn u) = true := by kernel_rfl
theorem fitG : false = Rows.displaceAllRow.goesBy Tryz.pinned.checked.prog := by kernel_rfl
end Go.Proofs.YtmbcpilmoecnnaaGreatDoor
