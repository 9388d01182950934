/- The examples of chapter 36, run by the kernel. -/
import Derived.Test.YtdgkcjibcgghbaaGreatDoorFns
set_option linter.unusedVariables false
set_option linter.unusedSimpArgs false
namespace Go.Proofs.YtdgkcjibcgghbaaGreatDoor
open Go Go.Ab Go.Proofs
set_option maxRecDepth 100000
theorem aw : pureRun T F (fun _ => none) 1000000 6 [] = some (.sc (.bool true)) := by kernel_rfl
end Go.Proofs.YtdgkcjibcgghbaaGreatDoor
