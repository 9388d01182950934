/- The examples of chapter 35: runs of calls by the kernel, part 3. -/
import Derived.Test.YthpjicimlandeaaGreatDoorAw
set_option linter.unusedVariables false
set_option linter.unusedSimpArgs false
namespace Go.Proofs.YthpjicimlandeaaGreatDoor
open Go Go.Ab Go.Proofs
set_option maxRecDepth 100000
theorem aw0 : pureRun T F (memoD L0 K0) 1000000 M0.f M0.args = some M0.c := by kernel_rfl
theorem aw1 : pureRun T F (memoD L1 K0) 1000000 M1.f M1.args = some M1.c := by kernel_rfl
theorem aw19 : pureRun T F (memoD L19 K0) 1000000 M19.f M19.args = some M19.c := by kernel_rfl
theorem aw20 : pureRun T F (memoD L20 K0) 1000000 M20.f M20.args = some M20.c := by kernel_rfl
theorem aw29 : pureRun T F (memoD L29 K0) 1000000 M29.f M29.args = some M29.c := by kernel_rfl
theorem aw39 : pureRun T F (memoD L39 K0) 1000000 M39.f M39.args = some M39.c := by kernel_rfl
theorem aw41 : pureRun T F (memoD L41 K0) 1000000 M41.f M41.args = some M41.c := by kernel_rfl
theorem aw49 : pureRun T F (memoD L49 K0) 1000000 M49.f M49.args = some M49.c := by kernel_rfl
theorem aw50 : pureRun T F (memoD L50 K0) 1000000 M50.f M50.args = some M50.c := by kernel_rfl
theorem aw58 : pureRun T F (memoD L58 K0) 1000000 M58.f M58.args = some M58.c := by kernel_rfl
theorem aw59 : pureRun T F (memoD L59 K0) 1000000 M59.f M59.args = some M59.c := by kernel_rfl
theorem aw61 : pureRun T F (memoD L61 K0) 1000000 M61.f M61.args = some M61.c := by kernel_rfl
theorem aw62 : pureRun T F (memoD L62 K0) 1000000 M62.f M62.args = some M62.c := by kernel_rfl
theorem aw69 : pureRun T F (memoD L69 K0) 1000000 M69.f M69.args = some M69.c := by kernel_rfl
theorem aw70 : pureRun T F (memoD L70 K0) 1000000 M70.f M70.args = some M70.c := by kernel_rfl
theorem aw74 : pureRun T F (memoD L74 K0) 1000000 M74.f M74.args = some M74.c := by kernel_rfl
theorem aw77 : pureRun T F (memoD L77 K0) 1000000 M77.f M77.args = some M77.c := by kernel_rfl
theorem aw78 : pureRun T F (memoD L78 K0) 1000000 M78.f M78.args = some M78.c := by kernel_rfl
theorem aw82 : pureRun T F (memoD L82 K0) 1000000 M82.f M82.args = some M82.c := by kernel_rfl
theorem aw83 : pureRun T F (memoD L83 K0) 1000000 M83.f M83.args = some M83.c := by kernel_rfl
theorem aw90 : pureRun T F (memoD L90 K0) 1000000 M90.f M90.args = some M90.c := by kernel_rfl
theorem aw95 : pureRun T F (memoD L95 K0) 1000000 M95.f M95.args = some M95.c := by kernel_rfl
theorem aw104 : pureRun T F (memoD L104 K0) 1000000 M104.f M104.args = some M104.c := by kernel_rfl
theorem aw108 : pureRun T F (memoD L108 K0) 1000000 M108.f M108.args = some M108.c := by kernel_rfl
theorem aw109 : pureRun T F (memoD L109 K0) 1000000 M109.f M109.args = some M109.c := by kernel_rfl
theorem aw113 : pureRun T F (memoD L113 K0) 1000000 M113.f M113.args = some M113.c := by kernel_rfl
theorem aw116 : pureRun T F (memoD L116 K0) 1000000 M116.f M116.args = some M116.c := by kernel_rfl
theorem aw120 : pureRun T F (memoD L120 K0) 1000000 M120.f M120.args = some M120.c := by kernel_rfl
theorem aw121 : pureRun T F (memoD L121 K0) 1000000 M121.f M121.args = some M121.c := by kernel_rfl
theorem aw127 : pureRun T F (memoD L127 K0) 1000000 M127.f M127.args = some M127.c := by kernel_rfl
theorem aw137 : pureRun T F (memoD L137 K0) 1000000 M137.f M137.args = some M137.c := by kernel_rfl
theorem aw142 : pureRun T F (memoD L142 K0) 1000000 M142.f M142.args = some M142.c := by kernel_rfl
theorem aw143 : pureRun T F (memoD L143 K0) 1000000 M143.f M143.args = some M143.c := by kernel_rfl
theorem aw144 : pureRun T F (memoD L144 K0) 1000000 M144.f M144.args = some M144.c := by kernel_rfl
theorem aw149 : pureRun T F (memoD L149 K0) 1000000 M149.f M149.args = some M149.c := by kernel_rfl
theorem aw154 : pureRun T F (memoD L154 K0) 1000000 M154.f M154.args = some M154.c := by kernel_rfl
theorem aw156 : pureRun T F (memoD L156 K0) 1000000 M156.f M156.args = some M156.c := by kernel_rfl
theorem aw160 : pureRun T F (memoD L160 K0) 1000000 M160.f M160.args = some M160.c := by kernel_rfl
theorem aw163 : pureRun T F (memoD L163 K0) 1000000 M163.f M163.args = some M163.c := by kernel_rfl
theorem aw164 : pureRun T F (memoD L164 K0) 1000000 M164.f M164.args = some M164.c := by kernel_rfl
theorem aw169 : pureRun T F (memoD L169 K0) 1000000 M169.f M169.args = some M169.c := by kernel_rfl
theorem aw170 : pureRun T F (memoD L170 K0) 1000000 M170.f M170.args = some M170.c := by kernel_rfl
theorem aw181 : pureRun T F (memoD L181 K0) 1000000 M181.f M181.args = some M181.c := by kernel_rfl
theorem aw182 : pureRun T F (memoD L182 K0) 1000000 M182.f M182.args = some M182.c := by kernel_rfl
theorem aw183 : pureRun T F (memoD L183 K0) 1000000 M183.f M183.args = some M183.c := by kernel_rfl
theorem aw184 : pureRun T F (memoD L184 K0) 1000000 M184.f M184.args = some M184.c := by kernel_rfl
theorem aw189 : pureRun T F (memoD L189 K0) 1000000 M189.f M189.args = some M189.c := by kernel_rfl
theorem aw192 : pureRun T F (memoD L192 K0) 1000000 M192.f M192.args = some M192.c := by kernel_rfl
theorem aw195 : pureRun T F (memoD L195 K0) 1000000 M195.f M195.args = some M195.c := by kernel_rfl
theorem aw196 : pureRun T F (memoD L196 K0) 1000000 M196.f M196.args = some M196.c := by kernel_rfl
end Go.Proofs.YthpjicimlandeaaGreatDoor
