/- The examples of chapter 35: runs of calls by the kernel, part 2. -/
import Derived.Test.YthpjicimlandeaaGreatDoorAw
set_option linter.unusedVariables false
set_option linter.unusedSimpArgs false
namespace Go.Proofs.YthpjicimlandeaaGreatDoor
open Go Go.Ab Go.Proofs
set_option maxRecDepth 100000
theorem aw2 : pureRun T F (memoD L2 K0) 1000000 M2.f M2.args = some M2.c := by kernel_rfl
theorem aw4 : pureRun T F (memoD L4 K0) 1000000 M4.f M4.args = some M4.c := by kernel_rfl
theorem aw5 : pureRun T F (memoD L5 K0) 1000000 M5.f M5.args = some M5.c := by kernel_rfl
theorem aw6 : pureRun T F (memoD L6 K0) 1000000 M6.f M6.args = some M6.c := by kernel_rfl
theorem aw7 : pureRun T F (memoD L7 K0) 1000000 M7.f M7.args = some M7.c := by kernel_rfl
theorem aw14 : pureRun T F (memoD L14 K0) 1000000 M14.f M14.args = some M14.c := by kernel_rfl
theorem aw24 : pureRun T F (memoD L24 K0) 1000000 M24.f M24.args = some M24.c := by kernel_rfl
theorem aw30 : pureRun T F (memoD L30 K0) 1000000 M30.f M30.args = some M30.c := by kernel_rfl
theorem aw31 : pureRun T F (memoD L31 K0) 1000000 M31.f M31.args = some M31.c := by kernel_rfl
theorem aw36 : pureRun T F (memoD L36 K0) 1000000 M36.f M36.args = some M36.c := by kernel_rfl
theorem aw37 : pureRun T F (memoD L37 K0) 1000000 M37.f M37.args = some M37.c := by kernel_rfl
theorem aw40 : pureRun T F (memoD L40 K0) 1000000 M40.f M40.args = some M40.c := by kernel_rfl
theorem aw47 : pureRun T F (memoD L47 K0) 1000000 M47.f M47.args = some M47.c := by kernel_rfl
theorem aw48 : pureRun T F (memoD L48 K0) 1000000 M48.f M48.args = some M48.c := by kernel_rfl
theorem aw55 : pureRun T F (memoD L55 K0) 1000000 M55.f M55.args = some M55.c := by kernel_rfl
theorem aw56 : pureRun T F (memoD L56 K0) 1000000 M56.f M56.args = some M56.c := by kernel_rfl
theorem aw67 : pureRun T F (memoD L67 K0) 1000000 M67.f M67.args = some M67.c := by kernel_rfl
theorem aw68 : pureRun T F (memoD L68 K0) 1000000 M68.f M68.args = some M68.c := by kernel_rfl
theorem aw71 : pureRun T F (memoD L71 K0) 1000000 M71.f M71.args = some M71.c := by kernel_rfl
theorem aw76 : pureRun T F (memoD L76 K0) 1000000 M76.f M76.args = some M76.c := by kernel_rfl
theorem aw80 : pureRun T F (memoD L80 K0) 1000000 M80.f M80.args = some M80.c := by kernel_rfl
theorem aw84 : pureRun T F (memoD L84 K0) 1000000 M84.f M84.args = some M84.c := by kernel_rfl
theorem aw86 : pureRun T F (memoD L86 K0) 1000000 M86.f M86.args = some M86.c := by kernel_rfl
theorem aw88 : pureRun T F (memoD L88 K0) 1000000 M88.f M88.args = some M88.c := by kernel_rfl
theorem aw89 : pureRun T F (memoD L89 K0) 1000000 M89.f M89.args = some M89.c := by kernel_rfl
theorem aw99 : pureRun T F (memoD L99 K0) 1000000 M99.f M99.args = some M99.c := by kernel_rfl
theorem aw101 : pureRun T F (memoD L101 K0) 1000000 M101.f M101.args = some M101.c := by kernel_rfl
theorem aw105 : pureRun T F (memoD L105 K0) 1000000 M105.f M105.args = some M105.c := by kernel_rfl
theorem aw106 : pureRun T F (memoD L106 K0) 1000000 M106.f M106.args = some M106.c := by kernel_rfl
theorem aw111 : pureRun T F (memoD L111 K0) 1000000 M111.f M111.args = some M111.c := by kernel_rfl
theorem aw112 : pureRun T F (memoD L112 K0) 1000000 M112.f M112.args = some M112.c := by kernel_rfl
theorem aw125 : pureRun T F (memoD L125 K0) 1000000 M125.f M125.args = some M125.c := by kernel_rfl
theorem aw131 : pureRun T F (memoD L131 K0) 1000000 M131.f M131.args = some M131.c := by kernel_rfl
theorem aw133 : pureRun T F (memoD L133 K0) 1000000 M133.f M133.args = some M133.c := by kernel_rfl
theorem aw134 : pureRun T F (memoD L134 K0) 1000000 M134.f M134.args = some M134.c := by kernel_rfl
theorem aw140 : pureRun T F (memoD L140 K0) 1000000 M140.f M140.args = some M140.c := by kernel_rfl
theorem aw148 : pureRun T F (memoD L148 K0) 1000000 M148.f M148.args = some M148.c := by kernel_rfl
theorem aw153 : pureRun T F (memoD L153 K0) 1000000 M153.f M153.args = some M153.c := by kernel_rfl
theorem aw157 : pureRun T F (memoD L157 K0) 1000000 M157.f M157.args = some M157.c := by kernel_rfl
theorem aw158 : pureRun T F (memoD L158 K0) 1000000 M158.f M158.args = some M158.c := by kernel_rfl
theorem aw167 : pureRun T F (memoD L167 K0) 1000000 M167.f M167.args = some M167.c := by kernel_rfl
theorem aw171 : pureRun T F (memoD L171 K0) 1000000 M171.f M171.args = some M171.c := by kernel_rfl
theorem aw176 : pureRun T F (memoD L176 K0) 1000000 M176.f M176.args = some M176.c := by kernel_rfl
theorem aw185 : pureRun T F (memoD L185 K0) 1000000 M185.f M185.args = some M185.c := by kernel_rfl
theorem aw186 : pureRun T F (memoD L186 K0) 1000000 M186.f M186.args = some M186.c := by kernel_rfl
theorem aw187 : pureRun T F (memoD L187 K0) 1000000 M187.f M187.args = some M187.c := by kernel_rfl
theorem aw190 : pureRun T F (memoD L190 K0) 1000000 M190.f M190.args = some M190.c := by kernel_rfl
theorem aw191 : pureRun T F (memoD L191 K0) 1000000 M191.f M191.args = some M191.c := by kernel_rfl
theorem aw194 : pureRun T F (memoD L194 K0) 1000000 M194.f M194.args = some M194.c := by kernel_rfl
theorem aw197 : pureRun T F (memoD L197 K0) 1000000 M197.f M197.args = some M197.c := by kernel_rfl
end Go.Proofs.YthpjicimlandeaaGreatDoor
