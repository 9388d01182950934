/- The examples of chapter 35: runs of calls by the kernel, part 1. -/
import Derived.Test.YthpjicimlandeaaGreatDoorAw
set_option linter.unusedVariables false
set_option linter.unusedSimpArgs false
namespace Go.Proofs.YthpjicimlandeaaGreatDoor
open Go Go.Ab Go.Proofs
set_option maxRecDepth 100000
theorem aw3 : pureRun T F (memoD L3 K0) 1000000 M3.f M3.args = some M3.c := by kernel_rfl
theorem aw10 : pureRun T F (memoD L10 K0) 1000000 M10.f M10.args = some M10.c := by kernel_rfl
theorem aw11 : pureRun T F (memoD L11 K0) 1000000 M11.f M11.args = some M11.c := by kernel_rfl
theorem aw12 : pureRun T F (memoD L12 K0) 1000000 M12.f M12.args = some M12.c := by kernel_rfl
theorem aw13 : pureRun T F (memoD L13 K0) 1000000 M13.f M13.args = some M13.c := by kernel_rfl
theorem aw18 : pureRun T F (memoD L18 K0) 1000000 M18.f M18.args = some M18.c := by kernel_rfl
theorem aw21 : pureRun T F (memoD L21 K0) 1000000 M21.f M21.args = some M21.c := by kernel_rfl
theorem aw23 : pureRun T F (memoD L23 K0) 1000000 M23.f M23.args = some M23.c := by kernel_rfl
theorem aw26 : pureRun T F (memoD L26 K0) 1000000 M26.f M26.args = some M26.c := by kernel_rfl
theorem aw32 : pureRun T F (memoD L32 K0) 1000000 M32.f M32.args = some M32.c := by kernel_rfl
theorem aw33 : pureRun T F (memoD L33 K0) 1000000 M33.f M33.args = some M33.c := by kernel_rfl
theorem aw34 : pureRun T F (memoD L34 K0) 1000000 M34.f M34.args = some M34.c := by kernel_rfl
theorem aw38 : pureRun T F (memoD L38 K0) 1000000 M38.f M38.args = some M38.c := by kernel_rfl
theorem aw43 : pureRun T F (memoD L43 K0) 1000000 M43.f M43.args = some M43.c := by kernel_rfl
theorem aw44 : pureRun T F (memoD L44 K0) 1000000 M44.f M44.args = some M44.c := by kernel_rfl
theorem aw52 : pureRun T F (memoD L52 K0) 1000000 M52.f M52.args = some M52.c := by kernel_rfl
theorem aw53 : pureRun T F (memoD L53 K0) 1000000 M53.f M53.args = some M53.c := by kernel_rfl
theorem aw64 : pureRun T F (memoD L64 K0) 1000000 M64.f M64.args = some M64.c := by kernel_rfl
theorem aw65 : pureRun T F (memoD L65 K0) 1000000 M65.f M65.args = some M65.c := by kernel_rfl
theorem aw85 : pureRun T F (memoD L85 K0) 1000000 M85.f M85.args = some M85.c := by kernel_rfl
theorem aw87 : pureRun T F (memoD L87 K0) 1000000 M87.f M87.args = some M87.c := by kernel_rfl
theorem aw91 : pureRun T F (memoD L91 K0) 1000000 M91.f M91.args = some M91.c := by kernel_rfl
theorem aw92 : pureRun T F (memoD L92 K0) 1000000 M92.f M92.args = some M92.c := by kernel_rfl
theorem aw93 : pureRun T F (memoD L93 K0) 1000000 M93.f M93.args = some M93.c := by kernel_rfl
theorem aw97 : pureRun T F (memoD L97 K0) 1000000 M97.f M97.args = some M97.c := by kernel_rfl
theorem aw98 : pureRun T F (memoD L98 K0) 1000000 M98.f M98.args = some M98.c := by kernel_rfl
theorem aw103 : pureRun T F (memoD L103 K0) 1000000 M103.f M103.args = some M103.c := by kernel_rfl
theorem aw107 : pureRun T F (memoD L107 K0) 1000000 M107.f M107.args = some M107.c := by kernel_rfl
theorem aw114 : pureRun T F (memoD L114 K0) 1000000 M114.f M114.args = some M114.c := by kernel_rfl
theorem aw115 : pureRun T F (memoD L115 K0) 1000000 M115.f M115.args = some M115.c := by kernel_rfl
theorem aw118 : pureRun T F (memoD L118 K0) 1000000 M118.f M118.args = some M118.c := by kernel_rfl
theorem aw122 : pureRun T F (memoD L122 K0) 1000000 M122.f M122.args = some M122.c := by kernel_rfl
theorem aw124 : pureRun T F (memoD L124 K0) 1000000 M124.f M124.args = some M124.c := by kernel_rfl
theorem aw126 : pureRun T F (memoD L126 K0) 1000000 M126.f M126.args = some M126.c := by kernel_rfl
theorem aw129 : pureRun T F (memoD L129 K0) 1000000 M129.f M129.args = some M129.c := by kernel_rfl
theorem aw130 : pureRun T F (memoD L130 K0) 1000000 M130.f M130.args = some M130.c := by kernel_rfl
theorem aw139 : pureRun T F (memoD L139 K0) 1000000 M139.f M139.args = some M139.c := by kernel_rfl
theorem aw145 : pureRun T F (memoD L145 K0) 1000000 M145.f M145.args = some M145.c := by kernel_rfl
theorem aw146 : pureRun T F (memoD L146 K0) 1000000 M146.f M146.args = some M146.c := by kernel_rfl
theorem aw147 : pureRun T F (memoD L147 K0) 1000000 M147.f M147.args = some M147.c := by kernel_rfl
theorem aw150 : pureRun T F (memoD L150 K0) 1000000 M150.f M150.args = some M150.c := by kernel_rfl
theorem aw162 : pureRun T F (memoD L162 K0) 1000000 M162.f M162.args = some M162.c := by kernel_rfl
theorem aw165 : pureRun T F (memoD L165 K0) 1000000 M165.f M165.args = some M165.c := by kernel_rfl
theorem aw168 : pureRun T F (memoD L168 K0) 1000000 M168.f M168.args = some M168.c := by kernel_rfl
theorem aw172 : pureRun T F (memoD L172 K0) 1000000 M172.f M172.args = some M172.c := by kernel_rfl
theorem aw173 : pureRun T F (memoD L173 K0) 1000000 M173.f M173.args = some M173.c := by kernel_rfl
theorem aw174 : pureRun T F (memoD L174 K0) 1000000 M174.f M174.args = some M174.c := by kernel_rfl
theorem aw175 : pureRun T F (memoD L175 K0) 1000000 M175.f M175.args = some M175.c := by kernel_rfl
theorem aw193 : pureRun T F (memoD L193 K0) 1000000 M193.f M193.args = some M193.c := by kernel_rfl
end Go.Proofs.YthpjicimlandeaaGreatDoor
