/- The examples of chapter 35: runs of calls by the kernel, part 4. -/
import Derived.Test.YthpjicimlandeaaGreatDoorAw
set_option linter.unusedVariables false
set_option linter.unusedSimpArgs false
namespace Go.Proofs.YthpjicimlandeaaGreatDoor
open Go Go.Ab Go.Proofs
set_option maxRecDepth 100000
theorem aw8 : pureRun T F (memoD L8 K0) 1000000 M8.f M8.args = some M8.c := by kernel_rfl
theorem aw9 : pureRun T F (memoD L9 K0) 1000000 M9.f M9.args = some M9.c := by kernel_rfl
theorem aw15 : pureRun T F (memoD L15 K0) 1000000 M15.f M15.args = some M15.c := by kernel_rfl
theorem aw16 : pureRun T F (memoD L16 K0) 1000000 M16.f M16.args = some M16.c := by kernel_rfl
theorem aw17 : pureRun T F (memoD L17 K0) 1000000 M17.f M17.args = some M17.c := by kernel_rfl
theorem aw22 : pureRun T F (memoD L22 K0) 1000000 M22.f M22.args = some M22.c := by kernel_rfl
theorem aw25 : pureRun T F (memoD L25 K0) 1000000 M25.f M25.args = some M25.c := by kernel_rfl
theorem aw27 : pureRun T F (memoD L27 K0) 1000000 M27.f M27.args = some M27.c := by kernel_rfl
theorem aw28 : pureRun T F (memoD L28 K0) 1000000 M28.f M28.args = some M28.c := by kernel_rfl
theorem aw35 : pureRun T F (memoD L35 K0) 1000000 M35.f M35.args = some M35.c := by kernel_rfl
theorem aw42 : pureRun T F (memoD L42 K0) 1000000 M42.f M42.args = some M42.c := by kernel_rfl
theorem aw45 : pureRun T F (memoD L45 K0) 1000000 M45.f M45.args = some M45.c := by kernel_rfl
theorem aw46 : pureRun T F (memoD L46 K0) 1000000 M46.f M46.args = some M46.c := by kernel_rfl
theorem aw51 : pureRun T F (memoD L51 K0) 1000000 M51.f M51.args = some M51.c := by kernel_rfl
theorem aw54 : pureRun T F (memoD L54 K0) 1000000 M54.f M54.args = some M54.c := by kernel_rfl
theorem aw57 : pureRun T F (memoD L57 K0) 1000000 M57.f M57.args = some M57.c := by kernel_rfl
theorem aw60 : pureRun T F (memoD L60 K0) 1000000 M60.f M60.args = some M60.c := by kernel_rfl
theorem aw63 : pureRun T F (memoD L63 K0) 1000000 M63.f M63.args = some M63.c := by kernel_rfl
theorem aw66 : pureRun T F (memoD L66 K0) 1000000 M66.f M66.args = some M66.c := by kernel_rfl
theorem aw72 : pureRun T F (memoD L72 K0) 1000000 M72.f M72.args = some M72.c := by kernel_rfl
theorem aw73 : pureRun T F (memoD L73 K0) 1000000 M73.f M73.args = some M73.c := by kernel_rfl
theorem aw75 : pureRun T F (memoD L75 K0) 1000000 M75.f M75.args = some M75.c := by kernel_rfl
theorem aw79 : pureRun T F (memoD L79 K0) 1000000 M79.f M79.args = some M79.c := by kernel_rfl
theorem aw81 : pureRun T F (memoD L81 K0) 1000000 M81.f M81.args = some M81.c := by kernel_rfl
theorem aw94 : pureRun T F (memoD L94 K0) 1000000 M94.f M94.args = some M94.c := by kernel_rfl
theorem aw96 : pureRun T F (memoD L96 K0) 1000000 M96.f M96.args = some M96.c := by kernel_rfl
theorem aw100 : pureRun T F (memoD L100 K0) 1000000 M100.f M100.args = some M100.c := by kernel_rfl
theorem aw102 : pureRun T F (memoD L102 K0) 1000000 M102.f M102.args = some M102.c := by kernel_rfl
theorem aw110 : pureRun T F (memoD L110 K0) 1000000 M110.f M110.args = some M110.c := by kernel_rfl
theorem aw117 : pureRun T F (memoD L117 K0) 1000000 M117.f M117.args = some M117.c := by kernel_rfl
theorem aw119 : pureRun T F (memoD L119 K0) 1000000 M119.f M119.args = some M119.c := by kernel_rfl
theorem aw123 : pureRun T F (memoD L123 K0) 1000000 M123.f M123.args = some M123.c := by kernel_rfl
theorem aw128 : pureRun T F (memoD L128 K0) 1000000 M128.f M128.args = some M128.c := by kernel_rfl
theorem aw132 : pureRun T F (memoD L132 K0) 1000000 M132.f M132.args = some M132.c := by kernel_rfl
theorem aw135 : pureRun T F (memoD L135 K0) 1000000 M135.f M135.args = some M135.c := by kernel_rfl
theorem aw136 : pureRun T F (memoD L136 K0) 1000000 M136.f M136.args = some M136.c := by kernel_rfl
theorem aw138 : pureRun T F (memoD L138 K0) 1000000 M138.f M138.args = some M138.c := by kernel_rfl
theorem aw141 : pureRun T F (memoD L141 K0) 1000000 M141.f M141.args = some M141.c := by kernel_rfl
theorem aw151 : pureRun T F (memoD L151 K0) 1000000 M151.f M151.args = some M151.c := by kernel_rfl
theorem aw152 : pureRun T F (memoD L152 K0) 1000000 M152.f M152.args = some M152.c := by kernel_rfl
theorem aw155 : pureRun T F (memoD L155 K0) 1000000 M155.f M155.args = some M155.c := by kernel_rfl
theorem aw159 : pureRun T F (memoD L159 K0) 1000000 M159.f M159.args = some M159.c := by kernel_rfl
theorem aw161 : pureRun T F (memoD L161 K0) 1000000 M161.f M161.args = some M161.c := by kernel_rfl
theorem aw166 : pureRun T F (memoD L166 K0) 1000000 M166.f M166.args = some M166.c := by kernel_rfl
theorem aw177 : pureRun T F (memoD L177 K0) 1000000 M177.f M177.args = some M177.c := by kernel_rfl
theorem aw178 : pureRun T F (memoD L178 K0) 1000000 M178.f M178.args = some M178.c := by kernel_rfl
theorem aw179 : pureRun T F (memoD L179 K0) 1000000 M179.f M179.args = some M179.c := by kernel_rfl
theorem aw180 : pureRun T F (memoD L180 K0) 1000000 M180.f M180.args = some M180.c := by kernel_rfl
theorem aw188 : pureRun T F (memoD L188 K0) 1000000 M188.f M188.args = some M188.c := by kernel_rfl
end Go.Proofs.YthpjicimlandeaaGreatDoor
