/- The abstract machine, part 21b: what the model stands in for: math/bits.Add64. -/
import Derived.Test.YthpjicimlandeaaGreatDoorAbClone
import Derived.Laws.Externs
set_option linter.unusedVariables false
set_option linter.unusedSimpArgs false
namespace Go.Ab
open Go

def aAdd64 (args : List AV) (σ : Store) : Option (AV × Store) :=
  match args with
  | [.sc (.int .u64 x), .sc (.int .u64 y), .sc (.int .u64 c)] =>
    if 0 ≤ x ∧ 0 ≤ y ∧ (c = 0 ∨ c = 1) then
      some (.tup [.sc (.int .u64 ((x + y + c) % 18446744073709551616)), .sc (.int .u64 ((x + y + c) / 18446744073709551616))], σ)
    else none
  | _ => none

end Go.Ab
