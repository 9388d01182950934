/- The abstract machine, part 21: slices.Clone, told. -/
import Derived.Test.YthpjicimlandeaaGreatDoorAbExec
set_option linter.unusedVariables false
set_option linter.unusedSimpArgs false
namespace Go.Ab
open Go

def aClone (T : Tab) (t : TypeId) (args : List AV) (σ : Store) : Option (AV × Store) :=
  match args with
  | [x] => match T t with
    | some { und := .slice elem, .. } => match T elem with
      | some ei => match srcOf σ x with
        | some xs => if (xs.all fun c => c.length == ei.size && c.all AV.one) = true ∧ (2 * xs.length + 1000) * ei.bytes ≤ 2 ^ 48 ∧ xs.length ≤ 2 ^ 62 ∧ 0 < ei.size then
            match x.isNil with
            | some true => some (.sc (.slice none 0 0), { σ with next := σ.next + 7 })
            | _ => some (.ms (σ.next + 5) ei.size 0 xs.length, { σ with next := σ.next + 7 }.set (σ.next + 5) (.row elem ei.size xs))
          else none
        | none => none
      | none => none
    | _ => none
  | _ => none

end Go.Ab
