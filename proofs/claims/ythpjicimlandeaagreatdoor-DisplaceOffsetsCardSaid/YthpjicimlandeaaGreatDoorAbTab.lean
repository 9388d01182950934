/- The abstract machine, part 22: a program's tables, as the run in the kernel reads them. -/
import Derived.Test.YthpjicimlandeaaGreatDoorAbTold
set_option linter.unusedVariables false
set_option linter.unusedSimpArgs false
namespace Go.Ab
open Go

def Tr.ofList {α : Type} : List (Nat × α) → Tr α → Tr α
  | [], t => t
  | (k, v) :: l, t => Tr.ofList l (t.set k (some v))

theorem Tr.ofList_get {α : Type} : ∀ (l : List (Nat × α)) (t : Tr α) (k : Nat) (v : α), (Tr.ofList l t).get k = some v → (k, v) ∈ l ∨ t.get k = some v
  | [], t, k, v, h => .inr h
  | (j, u) :: l, t, k, v, h => by
    rcases Tr.ofList_get l (t.set j (some u)) k v h with h1 | h1
    · exact .inl (List.mem_cons_of_mem _ h1)
    · rw [Tr.get_set] at h1
      split at h1
      · rename_i e; cases h1; exact .inl (by rw [e]; simp)
      · exact .inr h1

/-- The functions of a program. -/
def fTr (P : Program) : Tr Func := Tr.ofList (P.funcs.toList.zipIdx.map fun p => (p.2, p.1)) .leaf

theorem fTr_ok (P : Program) (f : FuncId) (fn : Func) (h : (fTr P).get f = some fn) : P.funcs[f]? = some fn := by
  rcases Tr.ofList_get _ _ _ _ h with h | h
  · obtain ⟨⟨x, i⟩, hp, e⟩ := List.mem_map.1 h
    cases e
    have := List.mem_zipIdx_iff_getElem?.1 hp
    simpa using this
  · rw [Tr.get_leaf] at h; cases h

end Go.Ab
