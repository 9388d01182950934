/- The abstract machine: calls that were run before, told of arguments that read as theirs. -/
import Derived.Test.YthpjicimlandeaaGreatDoorAbB
set_option linter.unusedVariables false
set_option linter.unusedSimpArgs false
namespace Go.Ab
open Go

def memoHas (f : FuncId) : List Memo → Bool
  | [] => false
  | m :: l => match Nat.beq m.f f with
    | true => true
    | false => memoHas f l

/-- What is told, and behind it what was run before, on the contents of the arguments. -/
def memoD (l : List Memo) (base : AKnow) : AKnow := fun f => match base f with
  | some g => some g
  | none => match memoHas f l with
    | false => none
    | true => some fun args σ => match memoFind f args l with
      | some c => some (c, σ)
      | none => match mapL (deep σ 100) args with
        | some cargs => match memoFind f cargs l with
          | some c => match flatC c with
            | true => some (c, σ)
            | false => none
          | none => none
        | none => none

theorem memoD_ok {P : Program} {l : List Memo} {base : AKnow} (hb : AKnowOk P base) (hl : ∀ m ∈ l, MemoOk P m) : AKnowOk P (memoD l base) := by
  intro f g hg args σ v σ' h
  unfold memoD at hg
  split at hg
  · rename_i g' hg'
    cases hg
    exact hb f g hg' args σ v σ' h
  · split at hg
    · cases hg
    · cases hg
      simp only at h
      split at h
      · rename_i c hc
        cases h
        obtain ⟨m, h1, rfl, rfl, rfl⟩ := memoFind_mem hc
        exact ⟨hl m h1 σ, .refl _⟩
      · split at h
        · rename_i cargs hca
          split at h
          · rename_i c hc
            split at h
            · rename_i hfl
              cases h
              obtain ⟨m, h1, rfl, rfl, rfl⟩ := memoFind_mem hc
              refine ⟨told_of_memo (hl m h1) hfl ?_, .refl _⟩
              intro G vs w hargs hrel
              obtain ⟨e1, e2⟩ := mapL_get hca
              refine ⟨by rw [e1]; exact hargs.1, fun i hi hi' => ?_⟩
              exact deep_ok hrel _ 100 _ _ _ (e2 i (by rw [← e1]; exact hi) hi) (hargs.2 i (by rw [← e1]; exact hi) hi')
            · cases h
          · cases h
        · cases h
end Go.Ab
