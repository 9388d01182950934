/- The abstract machine, part 26: what is told of math/bits.Add64 and of slices.Clone is so. -/
import Derived.Test.YthpjicimlandeaaGreatDoorAbTabOk
set_option linter.unusedVariables false
set_option linter.unusedSimpArgs false
namespace Go.Ab
open Go

theorem aAdd64_ok {P : Program} {f : FuncId} (hrun : ∀ args w, (callFunc f args).run P w = ((add64Entry args).run P w).andThen fun v w' => .ok (.value v) w') {args : List AV} {σ σ' : Store} {v : AV} (h : aAdd64 args σ = some (v, σ')) :
    ACallOk P f args σ (fun v' σ'' => v' = v ∧ σ'' = σ') ∧ LowOk σ σ' := by
  unfold aAdd64 at h
  split at h
  · rename_i x y c
    split at h
    · rename_i hc
      cases h
      refine ⟨ACallOk.of_extern _ ⟨rfl, rfl⟩ ?_, .refl _⟩
      intro G vs w hargs _
      obtain ⟨v1, l1, rfl, r1, hargs⟩ := hargs.cons_inv
      obtain ⟨v2, l2, rfl, r2, hargs⟩ := hargs.cons_inv
      obtain ⟨v3, l3, rfl, r3, hargs⟩ := hargs.cons_inv
      rw [hargs.nil_inv]
      cases r1; cases r2; cases r3
      refine ⟨_, by rw [hrun, run_add64 x y c hc.1 hc.2.1 (by omega) (by omega)]; rfl, ?_⟩
      exact .tup _ [_, _] rfl (fun i h1 h2 => by
        match i with
        | 0 => exact .sc _
        | 1 => exact .sc _)
    · cases h
  · cases h

/-- The store may be told otherwise, where it has the same objects or fewer. -/
theorem ACalls.weaken {P : Program} {f : FuncId} {args : List AV} {σ : Store} {R R' : AV → Store → Prop} (h : ACalls P f args σ R)
    (hr : ∀ v σ1, R v σ1 → ∃ σ2, R' v σ2 ∧ σ1.next ≤ σ2.next ∧ ∀ k x, σ2.objs k = some x → σ1.objs k = some x) : ACalls P f args σ R' := by
  intro G vs w h1 h2
  refine (h G vs w h1 h2).mono ?_
  rintro e w' ⟨v, av, σ1, G', rfl, b1, b2, b3, b4⟩
  obtain ⟨σ2, c1, c2, c3⟩ := hr av σ1 b4
  have hr2 : Rel G' { σ1 with next := σ2.next } w' := b3.next c2
  exact ⟨v, av, σ2, G', rfl, ⟨b1.le, b1.keeps, Nat.le_trans b1.next c2, b1.fr.trans (Fr.less c3)⟩, b2, hr2.less rfl c3, c1⟩

end Go.Ab
