/- The abstract machine, part 13: what a run leaves alone: 'low' is at most the least number that was written. -/
import Derived.Test.YthpjicimlandeaaGreatDoorAbRun
set_option linter.unusedVariables false
set_option linter.unusedSimpArgs false
namespace Go.Ab
open Go

/-- Below 'low' nothing has turned. -/
def LowOk (σ σ' : Store) : Prop := σ'.low ≤ σ.low ∧ ∀ i, i < σ'.low → σ'.objs i = σ.objs i

theorem LowOk.refl (σ : Store) : LowOk σ σ := ⟨Nat.le_refl _, fun _ _ => rfl⟩
theorem LowOk.trans {a b c : Store} (h : LowOk a b) (k : LowOk b c) : LowOk a c := ⟨Nat.le_trans k.1 h.1, fun i hi => (k.2 i hi).trans (h.2 i (Nat.lt_of_lt_of_le hi k.1))⟩
theorem LowOk.set (σ : Store) (id : Nat) (o : AObj) : LowOk σ (σ.set id o) := by
  refine ⟨Nat.min_le_left _ _, fun i hi => ?_⟩
  have : i < id := Nat.lt_of_lt_of_le hi (Nat.min_le_right _ _)
  rw [Store.objs_set, if_neg (by omega)]
theorem LowOk.del (σ : Store) (id : Nat) : LowOk σ (σ.del id) := by
  refine ⟨Nat.min_le_left _ _, fun i hi => ?_⟩
  have : i < id := Nat.lt_of_lt_of_le hi (Nat.min_le_right _ _)
  rw [Store.objs_del, if_neg (by omega)]

theorem truncBase_low (σ : Store) (s : AV) : (truncBase σ s).next = σ.next ∧ LowOk σ (truncBase σ s) := by
  unfold truncBase
  split
  · split
    · split
      · exact ⟨rfl, .set _ _ _⟩
      · exact ⟨rfl, .refl _⟩
    · exact ⟨rfl, .refl _⟩
  · exact ⟨rfl, .refl _⟩

theorem aAppend2_low {T : Tab} {σ σ' : Store} {id : Nat} {sT xT : TypeId} {s x v : AV} (h : aAppend2 T σ id sT xT s x = some (v, σ')) : σ'.next = σ.next ∧ LowOk σ σ' := by
  unfold aAppend2 at h
  split at h
  · unfold aZeros at h
    split at h
    · split at h
      · cases h; exact ⟨rfl, .set _ _ _⟩
      · cases h
    · cases h
  · obtain ⟨e1, e2⟩ := truncBase_low σ s
    unfold aAppend at h
    split at h
    · split at h
      · split at h
        · split at h
          · simp only [Option.some.injEq, Prod.mk.injEq] at h
            obtain ⟨_, rfl⟩ := h
            refine ⟨?_, ?_⟩
            · split <;> exact e1
            · split
              · exact e2.trans (LowOk.trans (.del _ _) (.set _ _ _))
              · exact e2.trans (.set _ _ _)
          · cases h
        · cases h
      · cases h
    · cases h

/-- Operations that turn nothing that was there. -/
def isE : Op → Bool
  | .store .. | .mapUpdate .. | .insert .. => true
  | .call { callee := .builtin .append, .. } => true
  | _ => false

theorem aop_low {T : Tab} {ρ : Operand → AV} {σ σ' : Store} {id : Nat} {op : Op} {v : AV} (h : aop T ρ σ id op = some (v, σ')) :
    σ'.next = σ.next ∧ LowOk σ σ' ∧ (isE op = false → σ' = σ ∨ ∃ o, σ' = σ.set id o) := by
  have same : σ' = σ → σ'.next = σ.next ∧ LowOk σ σ' ∧ (isE op = false → σ' = σ ∨ ∃ o, σ' = σ.set id o) := fun e => by subst e; exact ⟨rfl, .refl _, fun _ => .inl rfl⟩
  have new : (∃ o, σ' = σ.set id o) → σ'.next = σ.next ∧ LowOk σ σ' ∧ (isE op = false → σ' = σ ∨ ∃ o, σ' = σ.set id o) := fun ⟨o, e⟩ => by subst e; exact ⟨rfl, .set _ _ _, fun _ => .inr ⟨o, rfl⟩⟩
  cases op with
  | move x => cases h; exact same rfl
  | assign x => cases h; exact same rfl
  | pick c a b =>
    simp only [aop] at h
    split at h
    · cases h; exact same rfl
    · cases h
  | build t ps =>
    simp only [aop] at h
    split at h
    · cases h; exact same rfl
    · cases h
  | load t x =>
    simp only [aop] at h
    split at h
    · cases h; exact same rfl
    · cases h
  | binOp b t x y yt =>
    simp only [aop] at h
    split at h
    · cases h; exact same rfl
    · cases h
  | unOp b t x =>
    simp only [aop] at h
    split at h
    · cases h; exact same rfl
    · cases h
  | convert s d x =>
    simp only [aop] at h
    split at h
    · cases h; exact same rfl
    · cases h
  | slice t x lo hi mx =>
    simp only [aop] at h
    split at h
    · cases h; exact same rfl
    · cases h
  | fieldAddr t x f =>
    simp only [aop] at h
    split at h
    · cases h; exact same rfl
    · cases h
  | field t x f =>
    simp only [aop] at h
    split at h
    · cases h; exact same rfl
    · cases h
  | indexAddr t x i =>
    simp only [aop] at h
    split at h
    · cases h; exact same rfl
    · cases h
  | index t x i =>
    simp only [aop] at h
    split at h
    · cases h; exact same rfl
    · cases h
  | lookup t x i ok =>
    simp only [aop] at h
    split at h
    · cases h; exact same rfl
    · cases h
  | extract x i =>
    simp only [aop] at h
    split at h
    · cases h; exact same rfl
    · cases h
  | alloc t =>
    simp only [aop, aAlloc] at h
    split at h
    · cases h; exact new ⟨_, rfl⟩
    · cases h
  | box t x =>
    simp only [aop, aBox] at h
    split at h
    · cases h; exact new ⟨_, rfl⟩
    · cases h
  | buildSlice t len ps =>
    simp only [aop, aBuildSlice] at h
    split at h
    · split at h
      · split at h
        · split at h
          · cases h; exact new ⟨_, rfl⟩
          · cases h
        · cases h
      · cases h
    · cases h
  | nilCheck x =>
    simp only [aop] at h
    split at h
    · cases h; exact same rfl
    · cases h; exact same rfl
    · cases h; exact same rfl
    · cases h
  | makeFunc f a c => cases h; exact same rfl
  | makeMap t r =>
    cases r with
    | some r => simp [aop] at h
    | none => cases h; exact new ⟨_, rfl⟩
  | store t a x =>
    simp only [aop] at h
    split at h
    · rename_i σ1 hs
      cases h
      refine ⟨?_, ?_, fun e => by simp [isE] at e⟩
      all_goals
        unfold aStore at hs
        split at hs
        · split at hs
          · split at hs
            · split at hs
              · cases hs; first | rfl | exact .set _ _ _
              · cases hs
            · cases hs
          · cases hs
        · cases hs
    · cases h
  | mapUpdate t m k x =>
    simp only [aop] at h
    split at h
    · rename_i σ1 hs
      cases h
      refine ⟨?_, ?_, fun e => by simp [isE] at e⟩
      all_goals
        unfold aMapUpdate at hs
        split at hs
        · split at hs
          · split at hs
            · split at hs
              · cases hs; first | rfl | exact .set _ _ _
              · split at hs
                · cases hs; first | rfl | exact .set _ _ _
                · cases hs
            · cases hs
          · cases hs
        · cases hs
    · cases h
  | insert t m k x =>
    simp only [aop] at h
    split at h
    · rename_i σ1 hs
      cases h
      refine ⟨?_, ?_, fun e => by simp [isE] at e⟩
      all_goals
        unfold aMapUpdate at hs
        split at hs
        · split at hs
          · split at hs
            · split at hs
              · cases hs; first | rfl | exact .set _ _ _
              · split at hs
                · cases hs; first | rfl | exact .set _ _ _
                · cases hs
            · cases hs
          · cases hs
        · cases hs
    · cases h
  | call c =>
    obtain ⟨callee, args, ts⟩ := c
    cases callee with
    | value f => simp [aop] at h
    | invoke r m => simp [aop] at h
    | builtin b =>
      simp only [aop] at h
      unfold aBuiltin at h
      split at h
      · split at h
        · cases h; exact same rfl
        · cases h
      · have := aAppend2_low h
        exact ⟨this.1, this.2, fun e => by simp [isE] at e⟩
      · split at h
        · cases h; exact same rfl
        · cases h
      · split at h
        · cases h; exact same rfl
        · cases h
      · split at h
        · cases h; exact same rfl
        · cases h
      · cases h
  | _ => simp [aop] at h

section
variable {T : Tab} {F : FuncId → Option Func}

theorem runOps_low {cl : FuncId → List AV → Store → Option (AV × Store)} (hcl : ∀ f args σ v σ', cl f args σ = some (v, σ') → LowOk σ σ') {ops : Array Oper} {n0 : Nat} :
    ∀ (l : List Oper) (i : Nat) (s s' : AS), runOps T cl ops n0 l i s = some s' → LowOk s.st s'.st
  | [], i, s, s', h => by simp only [runOps, Option.some.injEq] at h; rw [h]; exact .refl _
  | o :: rest, i, s, s', h => by
    unfold runOps at h
    split at h
    · have := runOps_low hcl rest _ _ _ h; simpa using this
    · split at h
      · split at h
        · split at h
          · rename_i v σ' hc
            have := runOps_low hcl rest _ _ _ h
            exact (hcl _ _ _ _ _ hc).trans (by simpa using this)
          · cases h
        · cases h
      · split at h
        · rename_i v σ' ha
          split at h
          · have := runOps_low hcl rest _ _ _ h
            exact (aop_low ha).2.1.trans (by simpa using this)
          · cases h
        · cases h
    · cases h

end
end Go.Ab
