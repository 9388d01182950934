/- The abstract machine, part 25: the table of types of any program. -/
import Derived.Test.YthpjicimlandeaaGreatDoorAbMemo
import Derived.Laws.StructEq
set_option linter.unusedVariables false
set_option linter.unusedSimpArgs false
namespace Go.Ab
open Go

def isI64s : List Value → Bool
  | [] => true
  | .int .i64 _ :: l => isI64s l
  | _ => false

def flatFields (P : Program) : Nat → List Field → Bool
  | _, [] => true
  | i, f :: fs => (f.name != "_") && Nat.beq f.offset i && (match P.underlying f.type with | some (.int _) => true | _ => false) && flatFields P (i + 1) fs

/-- Of how many numbers is a struct or an array? -/
def flatOf (P : Program) (t : TypeId) (n : Nat) : Option Nat :=
  match P.eqGuardType P.depth t with
  | true => none
  | false => match P.underlying t with
    | some (.struct fs) => if !P.stoodInHeld t && flatFields P 0 fs.toList && Nat.beq fs.size n then some n else none
    | some (.array len elem) => match P.underlying elem, P.info? elem with
      | some (.int _), some i => if Nat.beq i.size 1 && Nat.beq len n then some n else none
      | _, _ => none
    | _ => none

def TT (P : Program) (t : TypeId) : Option TI :=
  match P.underlying t, P.info? t with
  | some u, some i => match i.zero with
    | some z => match Nat.beq z.cells.size i.size with
      | true => some { und := u, size := i.size, zero := z, bytes := i.bytes, flat := flatOf P t i.size }
      | false => none
    | none => none
  | _, _ => none

section
variable {P : Program} (w : World)

theorem run_part_int {t : TypeId} {k : IntKind} (h : P.underlying t = some (.int k)) (cs : Array Value) (off : Nat) (v : Value) (hv : cs[off]? = some v) : (part t cs off).run P w = .ok v w := by
  simp [part, isAgg, underlying, h, hv]

theorem eqFields_flat (d : Nat) (as bs : List Int) : ∀ (fs : List Field) (i : Nat), flatFields P i fs = true → i + fs.length = as.length → bs.length = as.length →
    (Op.eqFields (d + 1) (as.map (Value.int .i64)).toArray (bs.map (Value.int .i64)).toArray fs).run P w = .ok (as.drop i == bs.drop i) w
  | [], i, _, h1, h2 => by
    simp only [List.length_nil, Nat.add_zero] at h1
    simp [Op.eqFields, h1, ← h2]
  | f :: fs, i, hf, h1, h2 => by
    simp only [List.length_cons] at h1
    simp only [flatFields, Bool.and_eq_true] at hf
    obtain ⟨⟨⟨hn, ho⟩, hu⟩, hr⟩ := hf
    have ho' : f.offset = i := Nat.eq_of_beq_eq_true ho
    have hn' : f.name ≠ "_" := by simpa using hn
    split at hu
    · rename_i k hk
      have ha : (as.map (Value.int .i64)).toArray[f.offset]? = some (.int .i64 (as[i]'(by omega))) := by rw [ho']; simp
      have hb : (bs.map (Value.int .i64)).toArray[f.offset]? = some (.int .i64 (bs[i]'(by omega))) := by rw [ho']; simp
      have ih := eqFields_flat d as bs fs (i + 1) hr (by omega) h2
      have e1 : as.drop i = as[i]'(by omega) :: as.drop (i + 1) := List.drop_eq_getElem_cons (by omega)
      have e2 : bs.drop i = bs[i]'(by omega) :: bs.drop (i + 1) := List.drop_eq_getElem_cons (by omega)
      simp only [Op.eqFields, if_pos hn', Sem.run_bind, run_part_int w hk _ _ _ ha, run_part_int w hk _ _ _ hb, Result.andThen_ok, run_equalIn_int w d f.type .i64 k _ _ hk]
      have key : (as.drop i == bs.drop i) = ((as[i]'(by omega) == bs[i]'(by omega)) && (as.drop (i + 1) == bs.drop (i + 1))) := by rw [e1, e2]; exact List.cons_beq_cons
      rw [key]
      by_cases hq : as[i]'(by omega) = bs[i]'(by omega)
      · have hq' : (as[i]'(by omega) == bs[i]'(by omega)) = true := by simpa using hq
        simp only [hq', Bool.not_true, Bool.false_eq_true, if_false, ih, Bool.true_and]
      · have hq' : (as[i]'(by omega) == bs[i]'(by omega)) = false := by simpa using hq
        simp only [hq', Bool.not_false, if_true, Sem.run_pure, Bool.false_and]
    · cases hu

theorem checkFields_flat (b : Bool) (d : Nat) (as : List Int) : ∀ (fs : List Field) (i : Nat), flatFields P i fs = true → i + fs.length = as.length →
    (forIn fs PUnit.unit (fun (f : Field) (_ : PUnit) => do
        if f.name ≠ "_" then Instr.checkKey b (d + 1) f.type (← part f.type (as.map (Value.int .i64)).toArray f.offset)
        pure (ForInStep.yield PUnit.unit)) : Sem PUnit).run P w = .ok PUnit.unit w
  | [], i, _, h1 => by simp
  | f :: fs, i, hf, h1 => by
    simp only [List.length_cons] at h1
    simp only [flatFields, Bool.and_eq_true] at hf
    obtain ⟨⟨⟨hn, ho⟩, hu⟩, hr⟩ := hf
    have ho' : f.offset = i := Nat.eq_of_beq_eq_true ho
    have hn' : f.name ≠ "_" := by simpa using hn
    split at hu
    · rename_i k hk
      have ha : (as.map (Value.int .i64)).toArray[f.offset]? = some (.int .i64 (as[i]'(by omega))) := by rw [ho']; simp
      have ih := checkFields_flat b d as fs (i + 1) hr (by omega)
      have hck : (Instr.checkKey b (d + 1) f.type (.int .i64 (as[i]'(by omega)))).run P w = .ok () w := by
        simp [Instr.checkKey, underlying, hk]
      rw [List.forIn_cons]
      simp only [if_pos hn', Sem.run_bind, run_part_int w hk _ _ _ ha, Result.andThen_ok, hck, Sem.run_pure]
      exact ih
    · cases hu

theorem checkStruct_flat {t : TypeId} {fs : Array Field} (hu : P.underlying t = some (.struct fs)) (hf : flatFields P 0 fs.toList = true) (b : Bool) (d : Nat) (as : List Int) (h1 : as.length = fs.size) :
    (Instr.checkKey b (d + 2) t (.agg (as.map (Value.int .i64)).toArray)).run P w = .ok () w := by
  have := checkFields_flat w b d as fs.toList 0 hf (by simp [h1])
  rw [Instr.checkKey]
  simp only [Sem.run_bind, run_underlying hu, Result.andThen_ok]
  rw [← Array.forIn_toList]
  have e := congrArg (fun r => r.andThen fun (_ : PUnit) w' => Sem.run P (pure ()) w') this
  simp only [Result.andThen_ok, Sem.run_pure] at e
  exact e

theorem flat_struct {t : TypeId} {fs : Array Field} (hu : P.underlying t = some (.struct fs)) (hs : P.stoodInHeld t = false) (hf : flatFields P 0 fs.toList = true) (as bs : List Int) (h1 : as.length = fs.size) (h2 : bs.length = fs.size) :
    (Op.equalIn 10000 t (.agg (as.map (Value.int .i64)).toArray) (.agg (bs.map (Value.int .i64)).toArray)).run P w = .ok (as == bs) w ∧
    ∀ b, (Instr.checkKey b 10000 t (.agg (as.map (Value.int .i64)).toArray)).run P w = .ok () w := by
  have hfo : P.fieldsOf t = fs := by simp [Program.fieldsOf, hu]
  constructor
  · rw [run_equalIn_struct w 9999 t _ _ (by rw [hfo]; exact hu) hs, hfo, eqFields_flat w 9998 as bs fs.toList 0 hf (by simp [h1]) (by omega)]
    simp
  · intro b
    exact checkStruct_flat w hu hf b 9998 as h1

theorem eqRange_flat {elem : TypeId} {k : IntKind} (hu : P.underlying elem = some (.int k)) (d : Nat) (as bs : List Int) (h2 : bs.length = as.length) : ∀ (m i : Nat), i + m = as.length →
    (forIn (List.range' i m) (none, PUnit.unit) (fun (i : Nat) (_ : Option Bool × PUnit) => do
        if !(← Op.equalIn (d + 1) elem (← part elem (as.map (Value.int .i64)).toArray (i * 1)) (← part elem (bs.map (Value.int .i64)).toArray (i * 1))) then pure (ForInStep.done (some false, PUnit.unit))
        else pure (ForInStep.yield (none, PUnit.unit))) : Sem (Option Bool × PUnit)).run P w = .ok (if as.drop i == bs.drop i then none else some false, PUnit.unit) w
  | 0, i, h1 => by
    simp only [Nat.add_zero] at h1
    simp [h1, ← h2]
  | m + 1, i, h1 => by
    have ha : (as.map (Value.int .i64)).toArray[i * 1]? = some (.int .i64 (as[i]'(by omega))) := by simp
    have hb : (bs.map (Value.int .i64)).toArray[i * 1]? = some (.int .i64 (bs[i]'(by omega))) := by simp
    have ih := eqRange_flat hu d as bs h2 m (i + 1) (by omega)
    have e1 : as.drop i = as[i]'(by omega) :: as.drop (i + 1) := List.drop_eq_getElem_cons (by omega)
    have e2 : bs.drop i = bs[i]'(by omega) :: bs.drop (i + 1) := List.drop_eq_getElem_cons (by omega)
    have key : (as.drop i == bs.drop i) = ((as[i]'(by omega) == bs[i]'(by omega)) && (as.drop (i + 1) == bs.drop (i + 1))) := by rw [e1, e2]; exact List.cons_beq_cons
    rw [List.range'_succ, List.forIn_cons, key]
    simp only [Sem.run_bind, run_part_int w hu _ _ _ ha, run_part_int w hu _ _ _ hb, Result.andThen_ok, run_equalIn_int w d elem .i64 k _ _ hu]
    by_cases hq : as[i]'(by omega) = bs[i]'(by omega)
    · have hq' : (as[i]'(by omega) == bs[i]'(by omega)) = true := by simpa using hq
      simp only [hq', Bool.not_true, Bool.false_eq_true, if_false, Sem.run_pure, Result.andThen_ok, Bool.true_and]
      exact ih
    · have hq' : (as[i]'(by omega) == bs[i]'(by omega)) = false := by simpa using hq
      simp only [hq', Bool.not_false, if_true, Sem.run_pure, Result.andThen_ok, Bool.false_and, Bool.false_eq_true, if_false]

theorem checkRange_flat {elem : TypeId} {k : IntKind} (hu : P.underlying elem = some (.int k)) (hz : (sizeOf elem).run P w = .ok 1 w) (b : Bool) (d : Nat) (as : List Int) : ∀ (m i : Nat), i + m = as.length →
    (forIn (List.range' i m) PUnit.unit (fun (i : Nat) (_ : PUnit) => do
        Instr.checkKey b (d + 1) elem (← part elem (as.map (Value.int .i64)).toArray (i * (← sizeOf elem)))
        pure (ForInStep.yield PUnit.unit)) : Sem PUnit).run P w = .ok PUnit.unit w
  | 0, i, h1 => by simp
  | m + 1, i, h1 => by
    have ha : (as.map (Value.int .i64)).toArray[i * 1]? = some (.int .i64 (as[i]'(by omega))) := by simp
    have ih := checkRange_flat hu hz b d as m (i + 1) (by omega)
    have hck : (Instr.checkKey b (d + 1) elem (.int .i64 (as[i]'(by omega)))).run P w = .ok () w := by
      simp [Instr.checkKey, underlying, hu]
    rw [List.range'_succ, List.forIn_cons]
    simp only [Sem.run_bind, hz, Result.andThen_ok, run_part_int w hu _ _ _ ha, hck, Sem.run_pure]
    exact ih

theorem checkArray_flat {t elem : TypeId} {n : Nat} {k : IntKind} (ht : P.underlying t = some (.array n elem)) (hu : P.underlying elem = some (.int k)) (hz : (sizeOf elem).run P w = .ok 1 w) (b : Bool) (d : Nat) (as : List Int) (h1 : as.length = n) :
    (Instr.checkKey b (d + 2) t (.agg (as.map (Value.int .i64)).toArray)).run P w = .ok () w := by
  have := checkRange_flat w hu hz b d as n 0 (by omega)
  rw [Instr.checkKey]
  simp only [Sem.run_bind, run_underlying ht, Result.andThen_ok]
  rw [Std.Legacy.Range.forIn_eq_forIn_range']
  have e := congrArg (fun r => r.andThen fun (_ : PUnit) w' => Sem.run P (pure ()) w') this
  simp only [Result.andThen_ok, Sem.run_pure] at e
  simpa using e

theorem eqArray_flat {t elem : TypeId} {n : Nat} {k : IntKind} (ht : P.underlying t = some (.array n elem)) (hu : P.underlying elem = some (.int k)) (hz : (sizeOf elem).run P w = .ok 1 w) (d : Nat) (as bs : List Int) (h1 : as.length = n) (h2 : bs.length = n) :
    (Op.equalIn (d + 2) t (.agg (as.map (Value.int .i64)).toArray) (.agg (bs.map (Value.int .i64)).toArray)).run P w = .ok (as == bs) w := by
  have := eqRange_flat w hu d as bs (by omega) n 0 (by omega)
  rw [Op.equalIn]
  simp only [Sem.run_bind, run_underlying ht, Result.andThen_ok, hz]
  rw [Std.Legacy.Range.forIn_eq_forIn_range']
  have hsz : [:n].size = n := by simp
  rw [hsz]
  erw [this]
  simp only [Result.andThen_ok, List.drop_zero]
  by_cases hq : (as == bs) = true
  · simp [hq]
  · have hq' : (as == bs) = false := by simpa using hq
    rw [hq']; simp

theorem TT_ok (P : Program) : TabOk P (TT P) := by
  have split_ : ∀ t ti, TT P t = some ti → ∃ u i z, P.underlying t = some u ∧ P.info? t = some i ∧ i.zero = some z ∧ z.cells.size = i.size ∧ ti = { und := u, size := i.size, zero := z, bytes := i.bytes, flat := flatOf P t i.size } := by
    intro t ti h
    unfold TT at h
    split at h
    · rename_i u i hu hi
      split at h
      · rename_i z hz
        split at h
        · rename_i hb
          cases h
          exact ⟨u, i, z, hu, hi, hz, Nat.eq_of_beq_eq_true hb, rfl⟩
        · cases h
      · cases h
    · cases h
  refine ⟨fun t ti h => ?_, fun t ti h => ?_, fun t ti h => ?_, fun t ti n h hn => ?_⟩
  · obtain ⟨u, i, z, h1, h2, h3, h4, rfl⟩ := split_ t ti h; exact h1
  · obtain ⟨u, i, z, h1, h2, h3, h4, rfl⟩ := split_ t ti h; exact ⟨i, h2, rfl, rfl, h3⟩
  · obtain ⟨u, i, z, h1, h2, h3, h4, rfl⟩ := split_ t ti h; exact h4
  · obtain ⟨u, i, z, h1, h2, h3, h4, rfl⟩ := split_ t ti h
    simp only at hn
    unfold flatOf at hn
    split at hn
    · cases hn
    · rename_i hg
      refine ⟨hg, fun as bs w ha hb => ?_⟩
      split at hn
      · rename_i fs hfs
        split at hn
        · rename_i hc
          cases hn
          simp only [Bool.and_eq_true, Bool.not_eq_true'] at hc
          have hsz := Nat.eq_of_beq_eq_true hc.2
          exact flat_struct w hfs hc.1.1 hc.1.2 as bs (by omega) (by omega)
        · cases hn
      · rename_i len elem hfs
        split at hn
        · rename_i k i' hk hi'
          split at hn
          · rename_i hc
            cases hn
            simp only [Bool.and_eq_true] at hc
            have hs1 := Nat.eq_of_beq_eq_true hc.1
            have hs2 := Nat.eq_of_beq_eq_true hc.2
            have hz : (sizeOf elem).run P w = .ok 1 w := by simp [sizeOf, typeInfo, hi', hs1]
            exact ⟨eqArray_flat w hfs hk hz 9998 as bs (by omega) (by omega), fun b => checkArray_flat w hfs hk hz b 9998 as (by omega)⟩
          · cases hn
        · cases hn
      · cases hn

/-- The table of types, for the kernel. -/
def tTr (P : Program) : Tr TI := Tr.ofList ((List.range P.types.size).filterMap fun t => (TT P t).map fun x => (t, x)) .leaf

theorem tTr_ok (P : Program) : TabOk P (fun t => (tTr P).get t) := by
  have key : ∀ t ti, (tTr P).get t = some ti → TT P t = some ti := by
    intro t ti h
    rcases Tr.ofList_get _ _ _ _ h with h | h
    · obtain ⟨x, _, hx⟩ := List.mem_filterMap.1 h
      cases hT : TT P x with
      | none => simp [hT] at hx
      | some y => simp [hT] at hx; obtain ⟨rfl, rfl⟩ := hx; exact hT
    · rw [Tr.get_leaf] at h; cases h
  have h0 := TT_ok P
  exact ⟨fun t ti h => h0.und t ti (key t ti h), fun t ti h => h0.info t ti (key t ti h), fun t ti h => h0.zlen t ti (key t ti h), fun t ti n h => h0.flat t ti n (key t ti h)⟩

end
end Go.Ab
