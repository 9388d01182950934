/- The abstract machine, part 6: rows as lists of elements and as lists of cells. -/
import Derived.Test.YthpjicimlandeaaGreatDoorAbArith
set_option linter.unusedVariables false
set_option linter.unusedSimpArgs false
namespace Go.Ab
open Go

theorem flatten_length {α : Type} {size : Nat} : ∀ {es : List (List α)}, (∀ c ∈ es, c.length = size) → es.flatten.length = es.length * size
  | [], _ => by simp
  | c :: es, h => by
    rw [List.flatten_cons, List.length_append, flatten_length (fun c hc => h c (by simp [hc])), h c (by simp), List.length_cons, Nat.add_mul]; omega

theorem flatten_get {α : Type} {size : Nat} : ∀ {es : List (List α)}, (∀ c ∈ es, c.length = size) → ∀ (i j : Nat) (c : List α), es[i]? = some c → j < size → es.flatten[i * size + j]? = c[j]?
  | [], _, i, j, c, h, _ => by simp at h
  | d :: es, hl, 0, j, c, h, hj => by
    simp at h; subst h
    rw [List.flatten_cons, Nat.zero_mul, Nat.zero_add, List.getElem?_append, if_pos (by rw [hl d (by simp)]; exact hj)]
  | d :: es, hl, i + 1, j, c, h, hj => by
    have hd : d.length = size := hl d (by simp)
    have ih := flatten_get (es := es) (fun c hc => hl c (List.mem_cons_of_mem _ hc)) i j c (by simpa using h) hj
    rw [List.flatten_cons, List.getElem?_append, if_neg (by rw [hd, Nat.add_mul]; omega), ← ih, hd, Nat.add_mul]
    congr 1; omega

theorem row_of_flat {G : Ghost} {es : List (List AV)} {size : Nat} {cells : Array Value} (hl : ∀ c ∈ es, c.length = size) {vs : List Value} (h : Reps G es.flatten vs) (hv : ∀ (k : Nat) (v : Value), vs[k]? = some v → cells[k]? = some v) :
    ∀ i (hi : i < es.length), es[i].length = size ∧ ∀ j (hj : j < es[i].length) (h' : i * size + j < cells.size), Rep G es[i][j] cells[i * size + j] := by
  intro i hi
  refine ⟨hl _ (List.getElem_mem hi), fun j hj h' => ?_⟩
  have hj2 : j < size := by rw [← hl _ (List.getElem_mem hi)]; exact hj
  have hg := flatten_get hl i j es[i] (List.getElem?_eq_getElem hi) hj2
  rw [List.getElem?_eq_getElem hj] at hg
  obtain ⟨v, h1, h2⟩ := h.get hg
  have := hv _ _ h1
  rw [Array.getElem?_eq_getElem h'] at this
  cases this
  exact h2

/-- The values of a row's cells, as a list. -/
theorem flat_of_row {G : Ghost} {es : List (List AV)} {size : Nat} {cells : Array Value} (hrow : ∀ i (h : i < es.length), es[i].length = size ∧ ∀ j (hj : j < es[i].length) (h' : i * size + j < cells.size), Rep G es[i][j] cells[i * size + j])
    (hn : es.length * size ≤ cells.size) : Reps G es.flatten (cells.toList.take (es.length * size)) := by
  have hl : ∀ c ∈ es, c.length = size := fun c hc => by obtain ⟨i, hi, rfl⟩ := List.getElem_of_mem hc; exact (hrow i hi).1
  refine ⟨by rw [flatten_length hl]; simp; omega, fun k hk hk' => ?_⟩
  rw [flatten_length hl] at hk
  by_cases hs : size = 0
  · subst hs; simp at hk
  have hi : k / size < es.length := (Nat.div_lt_iff_lt_mul (by omega)).2 hk
  have hj : k % size < size := Nat.mod_lt _ (by omega)
  have hkk : k / size * size + k % size = k := by rw [Nat.mul_comm]; exact Nat.div_add_mod k size
  have hg := flatten_get hl (k / size) (k % size) es[k / size] (List.getElem?_eq_getElem hi) hj
  have hlen := (hrow _ hi).1
  rw [hkk, List.getElem?_eq_getElem (show k < es.flatten.length by rw [flatten_length hl]; exact hk), List.getElem?_eq_getElem (show k % size < es[k / size].length by rw [hlen]; exact hj)] at hg
  have hr := (hrow _ hi).2 (k % size) (by rw [hlen]; exact hj) (by rw [hkk]; omega)
  simp only [Option.some.injEq] at hg
  rw [hg]
  simp only [hkk] at hr
  simpa using hr

theorem splice_flatten {size : Nat} : ∀ {es : List (List AV)}, (∀ c ∈ es, c.length = size) → ∀ (i : Nat) (vs : List AV), i < es.length → vs.length = size → splice es.flatten (i * size) vs = (es.set i vs).flatten
  | [], _, i, vs, h, _ => by simp at h
  | d :: es, hl, 0, vs, _, hv => by
    have hd : d.length = size := hl d (by simp)
    simp only [splice, List.flatten_cons, Nat.zero_mul, List.take_zero, List.nil_append, Nat.zero_add, List.set_cons_zero, List.append_cancel_left_eq]
    rw [hv, ← hd, List.drop_left]
  | d :: es, hl, i + 1, vs, h, hv => by
    have hd : d.length = size := hl d (by simp)
    have ih := splice_flatten (es := es) (fun c hc => hl c (List.mem_cons_of_mem _ hc)) i vs (by simpa using h) hv
    simp only [List.set_cons_succ, List.flatten_cons, ← ih, splice, hv]
    have e1 : (i + 1) * size = d.length + i * size := by rw [hd, Nat.add_mul]; omega
    have e2 : (i + 1) * size + size = d.length + (i * size + size) := by rw [hd, Nat.add_mul]; omega
    rw [e1, List.take_length_add_append, ← e1, e2, List.drop_append]
    simp [List.append_assoc]

/-- Elements set one by one. -/
def setElems (size : Nat) (es : List (List AV)) : List (Nat × AV) → Option (List (List AV))
  | [] => some es
  | (i, v) :: rest => match v.cells with
    | some vs => if vs.length = size ∧ i < es.length then setElems size (es.set i vs) rest else none
    | none => none

theorem setElems_fill {size : Nat} : ∀ {parts : List (Nat × AV)} {es out : List (List AV)}, (∀ c ∈ es, c.length = size) → setElems size es parts = some out →
    afill (fun i => some (i * size, size)) es.flatten parts = some out.flatten ∧ out.length = es.length ∧ ∀ c ∈ out, c.length = size
  | [], es, out, hl, h => by simp [setElems] at h; subst h; exact ⟨rfl, rfl, hl⟩
  | (i, v) :: rest, es, out, hl, h => by
    unfold setElems at h
    split at h
    · rename_i vs hc
      split at h
      · rename_i hcond
        have hl' : ∀ c ∈ es.set i vs, c.length = size := fun c hc => by
          rcases List.mem_or_eq_of_mem_set hc with h1 | h1
          · exact hl c h1
          · rw [h1]; exact hcond.1
        obtain ⟨h1, h2, h3⟩ := setElems_fill hl' h
        refine ⟨?_, by rw [h2]; simp, h3⟩
        have hle : i * size + vs.length ≤ es.flatten.length := by
          rw [flatten_length hl, hcond.1]
          have : (i + 1) * size ≤ es.length * size := Nat.mul_le_mul_right _ hcond.2
          rw [Nat.add_mul] at this; omega
        simp only [afill, hc]
        rw [if_pos ⟨hcond.1, hle⟩, splice_flatten hl i vs hcond.2 hcond.1]
        exact h1
      · cases h
    · cases h

/-- The zero cells of so many elements. -/
theorem zero_flat (zero : Array Value) (n : Nat) (hz : 0 < zero.size) : (((Array.range (n * zero.size)).map (zero[· % zero.size]!)).toList).map AV.sc = (List.replicate n (zero.toList.map AV.sc)).flatten := by
  apply List.ext_getElem?
  intro k
  have hl : ∀ c ∈ List.replicate n (zero.toList.map AV.sc), c.length = zero.size := fun c hc => by
    rw [List.eq_of_mem_replicate hc]; simp
  by_cases hk : k < n * zero.size
  · have hi : k / zero.size < n := (Nat.div_lt_iff_lt_mul hz).2 hk
    have hj : k % zero.size < zero.size := Nat.mod_lt _ hz
    have hkk : k / zero.size * zero.size + k % zero.size = k := by rw [Nat.mul_comm]; exact Nat.div_add_mod k zero.size
    have := flatten_get hl (k / zero.size) (k % zero.size) (zero.toList.map AV.sc) (by simp [hi]) hj
    rw [hkk] at this
    rw [this]
    simp [hk, hj]
  · rw [List.getElem?_eq_none (by simp; omega), List.getElem?_eq_none (by rw [flatten_length hl]; simp; omega)]

end Go.Ab
