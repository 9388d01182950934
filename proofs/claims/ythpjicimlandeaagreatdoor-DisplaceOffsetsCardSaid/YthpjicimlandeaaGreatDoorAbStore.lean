/- The abstract machine, part 3: stores, addresses, slices, append. -/
import Derived.Test.YthpjicimlandeaaGreatDoorAbOps
set_option linter.unusedVariables false
set_option linter.unusedSimpArgs false
namespace Go.Ab
open Go

/-! ### stores -/

def setBlk (w : World) (b : Nat) (o : Obj) : World := { w with heap := w.heap.setIfInBounds b o }

theorem setBlk_size (w : World) (b : Nat) (o : Obj) : (setBlk w b o).heap.size = w.heap.size := by simp [setBlk]
theorem setBlk_other (w : World) (b : Nat) (o : Obj) (k : Nat) (h : k ≠ b) : (setBlk w b o).heap[k]? = w.heap[k]? := by
  simp [setBlk, Array.getElem?_setIfInBounds]; intro h'; exact absurd h'.symm h
theorem setBlk_same (w : World) (b : Nat) (o x : Obj) (h : w.heap[b]? = some x) : (setBlk w b o).heap[b]? = some o := by
  have : b < w.heap.size := by
    rcases Nat.lt_or_ge b w.heap.size with h' | h'
    · exact h'
    · rw [Array.getElem?_eq_none h'] at h; cases h
  simp [setBlk, Array.getElem?_setIfInBounds, this]

theorem setCell_setBlk (w : World) (b o : Nat) (v : Value) (cs : Array Value) (t : TypeId) (h : w.heap[b]? = some (.cells cs t (0, 0))) :
    w.setCell ⟨b, o, none⟩ v = setBlk w b (.cells (cs.setIfInBounds o v) t (0, 0)) := by
  have hlt : b < w.heap.size := by
    rcases Nat.lt_or_ge b w.heap.size with h' | h'
    · exact h'
    · rw [Array.getElem?_eq_none h'] at h; cases h
  unfold World.setCell setBlk
  congr 1
  apply Array.ext
  · simp
  · intro i h1 h2
    have hi : i < w.heap.size := by simpa using h2
    rw [Array.getElem_modify, Array.getElem_setIfInBounds hi]
    by_cases e : b = i
    · subst e
      have : w.heap[b] = .cells cs t (0, 0) := by simpa [Array.getElem?_eq_getElem hlt] using h
      simp [this]
    · simp [e]

theorem setBlk_setBlk (w : World) (b : Nat) (x y : Obj) : setBlk (setBlk w b x) b y = setBlk w b y := by simp [setBlk]

theorem run_storeCells_row {P : Program} (b : Nat) (off : Nat) (t : TypeId) : ∀ (vs : List Value) (i : Nat) (cs : Array Value) (w : World), w.heap[b]? = some (.cells cs t (0, 0)) → off + i + vs.length ≤ cs.size →
    (∀ v ∈ vs, v.oneCell' = true) → ∃ cs' : Array Value, (storeCells ⟨b, off, none⟩ vs i).run P w = .ok () (setBlk w b (.cells cs' t (0, 0))) ∧ cs'.size = cs.size ∧
      ∀ k, cs'[k]? = if off + i ≤ k ∧ k < off + i + vs.length then vs[k - (off + i)]? else cs[k]?
  | [], i, cs, w, hb, _, _ => by
    refine ⟨cs, ?_, rfl, fun k => by simp; intro h1 h2; omega⟩
    have : setBlk w b (.cells cs t (0, 0)) = w := by
      have hlt : b < w.heap.size := by
        rcases Nat.lt_or_ge b w.heap.size with h' | h'
        · exact h'
        · rw [Array.getElem?_eq_none h'] at hb; cases hb
      have hg : w.heap[b] = .cells cs t (0, 0) := by simpa [Array.getElem?_eq_getElem hlt] using hb
      unfold setBlk
      congr 1
      apply Array.ext
      · simp
      · intro j h1 h2
        rw [Array.getElem_setIfInBounds h2]
        by_cases e : b = j
        · subst e; simp [hg]
        · simp [e]
    rw [this]; simp [storeCells]
  | v :: vs, i, cs, w, hb, hlen, hone => by
    simp only [List.length_cons] at hlen
    have hc : w.cell? ⟨b, off + i, none⟩ = some (cs[off + i]'(by omega)) := by rw [cell_of_row w _ _ cs t _ hb]; exact Array.getElem?_eq_getElem _
    have hfz : w.frozen? ⟨b, off + i, none⟩ = false := frozen_of_row w b _ cs t hb
    have hst : (store (Addr.add ⟨b, off, none⟩ i) v).run P w = .ok () (w.setCell ⟨b, off + i, none⟩ v) := by
      rw [add_none, run_store P w _ v .plain (hone v (by simp)), hc]; simp [hfz]
    rw [setCell_setBlk w b _ v cs t hb] at hst
    obtain ⟨cs', h1, h2, h3⟩ := run_storeCells_row (P := P) b off t vs (i + 1) (cs.setIfInBounds (off + i) v) (setBlk w b (.cells (cs.setIfInBounds (off + i) v) t (0, 0)))
      (setBlk_same w b _ _ hb) (by simp; omega) (fun u hu => hone u (by simp [hu]))
    refine ⟨cs', ?_, by rw [h2]; simp, fun k => ?_⟩
    · simp only [storeCells, Sem.run_bind, hst, Result.andThen_ok, h1, setBlk_setBlk]
    · rw [h3 k]
      by_cases e : k = off + i
      · subst e
        rw [if_neg (by omega), if_pos (by simp), Array.getElem?_setIfInBounds, if_pos rfl, if_pos (by omega)]
        simp
      · by_cases e2 : off + (i + 1) ≤ k ∧ k < off + (i + 1) + vs.length
        · rw [if_pos e2, if_pos (by simp; omega)]
          obtain ⟨n, hn⟩ : ∃ n, k - (off + i) = n + 1 := ⟨k - (off + i) - 1, by omega⟩
          rw [hn]; simp; congr 1; omega
        · rw [if_neg e2, if_neg (by simp; omega), Array.getElem?_setIfInBounds, if_neg (by omega)]

def splice (cs : List AV) (j : Nat) (vs : List AV) : List AV := cs.take j ++ vs ++ cs.drop (j + vs.length)

theorem splice_get (cs : List AV) (j : Nat) (vs : List AV) (h : j + vs.length ≤ cs.length) (k : Nat) : (splice cs j vs)[k]? = if j ≤ k ∧ k < j + vs.length then vs[k - j]? else cs[k]? := by
  unfold splice
  rw [List.append_assoc, List.getElem?_append]
  simp only [List.length_take]
  by_cases h1 : k < min j cs.length
  · rw [if_pos h1, if_neg (by omega), List.getElem?_take, if_pos (by omega)]
  · rw [if_neg h1, List.getElem?_append]
    by_cases h2 : k - min j cs.length < vs.length
    · rw [if_pos h2, if_pos (by omega)]; congr 1; omega
    · rw [if_neg h2, if_neg (by omega), List.getElem?_drop]; congr 1; omega

theorem splice_length (cs : List AV) (j : Nat) (vs : List AV) (h : j + vs.length ≤ cs.length) : (splice cs j vs).length = cs.length := by
  simp [splice]; omega

def aStore (T : Tab) (σ : Store) (t : TypeId) (x v : AV) : Option Store :=
  match x, v.cells, T t with
  | .mp id i j, some vs, some ti =>
    match σ.objs id with
    | some (.row elem size es) => match es[i]? with
      | some cs => if vs.length = ti.size ∧ j + vs.length ≤ cs.length ∧ vs.all AV.one = true then some (σ.set id (.row elem size (es.set i (splice cs j vs)))) else none
      | none => none
    | _ => none
  | _, _, _ => none

/-- The cells of a row, by element and place. -/
theorem row_cells {G : Ghost} {size : Nat} {es : List (List AV)} {cells : Array Value} (hrow : ∀ i (h : i < es.length), es[i].length = size ∧ ∀ j (hj : j < es[i].length) (h' : i * size + j < cells.size), Rep G es[i][j] cells[i * size + j])
    {i j : Nat} {c : AV} {cs : List AV} (he : es[i]? = some cs) (hc : cs[j]? = some c) {v : Value} (hv : cells[i * size + j]? = some v) : Rep G c v := by
  obtain ⟨hi, rfl⟩ := List.getElem?_eq_some_iff.1 he
  obtain ⟨hj, rfl⟩ := List.getElem?_eq_some_iff.1 hc
  obtain ⟨hk, rfl⟩ := Array.getElem?_eq_some_iff.1 hv
  exact (hrow i hi).2 j hj hk

theorem div_cell {i i' size j j' : Nat} (h : i * size + j = i' * size + j') (hj : j < size) (hj' : j' < size) : i = i' ∧ j = j' := by
  have h1 : (i * size + j) / size = i := by rw [Nat.mul_comm, Nat.mul_add_div (by omega), Nat.div_eq_of_lt hj]; simp
  have h2 : (i' * size + j') / size = i' := by rw [Nat.mul_comm, Nat.mul_add_div (by omega), Nat.div_eq_of_lt hj']; simp
  have : i = i' := by rw [← h1, ← h2, h]
  subst this
  exact ⟨rfl, by omega⟩

theorem aStore_ok {P : Program} {T : Tab} (hT : TabOk P T) {G : Ghost} {σ σ' : Store} {w : World} (h : Rel G σ w) {t : TypeId} {x v : AV} {u y : Value} (hx : Rep G x u) (hy : Rep G v y)
    (ha : aStore T σ t x v = some σ') : ∃ w', (Instr.storeAt t u y).run P w = .ok () w' ∧ Rel G σ' w' ∧ Fr G σ w G σ' w' := by
  unfold aStore at ha
  split at ha
  · rename_i id i j vs ti hcells ht
    split at ha
    · rename_i elem size es ho
      split at ha
      · rename_i cs he
        split at ha
        · rename_i hcond
          obtain ⟨h1, h2, h3⟩ := hcond
          cases ha
          cases hx with
          | mp id i j p hp =>
          have hreps := hy.cells hcells
          obtain ⟨hi, hie⟩ := List.getElem?_eq_some_iff.1 he
          have hv : p.virt = false := by
            rcases h.lies ho hp with ⟨_, e, s, h2⟩ | ⟨h2, _⟩
            · cases h2; simp at hi
            · exact h2
          obtain ⟨_, _, cells, hb, hs, hn, hle, hrow⟩ := h.real ho hp hv
          have hlen : cs.length = size := by rw [← hie]; exact (hrow i hi).1
          have hbig : (i + 1) * size ≤ cells.size := by rw [hn]; exact Nat.mul_le_mul_right _ (by omega)
          rw [Nat.add_mul] at hbig
          obtain ⟨cs', hrun, hsz, hget⟩ := run_storeCells_row (P := P) p.block (i * p.size + j) elem y.cells.toList 0 cells w hb (by rw [hreps.1, hs]; omega)
            (fun z hz => by
              obtain ⟨k, hk, rfl⟩ := List.getElem_of_mem hz
              have hk' : k < vs.length := by rw [← hreps.1]; exact hk
              exact (hreps.2 k hk' hk).one (by rw [List.all_eq_true] at h3; exact h3 _ (List.getElem_mem hk')))
          refine ⟨setBlk w p.block (.cells cs' elem (0, 0)), ?_, h.write ho hp hv (.cells cs' elem (0, 0)) _ rfl rfl rfl (setBlk_size _ _ _) (fun k hk => setBlk_other _ _ _ _ hk) (setBlk_same _ _ _ _ hb) ⟨cs', rfl, hs, by rw [hsz, hn], by simp; exact hle, fun i' hi' => ?_⟩, Fr.write ho hp hv _ (setBlk_size _ _ _) (fun k hk => setBlk_other _ _ _ _ hk)⟩
          · simp only [Instr.storeAt, Instr.sureAddr, Sem.run_bind, Sem.run_pure, Result.andThen_ok, storeVar, run_size hT ht]
            rw [if_neg (by have := hreps.1; simp at this ⊢; omega)]
            simpa using hrun
          · have hi2 : i' < es.length := by simpa using hi'
            have hl' : ((es.set i (splice cs j vs))[i']).length = size := by
              rw [List.getElem_set]; split
              · rw [splice_length _ _ _ h2, hlen]
              · exact (hrow i' hi2).1
            refine ⟨hl', fun j' hj' hk => ?_⟩
            have hj2 : j' < size := by rw [← hl']; exact hj'
            have hg := hget (i' * size + j')
            rw [Array.getElem?_eq_getElem hk] at hg
            have hL : y.cells.toList.length = vs.length := hreps.1
            simp only [Nat.add_zero, hL, hs] at hg
            by_cases e : i' = i
            · subst e
              have hspl := splice_get cs j vs h2 j'
              have hnew : ((es.set i' (splice cs j vs))[i'])[j']? = some ((es.set i' (splice cs j vs))[i'][j']) := List.getElem?_eq_getElem _
              simp only [List.getElem_set_self] at hnew
              rw [hspl] at hnew
              by_cases e2 : j ≤ j' ∧ j' < j + vs.length
              · rw [if_pos e2] at hnew
                rw [if_pos (by omega)] at hg
                have : i' * size + j' - (i' * size + j) = j' - j := by omega
                rw [this] at hg
                obtain ⟨z, hz1, hz2⟩ := hreps.get hnew
                rw [hz1] at hg; cases hg
                simpa using hz2
              · rw [if_neg e2] at hnew
                rw [if_neg (by omega)] at hg
                have := row_cells hrow he hnew hg.symm
                simpa using this
            · rw [if_neg (fun hh => by
                have : i' * size + j' = i * size + (i' * size + j' - i * size) := by omega
                exact e (div_cell this hj2 (by omega)).1)] at hg
              have hnew : (es[i'])[j']? = some (es[i'][j']'(by rw [(hrow i' hi2).1]; exact hj2)) := List.getElem?_eq_getElem _
              have := row_cells hrow (List.getElem?_eq_getElem hi2) hnew hg.symm
              simp only [List.getElem_set_ne (Ne.symm e)]
              exact this
        · cases ha
      · cases ha
    · cases ha
  · cases ha

end Go.Ab
