/- The abstract machine, part 7: composite values, new slices, append. -/
import Derived.Test.YthpjicimlandeaaGreatDoorAbFlat
set_option linter.unusedVariables false
set_option linter.unusedSimpArgs false
namespace Go.Ab
open Go

def places (T : Tab) : List Field → Option (List (Nat × Nat))
  | [] => some []
  | f :: fs => match T f.type, places T fs with
    | some fi, some l => some ((f.offset, fi.size) :: l)
    | _, _ => none

theorem run_places {P : Program} {T : Tab} (hT : TabOk P T) (w : World) : ∀ {fs : List Field} {l : List (Nat × Nat)}, places T fs = some l →
    (fs.mapM (fun f : Field => do pure (f.offset, ← sizeOf f.type)) : Sem (List (Nat × Nat))).run P w = .ok l w
  | [], l, h => by simp [places] at h; subst h; simp
  | f :: fs, l, h => by
    unfold places at h
    split at h
    · rename_i fi l' hf hl
      cases h
      have ih := run_places hT w hl
      simp only [List.mapM_cons, Sem.run_bind, run_size hT hf, Result.andThen_ok, Sem.run_pure, ih]
    · cases h

def aBuild (T : Tab) (t : TypeId) (parts : List (Nat × AV)) : Option AV :=
  match T t with
  | some { und := .struct fields, zero := z, .. } =>
    match places T fields.toList with
    | some l => match afill (l[·]?) (z.cells.toList.map .sc) parts with
      | some cs => some (.agg cs)
      | none => none
    | none => none
  | some { und := .array _ elem, zero := z, .. } =>
    match T elem with
    | some ei => match afill (fun i => some (i * ei.size, ei.size)) (z.cells.toList.map .sc) parts with
      | some cs => some (.agg cs)
      | none => none
    | none => none
  | _ => none

theorem aBuild_ok {P : Program} {T : Tab} (hT : TabOk P T) {G : Ghost} {σ : Store} {w : World} (h : Rel G σ w) {t : TypeId} {id : Nat} {parts : List (Nat × AV)} {vparts : List (Nat × Value)} {v : AV}
    (he : parts.map (·.1) = vparts.map (·.1)) (hr : Reps G (parts.map (·.2)) (vparts.map (·.2))) (ha : aBuild T t parts = some v) :
    VRes G σ w σ id v ((Instr.build t vparts.toArray).run P w) := by
  unfold aBuild at ha
  split at ha
  · rename_i fields _ z _ _ ht
    split at ha
    · rename_i l hl
      split at ha
      · rename_i cs hf
        cases ha
        obtain ⟨ys, hy1, hy2⟩ := afill_ok (us := z.cells) (Reps.sc G _) he hr hf
        have hp : (fields.mapM (fun f : Field => do pure (f.offset, ← sizeOf f.type)) : Sem (Array (Nat × Nat))).run P w = .ok l.toArray w := by
          rw [Array.mapM_eq_mapM_toList]
          have := run_places hT w hl
          simp only [Sem.run_map, this, Result.andThen_ok]
        simp only [Instr.build, Sem.run_bind, run_zero hT ht, run_und hT ht, Result.andThen_ok, hp, List.getElem?_toArray, hy1, Sem.run_pure]
        refine VRes.same ?_ h
        have := Rep.agg (G := G) cs ys.toList hy2.1 hy2.2
        simpa using this
      · cases ha
    · cases ha
  · rename_i n elem _ z _ _ ht
    split at ha
    · rename_i ei hei
      split at ha
      · rename_i cs hf
        cases ha
        obtain ⟨ys, hy1, hy2⟩ := afill_ok (us := z.cells) (Reps.sc G _) he hr hf
        simp only [Instr.build, Sem.run_bind, run_zero hT ht, run_und hT ht, run_size hT hei, Result.andThen_ok, hy1, Sem.run_pure]
        refine VRes.same ?_ h
        have := Rep.agg (G := G) cs ys.toList hy2.1 hy2.2
        simpa using this
      · cases ha
    · cases ha
  · cases ha

/-- A new row. -/
theorem newRow_ok {P : Program} {G : Ghost} {σ : Store} {w : World} (h : Rel G σ w) (t : TypeId) (cells : Array Value) (es : List (List AV)) (size cap : Nat) (hl : ∀ c ∈ es, c.length = size) {vs : List Value} (hr : Reps G es.flatten vs)
    (hv : ∀ (k : Nat) (v : Value), vs[k]? = some v → cells[k]? = some v) (hn : cells.size = cap * size) (hcap : es.length ≤ cap) (id : Nat) (hid : G.pl id = none) (hlt : id < σ.next) :
    ∃ p : Pl, p.block = w.heap.size ∧ p.size = size ∧ p.cap = cap ∧ p.virt = false ∧ Rel (G.place id p) (σ.set id (.row t size es)) { w with heap := w.heap.push (.cells cells t) } := by
  refine ⟨{ block := w.heap.size, size := size, cap := cap }, rfl, rfl, rfl, rfl, ?_⟩
  exact h.push (.cells cells t) id hid hlt _ rfl rfl (.row t size es) ⟨cells, rfl, rfl, hn, hcap, row_of_flat hl (hr.mono (Ghost.place_le hid)) hv⟩

def aBuildSlice (T : Tab) (σ : Store) (id : Nat) (t : TypeId) (len : Nat) (parts : List (Nat × AV)) : Option (AV × Store) :=
  match T t with
  | some { und := .slice elem, .. } =>
    match T elem with
    | some ei => if len * ei.size ≤ 2 ^ 24 ∧ 0 < ei.size then
        match setElems ei.size (List.replicate len ei.zeroCells) parts with
        | some es => some (.ms id ei.size 0 len, σ.set id (.row elem ei.size es))
        | none => none
      else none
    | none => none
  | _ => none

theorem aBuildSlice_ok {P : Program} {T : Tab} (hT : TabOk P T) {G : Ghost} {σ σ' : Store} {w : World} (h : Rel G σ w) {t : TypeId} {id len : Nat} {parts : List (Nat × AV)} {vparts : List (Nat × Value)} {v : AV}
    (he : parts.map (·.1) = vparts.map (·.1)) (hr : Reps G (parts.map (·.2)) (vparts.map (·.2))) (hid : G.pl id = none) (hlt : id < σ.next) (ha : aBuildSlice T σ id t len parts = some (v, σ')) :
    VRes G σ w σ' id v ((Instr.buildSlice t len vparts.toArray).run P w) := by
  unfold aBuildSlice at ha
  split at ha
  · rename_i elem _ _ _ _ ht
    split at ha
    · rename_i ei hei
      split at ha
      · rename_i hsz
        split at ha
        · rename_i es hes
          cases ha
          have hzl := hT.zlen elem ei hei
          have hl0 : ∀ c ∈ List.replicate len ei.zeroCells, c.length = ei.size := fun c hc => by
            rw [List.eq_of_mem_replicate hc]; simp [TI.zeroCells, hzl]
          obtain ⟨hfill, hlen, hl⟩ := setElems_fill hl0 hes
          have hzf := zero_flat ei.zero.cells len (by omega)
          have hlen' : es.length = len := by rw [hlen]; simp
          obtain ⟨ys, hy1, hy2⟩ := afill_ok (us := (Array.range (len * ei.zero.cells.size)).map (ei.zero.cells[· % ei.zero.cells.size]!)) (by
            have := Reps.sc G ((Array.range (len * ei.zero.cells.size)).map (ei.zero.cells[· % ei.zero.cells.size]!)).toList
            rw [hzf] at this; exact this) he hr hfill
          have hys : ys.size = len * ei.size := by have := hy2.1; rw [flatten_length hl, hlen'] at this; simpa using this
          obtain ⟨p, hp1, hp2, hp3, hp4, hrel⟩ := newRow_ok (P := P) h elem ys es ei.size len hl hy2 (fun k v hv => by simpa using hv) hys (by omega) id hid hlt
          have hend : VRes G σ w (σ.set id (.row elem ei.size es)) id (.ms id ei.size 0 len) (.ok (.slice (some ⟨w.heap.size, 0, none⟩) len len) { w with heap := w.heap.push (.cells ys elem) }) := by
            refine VRes.place (p := p) hid ?_ hrel (Fr.push _ id hid p (fun _ => hp1) _ w.drawn)
            exact .ms id _ 0 len p (Ghost.place_same _ _ _) hp4 hp2 _ len (fun _ => by rw [hp1]; simp) (by rw [hp3]; simp) (Nat.le_refl _) rfl
          simp only [Instr.buildSlice, Sem.run_bind, run_und hT ht, run_size hT hei, Result.andThen_ok]
          rw [if_neg (by omega)]
          rw [hzl] at hy1
          by_cases e : len * ei.size = 0
          · simp only [e, if_true, Sem.run_bind, Sem.run_pure, Result.andThen_ok]
            have hcells : (Array.range 0).map ((#[] : Array Value)[· % (#[] : Array Value).size]!) = (Array.range (len * ei.size)).map (ei.zero.cells[· % ei.size]!) := by simp [e]
            rw [hcells, hy1]
            simpa [newRow] using hend
          · simp only [e, if_false, Sem.run_bind, Sem.run_pure, Result.andThen_ok, run_zero hT hei, hzl, hy1, newRow, run_newObj]
            exact hend
        · cases ha
      · cases ha
    · cases ha
  · cases ha

/-! ### append -/

def srcOf (σ : Store) : AV → Option (List (List AV))
  | .ms id _ off len => match σ.objs id with
    | some (.row _ _ es) => if off + len ≤ es.length then some ((es.drop off).take len) else none
    | _ => none
  | .rs es => some es
  | .sc (.slice none 0 0) => some []
  | _ => none

theorem take_flatten {α : Type} {size : Nat} : ∀ {es : List (List α)}, (∀ c ∈ es, c.length = size) → ∀ n, es.flatten.take (n * size) = (es.take n).flatten
  | [], _, n => by simp
  | d :: es, hl, 0 => by simp
  | d :: es, hl, n + 1 => by
    have hd : d.length = size := hl d (by simp)
    have e1 : (n + 1) * size = d.length + n * size := by rw [hd, Nat.add_mul]; omega
    rw [List.flatten_cons, e1, List.take_length_add_append, take_flatten (fun c hc => hl c (List.mem_cons_of_mem _ hc)) n]
    simp

theorem drop_flatten {α : Type} {size : Nat} : ∀ {es : List (List α)}, (∀ c ∈ es, c.length = size) → ∀ n, es.flatten.drop (n * size) = (es.drop n).flatten
  | [], _, n => by simp
  | d :: es, hl, 0 => by simp
  | d :: es, hl, n + 1 => by
    have hd : d.length = size := hl d (by simp)
    have e1 : (n + 1) * size = d.length + n * size := by rw [hd, Nat.add_mul]; omega
    rw [List.flatten_cons, e1, List.drop_append, Nat.add_sub_cancel_left, drop_flatten (fun c hc => hl c (List.mem_cons_of_mem _ hc)) n]
    simp

/-- What is appended, read. -/
theorem src_ok {P : Program} {G : Ghost} {σ : Store} {w : World} (h : Rel G σ w) {x : AV} {u : Value} (hx : Rep G x u) {es : List (List AV)} (hs : srcOf σ x = some es) (size : Nat) (hl : ∀ c ∈ es, c.length = size) :
    (∃ a c, u = .slice a es.length c) ∧ ∃ vs : List Value, (Builtin.firstCells size es.length u).run P w = .ok vs.toArray w ∧ Reps G es.flatten vs := by
  unfold srcOf at hs
  split at hs
  · rename_i id _ off len
    split at hs
    · rename_i elem rsize all ho
      split at hs
      · rename_i hle
        cases hs
        have hlen : ((all.drop off).take len).length = len := by simp; omega
        rw [hlen]
        cases hx with
        | msNil _ _ p hp hv =>
          refine ⟨⟨_, _, rfl⟩, [], by simp [Builtin.firstCells], ?_⟩
          simp; exact .nil _
        | ms _ _ _ _ p hp hv hz a c hA hoff hlc hsp =>
          refine ⟨⟨_, _, rfl⟩, ?_⟩
          obtain ⟨_, _, cells, hb, hps, hn, hcap, hrow⟩ := h.real ho hp hv
          have hall : ∀ c ∈ all, c.length = rsize := fun c hc => by obtain ⟨i, hi, rfl⟩ := List.getElem_of_mem hc; exact (hrow i hi).1
          by_cases h0 : len = 0
          · subst h0
            refine ⟨[], by simp [Builtin.firstCells, loadCells, loadCellsFrom], ?_⟩
            simp; exact .nil _
          · have hsz : rsize = size := by
              have hm : all[off]'(by omega) ∈ (all.drop off).take len := by
                have := List.getElem_mem (l := (all.drop off).take len) (n := 0) (by rw [hlen]; omega)
                simpa using this
              rw [← hl _ hm]; exact (hall _ (List.getElem_mem _)).symm
            subst hsz
            have hbig : all.length * rsize ≤ cells.size := by rw [hn]; exact Nat.mul_le_mul_right _ hcap
            have hflat := flat_of_row hrow hbig
            have hsub := (hflat.drop (off * rsize)).take (len * rsize)
            rw [drop_flatten hall, take_flatten (fun c hc => hall c (List.mem_of_mem_drop hc))] at hsub
            have hmul : off * rsize + len * rsize ≤ all.length * rsize := by rw [← Nat.add_mul]; exact Nat.mul_le_mul_right _ hle
            refine ⟨_, ?_, hsub⟩
            have hL : (List.take (len * rsize) (List.drop (off * rsize) (List.take (all.length * rsize) cells.toList))).length = len * rsize := by simp; omega
            simp only [Builtin.firstCells]
            rw [hA (by omega), hps]
            conv => lhs; rw [← hL]
            refine run_loadCells_list (P := P) w _ _ (fun j v hv => ?_)
            rw [add_none, cell_of_row w _ _ cells elem _ hb]
            simp only [List.getElem?_take, List.getElem?_drop] at hv
            split at hv
            · split at hv
              · simpa using hv
              · cases hv
            · cases hv
      · cases hs
    · cases hs
  · cases hs
    cases hx with
    | rsNil => exact ⟨⟨_, _, rfl⟩, [], by simp [Builtin.firstCells], .nil _⟩
    | rs es a cap rsize val hsp hc hlen himm hrep =>
      refine ⟨⟨_, _, rfl⟩, ?_⟩
      obtain ⟨b, o, sp⟩ := a
      by_cases h0 : es = []
      · subst h0
        exact ⟨[], by simp [Builtin.firstCells, loadCells, loadCellsFrom], .nil _⟩
      have hsp := hsp (by have h1 : 0 < es.length := List.length_pos_iff.2 h0; omega)
      simp at hsp; subst hsp
      have hsz : rsize = size := by
        have h1 : 0 < es.length := List.length_pos_iff.2 h0
        rw [← hlen 0 h1]; exact hl _ (List.getElem_mem _)
      subst hsz
      have hread : ∀ k, k < es.length * rsize → k / rsize < es.length ∧ k % rsize < rsize ∧ k / rsize * rsize + k % rsize = k := fun k hk => by
        have hp : 0 < rsize := by
          rcases Nat.eq_zero_or_pos rsize with e | e
          · subst e; simp at hk
          · exact e
        exact ⟨(Nat.div_lt_iff_lt_mul hp).2 hk, Nat.mod_lt _ hp, by rw [Nat.mul_comm]; exact Nat.div_add_mod k rsize⟩
      refine ⟨(List.range (es.length * rsize)).map (fun k => val (k / rsize) (k % rsize)), ?_, ?_⟩
      · simp only [Builtin.firstCells]
        refine run_loadCells (P := P) w _ _ _ (fun k hk => ?_)
        obtain ⟨h1, h2, h3⟩ := hread k hk
        rw [add_none]
        have := h.cell (himm (k / rsize) (k % rsize) h1 h2)
        rwa [Nat.add_assoc, h3] at this
      · refine ⟨by rw [flatten_length hl]; simp, fun k hk hk' => ?_⟩
        rw [flatten_length hl] at hk
        obtain ⟨h1, h2, h3⟩ := hread k hk
        have hg := flatten_get hl (k / rsize) (k % rsize) es[k / rsize] (List.getElem?_eq_getElem h1) h2
        have hll := hlen _ h1
        rw [h3, List.getElem?_eq_getElem (show k < es.flatten.length by rw [flatten_length hl]; exact hk), List.getElem?_eq_getElem (show k % rsize < es[k / rsize].length by rw [hll]; exact h2)] at hg
        simp only [Option.some.injEq] at hg
        rw [hg]
        have := hrep (k / rsize) (k % rsize) h1 (by rw [hll]; exact h2)
        simpa using this
  · cases hs
    cases hx
    exact ⟨⟨_, _, rfl⟩, [], by simp [Builtin.firstCells], .nil _⟩
  · cases hs

end Go.Ab
