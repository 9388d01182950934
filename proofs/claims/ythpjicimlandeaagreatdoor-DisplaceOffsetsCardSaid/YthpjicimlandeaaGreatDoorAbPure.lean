/- The abstract machine, part 23: a call with contents for arguments, run in an empty store, its result read to the ground: what it returns is told of every store. -/
import Derived.Test.YthpjicimlandeaaGreatDoorAbTab
set_option linter.unusedVariables false
set_option linter.unusedSimpArgs false
namespace Go.Ab
open Go

def mapL (f : AV → Option AV) : List AV → Option (List AV)
  | [] => some []
  | c :: cs => match f c, mapL f cs with
    | some x, some xs => some (x :: xs)
    | _, _ => none

def mapR (f : AV → Option AV) : List (List AV) → Option (List (List AV))
  | [] => some []
  | c :: cs => match mapL f c, mapR f cs with
    | some x, some xs => some (x :: xs)
    | _, _ => none

theorem mapL_get {f : AV → Option AV} : ∀ {l l' : List AV}, mapL f l = some l' → l'.length = l.length ∧ ∀ i (h : i < l.length) (h' : i < l'.length), f l[i] = some l'[i]
  | [], l', h => by simp only [mapL, Option.some.injEq] at h; subst h; exact ⟨rfl, fun i h => by simp at h⟩
  | c :: cs, l', h => by
    unfold mapL at h
    split at h
    · rename_i x xs h1 h2
      cases h
      obtain ⟨e1, e2⟩ := mapL_get h2
      refine ⟨by simp [e1], fun i hi hi' => ?_⟩
      cases i with
      | zero => exact h1
      | succ i => exact e2 i (by simpa using hi) (by simpa using hi')
    · cases h

theorem mapR_get {f : AV → Option AV} : ∀ {l l' : List (List AV)}, mapR f l = some l' → l'.length = l.length ∧ ∀ i (h : i < l.length) (h' : i < l'.length), mapL f l[i] = some l'[i]
  | [], l', h => by simp only [mapR, Option.some.injEq] at h; subst h; exact ⟨rfl, fun i h => by simp at h⟩
  | c :: cs, l', h => by
    unfold mapR at h
    split at h
    · rename_i x xs h1 h2
      cases h
      obtain ⟨e1, e2⟩ := mapR_get h2
      refine ⟨by simp [e1], fun i hi hi' => ?_⟩
      cases i with
      | zero => exact h1
      | succ i => exact e2 i (by simpa using hi) (by simpa using hi')
    · cases h

/-- A value, read to the ground. -/
def deep (σ : Store) : Nat → AV → Option AV
  | 0, _ => none
  | k + 1, v => match v with
    | .sc x => some (.sc x)
    | .rs es => match mapR (deep σ k) es with
      | some l => some (.rs l)
      | none => none
    | .ms id _ off len => match σ.objs id with
      | some (.row _ _ es) => if off + len ≤ es.length then
          match mapR (deep σ k) ((es.drop off).take len) with
          | some l => some (.rs l)
          | none => none
        else none
      | _ => none
    | .agg cs => match mapL (deep σ k) cs with
      | some l => some (.agg l)
      | none => none
    | .tup cs => match mapL (deep σ k) cs with
      | some l => some (.tup l)
      | none => none
    | _ => none

/-- Does a block hold an object of the store? -/
def Live (G : Ghost) (σ : Store) (b : Nat) : Prop := ∃ id o p, σ.objs id = some o ∧ G.pl id = some p ∧ p.virt = false ∧ p.block = b

open Classical in
/-- All that the store has, as it stands, for good. -/
noncomputable def Ghost.frozen (G : Ghost) (σ : Store) (w : World) (pl : Nat → Option Pl) : Ghost :=
  { w0 := G.w0, imm := fun b => if Live G σ b then w.heap[b]? else G.imm b, pl := pl }

theorem frozen_imm {G : Ghost} {σ : Store} {w : World} (h : Rel G σ w) {pl : Nat → Option Pl} {b : Nat} {o : Obj} (hb : G.imm b = some o) : (G.frozen σ w pl).imm b = some o := by
  simp only [Ghost.frozen]
  split
  · rename_i hl
    obtain ⟨id, x, p, h1, h2, h3, rfl⟩ := hl
    rw [(h.real h1 h2 h3).1] at hb; cases hb
  · exact hb

theorem frozen_cell {G : Ghost} {σ : Store} {w : World} (h : Rel G σ w) {pl : Nat → Option Pl} {b o : Nat} {v : Value} (hc : G.cell b o = some v) : (G.frozen σ w pl).cell b o = some v := by
  unfold Ghost.cell at *
  cases hb : G.imm b with
  | none => simp [hb] at hc
  | some x => rw [frozen_imm h hb]; simpa [hb] using hc

theorem deep_ok {G : Ghost} {σ : Store} {w : World} (h : Rel G σ w) (pl : Nat → Option Pl) : ∀ (k : Nat) (v c : AV) (u : Value), deep σ k v = some c → Rep G v u → Rep (G.frozen σ w pl) c u
  | 0, v, c, u, hd, _ => by simp [deep] at hd
  | k + 1, v, c, u, hd, hr => by
    have ih := deep_ok h pl k
    unfold deep at hd
    split at hd
    · cases hd; cases hr; exact .sc _
    · rename_i es
      split at hd
      · rename_i l hl
        cases hd
        obtain ⟨e1, e2⟩ := mapR_get hl
        cases hr with
        | rsNil =>
          have : l = [] := by simpa using e1
          subst this; exact .rsNil
        | rs _ a cap size val hs hc hlen himm hrep =>
          rw [← e1]
          refine .rs l a cap size val hs (by omega) (fun i hi => ?_) (fun i j hi hj => frozen_cell h (himm i j (by omega) hj)) (fun i j hi hj => ?_)
          · rw [(mapL_get (e2 i (by omega) hi)).1]; exact hlen i (by omega)
          · obtain ⟨f1, f2⟩ := mapL_get (e2 i (by omega) hi)
            exact ih _ _ _ (f2 j (by omega) hj) (hrep i j (by omega) (by omega))
      · cases hd
    · rename_i id z off len
      split at hd
      · rename_i elem size es ho
        split at hd
        · rename_i hle
          split at hd
          · rename_i l hl
            cases hd
            obtain ⟨e1, e2⟩ := mapR_get hl
            cases hr with
            | msNil _ _ p hp hv =>
              have : l = [] := by simpa using e1
              subst this; exact .rsNil
            | ms _ _ _ _ p hp hv hz a c hA hoff hlc hsp =>
              obtain ⟨him, hw0, cells, hb, hps, hn, hcap, hrow⟩ := h.real ho hp hv
              have hll : l.length = len := by rw [e1]; simp; omega
              have hlive : (G.frozen σ w pl).imm p.block = some (.cells cells elem (0, 0)) := by
                simp only [Ghost.frozen]
                rw [if_pos ⟨id, _, p, ho, hp, hv, rfl⟩]; exact hb
              have hget : ∀ i (hi : i < l.length), ∃ hi' : off + i < es.length, mapL (deep σ k) es[off + i] = some l[i] := fun i hi => by
                have := e2 i (by rw [← e1]; exact hi) hi
                simp only [List.getElem_take, List.getElem_drop] at this
                exact ⟨by omega, this⟩
              rw [← hll]
              by_cases hc0 : c = 0
              · have : l = [] := List.eq_nil_of_length_eq_zero (by omega)
                subst this
                exact .rs [] a c 0 (fun _ _ => undef) (fun _ => hsp) (by simp) (fun i hi => by simp at hi) (fun i j hi => by simp at hi) (fun i j hi => by simp at hi)
              · rw [hA hc0]
                refine .rs l _ c size (fun i j => cells.getD ((off + i) * size + j) undef) (fun _ => rfl) (by omega) (fun i hi => ?_) (fun i j hi hj => ?_) (fun i j hi hj => ?_)
                · obtain ⟨hi', hm⟩ := hget i hi
                  rw [(mapL_get hm).1]; exact (hrow _ hi').1
                · obtain ⟨hi', hm⟩ := hget i hi
                  have hlt : (off + i) * size + j < cells.size := by
                    rw [hn]
                    have : (off + i + 1) * size ≤ p.cap * size := Nat.mul_le_mul_right _ (by omega)
                    rw [Nat.add_mul] at this; omega
                  simp only [Ghost.cell, hlive, hps]
                  have e3 : off * size + i * size + j = (off + i) * size + j := by rw [Nat.add_mul]
                  rw [e3]
                  simp [hlt]
                · obtain ⟨hi', hm⟩ := hget i hi
                  obtain ⟨f1, f2⟩ := mapL_get hm
                  have hsz := (hrow _ hi').1
                  have hlt : (off + i) * size + j < cells.size := by
                    rw [hn]
                    have : (off + i + 1) * size ≤ p.cap * size := Nat.mul_le_mul_right _ (by omega)
                    rw [Nat.add_mul] at this; omega
                  have := (hrow _ hi').2 j (by omega) hlt
                  have hv' : cells.getD ((off + i) * size + j) undef = cells[(off + i) * size + j] := by simp [hlt]
                  rw [hv']
                  exact ih _ _ _ (f2 j (by omega) hj) this
          · cases hd
        · cases hd
      · cases hd
    · rename_i cs
      split at hd
      · rename_i l hl
        cases hd
        obtain ⟨e1, e2⟩ := mapL_get hl
        cases hr with
        | agg _ vs h1 h2 => exact .agg l vs (by omega) (fun i hi hi' => ih _ _ _ (e2 i (by omega) hi) (h2 i (by omega) hi'))
      · cases hd
    · rename_i cs
      split at hd
      · rename_i l hl
        cases hd
        obtain ⟨e1, e2⟩ := mapL_get hl
        cases hr with
        | tup _ vs h1 h2 => exact .tup l vs (by omega) (fun i hi hi' => ih _ _ _ (e2 i (by omega) hi) (h2 i (by omega) hi'))
      · cases hd
    · cases hd

/-- Contents alone: no number of an object. -/
def AV.pure : Nat → AV → Bool
  | 0, _ => false
  | k + 1, v => match v with
    | .sc _ => true
    | .rs es => es.all fun c => c.all (AV.pure k)
    | .agg cs | .tup cs => cs.all (AV.pure k)
    | _ => false

theorem pure_rep {G G' : Ghost} (hG : ∀ b o, G.imm b = some o → G'.imm b = some o) : ∀ (k : Nat) (v : AV) (u : Value), AV.pure k v = true → Rep G v u → Rep G' v u
  | 0, v, u, hp, _ => by simp [AV.pure] at hp
  | k + 1, v, u, hp, hr => by
    have ih := pure_rep hG k
    have hcell : ∀ {b o : Nat} {v : Value}, G.cell b o = some v → G'.cell b o = some v := fun {b o v} hc => by
      unfold Ghost.cell at *
      cases hb : G.imm b with
      | none => simp [hb] at hc
      | some x => rw [hG b x hb]; simpa [hb] using hc
    unfold AV.pure at hp
    split at hp
    · cases hr; exact .sc _
    · rename_i es
      cases hr with
      | rsNil => exact .rsNil
      | rs _ a cap size val hs hc hlen himm hrep =>
        refine .rs es a cap size val hs hc hlen (fun i j h1 h2 => hcell (himm i j h1 h2)) (fun i j hi hj => ih _ _ ?_ (hrep i j hi hj))
        have := List.all_eq_true.1 hp es[i] (List.getElem_mem hi)
        exact List.all_eq_true.1 this _ (List.getElem_mem hj)
    · rename_i cs
      cases hr with
      | agg _ vs h1 h2 => exact .agg cs vs h1 (fun i hi hi' => ih _ _ (List.all_eq_true.1 hp _ (List.getElem_mem hi)) (h2 i hi hi'))
    · rename_i cs
      cases hr with
      | tup _ vs h1 h2 => exact .tup cs vs h1 (fun i hi hi' => ih _ _ (List.all_eq_true.1 hp _ (List.getElem_mem hi)) (h2 i hi hi'))
    · cases hp

def Store.none : Store := { next := 0, tr := .leaf, low := 0 }

theorem Store.none_objs (id : Nat) : Store.none.objs id = Option.none := Tr.get_leaf id

/-- **A call on contents, told of every store.** -/
theorem pure_call {P : Program} {f : FuncId} {args : List AV} {v c : AV} {σ' : Store} (hp : args.all (AV.pure 100) = true) {k : Nat} (hd : deep σ' k v = some c)
    (hcall : ACallOk P f args Store.none (fun v' σ'' => v' = v ∧ σ'' = σ')) (σ : Store) : ACallOk P f args σ (fun v' σ'' => v' = c ∧ σ'' = σ) := by
  intro G vs w hargs hrel o a Kc Q hK
  let G0 : Ghost := { G with pl := fun _ => Option.none }
  have hargs0 : Reps G0 args vs := ⟨hargs.1, fun i h1 h2 => pure_rep (G := G) (G' := G0) (fun _ _ h => h) 100 _ _ (List.all_eq_true.1 hp _ (List.getElem_mem h1)) (hargs.2 i h1 h2)⟩
  have hrel0 : Rel G0 Store.none w := ⟨hrel.os, hrel.tape, hrel.output, hrel.size, hrel.imm, fun _ _ => rfl, (fun id o h => by rw [Store.none_objs] at h; cases h), (fun i j oi oj pi pj h => by rw [Store.none_objs] at h; cases h)⟩
  refine hcall G0 vs w hargs0 hrel0 o a Kc Q ?_
  rintro u av σ1 G1 w1 ht hr1 hrel1 ⟨rfl, rfl⟩
  have hnolive : ∀ b, ¬ ∃ id0 o0 p0, Store.none.objs id0 = some o0 ∧ G0.pl id0 = some p0 ∧ p0.virt = false ∧ p0.block = b := fun b ⟨id, o0, p0, h, _⟩ => by rw [Store.none_objs] at h; cases h
  have hsame : ∀ b, b < w.heap.size → w1.heap[b]? = w.heap[b]? := fun b hb => ht.fr.same b hb (fun id o p h => by rw [Store.none_objs] at h; cases h)
  let G' : Ghost := G1.frozen σ1 w1 G.pl
  have himm : ∀ b x, G'.imm b = some x → G.imm b = some x ∨ w.heap.size ≤ b := fun b x hx => by
    simp only [G', Ghost.frozen] at hx
    split at hx
    · rename_i hl
      obtain ⟨id, o1, p, h1, h2, h3, rfl⟩ := hl
      right
      rcases Nat.lt_or_ge p.block w.heap.size with h4 | h4
      · exact absurd (ht.fr.live id o1 p h1 h2 h3 h4) (hnolive _)
      · exact h4
    · rcases ht.fr.imm b x hx with h1 | h1 | h1
      · exact .inl h1
      · exact .inr h1
      · exact absurd h1 (hnolive _)
  have hle : G.le G' := ⟨ht.le.w0, fun b x hb => frozen_imm hrel1 (ht.le.imm b x hb), fun _ _ h => h⟩
  have hw0 : G1.w0 = G.w0 := ht.le.w0
  refine hK u c σ G' w1 ⟨hle, fun _ _ h => h, Nat.le_refl _, ⟨ht.fr.size, fun b hb _ => hsame b hb, fun id x p h1 h2 h3 _ => ⟨id, x, p, h1, h2, h3, rfl⟩, fun b x hb => ?_⟩⟩ (deep_ok hrel1 G.pl k _ _ _ hd hr1) ?_ ⟨rfl, rfl⟩
  · rcases himm b x hb with h1 | h1
    · exact .inl h1
    · exact .inr (.inl h1)
  · refine ⟨hrel1.os, hrel1.tape, hrel1.output, hrel1.size, fun b x hb => ?_, hrel.fresh, fun id x hx => ?_, hrel.sep⟩
    · simp only [G', Ghost.frozen] at hb
      split at hb
      · exact hb
      · exact hrel1.imm b x hb
    · obtain ⟨p, hp1, hl⟩ := hrel.objs id x hx
      refine ⟨p, hp1, ?_⟩
      rcases hl with ⟨h1, h2⟩ | ⟨h1, h2, h3, h4⟩
      · exact .inl ⟨h1, h2⟩
      · have hlt := hrel.obj_lt hx hp1 h1
        refine .inr ⟨h1, ?_, by show G1.w0.heap.size ≤ _; rw [hw0]; exact h3, by rw [hsame _ hlt]; exact h4.mono hle⟩
        cases hi : G'.imm p.block with
        | none => rfl
        | some y =>
          rcases himm _ _ hi with h5 | h5
          · rw [h2] at h5; cases h5
          · omega

end Go.Ab
