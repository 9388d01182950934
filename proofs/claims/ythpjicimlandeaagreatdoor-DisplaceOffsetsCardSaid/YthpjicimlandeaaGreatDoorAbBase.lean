/- The abstract machine, part 1: abstract values, the abstract store, what it means that a world holds them (plain definitions and their first laws; nothing of a program). -/
import Derived.Calls
import Derived.Below
set_option linter.unusedVariables false
set_option linter.unusedSimpArgs false
namespace Go.Ab

inductive AV where
  | any
  | sc (v : Value)
  | rs (es : List (List AV))
  | rp (cs : List AV)
  | ms (id size off len : Nat)
  | mp (id i j : Nat)
  | mm (id : Nat)
  | it (id : Nat)
  | fn (f : Fn) (first cap : List AV)
  | agg (cs : List AV)
  | tup (vs : List AV)
  | sy (i : Nat)
  | ss (id size i : Nat)

inductive AObj where
  | row (elem : TypeId) (size : Nat) (es : List (List AV))
  | map (agg : Bool) (es : List (List Int × AV × Nat)) (clock : Nat)
  | siter (s : ByteArray) (pos : Nat)
  | miter (m : Option Nat) (since : Nat) (seen : List Nat) (stepped : Nat)
  | xrow (elem : TypeId) (size i : Nat)

structure Pl where
  block : Nat
  size : Nat
  cap : Nat
  virt : Bool := false

structure Ghost where
  w0 : World
  imm : Nat → Option Obj
  pl : Nat → Option Pl

def Ghost.cell (G : Ghost) (b o : Nat) : Option Value :=
  match G.imm b with
  | some (.cells cs _ _) => cs[o]?
  | _ => none

structure Ghost.le (G G' : Ghost) : Prop where
  w0 : G'.w0 = G.w0
  imm : ∀ b o, G.imm b = some o → G'.imm b = some o
  pl : ∀ i p, G.pl i = some p → G'.pl i = some p

theorem Ghost.le.refl (G : Ghost) : G.le G := ⟨rfl, fun _ _ h => h, fun _ _ h => h⟩
theorem Ghost.le.trans {A B C : Ghost} (h : A.le B) (k : B.le C) : A.le C :=
  ⟨k.w0.trans h.w0, fun b o x => k.imm b o (h.imm b o x), fun i p x => k.pl i p (h.pl i p x)⟩

theorem Ghost.le.cell {G G' : Ghost} (h : G.le G') {b o : Nat} {v : Value} (hc : G.cell b o = some v) : G'.cell b o = some v := by
  unfold Ghost.cell at *
  cases hb : G.imm b with
  | none => simp [hb] at hc
  | some x => rw [h.imm b x hb]; simpa [hb] using hc

inductive Rep (G : Ghost) : AV → Value → Prop
  | any (v : Value) : Rep G .any v
  | sc (v : Value) : Rep G (.sc v) v
  | rsNil : Rep G (.rs []) (.slice none 0 0)
  | rs (es : List (List AV)) (a : Addr) (cap size : Nat) (val : Nat → Nat → Value) (hs : cap ≠ 0 → a.spot = none) (hc : es.length ≤ cap)
      (hlen : ∀ i (h : i < es.length), es[i].length = size)
      (himm : ∀ i j, i < es.length → j < size → G.cell a.block (a.off + i * size + j) = some (val i j))
      (hrep : ∀ i j (hi : i < es.length) (hj : j < es[i].length), Rep G (es[i][j]) (val i j)) : Rep G (.rs es) (.slice (some a) es.length cap)
  | rp (cs : List AV) (a : Addr) (val : Nat → Value) (hs : a.spot = none)
      (himm : ∀ j, j < cs.length → G.cell a.block (a.off + j) = some (val j))
      (hrep : ∀ j (hj : j < cs.length), Rep G (cs[j]) (val j)) : Rep G (.rp cs) (.pointer (some a))
  | ms (id size off len : Nat) (p : Pl) (hp : G.pl id = some p) (hv : p.virt = false) (hz : p.size = size) (a : Addr) (c : Nat) (ha : c ≠ 0 → a = ⟨p.block, off * p.size, none⟩) (hoff : off + c = p.cap) (hl : len ≤ c) (hsp : a.spot = none) :
      Rep G (.ms id size off len) (.slice (some a) len c)
  | msNil (id size : Nat) (p : Pl) (hp : G.pl id = some p) (hv : p.virt = true) : Rep G (.ms id size 0 0) (.slice none 0 0)
  | mp (id i j : Nat) (p : Pl) (hp : G.pl id = some p) : Rep G (.mp id i j) (.pointer (some ⟨p.block, i * p.size + j, none⟩))
  | mm (id : Nat) (p : Pl) (hp : G.pl id = some p) : Rep G (.mm id) (.map (some p.block))
  | it (id : Nat) (p : Pl) (hp : G.pl id = some p) : Rep G (.it id) (.pointer (some ⟨p.block, 0, none⟩))
  | fn (f : Fn) (first cap : List AV) (fv cv : List Value) (h1 : fv.length = first.length) (h2 : cv.length = cap.length)
      (hf : ∀ i (h : i < first.length) (h' : i < fv.length), Rep G first[i] fv[i]) (hc : ∀ i (h : i < cap.length) (h' : i < cv.length), Rep G cap[i] cv[i]) :
      Rep G (.fn f first cap) (.func f fv.toArray cv.toArray)
  | agg (cs : List AV) (vs : List Value) (h1 : vs.length = cs.length) (h : ∀ i (h : i < cs.length) (h' : i < vs.length), Rep G cs[i] vs[i]) : Rep G (.agg cs) (.agg vs.toArray)
  | tup (cs : List AV) (vs : List Value) (h1 : vs.length = cs.length) (h : ∀ i (h : i < cs.length) (h' : i < vs.length), Rep G cs[i] vs[i]) : Rep G (.tup cs) (.tuple vs.toArray)

/-- Elementwise. -/
def Reps (G : Ghost) (cs : List AV) (vs : List Value) : Prop := vs.length = cs.length ∧ ∀ i (h : i < cs.length) (h' : i < vs.length), Rep G cs[i] vs[i]

theorem Reps.nil (G : Ghost) : Reps G [] [] := ⟨rfl, fun i h => by simp at h⟩
theorem Reps.cons {G : Ghost} {c : AV} {v : Value} {cs : List AV} {vs : List Value} (h : Rep G c v) (hs : Reps G cs vs) : Reps G (c :: cs) (v :: vs) := by
  refine ⟨by simp [hs.1], fun i h1 h2 => ?_⟩
  cases i with
  | zero => exact h
  | succ i => exact hs.2 i (by simpa using h1) (by simpa using h2)
theorem Reps.nil_inv {G : Ghost} {vs : List Value} (h : Reps G [] vs) : vs = [] := by have := h.1; simpa using this
theorem Reps.cons_inv {G : Ghost} {c : AV} {cs : List AV} {vs : List Value} (h : Reps G (c :: cs) vs) : ∃ v vs', vs = v :: vs' ∧ Rep G c v ∧ Reps G cs vs' := by
  cases vs with
  | nil => have := h.1; simp at this
  | cons v vs =>
    refine ⟨v, vs, rfl, h.2 0 (by simp) (by simp), by have := h.1; simpa using this, fun i h1 h2 => ?_⟩
    have := h.2 (i + 1) (by simpa using h1) (by simpa using h2)
    simpa using this
theorem Reps.append {G : Ghost} {cs ds : List AV} {vs us : List Value} (h : Reps G cs vs) (k : Reps G ds us) : Reps G (cs ++ ds) (vs ++ us) := by
  induction cs generalizing vs with
  | nil => rw [h.nil_inv]; simpa using k
  | cons c cs ih => obtain ⟨v, vs', rfl, h1, h2⟩ := h.cons_inv; exact (ih h2).cons h1
theorem Reps.get {G : Ghost} {cs : List AV} {vs : List Value} (h : Reps G cs vs) {i : Nat} {c : AV} (hi : cs[i]? = some c) : ∃ v, vs[i]? = some v ∧ Rep G c v := by
  obtain ⟨h0, rfl⟩ := List.getElem?_eq_some_iff.1 hi
  exact ⟨vs[i]'(by rw [h.1]; exact h0), List.getElem?_eq_getElem _, h.2 i h0 (by rw [h.1]; exact h0)⟩
theorem Reps.drop {G : Ghost} {cs : List AV} {vs : List Value} (h : Reps G cs vs) (n : Nat) : Reps G (cs.drop n) (vs.drop n) := by
  refine ⟨by simp [h.1], fun i h1 h2 => ?_⟩
  have := h.2 (n + i) (by simp at h1; omega) (by simp at h2; omega)
  simpa using this
theorem Reps.take {G : Ghost} {cs : List AV} {vs : List Value} (h : Reps G cs vs) (n : Nat) : Reps G (cs.take n) (vs.take n) := by
  refine ⟨by simp [h.1], fun i h1 h2 => ?_⟩
  have := h.2 i (by simp at h1; omega) (by simp at h2; omega)
  simpa using this
theorem Reps.set {G : Ghost} {cs : List AV} {vs : List Value} (h : Reps G cs vs) (n : Nat) {c : AV} {v : Value} (hv : Rep G c v) : Reps G (cs.set n c) (vs.set n v) := by
  refine ⟨by simp [h.1], fun i h1 h2 => ?_⟩
  simp only [List.getElem_set]
  split
  · exact hv
  · exact h.2 i (by simpa using h1) (by simpa using h2)

theorem Rep.mono {G G' : Ghost} (hG : G.le G') {c : AV} {v : Value} (h : Rep G c v) : Rep G' c v := by
  induction h with
  | any v => exact .any v
  | sc v => exact .sc v
  | rsNil => exact .rsNil
  | rs es a cap size val hs hc hlen himm _ ih => exact .rs es a cap size val hs hc hlen (fun i j h1 h2 => hG.cell (himm i j h1 h2)) ih
  | rp cs a val hs himm _ ih => exact .rp cs a val hs (fun j h => hG.cell (himm j h)) ih
  | ms id size off len p hp hv hz a c ha ho hl hsp => exact .ms id size off len p (hG.pl _ _ hp) hv hz a c ha ho hl hsp
  | msNil id size p hp hv => exact .msNil id size p (hG.pl _ _ hp) hv
  | mp id i j p hp => exact .mp id i j p (hG.pl _ _ hp)
  | mm id p hp => exact .mm id p (hG.pl _ _ hp)
  | it id p hp => exact .it id p (hG.pl _ _ hp)
  | fn f first cap fv cv h1 h2 _ _ ih1 ih2 => exact .fn f first cap fv cv h1 h2 ih1 ih2
  | agg cs vs h1 _ ih => exact .agg cs vs h1 ih
  | tup cs vs h1 _ ih => exact .tup cs vs h1 ih

theorem Reps.mono {G G' : Ghost} (hG : G.le G') {cs : List AV} {vs : List Value} (h : Reps G cs vs) : Reps G' cs vs := ⟨h.1, fun i h1 h2 => (h.2 i h1 h2).mono hG⟩

/-- A table by numbers, as a tree: it serves a run in the kernel. -/
inductive Tr (α : Type) where
  | leaf
  | node (v : Option α) (l r : Tr α)

def Tr.get {α : Type} : Tr α → Nat → Option α
  | .leaf, _ => none
  | .node v _ _, 0 => v
  | .node _ l r, k + 1 => match k % 2 with
    | 0 => l.get (k / 2)
    | _ => r.get (k / 2)

def Tr.setF {α : Type} (v : Option α) : Nat → Nat → Tr α → Tr α
  | _, 0, .leaf => .node v .leaf .leaf
  | _, 0, .node _ l r => .node v l r
  | 0, _ + 1, t => t
  | f + 1, k + 1, .leaf => match k % 2 with
    | 0 => .node none (setF v f (k / 2) .leaf) .leaf
    | _ => .node none .leaf (setF v f (k / 2) .leaf)
  | f + 1, k + 1, .node x l r => match k % 2 with
    | 0 => .node x (setF v f (k / 2) l) r
    | _ => .node x l (setF v f (k / 2) r)

def Tr.set {α : Type} (t : Tr α) (k : Nat) (v : Option α) : Tr α := Tr.setF v k k t

theorem Tr.get_leaf {α : Type} (i : Nat) : (Tr.leaf : Tr α).get i = none := by cases i <;> rfl

theorem Tr.get_setF {α : Type} (v : Option α) : ∀ (f k : Nat) (t : Tr α) (i : Nat), k ≤ f → (Tr.setF v f k t).get i = if i = k then v else t.get i
  | f, 0, .leaf, i, _ => by
    cases i with
    | zero => cases f <;> rfl
    | succ i =>
      have : (Tr.setF v f 0 (.leaf : Tr α)) = .node v .leaf .leaf := by cases f <;> rfl
      rw [this, if_neg (by omega)]
      simp only [Tr.get]
      split <;> simp [Tr.get_leaf]
  | f, 0, .node x l r, i, _ => by
    have : (Tr.setF v f 0 (.node x l r)) = .node v l r := by cases f <;> rfl
    rw [this]
    cases i with
    | zero => rfl
    | succ i => rw [if_neg (by omega)]; rfl
  | 0, k + 1, t, i, h => by omega
  | f + 1, k + 1, .leaf, i, h => by
    cases i with
    | zero =>
      rw [if_neg (by omega)]
      simp only [Tr.setF]
      split <;> rfl
    | succ i =>
      simp only [Tr.setF]
      have hk : k / 2 ≤ f := by omega
      split
      · rename_i e1
        simp only [Tr.get]
        split
        · rename_i e2
          rw [Tr.get_setF v f (k / 2) .leaf (i / 2) hk]
          by_cases e : i = k
          · subst e; simp
          · rw [if_neg (by omega), if_neg (by omega)]; simp [Tr.get_leaf]
        · rename_i e2
          replace e2 : ¬ i % 2 = 0 := e2
          rw [if_neg (by omega)]
      · rename_i e1
        replace e1 : ¬ k % 2 = 0 := e1
        simp only [Tr.get]
        split
        · rename_i e2
          rw [if_neg (by omega)]
        · rename_i e2
          replace e2 : ¬ i % 2 = 0 := e2
          rw [Tr.get_setF v f (k / 2) .leaf (i / 2) hk]
          by_cases e : i = k
          · subst e; simp
          · rw [if_neg (by omega), if_neg (by omega)]; simp [Tr.get_leaf]
  | f + 1, k + 1, .node x l r, i, h => by
    cases i with
    | zero =>
      rw [if_neg (by omega)]
      simp only [Tr.setF]
      split <;> rfl
    | succ i =>
      simp only [Tr.setF]
      have hk : k / 2 ≤ f := by omega
      split
      · rename_i e1
        simp only [Tr.get]
        split
        · rename_i e2
          rw [Tr.get_setF v f (k / 2) l (i / 2) hk]
          by_cases e : i = k
          · subst e; simp
          · rw [if_neg (by omega), if_neg (by omega)]
        · rename_i e2
          replace e2 : ¬ i % 2 = 0 := e2
          rw [if_neg (by omega)]
      · rename_i e1
        replace e1 : ¬ k % 2 = 0 := e1
        simp only [Tr.get]
        split
        · rename_i e2
          rw [if_neg (by omega)]
        · rename_i e2
          replace e2 : ¬ i % 2 = 0 := e2
          rw [Tr.get_setF v f (k / 2) r (i / 2) hk]
          by_cases e : i = k
          · subst e; simp
          · rw [if_neg (by omega), if_neg (by omega)]

theorem Tr.get_set {α : Type} (t : Tr α) (k : Nat) (v : Option α) (i : Nat) : (t.set k v).get i = if i = k then v else t.get i := Tr.get_setF v k k t i (Nat.le_refl _)

structure Store where
  next : Nat
  tr : Tr AObj
  low : Nat := 0

def Store.objs (σ : Store) (i : Nat) : Option AObj := σ.tr.get i

/-- A map's key: an int, or a struct or an array of ints. -/
def keyVal (agg : Bool) (l : List Int) : Value :=
  if agg then .agg (l.map (Value.int .i64)).toArray else .int .i64 (l.headD 0)

/-- What a block holds, for an abstract object. -/
def ObjOk (G : Ghost) (p : Pl) : AObj → Option Obj → Prop
  | .row elem size es, ho => ∃ cs : Array Value, ho = some (.cells cs elem (0, 0)) ∧ p.size = size ∧ cs.size = p.cap * size ∧ es.length ≤ p.cap ∧
      ∀ i (h : i < es.length), es[i].length = size ∧ ∀ j (hj : j < es[i].length) (h' : i * size + j < cs.size), Rep G es[i][j] cs[i * size + j]
  | .map agg es clock, ho => ∃ ents : Array MapEntry, ho = some (.map ents clock) ∧ ents.size = es.length ∧
      ∀ i (h : i < es.length) (h' : i < ents.size), ents[i].key = keyVal agg es[i].1 ∧ Rep G es[i].2.1 ents[i].val ∧ ents[i].born = es[i].2.2
  | .siter s pos, ho => ho = some (.stringIter s pos)
  | .xrow _ _ _, _ => False
  | .miter m since seen stepped, ho => ∃ m', ho = some (.mapIter m' since seen.toArray stepped) ∧
      (match m with | none => m' = none | some id => ∃ p, G.pl id = some p ∧ m' = some p.block)

theorem ObjOk.mono {G G' : Ghost} (hG : G.le G') {p : Pl} {o : AObj} {ho : Option Obj} (h : ObjOk G p o ho) : ObjOk G' p o ho := by
  cases o with
  | row elem size es =>
    obtain ⟨cs, h1, h2, h3, h4, h5⟩ := h
    exact ⟨cs, h1, h2, h3, h4, fun i hi => ⟨(h5 i hi).1, fun j hj h' => ((h5 i hi).2 j hj h').mono hG⟩⟩
  | map agg es clock =>
    obtain ⟨ents, h1, h2, h3⟩ := h
    exact ⟨ents, h1, h2, fun i hi h' => ⟨(h3 i hi h').1, (h3 i hi h').2.1.mono hG, (h3 i hi h').2.2⟩⟩
  | siter s pos => exact h
  | xrow e s i => exact h
  | miter m since seen stepped =>
    obtain ⟨m', h1, h2⟩ := h
    refine ⟨m', h1, ?_⟩
    cases m with
    | none => exact h2
    | some id => obtain ⟨p, hp, e⟩ := h2; exact ⟨p, hG.pl _ _ hp, e⟩

theorem ObjOk.isSome {G : Ghost} {p : Pl} {o : AObj} {ho : Option Obj} (h : ObjOk G p o ho) : ho.isSome = true := by
  cases o with
  | row elem size es => obtain ⟨cs, h1, _⟩ := h; simp [h1]
  | map agg es clock => obtain ⟨ents, h1, _⟩ := h; simp [h1]
  | siter s pos => simp only [ObjOk] at h; simp [h]
  | xrow e s i => exact h.elim
  | miter m since seen stepped => obtain ⟨m', h1, _⟩ := h; simp [h1]

/-- An object lies at its place; an empty row may lie nowhere (a nil slice). -/
def Lies (G : Ghost) (w : World) (p : Pl) (o : AObj) : Prop :=
  (p.virt = true ∧ ∃ e s, o = .row e s []) ∨ (p.virt = false ∧ G.imm p.block = none ∧ G.w0.heap.size ≤ p.block ∧ ObjOk G p o w.heap[p.block]?)

structure Rel (G : Ghost) (σ : Store) (w : World) : Prop where
  os : w.os = G.w0.os
  tape : w.tape = G.w0.tape
  output : w.output = G.w0.output
  size : G.w0.heap.size ≤ w.heap.size
  imm : ∀ b o, G.imm b = some o → w.heap[b]? = some o
  fresh : ∀ id, σ.next ≤ id → G.pl id = none
  objs : ∀ id o, σ.objs id = some o → ∃ p, G.pl id = some p ∧ Lies G w p o
  sep : ∀ i j oi oj pi pj, σ.objs i = some oi → σ.objs j = some oj → G.pl i = some pi → G.pl j = some pj → pi.virt = false → pj.virt = false → pi.block = pj.block → i = j

theorem Rel.lt {G : Ghost} {σ : Store} {w : World} (h : Rel G σ w) {b : Nat} {o : Obj} (hb : G.imm b = some o) : b < w.heap.size := by
  have := h.imm b o hb
  rcases Nat.lt_or_ge b w.heap.size with h' | h'
  · exact h'
  · rw [Array.getElem?_eq_none h'] at this; cases this

theorem Rel.lies {G : Ghost} {σ : Store} {w : World} (h : Rel G σ w) {id : Nat} {o : AObj} {p : Pl} (ho : σ.objs id = some o) (hp : G.pl id = some p) : Lies G w p o := by
  obtain ⟨p', hp', hl⟩ := h.objs id o ho
  rw [hp] at hp'; cases hp'
  exact hl

theorem Rel.real {G : Ghost} {σ : Store} {w : World} (h : Rel G σ w) {id : Nat} {o : AObj} {p : Pl} (ho : σ.objs id = some o) (hp : G.pl id = some p) (hv : p.virt = false) :
    G.imm p.block = none ∧ G.w0.heap.size ≤ p.block ∧ ObjOk G p o w.heap[p.block]? := by
  rcases h.lies ho hp with ⟨h1, _⟩ | ⟨_, h2⟩
  · rw [hv] at h1; cases h1
  · exact h2

theorem Rel.obj_lt {G : Ghost} {σ : Store} {w : World} (h : Rel G σ w) {id : Nat} {o : AObj} {p : Pl} (ho : σ.objs id = some o) (hp : G.pl id = some p) (hv : p.virt = false) : p.block < w.heap.size := by
  have := (h.real ho hp hv).2.2.isSome
  rcases Nat.lt_or_ge p.block w.heap.size with h' | h'
  · exact h'
  · rw [Array.getElem?_eq_none h'] at this; cases this

theorem Rel.id_lt {G : Ghost} {σ : Store} {w : World} (h : Rel G σ w) {id : Nat} {p : Pl} (hp : G.pl id = some p) : id < σ.next := by
  rcases Nat.lt_or_ge id σ.next with h' | h'
  · exact h'
  · rw [h.fresh id h'] at hp; cases hp

/-- A cell of immutable memory. -/
theorem Rel.cell {G : Ghost} {σ : Store} {w : World} (h : Rel G σ w) {b o : Nat} {v : Value} (hc : G.cell b o = some v) : w.cell? ⟨b, o, none⟩ = some v := by
  unfold Ghost.cell at hc
  cases hb : G.imm b with
  | none => simp [hb] at hc
  | some x =>
    have := h.imm b x hb
    simp only [hb] at hc
    cases x <;> simp at hc
    simp [World.cell?, this, hc]

/-- The world moves on, its heap stays (a draw). -/
theorem Rel.drawn {G : Ghost} {σ : Store} {w : World} (h : Rel G σ w) (n : Nat) : Rel G σ { w with drawn := n } :=
  ⟨h.os, h.tape, h.output, h.size, h.imm, h.fresh, h.objs, h.sep⟩

/-- Fewer objects. -/
theorem Rel.less {G : Ghost} {σ σ' : Store} {w : World} (h : Rel G σ w) (hn : σ'.next = σ.next) (hf : ∀ i o, σ'.objs i = some o → σ.objs i = some o) : Rel G σ' w :=
  ⟨h.os, h.tape, h.output, h.size, h.imm, by rw [hn]; exact h.fresh, fun id o ho => h.objs id o (hf _ _ ho), fun i j oi oj pi pj h1 h2 => h.sep i j oi oj pi pj (hf _ _ h1) (hf _ _ h2)⟩

/-- More numbers reserved. -/
theorem Rel.next {G : Ghost} {σ : Store} {w : World} (h : Rel G σ w) {n : Nat} (hn : σ.next ≤ n) : Rel G { σ with next := n } w :=
  ⟨h.os, h.tape, h.output, h.size, h.imm, fun id hid => h.fresh id (Nat.le_trans hn hid), h.objs, h.sep⟩

def Ghost.place (G : Ghost) (id : Nat) (p : Pl) : Ghost := { G with pl := fun i => if i = id then some p else G.pl i }
theorem Ghost.place_le {G : Ghost} {id : Nat} {p : Pl} (h : G.pl id = none) : G.le (G.place id p) :=
  ⟨rfl, fun _ _ h => h, fun i q hq => by
    simp only [Ghost.place]
    split
    · rename_i e; subst e; rw [h] at hq; cases hq
    · exact hq⟩
theorem Ghost.place_same (G : Ghost) (id : Nat) (p : Pl) : (G.place id p).pl id = some p := by simp [Ghost.place]

def Store.set (σ : Store) (id : Nat) (o : AObj) : Store := { σ with tr := σ.tr.set id (some o), low := min σ.low id }
def Store.del (σ : Store) (id : Nat) : Store := { σ with tr := σ.tr.set id none, low := min σ.low id }
theorem Store.objs_set (σ : Store) (id : Nat) (o : AObj) (i : Nat) : (σ.set id o).objs i = if i = id then some o else σ.objs i := Tr.get_set _ _ _ _
theorem Store.objs_del (σ : Store) (id : Nat) (i : Nat) : (σ.del id).objs i = if i = id then none else σ.objs i := Tr.get_set _ _ _ _
@[simp] theorem Store.set_next (σ : Store) (id : Nat) (o : AObj) : (σ.set id o).next = σ.next := rfl
@[simp] theorem Store.del_next (σ : Store) (id : Nat) : (σ.del id).next = σ.next := rfl

/-- What a step may have turned: the blocks of the objects that were there, and new ones. -/
structure Fr (G : Ghost) (σ : Store) (w : World) (G' : Ghost) (σ' : Store) (w' : World) : Prop where
  size : w.heap.size ≤ w'.heap.size
  same : ∀ b, b < w.heap.size → (∀ id o p, σ.objs id = some o → G.pl id = some p → p.virt = false → p.block ≠ b) → w'.heap[b]? = w.heap[b]?
  live : ∀ id o p, σ'.objs id = some o → G'.pl id = some p → p.virt = false → p.block < w.heap.size → ∃ id0 o0 p0, σ.objs id0 = some o0 ∧ G.pl id0 = some p0 ∧ p0.virt = false ∧ p0.block = p.block
  imm : ∀ b o, G'.imm b = some o → G.imm b = some o ∨ w.heap.size ≤ b ∨ ∃ id0 o0 p0, σ.objs id0 = some o0 ∧ G.pl id0 = some p0 ∧ p0.virt = false ∧ p0.block = b

theorem Fr.refl (G : Ghost) (σ : Store) (w : World) : Fr G σ w G σ w :=
  ⟨Nat.le_refl _, fun _ _ _ => rfl, fun id o p h1 h2 h3 _ => ⟨id, o, p, h1, h2, h3, rfl⟩, fun _ _ h => .inl h⟩

theorem Fr.trans {G1 G2 G3 : Ghost} {σ1 σ2 σ3 : Store} {w1 w2 w3 : World} (h : Fr G1 σ1 w1 G2 σ2 w2) (k : Fr G2 σ2 w2 G3 σ3 w3) : Fr G1 σ1 w1 G3 σ3 w3 := by
  refine ⟨Nat.le_trans h.size k.size, fun b hb hn => ?_, fun id o p h1 h2 h3 h4 => ?_, fun b o hb => ?_⟩
  · have hs := h.size
    rw [k.same b (by omega) (fun id o p q1 q2 q3 q4 => ?_), h.same b hb hn]
    obtain ⟨id0, o0, p0, r1, r2, r3, r4⟩ := h.live id o p q1 q2 q3 (by omega)
    exact hn id0 o0 p0 r1 r2 r3 (by omega)
  · have hs := h.size
    obtain ⟨id0, o0, p0, r1, r2, r3, r4⟩ := k.live id o p h1 h2 h3 (by omega)
    obtain ⟨id1, o1, p1, t1, t2, t3, t4⟩ := h.live id0 o0 p0 r1 r2 r3 (by omega)
    exact ⟨id1, o1, p1, t1, t2, t3, by omega⟩
  · have hs := h.size
    rcases k.imm b o hb with h1 | h1 | ⟨id0, o0, p0, r1, r2, r3, r4⟩
    · exact h.imm b o h1
    · exact .inr (.inl (by omega))
    · rcases Nat.lt_or_ge b w1.heap.size with hlt | hge
      · obtain ⟨id1, o1, p1, t1, t2, t3, t4⟩ := h.live id0 o0 p0 r1 r2 r3 (by omega)
        exact .inr (.inr ⟨id1, o1, p1, t1, t2, t3, by omega⟩)
      · exact .inr (.inl hge)

/-- The numbers alone turn, or objects fall away. -/
theorem Fr.less {G : Ghost} {σ σ' : Store} {w : World} (hf : ∀ i o, σ'.objs i = some o → σ.objs i = some o) : Fr G σ w G σ' w :=
  ⟨Nat.le_refl _, fun _ _ _ => rfl, fun id o p h1 h2 h3 _ => ⟨id, o, p, hf _ _ h1, h2, h3, rfl⟩, fun _ _ h => .inl h⟩

theorem Fr.drawn (G : Ghost) (σ : Store) (w : World) (n : Nat) : Fr G σ w G σ { w with drawn := n } :=
  ⟨Nat.le_refl _, fun _ _ _ => rfl, fun id o p h1 h2 h3 _ => ⟨id, o, p, h1, h2, h3, rfl⟩, fun _ _ h => .inl h⟩

theorem Fr.push {G : Ghost} {σ : Store} {w : World} (obj : Obj) (id : Nat) (hid : G.pl id = none) (p : Pl) (hp : p.virt = false → p.block = w.heap.size) (o : AObj) (n : Nat) :
    Fr G σ w (G.place id p) (σ.set id o) { w with drawn := n, heap := w.heap.push obj } := by
  refine ⟨by simp, fun b hb _ => ?_, fun i x q h1 h2 h3 h4 => ?_, fun _ _ h => .inl h⟩
  · show (w.heap.push obj)[b]? = _
    rw [Array.getElem?_push, if_neg (by omega)]
  · by_cases e : i = id
    · subst e
      rw [Ghost.place_same] at h2; cases h2
      have := hp h3; omega
    · exact ⟨i, x, q, by simpa [Store.objs_set, e] using h1, by simpa [Ghost.place, e] using h2, h3, rfl⟩

theorem Fr.virt {G : Ghost} {σ : Store} {w : World} (id : Nat) (p : Pl) (hp : p.virt = true) (o : AObj) : Fr G σ w (G.place id p) (σ.set id o) w := by
  refine ⟨Nat.le_refl _, fun _ _ _ => rfl, fun i x q h1 h2 h3 h4 => ?_, fun _ _ h => .inl h⟩
  by_cases e : i = id
  · subst e
    rw [Ghost.place_same] at h2; cases h2
    rw [hp] at h3; cases h3
  · exact ⟨i, x, q, by simpa [Store.objs_set, e] using h1, by simpa [Ghost.place, e] using h2, h3, rfl⟩

theorem Fr.write {G : Ghost} {σ : Store} {w : World} {id : Nat} {o o' : AObj} {p : Pl} (ho : σ.objs id = some o) (hp : G.pl id = some p) (hv : p.virt = false) (w' : World) (hsize : w'.heap.size = w.heap.size)
    (hoth : ∀ k, k ≠ p.block → w'.heap[k]? = w.heap[k]?) : Fr G σ w G (σ.set id o') w' := by
  refine ⟨by omega, fun b hb hn => hoth b (fun e => hn id o p ho hp hv e.symm), fun i x q h1 h2 h3 h4 => ?_, fun _ _ h => .inl h⟩
  by_cases e : i = id
  · subst e
    exact ⟨i, o, q, ho, h2, h3, rfl⟩
  · exact ⟨i, x, q, by simpa [Store.objs_set, e] using h1, h2, h3, rfl⟩

theorem Fr.move {G : Ghost} {σ : Store} {w : World} {id id' : Nat} {o o' : AObj} {p : Pl} (ho : σ.objs id = some o) (hp : G.pl id = some p) : Fr G σ w (G.place id' p) ((σ.del id).set id' o') w := by
  refine ⟨Nat.le_refl _, fun _ _ _ => rfl, fun i x q h1 h2 h3 h4 => ?_, fun _ _ h => .inl h⟩
  by_cases e : i = id'
  · subst e
    rw [Ghost.place_same] at h2; cases h2
    exact ⟨id, o, p, ho, hp, h3, rfl⟩
  · rw [Store.objs_set, if_neg e, Store.objs_del] at h1
    split at h1
    · cases h1
    · exact ⟨i, x, q, h1, by simpa [Ghost.place, e] using h2, h3, rfl⟩

/-- A new block, a new object in it: its number is any that is not taken. -/
theorem Rel.push {G : Ghost} {σ : Store} {w : World} (h : Rel G σ w) (obj : Obj) (id : Nat) (hid : G.pl id = none) (hlt : id < σ.next) (p : Pl) (hp : p.block = w.heap.size) (hv : p.virt = false) (o : AObj)
    (hok : ObjOk (G.place id p) p o (some obj)) : Rel (G.place id p) (σ.set id o) { w with heap := w.heap.push obj } := by
  have hle : G.le (G.place id p) := Ghost.place_le hid
  have old : ∀ k, k < w.heap.size → (w.heap.push obj)[k]? = w.heap[k]? := fun k hk => by rw [Array.getElem?_push, if_neg (by omega)]
  have hne : ∀ i q, i ≠ id → (G.place id p).pl i = some q → G.pl i = some q := fun i q hi hq => by simpa [Ghost.place, hi] using hq
  refine ⟨h.os, h.tape, h.output, Nat.le_trans h.size (by simp), fun b x hb => ?_, fun i hi => ?_, fun i x hx => ?_, fun i j oi oj pi pj h1 h2 h3 h4 v1 v2 h5 => ?_⟩
  · show (w.heap.push obj)[b]? = _
    rw [old b (h.lt hb)]; exact h.imm b x hb
  · have : i ≠ id := by simp at hi; omega
    simp only [Ghost.place, this, if_false]; exact h.fresh i hi
  · by_cases e : i = id
    · subst e
      simp [Store.objs_set] at hx; subst hx
      refine ⟨p, Ghost.place_same _ _ _, .inr ⟨hv, ?_, by rw [hp]; exact h.size, ?_⟩⟩
      · show G.imm p.block = none
        cases hb : G.imm p.block with
        | none => rfl
        | some y => have := h.lt hb; omega
      · show ObjOk _ p o (w.heap.push obj)[p.block]?
        rw [hp, Array.getElem?_push, if_pos rfl]; exact hok
    · simp [Store.objs_set, e] at hx
      obtain ⟨q, hq, hl⟩ := h.objs i x hx
      refine ⟨q, hle.pl _ _ hq, ?_⟩
      rcases hl with hl | ⟨hv', hi1, hi2, hi3⟩
      · exact .inl hl
      · refine .inr ⟨hv', hi1, hi2, ?_⟩
        show ObjOk _ q x (w.heap.push obj)[q.block]?
        rw [old _ (h.obj_lt hx hq hv')]; exact hi3.mono hle
  · have aux : ∀ i x q, i ≠ id → (σ.set id o).objs i = some x → (G.place id p).pl i = some q → q.virt = false → σ.objs i = some x ∧ G.pl i = some q ∧ q.block < w.heap.size := fun i x q hi hx hq hv => by
      have h1 : σ.objs i = some x := by simpa [Store.objs_set, hi] using hx
      have h2 := hne i q hi hq
      exact ⟨h1, h2, h.obj_lt h1 h2 hv⟩
    by_cases e1 : i = id <;> by_cases e2 : j = id
    · rw [e1, e2]
    · subst e1
      rw [Ghost.place_same] at h3; cases h3
      have := (aux j oj pj e2 h2 h4 v2).2.2; omega
    · subst e2
      rw [Ghost.place_same] at h4; cases h4
      have := (aux i oi pi e1 h1 h3 v1).2.2; omega
    · have a1 := aux i oi pi e1 h1 h3 v1
      have a2 := aux j oj pj e2 h2 h4 v2
      exact h.sep i j oi oj pi pj a1.1 a2.1 a1.2.1 a2.2.1 v1 v2 h5

/-- A new empty row that lies nowhere. -/
theorem Rel.virt {G : Ghost} {σ : Store} {w : World} (h : Rel G σ w) (id : Nat) (hid : G.pl id = none) (hlt : id < σ.next) (p : Pl) (hv : p.virt = true) (e : TypeId) (s : Nat) :
    Rel (G.place id p) (σ.set id (.row e s [])) w := by
  have hle : G.le (G.place id p) := Ghost.place_le hid
  have hne : ∀ i q, i ≠ id → (G.place id p).pl i = some q → G.pl i = some q := fun i q hi hq => by simpa [Ghost.place, hi] using hq
  refine ⟨h.os, h.tape, h.output, h.size, h.imm, fun i hi => ?_, fun i x hx => ?_, fun i j oi oj pi pj h1 h2 h3 h4 v1 v2 h5 => ?_⟩
  · have : i ≠ id := by simp at hi; omega
    simp only [Ghost.place, this, if_false]; exact h.fresh i hi
  · by_cases e' : i = id
    · subst e'
      simp [Store.objs_set] at hx; subst hx
      exact ⟨p, Ghost.place_same _ _ _, .inl ⟨hv, e, s, rfl⟩⟩
    · simp [Store.objs_set, e'] at hx
      obtain ⟨q, hq, hl⟩ := h.objs i x hx
      refine ⟨q, hle.pl _ _ hq, ?_⟩
      rcases hl with hl | ⟨hv', hi1, hi2, hi3⟩
      · exact .inl hl
      · exact .inr ⟨hv', hi1, hi2, hi3.mono hle⟩
  · have n1 : i ≠ id := fun e => by subst e; rw [Ghost.place_same] at h3; cases h3; rw [hv] at v1; cases v1
    have n2 : j ≠ id := fun e => by subst e; rw [Ghost.place_same] at h4; cases h4; rw [hv] at v2; cases v2
    exact h.sep i j oi oj pi pj (by simpa [Store.objs_set, n1] using h1) (by simpa [Store.objs_set, n2] using h2) (hne _ _ n1 h3) (hne _ _ n2 h4) v1 v2 h5

/-- A block of a live object gets another content. -/
theorem Rel.write {G : Ghost} {σ : Store} {w : World} (h : Rel G σ w) {id : Nat} {o o' : AObj} {p : Pl} (ho : σ.objs id = some o) (hp : G.pl id = some p) (hv : p.virt = false) (obj : Obj) (w' : World)
    (hos : w'.os = w.os) (htape : w'.tape = w.tape) (hout : w'.output = w.output) (hsize : w'.heap.size = w.heap.size)
    (hoth : ∀ k, k ≠ p.block → w'.heap[k]? = w.heap[k]?) (hnew : w'.heap[p.block]? = some obj) (hok : ObjOk G p o' (some obj)) : Rel G (σ.set id o') w' := by
  obtain ⟨him, hw0, _⟩ := h.real ho hp hv
  refine ⟨hos.trans h.os, htape.trans h.tape, hout.trans h.output, by rw [hsize]; exact h.size, fun b x hb => ?_, h.fresh, fun i x hx => ?_, fun i j oi oj pi pj h1 h2 h3 h4 v1 v2 h5 => ?_⟩
  · rw [hoth b (fun e => by rw [e, him] at hb; cases hb)]; exact h.imm b x hb
  · by_cases e : i = id
    · subst e
      simp [Store.objs_set] at hx; subst hx
      exact ⟨p, hp, .inr ⟨hv, him, hw0, by rw [hnew]; exact hok⟩⟩
    · simp [Store.objs_set, e] at hx
      obtain ⟨q, hq, hl⟩ := h.objs i x hx
      refine ⟨q, hq, ?_⟩
      rcases hl with hl | ⟨hv', hi1, hi2, hi3⟩
      · exact .inl hl
      · refine .inr ⟨hv', hi1, hi2, ?_⟩
        rw [hoth q.block (fun e' => e (h.sep i id x o q p hx ho hq hp hv' hv e'))]; exact hi3
  · have aux : ∀ i x, (σ.set id o').objs i = some x → ∃ y, σ.objs i = some y := fun i x hx => by
      by_cases e : i = id
      · exact ⟨o, by rw [e]; exact ho⟩
      · exact ⟨x, by simpa [Store.objs_set, e] using hx⟩
    obtain ⟨y1, a1⟩ := aux i oi h1
    obtain ⟨y2, a2⟩ := aux j oj h2
    exact h.sep i j y1 y2 pi pj a1 a2 h3 h4 v1 v2 h5

/-- The object moves to a new number, its place stays (append in place; a nil slice that stays nil). -/
theorem Rel.move {G : Ghost} {σ : Store} {w : World} (h : Rel G σ w) {id id' : Nat} {o : AObj} {p : Pl} (ho : σ.objs id = some o) (hp : G.pl id = some p) (hid : G.pl id' = none) (hlt : id' < σ.next) :
    Rel (G.place id' p) ((σ.del id).set id' o) w := by
  have hle : G.le (G.place id' p) := Ghost.place_le hid
  have hne : id ≠ id' := fun e => by rw [e, hid] at hp; cases hp
  have back : ∀ i x, i ≠ id' → ((σ.del id).set id' o).objs i = some x → i ≠ id ∧ σ.objs i = some x := fun i x hi hx => by
    simp only [Store.objs_set, hi, if_false, Store.objs_del] at hx
    split at hx
    · cases hx
    · rename_i e; exact ⟨e, hx⟩
  have hpl : ∀ i q, i ≠ id' → (G.place id' p).pl i = some q → G.pl i = some q := fun i q hi hq => by simpa [Ghost.place, hi] using hq
  have lift : ∀ q x, Lies G w q x → Lies (G.place id' p) w q x := fun q x hl => by
    rcases hl with hl | ⟨hv', hi1, hi2, hi3⟩
    · exact .inl hl
    · exact .inr ⟨hv', hi1, hi2, hi3.mono hle⟩
  refine ⟨h.os, h.tape, h.output, h.size, h.imm, fun i hi => ?_, fun i x hx => ?_, fun i j oi oj pi pj h1 h2 h3 h4 v1 v2 h5 => ?_⟩
  · have : i ≠ id' := by simp at hi; omega
    simp only [Ghost.place, this, if_false]; exact h.fresh i hi
  · by_cases e : i = id'
    · subst e
      simp [Store.objs_set] at hx; subst hx
      exact ⟨p, Ghost.place_same _ _ _, lift _ _ (h.lies ho hp)⟩
    · obtain ⟨_, hx'⟩ := back i x e hx
      obtain ⟨q, hq, hl⟩ := h.objs i x hx'
      exact ⟨q, hle.pl _ _ hq, lift _ _ hl⟩
  · by_cases e1 : i = id' <;> by_cases e2 : j = id'
    · rw [e1, e2]
    · obtain ⟨b1, b2⟩ := back j oj e2 h2
      subst e1
      rw [Ghost.place_same] at h3; cases h3
      exact absurd (h.sep j id oj o pj p b2 ho (hpl j pj e2 h4) hp v2 v1 h5.symm) b1
    · obtain ⟨b1, b2⟩ := back i oi e1 h1
      subst e2
      rw [Ghost.place_same] at h4; cases h4
      exact absurd (h.sep i id oi o pi p b2 ho (hpl i pi e1 h3) hp v1 v2 h5) b1
    · obtain ⟨_, b1⟩ := back i oi e1 h1
      obtain ⟨_, b2⟩ := back j oj e2 h2
      exact h.sep i j oi oj pi pj b1 b2 (hpl i pi e1 h3) (hpl j pj e2 h4) v1 v2 h5

end Go.Ab
