/- The abstract machine, part 30: values with variables, and what is put in their place. -/
import Derived.Test.YthpjicimlandeaaGreatDoorAbTop
import Derived.Test.YthpjicimlandeaaGreatDoorAbClone2
set_option linter.unusedVariables false
set_option linter.unusedSimpArgs false
namespace Go.Ab
open Go

def rowsOf : AV → List (List AV)
  | .rs es => es
  | _ => []

mutual
def AV.sub (θ : Nat → AV) : AV → AV
  | .any => .any
  | .sc v => .sc v
  | .rs es => .rs (subR θ es)
  | .rp cs => .rp (subL θ cs)
  | .ms id size off len => .ms id size off len
  | .mp id i j => .mp id i j
  | .mm id => .mm id
  | .it id => .it id
  | .fn f a c => .fn f (subL θ a) (subL θ c)
  | .agg cs => .agg (subL θ cs)
  | .tup vs => .tup (subL θ vs)
  | .sy i => θ i
  | .ss id size i => .ms id size 0 (rowsOf (θ i)).length
def subL (θ : Nat → AV) : List AV → List AV
  | [] => []
  | c :: cs => c.sub θ :: subL θ cs
def subR (θ : Nat → AV) : List (List AV) → List (List AV)
  | [] => []
  | c :: cs => subL θ c :: subR θ cs
end

theorem subL_eq (θ : Nat → AV) : ∀ l, subL θ l = l.map (AV.sub θ)
  | [] => by simp [subL]
  | c :: cs => by simp [subL, subL_eq θ cs]
theorem subR_eq (θ : Nat → AV) : ∀ l, subR θ l = l.map (List.map (AV.sub θ))
  | [] => by simp [subR]
  | c :: cs => by simp [subR, subL_eq, subR_eq θ cs]

section
variable (θ : Nat → AV)
@[simp] theorem sub_any : AV.sub θ .any = .any := by simp [AV.sub]
@[simp] theorem sub_sc (v : Value) : AV.sub θ (.sc v) = .sc v := by simp [AV.sub]
@[simp] theorem sub_rs (es : List (List AV)) : AV.sub θ (.rs es) = .rs (es.map (List.map (AV.sub θ))) := by simp [AV.sub, subR_eq]
@[simp] theorem sub_rp (cs : List AV) : AV.sub θ (.rp cs) = .rp (cs.map (AV.sub θ)) := by simp [AV.sub, subL_eq]
@[simp] theorem sub_ms (id size off len : Nat) : AV.sub θ (.ms id size off len) = .ms id size off len := by simp [AV.sub]
@[simp] theorem sub_mp (id i j : Nat) : AV.sub θ (.mp id i j) = .mp id i j := by simp [AV.sub]
@[simp] theorem sub_mm (id : Nat) : AV.sub θ (.mm id) = .mm id := by simp [AV.sub]
@[simp] theorem sub_it (id : Nat) : AV.sub θ (.it id) = .it id := by simp [AV.sub]
@[simp] theorem sub_fn (f : Fn) (a c : List AV) : AV.sub θ (.fn f a c) = .fn f (a.map (AV.sub θ)) (c.map (AV.sub θ)) := by simp [AV.sub, subL_eq]
@[simp] theorem sub_agg (cs : List AV) : AV.sub θ (.agg cs) = .agg (cs.map (AV.sub θ)) := by simp [AV.sub, subL_eq]
@[simp] theorem sub_tup (cs : List AV) : AV.sub θ (.tup cs) = .tup (cs.map (AV.sub θ)) := by simp [AV.sub, subL_eq]
@[simp] theorem sub_sy (i : Nat) : AV.sub θ (.sy i) = θ i := by simp [AV.sub]
@[simp] theorem sub_ss (id size i : Nat) : AV.sub θ (.ss id size i) = .ms id size 0 (rowsOf (θ i)).length := by simp [AV.sub]
end

mutual
/-- Contents alone: no number of an object, no variable. -/
def AV.pur : AV → Bool
  | .sc _ => true
  | .rs es => purR es
  | .agg cs => purL cs
  | .tup cs => purL cs
  | _ => false
def purL : List AV → Bool
  | [] => true
  | c :: cs => c.pur && purL cs
def purR : List (List AV) → Bool
  | [] => true
  | c :: cs => purL c && purR cs
end

theorem purL_eq : ∀ l, purL l = l.all AV.pur
  | [] => by simp [purL]
  | c :: cs => by simp [purL, purL_eq cs]
theorem purR_eq : ∀ l, purR l = l.all (List.all · AV.pur)
  | [] => by simp [purR]
  | c :: cs => by simp [purR, purR_eq cs, purL_eq]
theorem pur_rs {es : List (List AV)} (h : (AV.rs es).pur = true) : ∀ i (h : i < es.length) j (h' : j < es[i].length), (es[i][j]).pur = true := fun i hi j hj => by
  simp only [AV.pur, purR_eq] at h
  exact List.all_eq_true.1 (List.all_eq_true.1 h _ (List.getElem_mem hi)) _ (List.getElem_mem hj)

theorem pur_rep {G G' : Ghost} (hG : ∀ b o, G.imm b = some o → G'.imm b = some o) {v : AV} {u : Value} (hr : Rep G v u) : v.pur = true → Rep G' v u := by
  have hcell : ∀ {b o : Nat} {v : Value}, G.cell b o = some v → G'.cell b o = some v := fun {b o v} hc => by
    unfold Ghost.cell at *
    cases hb : G.imm b with
    | none => simp [hb] at hc
    | some x => rw [hG b x hb]; simpa [hb] using hc
  induction hr with
  | any v => intro h; simp [AV.pur] at h
  | sc v => intro _; exact .sc v
  | rsNil => intro _; exact .rsNil
  | rs es a cap size val hs hc hlen himm _ ih =>
    intro h
    exact .rs es a cap size val hs hc hlen (fun i j h1 h2 => hcell (himm i j h1 h2)) (fun i j hi hj => ih i j hi hj (pur_rs h i hi j hj))
  | rp cs a val hs himm _ ih => intro h; simp [AV.pur] at h
  | ms => intro h; simp [AV.pur] at h
  | msNil => intro h; simp [AV.pur] at h
  | mp => intro h; simp [AV.pur] at h
  | mm => intro h; simp [AV.pur] at h
  | it => intro h; simp [AV.pur] at h
  | fn => intro h; simp [AV.pur] at h
  | agg cs vs h1 _ ih =>
    intro h
    simp only [AV.pur, purL_eq] at h
    exact .agg cs vs h1 (fun i hi hi' => ih i hi hi' (List.all_eq_true.1 h _ (List.getElem_mem hi)))
  | tup cs vs h1 _ ih =>
    intro h
    simp only [AV.pur, purL_eq] at h
    exact .tup cs vs h1 (fun i hi hi' => ih i hi hi' (List.all_eq_true.1 h _ (List.getElem_mem hi)))

/-- What a variable may stand for: one cell of contents. -/
def Fit1 : AV → Prop
  | .sc (.int _ _) => True
  | .sc (.bool _) => True
  | .sc (.string _) => True
  | .rs es => (AV.rs es).pur = true
  | _ => False
def Fit (θ : Nat → AV) : Prop := ∀ i, Fit1 (θ i)

theorem Fit1.cases {v : AV} (h : Fit1 v) : (∃ k n, v = .sc (.int k n)) ∨ (∃ b, v = .sc (.bool b)) ∨ (∃ s, v = .sc (.string s)) ∨ ∃ es, v = .rs es := by
  unfold Fit1 at h
  split at h
  · exact .inl ⟨_, _, rfl⟩
  · exact .inr (.inl ⟨_, rfl⟩)
  · exact .inr (.inr (.inl ⟨_, rfl⟩))
  · exact .inr (.inr (.inr ⟨_, rfl⟩))
  · cases h

theorem Fit1.pur {v : AV} (h : Fit1 v) : v.pur = true := by
  unfold Fit1 at h
  split at h
  · rfl
  · rfl
  · rfl
  · exact h
  · cases h

theorem Fit1.cells {v : AV} (h : Fit1 v) : v.cells = some [v] := by
  rcases h.cases with ⟨k, n, rfl⟩ | ⟨b, rfl⟩ | ⟨s, rfl⟩ | ⟨es, rfl⟩ <;> rfl
theorem Fit1.one {v : AV} (h : Fit1 v) : v.one = true := by
  rcases h.cases with ⟨k, n, rfl⟩ | ⟨b, rfl⟩ | ⟨s, rfl⟩ | ⟨es, rfl⟩ <;> rfl
theorem Fit1.ids0 {v : AV} (h : Fit1 v) : v.ids0 = [] := by
  rcases h.cases with ⟨k, n, rfl⟩ | ⟨b, rfl⟩ | ⟨s, rfl⟩ | ⟨es, rfl⟩ <;> rfl

section
variable {θ : Nat → AV} (hθ : Fit θ)
include hθ

theorem cells_sub {v : AV} {cs : List AV} (h : v.cells = some cs) : (v.sub θ).cells = some (cs.map (AV.sub θ)) := by
  cases v with
  | sy i => simp only [AV.cells, Option.some.injEq] at h; subst h; simpa using (hθ i).cells
  | ss id size i => simp only [AV.cells, Option.some.injEq] at h; subst h; simp [AV.cells]
  | sc v => cases v <;> simp [AV.cells] at h <;> subst h <;> simp [AV.cells]
  | any => simp [AV.cells] at h
  | tup l => simp [AV.cells] at h
  | _ => simp only [AV.cells, Option.some.injEq] at h; subst h; simp [AV.cells]

theorem one_sub {v : AV} (h : v.one = true) : (v.sub θ).one = true := by
  cases v with
  | sy i => simpa using (hθ i).one
  | ss id size i => simp [AV.one]
  | sc v => cases v <;> simp [AV.one] at h <;> simp [AV.one]
  | any => simp [AV.one] at h
  | tup l => simp [AV.one] at h
  | agg l => simp [AV.one] at h
  | _ => simp [AV.one]

end

/-! ### tables, stores, states -/

def Tr.map {α β : Type} (f : α → β) : Tr α → Tr β
  | .leaf => .leaf
  | .node v l r => .node (v.map f) (l.map f) (r.map f)

theorem Tr.map_get {α β : Type} (f : α → β) : ∀ (t : Tr α) (k : Nat), (t.map f).get k = (t.get k).map f
  | .leaf, k => by simp [Tr.map, Tr.get_leaf]
  | .node v l r, k => by
    cases k with
    | zero => simp [Tr.map, Tr.get]
    | succ k =>
      simp only [Tr.map, Tr.get]
      split
      · exact Tr.map_get f l _
      · exact Tr.map_get f r _

theorem Tr.map_setF {α β : Type} (g : α → β) (v : Option α) : ∀ (f k : Nat) (t : Tr α), (Tr.setF v f k t).map g = Tr.setF (v.map g) f k (t.map g)
  | 0, k, t => by cases k <;> cases t <;> simp [Tr.setF, Tr.map]
  | f + 1, 0, t => by cases t <;> simp [Tr.setF, Tr.map]
  | f + 1, k + 1, .leaf => by
    simp only [Tr.setF, Tr.map]
    split <;> simp [Tr.map, Tr.map_setF g v f (k / 2) .leaf]
  | f + 1, k + 1, .node x l r => by
    simp only [Tr.setF, Tr.map]
    split <;> simp [Tr.map, Tr.map_setF g v f (k / 2)]

theorem Tr.map_set {α β : Type} (g : α → β) (t : Tr α) (k : Nat) (v : Option α) : (t.set k v).map g = (t.map g).set k (v.map g) := Tr.map_setF g v k k t

def AObj.sub (θ : Nat → AV) : AObj → AObj
  | .row e s es => .row e s (es.map (List.map (AV.sub θ)))
  | .map agg es c => .map agg (es.map fun e => (e.1, e.2.1.sub θ, e.2.2)) c
  | .siter s p => .siter s p
  | .miter m a b c => .miter m a b c
  | .xrow e s i => .row e s (rowsOf (θ i))

def Store.sub (θ : Nat → AV) (σ : Store) : Store := { next := σ.next, tr := σ.tr.map (AObj.sub θ), low := σ.low }
theorem Store.sub_objs (θ : Nat → AV) (σ : Store) (id : Nat) : (σ.sub θ).objs id = (σ.objs id).map (AObj.sub θ) := Tr.map_get _ _ _
theorem Store.sub_set (θ : Nat → AV) (σ : Store) (id : Nat) (o : AObj) : (σ.set id o).sub θ = (σ.sub θ).set id (o.sub θ) := by
  simp [Store.sub, Store.set, Tr.map_set]
theorem Store.sub_del (θ : Nat → AV) (σ : Store) (id : Nat) : (σ.del id).sub θ = (σ.sub θ).del id := by
  simp [Store.sub, Store.del, Tr.map_set]
@[simp] theorem Store.sub_next (θ : Nat → AV) (σ : Store) : (σ.sub θ).next = σ.next := rfl
@[simp] theorem Store.sub_low (θ : Nat → AV) (σ : Store) : (σ.sub θ).low = σ.low := rfl

def AS.sub (θ : Nat → AV) (s : AS) : AS := { n := s.n, tr := s.tr.map (AV.sub θ), st := s.st.sub θ }
@[simp] theorem AS.sub_n (θ : Nat → AV) (s : AS) : (s.sub θ).n = s.n := rfl
@[simp] theorem AS.sub_st (θ : Nat → AV) (s : AS) : (s.sub θ).st = s.st.sub θ := rfl
theorem AS.sub_get (θ : Nat → AV) (s : AS) (t : Nat) : (s.sub θ).get t = (s.get t).sub θ := by
  simp only [AS.get, AS.sub, Tr.map_get]
  cases s.tr.get t <;> simp
theorem AS.sub_put (θ : Nat → AV) (s : AS) (σ : Store) (d : Option Tmp) (v : AV) : ({ s with st := σ }.put d v).sub θ = ({ s.sub θ with st := σ.sub θ }.put d (v.sub θ)) := by
  cases d <;> simp [AS.put, AS.sub, Tr.map_set]
theorem ofValue_sub (θ : Nat → AV) (v : Value) : (AV.ofValue v).sub θ = AV.ofValue v := by
  cases v <;> simp [AV.ofValue]
theorem AS.sub_eval (θ : Nat → AV) (s : AS) (x : Operand) : (s.sub θ).eval x = (s.eval x).sub θ := by
  cases x with
  | tmp t => exact AS.sub_get θ s t
  | const v => exact (ofValue_sub θ v).symm
  | global g => simp [AS.eval]
  | func f => simp [AS.eval]
theorem AS.sub_evalF (θ : Nat → AV) (s : AS) : (s.sub θ).eval = fun x => (s.eval x).sub θ := funext (AS.sub_eval θ s)

theorem awanted_sub (θ : Nat → AV) {ops : Array Oper} {s : AS} {o : Oper} {b : Bool} (h : awanted ops s o = some b) : awanted ops (s.sub θ) o = some b := by
  unfold awanted at *
  split at h
  · exact h
  · split at h
    · split at h
      · rename_i hlt
        simp only [AS.sub_n, hlt, if_true, AS.sub_get]
        split at h
        · rename_i hb; rw [hb]; simpa using h
        · rename_i hb; rw [hb]; simpa using h
        · cases h
      · cases h
    · cases h

end Go.Ab
