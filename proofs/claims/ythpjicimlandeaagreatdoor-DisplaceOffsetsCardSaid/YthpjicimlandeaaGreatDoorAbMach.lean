/- The abstract machine, part 10: one operation. -/
import Derived.Test.YthpjicimlandeaaGreatDoorAbMap
set_option linter.unusedVariables false
set_option linter.unusedSimpArgs false
namespace Go.Ab
open Go

/-- Of an operation that ends in a value or in nothing. -/
def ORes (G : Ghost) (σ : Store) (w : World) (σ' : Store) (id : Nat) (v : AV) (r : Result Next) : Prop :=
  ∃ G' u w', G.le G' ∧ (∀ i, i ≠ id → G.pl i = none → G'.pl i = none) ∧ (r = .ok (.value u) w' ∨ (r = .ok .skip w' ∧ u = undef)) ∧ Rep G' v u ∧ Rel G' σ' w' ∧ Fr G σ w G' σ' w'

theorem ORes.of {P : Program} {G : Ghost} {σ σ' : Store} {id : Nat} {v : AV} {s : Sem Value} {w : World} (h : VRes G σ w σ' id v (s.run P w)) : ORes G σ w σ' id v ((do pure (Next.value (← s)) : Sem Next).run P w) := by
  obtain ⟨G', u, w', h1, h2, h3, h4, h5⟩ := h
  exact ⟨G', u, w', h1, h2, .inl (by simp [h3]), h4, h5⟩

theorem ORes.unit {P : Program} {G : Ghost} {σ σ' : Store} {id : Nat} {s : Sem Unit} {w w' : World} (hs : s.run P w = .ok () w') (h : Rel G σ' w' ∧ Fr G σ w G σ' w') : ORes G σ w σ' id (.sc undef) ((do s; pure Next.skip : Sem Next).run P w) :=
  ⟨G, undef, w', .refl G, fun _ _ h => h, .inr ⟨by simp [hs], rfl⟩, .sc _, h⟩

theorem ORes.same {G : Ghost} {σ : Store} {id : Nat} {v : AV} {u : Value} {w : World} (hr : Rep G v u) (h : Rel G σ w) : ORes G σ w σ id v (.ok (.value u) w) :=
  ⟨G, u, w, .refl G, fun _ _ h => h, .inl rfl, hr, h, .refl _ _ _⟩

/-! ### len, max, min -/

def aLen (T : Tab) (σ : Store) (t : TypeId) (x : AV) : Option AV :=
  match T t with
  | some ti => match ti.und, x with
    | .slice _, .ms _ _ _ len => some (.sc (goInt len))
    | .slice _, .rs es => some (.sc (goInt es.length))
    | .slice _, .sc (.slice none 0 0) => some (.sc (goInt 0))
    | .string, .sc (.string s) => some (.sc (goInt s.size))
    | .array n _, _ => some (.sc (goInt n))
    | .map _ _, .mm id => match σ.objs id with
      | some (.map _ es _) => some (.sc (goInt es.length))
      | _ => none
    | _, _ => none
  | none => none

theorem aLen_ok {P : Program} {T : Tab} (hT : TabOk P T) {G : Ghost} {σ : Store} {w : World} (h : Rel G σ w) {t ty : TypeId} {id : Nat} {x v : AV} {u : Value} (hx : Rep G x u) (ha : aLen T σ t x = some v) :
    VRes G σ w σ id v ((Builtin.len_ #[t] ty #[u]).run P w) := by
  unfold aLen at ha
  split at ha
  · rename_i ti ht
    have hund := run_und hT ht w
    have go : ∀ n : Int, (Builtin.len_ #[t] ty #[u]).run P w = .ok (goInt n) w → VRes G σ w σ id (.sc (goInt n)) ((Builtin.len_ #[t] ty #[u]).run P w) := fun n hn => by rw [hn]; exact VRes.same (.sc _) h
    split at ha
    · rename_i e i sz o len hu
      cases ha; rw [hu] at hund
      apply go
      cases hx <;> simp [Builtin.len_, hund]
    · rename_i e es hu
      cases ha; rw [hu] at hund
      apply go
      cases hx <;> simp [Builtin.len_, hund]
    · rename_i e hu
      cases ha; rw [hu] at hund
      apply go
      cases hx; simp [Builtin.len_, hund]
    · rename_i s hu
      cases ha; rw [hu] at hund
      apply go
      cases hx; simp [Builtin.len_, hund]
    · rename_i n e _ hu
      cases ha; rw [hu] at hund
      apply go
      simp [Builtin.len_, hund]
    · rename_i k e id' hu
      split at ha
      · rename_i agg es clock ho
        cases ha; rw [hu] at hund
        apply go
        cases hx with
        | mm _ p hp =>
        have hv : p.virt = false := by
          rcases h.lies ho hp with ⟨_, _, _, e2⟩ | ⟨e2, _⟩
          · cases e2
          · exact e2
        obtain ⟨_, _, hobj⟩ := h.real ho hp hv
        obtain ⟨xs, hb, hents⟩ := ents_of_obj hobj
        have hget : (getObj p.block).run P w = .ok (.map xs.toArray clock) w := by simp [getObj, Sem.run, hb]
        simp [Builtin.len_, hund, hget, hents.length]
      · cases ha
    · cases ha
  · cases ha

def aMaxGo (k : IntKind) : Int → List AV → Option Value
  | a, [] => some (.int k a)
  | a, .sc (.int _ b) :: rest => aMaxGo k (if b > a then b else a) rest
  | _, _ => none

def aMinGo (k : IntKind) : Int → List AV → Option Value
  | a, [] => some (.int k a)
  | a, .sc (.int _ b) :: rest => aMinGo k (if b < a then b else a) rest
  | _, _ => none

def aMax : List AV → Option Value
  | .sc (.int k a) :: rest => aMaxGo k a rest
  | _ => none

def aMin : List AV → Option Value
  | .sc (.int k a) :: rest => aMinGo k a rest
  | _ => none

theorem aMaxGo_ok {P : Program} {G : Ghost} {w : World} (k : IntKind) : ∀ (l : List AV) (vs : List Value) (a : Int) (v : Value), Reps G l vs → aMaxGo k a l = some v → (vs.foldlM Builtin.max2 (.int k a) : Sem Value).run P w = .ok v w
  | [], vs, a, v, h, ha => by rw [h.nil_inv]; simp [aMaxGo] at ha; subst ha; simp
  | c :: l, vs, a, v, h, ha => by
    obtain ⟨x, vs', rfl, h1, h2⟩ := h.cons_inv
    unfold aMaxGo at ha
    split at ha
    · rename_i e; cases e
    · rename_i k' b rest e
      cases e
      cases h1
      have := aMaxGo_ok (P := P) (w := w) k l vs' _ v h2 ha
      simp only [List.foldlM_cons, Sem.run_bind, Builtin.max2, Sem.run_pure, Result.andThen_ok]
      exact this
    · cases ha

theorem aMinGo_ok {P : Program} {G : Ghost} {w : World} (k : IntKind) : ∀ (l : List AV) (vs : List Value) (a : Int) (v : Value), Reps G l vs → aMinGo k a l = some v → (vs.foldlM Builtin.min2 (.int k a) : Sem Value).run P w = .ok v w
  | [], vs, a, v, h, ha => by rw [h.nil_inv]; simp [aMinGo] at ha; subst ha; simp
  | c :: l, vs, a, v, h, ha => by
    obtain ⟨x, vs', rfl, h1, h2⟩ := h.cons_inv
    unfold aMinGo at ha
    split at ha
    · rename_i e; cases e
    · rename_i k' b rest e
      cases e
      cases h1
      have := aMinGo_ok (P := P) (w := w) k l vs' _ v h2 ha
      simp only [List.foldlM_cons, Sem.run_bind, Builtin.min2, Sem.run_pure, Result.andThen_ok]
      exact this
    · cases ha

theorem aMax_ok {P : Program} {G : Ghost} {w : World} {l : List AV} {vs : List Value} {v : Value} {at_ : Array TypeId} {ty : TypeId} (h : Reps G l vs) (ha : aMax l = some v) : (Builtin.max_ at_ ty vs.toArray).run P w = .ok v w := by
  unfold aMax at ha
  split at ha
  · obtain ⟨x, vs', rfl, h1, h2⟩ := h.cons_inv
    cases h1
    exact aMaxGo_ok _ _ _ _ _ h2 ha
  · cases ha

theorem aMin_ok {P : Program} {G : Ghost} {w : World} {l : List AV} {vs : List Value} {v : Value} {at_ : Array TypeId} {ty : TypeId} (h : Reps G l vs) (ha : aMin l = some v) : (Builtin.min_ at_ ty vs.toArray).run P w = .ok v w := by
  unfold aMin at ha
  split at ha
  · obtain ⟨x, vs', rfl, h1, h2⟩ := h.cons_inv
    cases h1
    exact aMinGo_ok _ _ _ _ _ h2 ha
  · cases ha

/-! ### one operation -/

def aBuiltin (T : Tab) (σ : Store) (id : Nat) (b : Builtin) (ts : Array TypeId) (args : List AV) : Option (AV × Store) :=
  match b, ts.toList, args with
  | .len, [t], [x] => match aLen T σ t x with
    | some v => some (v, σ)
    | none => none
  | .append, [s, x], [a, c] => aAppend2 T σ id s x a c
  | .cap, [t], [x] => match aCap T t x with
    | some v => some (v, σ)
    | none => none
  | .max, _, l => match aMax l with
    | some v => some (.sc v, σ)
    | none => none
  | .min, _, l => match aMin l with
    | some v => some (.sc v, σ)
    | none => none
  | _, _, _ => none

def aop (T : Tab) (ρ : Operand → AV) (σ : Store) (id : Nat) (op : Op) : Option (AV × Store) :=
  match op with
  | .move x | .assign x => some (ρ x, σ)
  | .pick c a b => match ρ c with
    | .sc (.bool t) => some (if t then ρ a else ρ b, σ)
    | _ => none
  | .alloc t => aAlloc T σ id t
  | .box t x => aBox σ id t (ρ x)
  | .build t ps => match aBuild T t (ps.toList.map fun (i, x) => (i, ρ x)) with
    | some v => some (v, σ)
    | none => none
  | .buildSlice t len ps => aBuildSlice T σ id t len (ps.toList.map fun (i, x) => (i, ρ x))
  | .load t x => match aLoad T σ t (ρ x) with
    | some v => some (v, σ)
    | none => none
  | .store t a x => match aStore T σ t (ρ a) (ρ x) with
    | some σ' => some (.sc undef, σ')
    | none => none
  | .nilCheck x => match ρ x with
    | .mp i j k => some (.mp i j k, σ)
    | .rp cs => some (.rp cs, σ)
    | .fn (.func f) a b => some (.fn (.func f) a b, σ)
    | _ => none
  | .binOp o t x y _ => match aBin T o t (ρ x) (ρ y) with
    | some v => some (v, σ)
    | none => none
  | .unOp o _ x => match aUn o (ρ x) with
    | some v => some (v, σ)
    | none => none
  | .convert s d x => match aConv T s d (ρ x) with
    | some v => some (v, σ)
    | none => none
  | .makeFunc f a c => some (.fn f (a.toList.map ρ) (c.toList.map ρ), σ)
  | .makeMap _ none => some (.mm id, σ.set id (.map false [] 0))
  | .slice t x lo hi mx => match aSlice T t (ρ x) (lo.map ρ) (hi.map ρ) (mx.map ρ) with
    | some v => some (v, σ)
    | none => none
  | .fieldAddr t x f => match aFieldAddr T t (ρ x) f with
    | some v => some (v, σ)
    | none => none
  | .field t x f => match aField T t (ρ x) f with
    | some v => some (v, σ)
    | none => none
  | .indexAddr t x i => match aIndexAddr T t (ρ x) (ρ i) with
    | some v => some (v, σ)
    | none => none
  | .index t x i => match aIndex T t (ρ x) (ρ i) with
    | some v => some (v, σ)
    | none => none
  | .lookup t x i ok => match aLookup T σ t (ρ x) (ρ i) ok with
    | some v => some (v, σ)
    | none => none
  | .mapUpdate t m k x | .insert t m k x => match aMapUpdate T σ t (ρ m) (ρ k) (ρ x) with
    | some σ' => some (.sc undef, σ')
    | none => none
  | .extract x i => match aExtract (ρ x) i with
    | some v => some (v, σ)
    | none => none
  | .call { callee := .builtin b, args, argTypes } => aBuiltin T σ id b argTypes (args.toList.map ρ)
  | _ => none

theorem Reps.map {G : Ghost} {ρ : Operand → AV} {ev : Operand → Value} (hρ : ∀ x, Rep G (ρ x) (ev x)) : ∀ l : List Operand, Reps G (l.map ρ) (l.map ev)
  | [] => .nil G
  | x :: l => .cons (hρ x) (Reps.map hρ l)

theorem Reps.map2 {G : Ghost} {ρ : Operand → AV} {ev : Operand → Value} (hρ : ∀ x, Rep G (ρ x) (ev x)) (l : List (Nat × Operand)) :
    (l.map fun (i, x) => (i, ρ x)).map (·.1) = (l.map fun (i, x) => (i, ev x)).map (·.1) ∧ Reps G ((l.map fun (i, x) => (i, ρ x)).map (·.2)) ((l.map fun (i, x) => (i, ev x)).map (·.2)) := by
  refine ⟨by simp, ?_⟩
  induction l with
  | nil => exact .nil G
  | cons a l ih => exact .cons (hρ a.2) ih

theorem RepO.map {G : Ghost} {ρ : Operand → AV} {ev : Operand → Value} (hρ : ∀ x, Rep G (ρ x) (ev x)) (o : Option Operand) : RepO G (o.map ρ) (o.map ev) := by
  cases o with
  | none => trivial
  | some x => exact hρ x

theorem aop_ok {P : Program} {T : Tab} (hT : TabOk P T) {G : Ghost} {σ σ' : Store} {w : World} (h : Rel G σ w) {ρ : Operand → AV} {ev : Operand → Value} (hρ : ∀ x, Rep G (ρ x) (ev x)) {id : Nat} (hid : G.pl id = none) (hlt : id < σ.next)
    {o : Oper} {v : AV} (ha : aop T ρ σ id o.op = some (v, σ')) : ORes G σ w σ' id v ((execOp ev o).run P w) := by
  cases hop : o.op with
  | move x =>
    rw [hop] at ha
    cases ha
    simp only [execOp, hop, Sem.run_pure]
    exact ORes.same (hρ x) h
  | assign x =>
    rw [hop] at ha
    cases ha
    simp only [execOp, hop, Sem.run_pure]
    exact ORes.same (hρ x) h
  | pick c a b =>
    rw [hop] at ha
    simp only [aop] at ha
    split at ha
    · rename_i t hc
      cases ha
      have := hρ c
      rw [hc] at this
      generalize hev : ev c = u at this
      cases this
      simp only [execOp, hop, hev, Sem.run_bind, asBool, Sem.run_pure, Result.andThen_ok]
      refine ORes.same ?_ h
      cases t <;> simp <;> exact hρ _
    · cases ha
  | alloc t =>
    rw [hop] at ha
    simp only [aop] at ha
    simp only [execOp, hop]
    exact ORes.of (aAlloc_ok hT h hid hlt ha)
  | box t x =>
    rw [hop] at ha
    simp only [aop] at ha
    simp only [execOp, hop]
    exact ORes.of (aBox_ok h (hρ x) hid hlt ha)
  | build t ps =>
    rw [hop] at ha
    simp only [aop] at ha
    split at ha
    · rename_i v' hv
      cases ha
      simp only [execOp, hop]
      obtain ⟨h1, h2⟩ := Reps.map2 hρ ps.toList
      have := aBuild_ok (P := P) (id := id) hT h h1 h2 hv
      refine ORes.of ?_
      have e : (ps.toList.map fun (x : Nat × Operand) => (x.1, ev x.2)).toArray = ps.map fun x => (x.1, ev x.2) := by
        apply Array.ext'; simp
      rw [e] at this
      exact this
    · cases ha
  | buildSlice t len ps =>
    rw [hop] at ha
    simp only [aop] at ha
    simp only [execOp, hop]
    obtain ⟨h1, h2⟩ := Reps.map2 hρ ps.toList
    have := aBuildSlice_ok (P := P) hT h h1 h2 hid hlt ha
    refine ORes.of ?_
    have e : (ps.toList.map fun (x : Nat × Operand) => (x.1, ev x.2)).toArray = ps.map fun x => (x.1, ev x.2) := by
      apply Array.ext'; simp
    rw [e] at this
    exact this
  | load t x =>
    rw [hop] at ha
    simp only [aop] at ha
    split at ha
    · rename_i v' hv
      cases ha
      simp only [execOp, hop]
      exact ORes.of (aLoad_ok hT h (hρ x) hv)
    · cases ha
  | store t a x =>
    rw [hop] at ha
    simp only [aop] at ha
    split at ha
    · rename_i σ1 hv
      cases ha
      simp only [execOp, hop]
      obtain ⟨w', h1, h2⟩ := aStore_ok (P := P) hT h (hρ a) (hρ x) hv
      exact ORes.unit h1 h2
    · cases ha
  | nilCheck x =>
    rw [hop] at ha
    simp only [aop] at ha
    have hx := hρ x
    simp only [execOp, hop]
    split at ha
    · rename_i i j k e
      cases ha
      rw [e] at hx
      generalize ev x = u at hx
      have hx' := hx
      cases hx
      exact ORes.same hx' h
    · rename_i cs e
      cases ha
      rw [e] at hx
      generalize ev x = u at hx
      have hx' := hx
      cases hx
      exact ORes.same hx' h
    · rename_i f a b e
      cases ha
      rw [e] at hx
      generalize ev x = u at hx
      have hx' := hx
      cases hx
      exact ORes.same hx' h
    · cases ha
  | binOp b t x y yt =>
    rw [hop] at ha
    simp only [aop] at ha
    split at ha
    · rename_i v' hv
      cases ha
      simp only [execOp, hop]
      exact ORes.of (aBin_ok hT h (hρ x) (hρ y) hv)
    · cases ha
  | unOp b t x =>
    rw [hop] at ha
    simp only [aop] at ha
    split at ha
    · rename_i v' hv
      cases ha
      simp only [execOp, hop]
      exact ORes.of (aUn_ok h (hρ x) hv)
    · cases ha
  | convert s d x =>
    rw [hop] at ha
    simp only [aop] at ha
    split at ha
    · rename_i v' hv
      cases ha
      simp only [execOp, hop]
      exact ORes.of (aConv_ok hT h (hρ x) hv)
    · cases ha
  | makeFunc f a c =>
    rw [hop] at ha
    cases ha
    simp only [execOp, hop]
    refine ORes.of ?_
    simp only [Instr.makeFunc, Sem.run_pure]
    refine VRes.same ?_ h
    have h1 := Reps.map hρ a.toList
    have h2 := Reps.map hρ c.toList
    have := Rep.fn (G := G) f _ _ _ _ h1.1 h2.1 h1.2 h2.2
    have e : ∀ l : Array Operand, (l.toList.map ev).toArray = l.map ev := fun l => by apply Array.ext'; simp
    rw [e, e] at this
    exact this
  | makeMap t r =>
    rw [hop] at ha
    cases r with
    | some r => simp [aop] at ha
    | none =>
      cases ha
      simp only [execOp, hop]
      refine ORes.of ?_
      simp only [Instr.makeMap, Sem.run_bind, run_newObj, Result.andThen_ok, Sem.run_pure, Option.map_none]
      let p : Pl := { block := w.heap.size, size := 1, cap := 1 }
      have hr := h.push (.map #[] 0) id hid hlt p rfl rfl (.map false [] 0) ⟨#[], rfl, rfl, fun i hi => by simp at hi⟩
      exact VRes.place (p := p) hid (.mm id p (Ghost.place_same _ _ _)) hr (Fr.push _ id hid p (fun _ => rfl) _ w.drawn)
  | slice t x lo hi mx =>
    rw [hop] at ha
    simp only [aop] at ha
    split at ha
    · rename_i v' hv
      cases ha
      simp only [execOp, hop]
      exact ORes.of (aSlice_ok hT h (hρ x) (RepO.map hρ lo) (RepO.map hρ hi) (RepO.map hρ mx) hv)
    · cases ha
  | fieldAddr t x f =>
    rw [hop] at ha
    simp only [aop] at ha
    split at ha
    · rename_i v' hv
      cases ha
      simp only [execOp, hop]
      exact ORes.of (aFieldAddr_ok hT h (hρ x) hv)
    · cases ha
  | field t x f =>
    rw [hop] at ha
    simp only [aop] at ha
    split at ha
    · rename_i v' hv
      cases ha
      simp only [execOp, hop]
      exact ORes.of (aField_ok hT h (hρ x) hv)
    · cases ha
  | indexAddr t x i =>
    rw [hop] at ha
    simp only [aop] at ha
    split at ha
    · rename_i v' hv
      cases ha
      simp only [execOp, hop]
      exact ORes.of (aIndexAddr_ok hT h (hρ x) (hρ i) hv)
    · cases ha
  | index t x i =>
    rw [hop] at ha
    simp only [aop] at ha
    split at ha
    · rename_i v' hv
      cases ha
      simp only [execOp, hop]
      exact ORes.of (aIndex_ok hT h (hρ x) (hρ i) hv)
    · cases ha
  | lookup t x i ok =>
    rw [hop] at ha
    simp only [aop] at ha
    split at ha
    · rename_i v' hv
      cases ha
      simp only [execOp, hop]
      exact ORes.of (aLookup_ok hT h (hρ x) (hρ i) hv)
    · cases ha
  | mapUpdate t m k x =>
    rw [hop] at ha
    simp only [aop] at ha
    split at ha
    · rename_i σ1 hv
      cases ha
      simp only [execOp, hop]
      obtain ⟨w', h1, h2⟩ := aMapUpdate_ok (P := P) hT h (hρ m) (hρ k) (hρ x) hv
      exact ORes.unit h1 h2
    · cases ha
  | insert t m k x =>
    rw [hop] at ha
    simp only [aop] at ha
    split at ha
    · rename_i σ1 hv
      cases ha
      simp only [execOp, hop]
      obtain ⟨w', h1, h2⟩ := aMapUpdate_ok (P := P) hT h (hρ m) (hρ k) (hρ x) hv
      exact ORes.unit h1 h2
    · cases ha
  | extract x i =>
    rw [hop] at ha
    simp only [aop] at ha
    split at ha
    · rename_i v' hv
      cases ha
      simp only [execOp, hop]
      exact ORes.of (aExtract_ok h (hρ x) hv)
    · cases ha
  | call c =>
    rw [hop] at ha
    obtain ⟨callee, args, ts⟩ := c
    cases callee with
    | value f => simp [aop] at ha
    | invoke r m => simp [aop] at ha
    | builtin b =>
      simp only [aop] at ha
      have hargs := Reps.map hρ args.toList
      have eargs : (args.toList.map ev).toArray = args.map ev := by apply Array.ext'; simp
      simp only [execOp, hop, resolve, Sem.run_bind, Sem.run_pure, Result.andThen_ok, invoke]
      unfold aBuiltin at ha
      split at ha
      · rename_i t x hts hl
        split at ha
        · rename_i v' hv
          cases ha
          have hts' : ts = #[t] := by apply Array.ext'; simpa using hts
          rw [hl] at hargs
          obtain ⟨u, us, e1, h1, h2⟩ := hargs.cons_inv
          rw [h2.nil_inv] at e1
          rw [← eargs, e1, hts']
          exact ORes.of (aLen_ok hT h h1 hv)
        · cases ha
      · rename_i s x a c hts hl
        have hts' : ts = #[s, x] := by apply Array.ext'; simpa using hts
        rw [hl] at hargs
        obtain ⟨u, us, e1, h1, h2⟩ := hargs.cons_inv
        obtain ⟨y, ys, e2, h3, h4⟩ := h2.cons_inv
        rw [h4.nil_inv] at e2
        rw [← eargs, e1, e2, hts']
        exact ORes.of (aAppend2_ok hT h h1 h3 hid hlt ha)
      · rename_i t x hts hl
        split at ha
        · rename_i v' hv
          cases ha
          have hts' : ts = #[t] := by apply Array.ext'; simpa using hts
          rw [hl] at hargs
          obtain ⟨u, us, e1, h1, h2⟩ := hargs.cons_inv
          rw [h2.nil_inv] at e1
          rw [← eargs, e1, hts']
          exact ORes.of (aCap_ok hT h h1 hv)
        · cases ha
      · split at ha
        · rename_i v' hv
          cases ha
          rw [← eargs]
          refine ORes.of ?_
          rw [aMax_ok hargs hv]
          exact VRes.same (.sc _) h
        · cases ha
      · split at ha
        · rename_i v' hv
          cases ha
          rw [← eargs]
          refine ORes.of ?_
          rw [aMin_ok hargs hv]
          exact VRes.same (.sc _) h
        · cases ha
      · cases ha
  | _ => rw [hop] at ha; simp [aop] at ha

end Go.Ab
