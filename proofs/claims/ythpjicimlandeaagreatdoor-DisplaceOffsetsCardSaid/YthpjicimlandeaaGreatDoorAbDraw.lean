/- The abstract machine, part 15: one operation of a region that draws its order: what it sees, what it turns. -/
import Derived.Test.YthpjicimlandeaaGreatDoorAbFold
set_option linter.unusedVariables false
set_option linter.unusedSimpArgs false
namespace Go.Ab
open Go

def evalF (tm : Nat → AV) : Operand → AV
  | .tmp t => tm t
  | .const v => .ofValue v
  | .global g => .sc (.pointer (some ⟨g, 0, none⟩))
  | .func f => .fn (.func f) [] []

theorem AS.eval_eq (s : AS) (x : Operand) : s.eval x = evalF s.get x := by cases x <;> rfl

structure RelT (G : Ghost) (n : Nat) (tm : Nat → AV) (σ : Store) (a : Act) (w : World) : Prop where
  defers : a.defers = []
  size : a.tmps.size = n
  tmps : ∀ t, Rep G (tm t) (a.tmps.getD t undef)
  rel : Rel G σ w

theorem RelT.eval {G : Ghost} {n : Nat} {tm : Nat → AV} {σ : Store} {a : Act} {w : World} (h : RelT G n tm σ a w) (x : Operand) : Rep G (evalF tm x) (a.eval x) := by
  cases x with
  | tmp t => exact h.tmps t
  | const v => exact Rep.ofValue G v
  | global g => exact .sc _
  | func f => exact .fn _ [] [] [] [] rfl rfl (fun i h => by simp at h) (fun i h => by simp at h)

/-- A temporary turned. -/
def uTmp (d : Option Tmp) (v : AV) : Nat → Option AV := fun t => if d = some t then some v else none

theorem RelT.put {G G' : Ghost} {n : Nat} {tm : Nat → AV} {σ σ' : Store} {a : Act} {w w' : World} (h : RelT G n tm σ a w) (hG : G.le G') (hr : Rel G' σ' w') {v : AV} {u : Value} (hv : Rep G' v u) {d : Option Tmp} (hd : dstOk n d = true) :
    RelT G' n (fun t => (uTmp d v t).getD (tm t)) σ' (a.put d u) w' := by
  cases d with
  | none => exact ⟨h.defers, h.size, fun t => (h.tmps t).mono hG, hr⟩
  | some d =>
    refine ⟨h.defers, by simp [Act.put, h.size], fun t => ?_, hr⟩
    simp only [dstOk, decide_eq_true_eq] at hd
    simp only [Act.put, uTmp]
    by_cases e : d = t
    · subst e
      simp [h.size, hd]; exact hv
    · have : (a.tmps.setIfInBounds d u).getD t undef = a.tmps.getD t undef := by
        simp [Array.getElem?_setIfInBounds, e]
      rw [this]
      simp [e]; simpa using (h.tmps t).mono hG

def awantedF (ops : Array Oper) (n : Nat) (tm : Nat → AV) (o : Oper) : Option Bool :=
  match o.guard with
  | none => some true
  | some (j, want) => match (ops[j]?).bind (·.dst) with
    | some d => if d < n then
        match tm d with
        | .sc (.bool b) => some (b == want)
        | .sc (.tuple _) => some false
        | _ => none
      else none
    | none => none

theorem awanted_eq (ops : Array Oper) (s : AS) (o : Oper) : awanted ops s o = awantedF ops s.n s.get o := rfl

theorem awantedF_congr {ops : Array Oper} {n : Nat} {tm tm' : Nat → AV} {o : Oper} (h : ∀ t ∈ o.looksAt ops, tm t = tm' t) : awantedF ops n tm o = awantedF ops n tm' o := by
  unfold awantedF
  cases hg : o.guard with
  | none => rfl
  | some q =>
    obtain ⟨j, want⟩ := q
    simp only []
    cases hd : (ops[j]?).bind (·.dst) with
    | none => rfl
    | some d =>
      have := h d (by unfold Oper.looksAt; rw [hg]; simp [hd])
      simp only [this]

theorem awantedF_ok {ops : Array Oper} {n : Nat} {tm : Nat → AV} {o : Oper} {b : Bool} {G : Ghost} {σ : Store} {a : Act} {w : World} (h : RelT G n tm σ a w) (ha : awantedF ops n tm o = some b) : Region.wanted o (yielded ops a.tmps) = b := by
  unfold awantedF at ha
  unfold Region.wanted
  split at ha
  · rename_i hg; cases ha; simp [hg]
  · rename_i j want hg
    simp only [hg]
    split at ha
    · rename_i d hd
      split at ha
      · rename_i hlt
        have ht := h.tmps d
        have hget : a.tmps[d]? = some (a.tmps.getD d undef) := by simp [h.size, hlt]
        simp only [yielded, hd, Option.bind_some, hget]
        split at ha
        · rename_i b' hb
          cases ha
          rw [hb] at ht
          generalize a.tmps.getD d undef = u at ht
          cases ht
          cases b' <;> cases want <;> rfl
        · rename_i hb
          cases ha
          rw [hb] at ht
          generalize a.tmps.getD d undef = u at ht
          cases ht
          cases want <;> rfl
        · cases ha
      · cases ha
    · cases ha

theorem evalF_congr {ops : Array Oper} {tm tm' : Nat → AV} {o : Oper} (h : ∀ t ∈ o.looksAt ops, tm t = tm' t) : ∀ x ∈ o.op.operands, evalF tm x = evalF tm' x := by
  intro x hx
  cases x with
  | tmp t => exact h t (by unfold Oper.looksAt; exact List.mem_append_left _ (List.mem_filterMap.2 ⟨.tmp t, by simpa using hx, rfl⟩))
  | _ => rfl

theorem map_congr' {ρ ρ' : Operand → AV} {l : Array Operand} (h : ∀ x ∈ l, ρ x = ρ' x) : l.toList.map ρ = l.toList.map ρ' := List.map_congr_left fun x hx => h x (by simpa using hx)

theorem aop_congr {T : Tab} {ρ ρ' : Operand → AV} {σ : Store} {id : Nat} {op : Op} (h : ∀ x ∈ op.operands, ρ x = ρ' x) : aop T ρ σ id op = aop T ρ' σ id op := by
  have pairs : ∀ ps : Array (Nat × Operand), (∀ x ∈ (ps.toList.map (·.2)), ρ x = ρ' x) → (ps.toList.map fun (p : Nat × Operand) => (p.1, ρ p.2)) = (ps.toList.map fun (p : Nat × Operand) => (p.1, ρ' p.2)) := fun ps hp =>
    List.map_congr_left fun p hm => by rw [hp p.2 (List.mem_map.2 ⟨p, hm, rfl⟩)]
  cases op with
  | move x => simp only [aop]; rw [h x (by simp [Op.operands])]
  | assign x => simp only [aop]; rw [h x (by simp [Op.operands])]
  | pick c a b => simp only [aop]; rw [h c (by simp [Op.operands]), h a (by simp [Op.operands]), h b (by simp [Op.operands])]
  | alloc t => rfl
  | box t x => simp only [aop]; rw [h x (by simp [Op.operands])]
  | build t ps => simp only [aop]; rw [pairs ps (fun x hx => h x (by simpa [Op.operands] using hx))]
  | buildSlice t len ps => simp only [aop]; rw [pairs ps (fun x hx => h x (by simpa [Op.operands] using hx))]
  | load t x => simp only [aop]; rw [h x (by simp [Op.operands])]
  | store t a x => simp only [aop]; rw [h a (by simp [Op.operands]), h x (by simp [Op.operands])]
  | nilCheck x => simp only [aop]; rw [h x (by simp [Op.operands])]
  | binOp b t x y yt => simp only [aop]; rw [h x (by simp [Op.operands]), h y (by simp [Op.operands])]
  | unOp b t x => simp only [aop]; rw [h x (by simp [Op.operands])]
  | convert s d x => simp only [aop]; rw [h x (by simp [Op.operands])]
  | makeFunc f a c => simp only [aop]; rw [map_congr' (l := a) (fun x hx => h x (by simp [Op.operands, hx])), map_congr' (l := c) (fun x hx => h x (by simp [Op.operands, hx]))]
  | makeMap t r => cases r <;> rfl
  | slice t x lo hi mx =>
    simp only [aop]
    rw [h x (by simp [Op.operands])]
    have e : ∀ o : Option Operand, (∀ y, o = some y → ρ y = ρ' y) → o.map ρ = o.map ρ' := fun o ho => by cases o with
      | none => rfl
      | some y => simp [ho y rfl]
    rw [e lo (fun y hy => h y (by simp [Op.operands, hy])), e hi (fun y hy => h y (by simp [Op.operands, hy])), e mx (fun y hy => h y (by simp [Op.operands, hy]))]
  | fieldAddr t x f => simp only [aop]; rw [h x (by simp [Op.operands])]
  | field t x f => simp only [aop]; rw [h x (by simp [Op.operands])]
  | indexAddr t x i => simp only [aop]; rw [h x (by simp [Op.operands]), h i (by simp [Op.operands])]
  | index t x i => simp only [aop]; rw [h x (by simp [Op.operands]), h i (by simp [Op.operands])]
  | lookup t x i ok => simp only [aop]; rw [h x (by simp [Op.operands]), h i (by simp [Op.operands])]
  | mapUpdate t m k x => simp only [aop]; rw [h m (by simp [Op.operands]), h k (by simp [Op.operands]), h x (by simp [Op.operands])]
  | insert t m k x => simp only [aop]; rw [h m (by simp [Op.operands]), h k (by simp [Op.operands]), h x (by simp [Op.operands])]
  | extract x i => simp only [aop]; rw [h x (by simp [Op.operands])]
  | call c =>
    obtain ⟨callee, args, ts⟩ := c
    cases callee with
    | builtin b => simp only [aop]; rw [map_congr' (l := args) (fun x hx => h x (by simp [Op.operands, Call.operands, hx]))]
    | value f => rfl
    | invoke r m => rfl
  | _ => rfl

/-! ### what an operation sees -/

def AV.ids0 : AV → List Nat
  | .ms id _ _ _ => [id]
  | .mp id _ _ => [id]
  | .mm id => [id]
  | .ss id _ _ => [id]
  | _ => []

def foot (ρ : Operand → AV) : Op → List Nat
  | .load _ x => (ρ x).ids0
  | .store _ a _ => (ρ a).ids0
  | .lookup _ x _ _ => (ρ x).ids0
  | .mapUpdate _ m _ _ => (ρ m).ids0
  | .insert _ m _ _ => (ρ m).ids0
  | .call { callee := .builtin _, args := args, .. } => (args.toList.map fun x => (ρ x).ids0).flatten
  | _ => []

def smallGo (σ : Store) : List Nat → Store → Store
  | [], t => t
  | i :: is, t => smallGo σ is (match σ.objs i with | some o => t.set i o | none => t)

/-- The objects with these numbers, no others. -/
def small (σ : Store) (ids : List Nat) : Store := smallGo σ ids { next := σ.next, tr := .leaf }

theorem smallGo_next (σ : Store) : ∀ (is : List Nat) (t : Store), (smallGo σ is t).next = t.next
  | [], t => rfl
  | i :: is, t => by
    simp only [smallGo]
    rw [smallGo_next σ is]
    cases σ.objs i <;> rfl

theorem smallGo_objs (σ : Store) : ∀ (is : List Nat) (t : Store) (k : Nat), (∀ o, t.objs k = some o → σ.objs k = some o) → (smallGo σ is t).objs k = if k ∈ is then σ.objs k else t.objs k
  | [], t, k, _ => by simp [smallGo]
  | i :: is, t, k, h => by
    simp only [smallGo]
    have h' : ∀ o, (match σ.objs i with | some o => t.set i o | none => t).objs k = some o → σ.objs k = some o := fun o ho => by
      cases hi : σ.objs i with
      | none => rw [hi] at ho; exact h o ho
      | some x =>
        rw [hi] at ho
        simp only [Store.objs_set] at ho
        split at ho
        · rename_i e; subst e; rw [hi]; exact ho
        · exact h o ho
    rw [smallGo_objs σ is _ k h']
    by_cases e : k ∈ is
    · simp [e]
    · rw [if_neg e]
      by_cases e2 : k = i
      · subst e2
        rw [if_pos (by simp)]
        cases hi : σ.objs k with
        | none =>
          simp only
          cases ht : t.objs k with
          | none => rfl
          | some o => have := h o ht; rw [hi] at this; cases this
        | some x => simp [Store.objs_set]
      · rw [if_neg (by simp [e, e2])]
        cases hi : σ.objs i with
        | none => rfl
        | some x => simp [Store.objs_set, e2]

theorem small_objs (σ : Store) (ids : List Nat) (k : Nat) : (small σ ids).objs k = if k ∈ ids then σ.objs k else none := by
  unfold small
  rw [smallGo_objs σ ids _ k (fun o ho => by simp [Store.objs, Tr.get_leaf] at ho)]
  simp [Store.objs, Tr.get_leaf]

theorem small_next (σ : Store) (ids : List Nat) : (small σ ids).next = σ.next := smallGo_next σ ids _

theorem aMapUpdate_renext {T : Tab} {σ σ' : Store} {m : Nat} {t : TypeId} {x k y : AV} (hs : aMapUpdate T σ t x k y = some σ') : aMapUpdate T { σ with next := m } t x k y = some { σ' with next := m } := by
  unfold aMapUpdate at hs ⊢
  split at hs
  · rename_i h1 h2
    try simp only [h1, h2]
    split at hs
    · have e : ∀ k, ({ σ with next := m } : Store).objs k = σ.objs k := fun _ => rfl
      simp only [e]
      split at hs
      · rename_i h4
        try simp only [h4]
        split at hs
        · rename_i h5; cases hs; rw [if_pos h5]; rfl
        · rename_i h5
          rw [if_neg h5]
          split at hs
          · rename_i h6; cases hs; rw [if_pos h6]; rfl
          · cases hs
      · cases hs
    · cases hs
  · cases hs

theorem aAppend_renext {T : Tab} {σ σ' : Store} {id m : Nat} {sT xT : TypeId} {s x v : AV} (h : aAppend T σ id sT xT s x = some (v, σ')) : aAppend T { σ with next := m } id sT xT s x = some (v, { σ' with next := m }) := by
  unfold aAppend at h ⊢
  split at h
  · rename_i h1 h2
    try simp only [h1, h2]
    split at h
    · rename_i h3
      try simp only [h3]
      have e1 : ∀ e z y, baseOf { σ with next := m } e z y = baseOf σ e z y := fun _ _ _ => rfl
      have e2 : ∀ y, srcOf { σ with next := m } y = srcOf σ y := fun _ => rfl
      simp only [e1, e2]
      split at h
      · rename_i h4 h5
        try simp only [h4, h5]
        split at h
        · rename_i h6
          simp only [Option.some.injEq, Prod.mk.injEq] at h
          obtain ⟨rfl, rfl⟩ := h
          rw [if_pos h6]
          simp only [Option.some.injEq, Prod.mk.injEq, true_and]
          split <;> rfl
        · cases h
      · cases h
    · cases h
  · cases h

theorem truncBase_renext (σ : Store) (m : Nat) (s : AV) : truncBase { σ with next := m } s = { truncBase σ s with next := m } := by
  unfold truncBase
  split
  · rename_i id z len
    have e : ({ σ with next := m } : Store).objs id = σ.objs id := rfl
    rw [e]
    split
    · split <;> rfl
    · rfl
  · rfl

theorem aAppend2_renext {T : Tab} {σ σ' : Store} {id m : Nat} {sT xT : TypeId} {s x v : AV} (h : aAppend2 T σ id sT xT s x = some (v, σ')) : aAppend2 T { σ with next := m } id sT xT s x = some (v, { σ' with next := m }) := by
  unfold aAppend2 at h ⊢
  split at h
  · unfold aZeros at h ⊢
    split at h
    · split at h
      · rename_i h4
        rw [if_pos h4]
        cases h; rfl
      · cases h
    · cases h
  · rename_i hne
    rw [truncBase_renext]
    exact aAppend_renext (m := m) h

theorem aop_renext {T : Tab} {ρ : Operand → AV} {σ σ' : Store} {id m : Nat} {op : Op} {v : AV} (h : aop T ρ σ id op = some (v, σ')) : aop T ρ { σ with next := m } id op = some (v, { σ' with next := m }) := by
  cases op with
  | move x => cases h; rfl
  | assign x => cases h; rfl
  | pick c a b =>
    simp only [aop] at h ⊢
    split at h
    · rename_i hv; cases h; first | rfl | simp only [hv]
    · cases h
  | build t ps =>
    simp only [aop] at h ⊢
    split at h
    · rename_i hv; cases h; first | rfl | simp only [hv]
    · cases h
  | binOp b t x y yt =>
    simp only [aop] at h ⊢
    split at h
    · rename_i hv; cases h; first | rfl | simp only [hv]
    · cases h
  | unOp b t x =>
    simp only [aop] at h ⊢
    split at h
    · rename_i hv; cases h; first | rfl | simp only [hv]
    · cases h
  | convert s d x =>
    simp only [aop] at h ⊢
    split at h
    · rename_i hv; cases h; first | rfl | simp only [hv]
    · cases h
  | slice t x lo hi mx =>
    simp only [aop] at h ⊢
    split at h
    · rename_i hv; cases h; first | rfl | simp only [hv]
    · cases h
  | fieldAddr t x f =>
    simp only [aop] at h ⊢
    split at h
    · rename_i hv; cases h; first | rfl | simp only [hv]
    · cases h
  | field t x f =>
    simp only [aop] at h ⊢
    split at h
    · rename_i hv; cases h; first | rfl | simp only [hv]
    · cases h
  | indexAddr t x i =>
    simp only [aop] at h ⊢
    split at h
    · rename_i hv; cases h; first | rfl | simp only [hv]
    · cases h
  | index t x i =>
    simp only [aop] at h ⊢
    split at h
    · rename_i hv; cases h; first | rfl | simp only [hv]
    · cases h
  | extract x i =>
    simp only [aop] at h ⊢
    split at h
    · rename_i hv; cases h; first | rfl | simp only [hv]
    · cases h
  | load t x =>
    simp only [aop] at h ⊢
    have e : aLoad T { σ with next := m } t (ρ x) = aLoad T σ t (ρ x) := rfl
    rw [e]
    split at h
    · rename_i hv; cases h; first | rfl | simp only [hv]
    · cases h
  | lookup t x i ok =>
    simp only [aop] at h ⊢
    have e : aLookup T { σ with next := m } t (ρ x) (ρ i) ok = aLookup T σ t (ρ x) (ρ i) ok := rfl
    rw [e]
    split at h
    · rename_i hv; cases h; first | rfl | simp only [hv]
    · cases h
  | alloc t =>
    simp only [aop, aAlloc] at h ⊢
    split at h
    · rename_i hv; cases h; (try simp only [hv]); rfl
    · cases h
  | box t x =>
    simp only [aop, aBox] at h ⊢
    split at h
    · rename_i hv; cases h; (try simp only [hv]); rfl
    · cases h
  | buildSlice t len ps =>
    simp only [aop, aBuildSlice] at h ⊢
    split at h
    · rename_i h1
      split at h
      · rename_i h2
        split at h
        · rename_i h3
          split at h
          · rename_i h4; cases h; (try simp only [h1, h2, h3, h4]); rfl
          · cases h
        · cases h
      · cases h
    · cases h
  | nilCheck x =>
    simp only [aop] at h ⊢
    split at h
    · rename_i hv; cases h; first | rfl | simp only [hv]
    · rename_i hv; cases h; first | rfl | simp only [hv]
    · rename_i hv; cases h; first | rfl | simp only [hv]
    · cases h
  | makeFunc f a c => cases h; rfl
  | makeMap t r =>
    cases r with
    | some r => simp [aop] at h
    | none => cases h; rfl
  | store t a x =>
    simp only [aop] at h ⊢
    split at h
    · rename_i σ1 hs
      cases h
      have e : aStore T { σ with next := m } t (ρ a) (ρ x) = some { σ' with next := m } := by
        unfold aStore at hs ⊢
        split at hs
        · rename_i h1 h2 h3
          try simp only [h1, h2, h3]
          have e : ∀ k, ({ σ with next := m } : Store).objs k = σ.objs k := fun _ => rfl
          simp only [e]
          split at hs
          · rename_i h4
            try simp only [h4]
            split at hs
            · rename_i h5
              try simp only [h5]
              split at hs
              · rename_i h6; cases hs; rw [if_pos h6]; rfl
              · cases hs
            · cases hs
          · cases hs
        · cases hs
      simp only [e]
    · cases h
  | mapUpdate t x k y =>
    simp only [aop] at h ⊢
    split at h
    · rename_i σ1 hs
      cases h
      simp only [aMapUpdate_renext hs]
    · cases h
  | insert t x k y =>
    simp only [aop] at h ⊢
    split at h
    · rename_i σ1 hs
      cases h
      simp only [aMapUpdate_renext hs]
    · cases h
  | call c =>
    obtain ⟨callee, args, ts⟩ := c
    cases callee with
    | value f => simp [aop] at h
    | invoke r m => simp [aop] at h
    | builtin b =>
      simp only [aop] at h ⊢
      unfold aBuiltin at h ⊢
      split at h
      · rename_i h1 h2
        try simp only [h1, h2]
        have e : ∀ t x, aLen T { σ with next := m } t x = aLen T σ t x := fun _ _ => rfl
        simp only [e]
        split at h
        · rename_i hv; cases h; first | rfl | simp only [hv]
        · cases h
      · rename_i h1 h2
        try simp only [h1, h2]
        exact aAppend2_renext h
      · rename_i h1 h2
        try simp only [h1, h2]
        split at h
        · rename_i hv; cases h; first | rfl | simp only [hv]
        · cases h
      · rename_i h1 
        split at h
        · rename_i hv; cases h; first | rfl | simp only [hv]
        · cases h
      · rename_i h1
        split at h
        · rename_i hv; cases h; first | rfl | simp only [hv]
        · cases h
      · cases h
  | _ => simp [aop] at h

/-! ### one operation -/

structure Ev where
  uT : Nat → Option AV
  uO : Nat → Option (Option AObj)
  uN : Option Nat

/-- What an operation does wherever it comes up, if it finds what it looks at as it should be. -/
def SemStep (P : Program) (ops : Array Oper) (n n0 N i : Nat) (cond : (Nat → AV) → Store → Prop) (ev : Ev) : Prop :=
  ∀ G a w tm σ, RelT G n tm σ a w → cond tm σ → G.pl (n0 + i) = none → n0 + N ≤ σ.next → ∀ (K : Act → World → Prop) (Q : Exit → Act → World → Prop),
    (∀ G' a' w' σ', G.le G' → (∀ j, j < n0 + N → j ≠ n0 + i → G.pl j = none → G'.pl j = none) → σ.next ≤ σ'.next → Fr G σ w G' σ' w' → RelT G' n (fun t => (ev.uT t).getD (tm t)) σ' a' w' →
      (∀ id, σ'.objs id = (ev.uO id).getD (σ.objs id)) → σ'.next = ev.uN.getD σ.next → K a' w') → wpOp P ops Q i K a w

section
variable {P : Program} {T : Tab} {ops : Array Oper} {n n0 N i : Nat} {o : Oper} {tm0 : Nat → AV}

theorem semStep_skip (ho : ops[i]? = some o) (hw : awantedF ops n tm0 o = some false) (hd : dstOk n o.dst = true) :
    SemStep P ops n n0 N i (fun tm _ => ∀ t ∈ o.looksAt ops, tm t = tm0 t) ⟨uTmp o.dst (.sc undef), fun _ => none, none⟩ := by
  intro G a w tm σ hr hc _ _ K Q hK
  unfold wpOp
  simp only [ho, awantedF_ok hr ((awantedF_congr hc).trans hw), Bool.false_eq_true, if_false]
  exact hK G _ w σ (.refl G) (fun _ _ _ h => h) (Nat.le_refl _) (.refl _ _ _) (hr.put (.refl G) hr.rel (.sc _) hd) (fun _ => rfl) rfl

theorem semStep_plain (hT : TabOk P T) (ho : ops[i]? = some o) (hi : i < N) (hw : awantedF ops n tm0 o = some true) (hd : dstOk n o.dst = true) (st : Store) (v : AV) (σ1 : Store)
    (ha : aop T (evalF tm0) (small st (foot (evalF tm0) o.op)) (n0 + i) o.op = some (v, σ1)) :
    SemStep P ops n n0 N i (fun tm σ => (∀ t ∈ o.looksAt ops, tm t = tm0 t) ∧ ∀ id ∈ foot (evalF tm0) o.op, σ.objs id = st.objs id)
      ⟨uTmp o.dst v, fun id => if isE o.op = true ∧ id ∈ foot (evalF tm0) o.op then some (σ1.objs id) else if id = n0 + i then (match σ1.objs id with | some x => some (some x) | none => none) else none, none⟩ := by
  intro G a w tm σ hr ⟨hc1, hc2⟩ hfree hN K Q hK
  -- the view, with the number that the world has
  let σv : Store := { small st (foot (evalF tm0) o.op) with next := σ.next }
  have hv : ∀ id x, σv.objs id = some x → σ.objs id = some x := fun id x hx => by
    have : (small st (foot (evalF tm0) o.op)).objs id = some x := hx
    rw [small_objs] at this
    split at this
    · rename_i hm; rw [hc2 id hm]; exact this
    · cases this
  have hrv : Rel G σv w := hr.rel.less rfl hv
  have hav : aop T (evalF tm0) σv (n0 + i) o.op = some (v, { σ1 with next := σ.next }) := aop_renext ha
  rw [← aop_congr (evalF_congr hc1)] at hav
  obtain ⟨G', u, w', h1, h2, h3, h4, h5, h6⟩ := aop_ok (P := P) hT hrv hr.eval hfree (by show n0 + i < σ.next; omega) hav
  have hlow := aop_low ha
  obtain ⟨σ', hn', ho'⟩ := exists_store (fun id => ((if isE o.op = true ∧ id ∈ foot (evalF tm0) o.op then some (σ1.objs id) else if id = n0 + i then (match σ1.objs id with | some x => some (some x) | none => none) else none : Option (Option AObj))).getD (σ.objs id)) σ.next (fun id hid => by
    have hs1 : ({ σ1 with next := σ.next } : Store).objs id = none := by
      cases hh : ({ σ1 with next := σ.next } : Store).objs id with
      | none => rfl
      | some x => have := h5.objs_lt hh; exact absurd this (by show ¬ id < σ.next; omega)
    have hs1' : σ1.objs id = none := hs1
    have hs2 : σ.objs id = none := by
      cases hh : σ.objs id with
      | none => rfl
      | some x => have := hr.rel.objs_lt hh; omega
    simp only [hs1', hs2]
    split
    · rfl
    · split <;> rfl)
  have hσ : ∀ id x, σ'.objs id = some x → ({ σ1 with next := σ.next } : Store).objs id = some x ∨ (σ.objs id = some x ∧ σv.objs id = none) := fun id x hx => by
    rw [ho'] at hx
    show σ1.objs id = some x ∨ _
    split at hx
    · exact .inl (by simpa using hx)
    · rename_i hne
      have old : σ.objs id = some x → σ1.objs id = some x ∨ (σ.objs id = some x ∧ σv.objs id = none) := fun hs => by
        by_cases hm : id ∈ foot (evalF tm0) o.op
        · have hE : isE o.op = false := by
            cases he : isE o.op with
            | false => rfl
            | true => exact absurd ⟨he, hm⟩ hne
          have hsm : (small st (foot (evalF tm0) o.op)).objs id = some x := by rw [small_objs, if_pos hm, ← hc2 id hm]; exact hs
          rcases hlow.2.2 hE with e | ⟨y, e⟩
          · rw [e]; exact .inl hsm
          · by_cases e2 : id = n0 + i
            · subst e2
              obtain ⟨p, hp, _⟩ := hr.rel.objs _ _ hs
              rw [hfree] at hp; cases hp
            · rw [e, Store.objs_set, if_neg e2]; exact .inl hsm
        · refine .inr ⟨hs, ?_⟩
          show (small st (foot (evalF tm0) o.op)).objs id = none
          rw [small_objs, if_neg hm]
      split at hx
      · split at hx
        · rename_i y hy
          simp only [Option.getD_some, Option.some.injEq] at hx
          subst hx; exact .inl hy
        · exact old (by simpa using hx)
      · exact old (by simpa using hx)
  have hrel' : Rel G' σ' w' := hr.rel.frame hv h5 h6 h1 (fun id hid => h5.fresh id (by show σ.next ≤ id; omega)) hσ
  have hfr' : Fr G σ w G' σ' w' := Fr.frame hr.rel hv h6 h1 hσ
  unfold wpOp
  simp only [ho, awantedF_ok hr ((awantedF_congr hc1).trans hw), if_true]
  left
  have fin := hK G' (a.put o.dst u) w' σ' h1 (fun j _ hj hg => h2 j hj hg) (by omega) hfr' (hr.put h1 hrel' h4 hd) ho' (by simp [hn'])
  unfold Oper.wp
  rcases h3 with h3 | ⟨h3, h7⟩
  · rw [h3]; exact fin
  · rw [h3]; subst h7; exact fin

end
end Go.Ab
