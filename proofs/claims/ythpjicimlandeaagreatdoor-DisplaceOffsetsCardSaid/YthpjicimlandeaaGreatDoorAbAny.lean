/- The abstract machine, part 17: the run of a region that draws its order. -/
import Derived.Test.YthpjicimlandeaaGreatDoorAbSched
set_option linter.unusedVariables false
set_option linter.unusedSimpArgs false
namespace Go.Ab
open Go

structure Inf where
  rd : List Nat
  wr : List Nat
  call : Bool
  nx : Nat
  bar : Bool

/-- Operations that touch no object. -/
def idle : Op → Bool
  | .move _ | .assign _ | .pick .. | .build .. | .nilCheck _ | .binOp .. | .unOp .. | .convert .. | .makeFunc .. | .slice .. | .fieldAddr .. | .field .. | .indexAddr .. | .index .. | .extract .. => true
  | _ => false

theorem aop_idle {T : Tab} {ρ : Operand → AV} {σ σ' : Store} {id : Nat} {op : Op} {v : AV} (h : aop T ρ σ id op = some (v, σ')) (hi : idle op = true) : σ' = σ ∧ foot ρ op = [] ∧ isE op = false := by
  cases op with
  | move x => cases h; exact ⟨rfl, rfl, rfl⟩
  | assign x => cases h; exact ⟨rfl, rfl, rfl⟩
  | makeFunc f a c => cases h; exact ⟨rfl, rfl, rfl⟩
  | nilCheck x =>
    simp only [aop] at h
    split at h
    · cases h; exact ⟨rfl, rfl, rfl⟩
    · cases h; exact ⟨rfl, rfl, rfl⟩
    · cases h; exact ⟨rfl, rfl, rfl⟩
    · cases h
  | pick _ _ _ => simp only [aop] at h; split at h; · (cases h; exact ⟨rfl, rfl, rfl⟩)
                  · cases h
  | build _ _ => simp only [aop] at h; split at h; · (cases h; exact ⟨rfl, rfl, rfl⟩)
                 · cases h
  | binOp _ _ _ _ _ => simp only [aop] at h; split at h; · (cases h; exact ⟨rfl, rfl, rfl⟩)
                       · cases h
  | unOp _ _ _ => simp only [aop] at h; split at h; · (cases h; exact ⟨rfl, rfl, rfl⟩)
                  · cases h
  | convert _ _ _ => simp only [aop] at h; split at h; · (cases h; exact ⟨rfl, rfl, rfl⟩)
                     · cases h
  | slice _ _ _ _ _ => simp only [aop] at h; split at h; · (cases h; exact ⟨rfl, rfl, rfl⟩)
                       · cases h
  | fieldAddr _ _ _ => simp only [aop] at h; split at h; · (cases h; exact ⟨rfl, rfl, rfl⟩)
                       · cases h
  | field _ _ _ => simp only [aop] at h; split at h; · (cases h; exact ⟨rfl, rfl, rfl⟩)
                   · cases h
  | indexAddr _ _ _ => simp only [aop] at h; split at h; · (cases h; exact ⟨rfl, rfl, rfl⟩)
                       · cases h
  | index _ _ _ => simp only [aop] at h; split at h; · (cases h; exact ⟨rfl, rfl, rfl⟩)
                   · cases h
  | extract _ _ => simp only [aop] at h; split at h; · (cases h; exact ⟨rfl, rfl, rfl⟩)
                   · cases h
  | _ => simp [idle] at hi

def applyE (σ1 : Store) : List Nat → Store → Store
  | [], σ => σ
  | i :: is, σ => applyE σ1 is (match σ1.objs i with | some o => σ.set i o | none => σ.del i)

theorem applyE_objs (σ1 : Store) : ∀ (is : List Nat) (σ : Store) (k : Nat), (applyE σ1 is σ).objs k = if k ∈ is then σ1.objs k else σ.objs k
  | [], σ, k => by simp [applyE]
  | i :: is, σ, k => by
    rw [applyE, applyE_objs σ1 is]
    by_cases e : k ∈ is
    · simp [e]
    · rw [if_neg e]
      by_cases e2 : k = i
      · subst e2
        rw [if_pos (by simp)]
        cases h : σ1.objs k with
        | none => simp [Store.objs_del]
        | some o => simp [Store.objs_set]
      · rw [if_neg (by simp [e, e2])]
        cases h : σ1.objs i with
        | none => simp [Store.objs_del, e2]
        | some o => simp [Store.objs_set, e2]

theorem applyE_next (σ1 : Store) : ∀ (is : List Nat) (σ : Store), (applyE σ1 is σ).next = σ.next
  | [], σ => rfl
  | i :: is, σ => by rw [applyE, applyE_next σ1 is]; cases σ1.objs i <;> rfl

theorem applyE_low (σ1 : Store) : ∀ (is : List Nat) (σ : Store), LowOk σ (applyE σ1 is σ)
  | [], σ => .refl _
  | i :: is, σ => by
    rw [applyE]
    refine LowOk.trans ?_ (applyE_low σ1 is _)
    cases σ1.objs i
    · exact .del _ _
    · exact .set _ _ _

/-- The numbers of the operations that this one does not wait for. -/
def exIds (n0 N mask : Nat) : List Nat := (List.range N).filterMap fun j => if mask.testBit j then none else some (n0 + j)

def saved (σ : Store) (ids : List Nat) : List (Nat × AObj) := ids.filterMap fun id => (σ.objs id).map fun o => (id, o)

def delAll : List (Nat × AObj) → Store → Store
  | [], σ => σ
  | p :: ps, σ => delAll ps (σ.del p.1)

def setAll : List (Nat × AObj) → Store → Store
  | [], σ => σ
  | p :: ps, σ => setAll ps (σ.set p.1 p.2)

theorem delAll_objs : ∀ (l : List (Nat × AObj)) (σ : Store) (k : Nat), (delAll l σ).objs k = if k ∈ l.map (·.1) then none else σ.objs k
  | [], σ, k => by simp [delAll]
  | p :: ps, σ, k => by
    rw [delAll, delAll_objs ps, Store.objs_del]
    by_cases e : k ∈ ps.map (·.1)
    · simp [e]
    · by_cases e2 : k = p.1
      · simp [e2]
      · rw [if_neg e, if_neg e2, if_neg (by simp only [List.map_cons, List.mem_cons, not_or]; exact ⟨e2, e⟩)]

theorem delAll_next : ∀ (l : List (Nat × AObj)) (σ : Store), (delAll l σ).next = σ.next
  | [], σ => rfl
  | p :: ps, σ => by rw [delAll, delAll_next ps]; rfl

theorem setAll_next : ∀ (l : List (Nat × AObj)) (σ : Store), (setAll l σ).next = σ.next
  | [], σ => rfl
  | p :: ps, σ => by rw [setAll, setAll_next ps]; rfl

theorem setAll_objs (g : Nat → Option AObj) : ∀ (l : List (Nat × AObj)) (σ : Store) (k : Nat), (∀ p ∈ l, g p.1 = some p.2) → (setAll l σ).objs k = if k ∈ l.map (·.1) then g k else σ.objs k
  | [], σ, k, _ => by simp [setAll]
  | p :: ps, σ, k, h => by
    rw [setAll, setAll_objs g ps _ k (fun q hq => h q (by simp [hq])), Store.objs_set]
    by_cases e : k ∈ ps.map (·.1)
    · simp [e]
    · by_cases e2 : k = p.1
      · subst e2
        rw [if_neg e, if_pos rfl, if_pos (by simp), h p (by simp)]
      · rw [if_neg e, if_neg e2, if_neg (by simp only [List.map_cons, List.mem_cons, not_or]; exact ⟨e2, e⟩)]

theorem saved_spec (σ : Store) (ids : List Nat) : (∀ p ∈ saved σ ids, σ.objs p.1 = some p.2) ∧ ∀ k, k ∈ (saved σ ids).map (·.1) ↔ k ∈ ids ∧ (σ.objs k).isSome = true := by
  refine ⟨fun p hp => ?_, fun k => ?_⟩
  · obtain ⟨id, _, h⟩ := List.mem_filterMap.1 hp
    cases ho : σ.objs id with
    | none => simp [ho] at h
    | some o => simp [ho] at h; subst h; exact ho
  · constructor
    · intro h
      obtain ⟨p, hp, rfl⟩ := List.mem_map.1 h
      obtain ⟨id, hid, h⟩ := List.mem_filterMap.1 hp
      cases ho : σ.objs id with
      | none => simp [ho] at h
      | some o => simp [ho] at h; subst h; exact ⟨hid, by simp [ho]⟩
    · rintro ⟨h1, h2⟩
      cases ho : σ.objs k with
      | none => simp [ho] at h2
      | some o => exact List.mem_map.2 ⟨(k, o), List.mem_filterMap.2 ⟨k, h1, by simp [ho]⟩, rfl⟩

def stepD (T : Tab) (cl : FuncId → List AV → Store → Option (AV × Store)) (ops : Array Oper) (n0 N mask i : Nat) (bar : Bool) (s : AS) (o : Oper) : Option (AS × Inf) :=
  match awanted ops s o, dstOk s.n o.dst with
  | some false, true => some (s.put o.dst (.sc undef), ⟨[], [], false, 0, false⟩)
  | some true, true =>
    match o.op with
    | .call { callee := .value fo, args := args, argTypes := _ } =>
      match s.eval fo with
      | .fn (.func f) first cap =>
        if bar then
          match cl f (first ++ args.toList.map s.eval ++ cap) s.st with
          | some (v, σ1) => if s.st.next ≤ σ1.next then some ({ s with st := σ1 }.put o.dst v, ⟨[], [], false, 0, true⟩) else none
          | none => none
        else
        match cl f (first ++ args.toList.map s.eval ++ cap) { delAll (saved s.st (exIds n0 N mask)) s.st with low := s.st.next } with
        | some (v, σ1) => if s.st.next ≤ σ1.low ∧ s.st.next ≤ σ1.next then
            some ({ s with st := { setAll (saved s.st (exIds n0 N mask)) σ1 with low := min s.st.low s.st.next } }.put o.dst v, ⟨[], [], true, s.st.next, false⟩)
          else none
        | none => none
      | _ => none
    | op =>
      match aop T s.eval (small s.st (foot s.eval op)) (n0 + i) op with
      | some (v, σ1) =>
        some ({ s with st := (match σ1.objs (n0 + i) with
          | some x => (if isE op then applyE σ1 (foot s.eval op) s.st else s.st).set (n0 + i) x
          | none => (if isE op then applyE σ1 (foot s.eval op) s.st else s.st)) }.put o.dst v, ⟨foot s.eval op, if isE op then foot s.eval op else [], false, 0, false⟩)
      | none => none
  | _, _ => none

/-- Whatever touches an object and the operation i: one of the two waits for the other. -/
def barAt (ops : Array Oper) (masks : List Nat) (i : Nat) : Bool :=
  (List.range ops.size).all fun j => j == i || (match ops[j]? with | some o => idle o.op | none => true) || (masks.getD i 0).testBit j || (masks.getD j 0).testBit i

def isCall : Op → Bool
  | .call { callee := .value _, .. } => true
  | _ => false

def runD (T : Tab) (cl : FuncId → List AV → Store → Option (AV × Store)) (ops : Array Oper) (n0 N : Nat) (masks : List Nat) : List Oper → Nat → AS → Option (AS × List Inf)
  | [], _, s => some (s, [])
  | o :: rest, i, s => match stepD T cl ops n0 N (masks.getD i 0) i (isCall o.op && barAt ops masks i) s o with
    | some (s1, f) => match runD T cl ops n0 N masks rest (i + 1) s1 with
      | some (s2, fs) => some (s2, f :: fs)
      | none => none
    | none => none

def noconf (n0 i j : Nat) (a b : Inf) : Bool :=
  (a.wr.all fun x => !(b.rd ++ b.wr).contains x) && (b.wr.all fun x => !a.rd.contains x) && !(b.rd ++ b.wr).contains (n0 + i) && !(a.rd ++ a.wr).contains (n0 + j) && !(a.call && b.call) && !a.bar && !b.bar &&
  (!a.call || (b.wr.isEmpty && b.rd.all fun x => decide (x < a.nx))) && (!b.call || (a.wr.isEmpty && a.rd.all fun x => decide (x < b.nx)))

/-- What of the look does not hang on the state. -/
def dynPairs (ops : Array Oper) (masks : List Nat) : List (Nat × Nat) :=
  (List.range ops.size).flatMap fun j => (List.range j).filterMap fun i =>
    if (masks.getD j 0).testBit i then none else
    match ops[i]?, ops[j]? with
    | some a, some b => if idle a.op || idle b.op then none else some (i, j)
    | _, _ => none

def statOk (ops : Array Oper) (masks : List Nat) : Bool :=
  (List.range ops.size).all fun j => (match ops[j]? with | some o => o.after.all (fun e => !Region.binds .any e || decide (e.on < j)) | none => true) &&
    (List.range j).all fun i => (masks.getD j 0).testBit i || (match ops[i]?, ops[j]? with | some a, some b => a.apart ops b | _, _ => true)

def runDrawn (T : Tab) (cl : FuncId → List AV → Store → Option (AV × Store)) (ops : Array Oper) (s : AS) : Option AS :=
  if statOk ops (befs ops.toList []) then
    match runD T cl ops s.st.next ops.size (befs ops.toList []) ops.toList 0 { s with st := { s.st with next := s.st.next + ops.size } } with
    | some (s', fs) => if (dynPairs ops (befs ops.toList [])).all (fun p => noconf s.st.next p.1 p.2 (fs.getD p.1 ⟨[], [], false, 0, false⟩) (fs.getD p.2 ⟨[], [], false, 0, false⟩)) then some s' else none
    | none => none
  else none

end Go.Ab
