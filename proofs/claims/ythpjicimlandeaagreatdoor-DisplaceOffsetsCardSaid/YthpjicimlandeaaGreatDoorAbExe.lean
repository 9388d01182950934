/- The abstract machine, part 34: a run on states with variables: what is left is a tree of operations on contents. -/
import Derived.Test.YthpjicimlandeaaGreatDoorAbSym
set_option linter.unusedVariables false
set_option linter.unusedSimpArgs false
namespace Go.Ab
open Go

/-! ### nil slices are told as empty ones -/
mutual
def AV.nilz : AV → AV
  | .sc (.slice none 0 0) => .rs []
  | .rs es => .rs (nilzR es)
  | .agg cs => .agg (nilzL cs)
  | .tup cs => .tup (nilzL cs)
  | v => v
def nilzL : List AV → List AV
  | [] => []
  | c :: cs => c.nilz :: nilzL cs
def nilzR : List (List AV) → List (List AV)
  | [] => []
  | c :: cs => nilzL c :: nilzR cs
end

theorem nilzL_eq : ∀ l, nilzL l = l.map AV.nilz
  | [] => by simp [nilzL]
  | c :: cs => by simp [nilzL, nilzL_eq cs]
theorem nilzR_eq : ∀ l, nilzR l = l.map (List.map AV.nilz)
  | [] => by simp [nilzR]
  | c :: cs => by simp [nilzR, nilzL_eq, nilzR_eq cs]

mutual
theorem rep_nilz {G : Ghost} {θ : Nat → AV} : ∀ (v : AV) (u : Value), Rep G (v.sub θ) u → Rep G (v.nilz.sub θ) u
  | .sc v, u, h => by
    by_cases hv : v = .slice none 0 0
    · subst hv
      simp only [AV.sub] at h
      cases h
      simp only [AV.nilz, AV.sub, subR]
      exact .rsNil
    · have : (AV.sc v).nilz = .sc v := by
        unfold AV.nilz
        split
        · rename_i e; cases e; exact (hv rfl).elim
        · rename_i e; cases e
        · rename_i e; cases e
        · rename_i e; cases e
        · rfl
      rw [this]; exact h
  | .rs es, u, h => by
    have hr := rep_nilzR (G := G) (θ := θ) es
    simp only [AV.nilz, AV.sub, subR_eq, nilzR_eq] at h ⊢
    generalize hx : es.map (List.map (AV.sub θ)) = xs at h
    cases h with
    | rsNil => 
      have : es = [] := by simpa using hx
      subst this
      exact .rsNil
    | rs _ a cap size val hs hc hlen himm hrep =>
      subst hx
      have hl : (es.map (List.map (AV.sub θ))).length = ((es.map (List.map AV.nilz)).map (List.map (AV.sub θ))).length := by simp
      rw [hl]
      refine .rs _ a cap size val hs (by rw [← hl]; exact hc) (fun i hi => ?_) (fun i j hi hj => himm i j (by rw [hl]; exact hi) hj) (fun i j hi hj => ?_)
      · have := hlen i (by rw [hl]; exact hi)
        simpa using this
      · have hi' : i < es.length := by simpa using hi
        have hj' : j < es[i].length := by simpa using hj
        have := hrep i j (by simpa using hi') (by simpa using hj')
        simp only [List.getElem_map] at this ⊢
        exact hr _ (List.getElem_mem hi') _ (List.getElem_mem hj') _ this
  | .agg cs, u, h => by
    have hr := rep_nilzL (G := G) (θ := θ) cs
    simp only [AV.nilz, AV.sub, subL_eq, nilzL_eq] at h ⊢
    cases h with
    | agg _ vs h1 h2 =>
      refine .agg _ vs (by simpa using h1) (fun i hi hi' => ?_)
      have hi0 : i < cs.length := by simpa using hi
      have := h2 i (by simpa using hi0) hi'
      simp only [List.getElem_map] at this ⊢
      exact hr _ (List.getElem_mem hi0) _ this
  | .tup cs, u, h => by
    have hr := rep_nilzL (G := G) (θ := θ) cs
    simp only [AV.nilz, AV.sub, subL_eq, nilzL_eq] at h ⊢
    cases h with
    | tup _ vs h1 h2 =>
      refine .tup _ vs (by simpa using h1) (fun i hi hi' => ?_)
      have hi0 : i < cs.length := by simpa using hi
      have := h2 i (by simpa using hi0) hi'
      simp only [List.getElem_map] at this ⊢
      exact hr _ (List.getElem_mem hi0) _ this
  | .any, u, h => h
  | .rp _, u, h => h
  | .ms _ _ _ _, u, h => h
  | .mp _ _ _, u, h => h
  | .mm _, u, h => h
  | .it _, u, h => h
  | .fn _ _ _, u, h => h
  | .sy _, u, h => h
  | .ss _ _ _, u, h => h
theorem rep_nilzL {G : Ghost} {θ : Nat → AV} : ∀ (l : List AV) (v : AV), v ∈ l → ∀ u, Rep G (v.sub θ) u → Rep G (v.nilz.sub θ) u
  | [], _, hv, _, _ => by simp at hv
  | c :: cs, v, hv, u, h => by
    rcases List.mem_cons.1 hv with e | hv
    · rw [e] at h ⊢; exact rep_nilz c u h
    · exact rep_nilzL cs v hv u h
theorem rep_nilzR {G : Ghost} {θ : Nat → AV} : ∀ (l : List (List AV)) (r : List AV), r ∈ l → ∀ v, v ∈ r → ∀ u, Rep G (v.sub θ) u → Rep G (v.nilz.sub θ) u
  | [], _, hr, _, _, _, _ => by simp at hr
  | c :: cs, r, hr, v, hv, u, h => by
    rcases List.mem_cons.1 hr with e | hr
    · rw [e] at hv; exact rep_nilzL c v hv u h
    · exact rep_nilzR cs r hr v hv u h
end

inductive RO where
  | bin (o : BinOp) (t : TypeId) (x y : AV)
  | un (o : UnOp) (x : AV)
  | conv (s d : TypeId) (x : AV)
  | pick (c a b : AV)
  | idx (t : TypeId) (x i : AV)
  | index (t : TypeId) (x i : AV)
  | slc (t : TypeId) (x : AV) (lo hi : Option AV)
  | len (t : TypeId) (x : AV)
  | mx (l : List AV)
  | mn (l : List AV)
  | cat (sT xT : TypeId) (x y : AV)
  | call (f : FuncId) (args : List AV) (flat : Bool)
  | rows (l : List Nat)

/-- Functions on contents that are told. -/
abbrev Tell := FuncId → Option (List AV → Option AV)
def TellOk (P : Program) (Φ : Tell) : Prop := ∀ f φ, Φ f = some φ → ∀ args c, φ args = some c → MemoOk P ⟨f, args, c⟩

def catRs (T : Tab) (sT xT : TypeId) (a b : AV) : Option AV :=
  match T sT, T xT with
  | some { und := .slice elem, .. }, some xi =>
    match T elem with
    | some ei => match a, b with
      | .rs es, .rs xs => if xi.isInt = false ∧ (xs.all fun c => c.length == ei.size && c.all AV.one) = true ∧ (2 * (es.length + xs.length) + 1000) * ei.bytes ≤ 2 ^ 48 ∧ es.length + xs.length ≤ 2 ^ 62 ∧ 0 < ei.size then
          some (.rs (es ++ xs)) else none
      | _, _ => none
    | none => none
  | _, _ => none

def evalRO (T : Tab) (Φ : Tell) (θ : Nat → AV) : RO → Option AV
  | .bin o t x y => aBin T o t (x.sub θ) (y.sub θ)
  | .un o x => aUn o (x.sub θ)
  | .conv s d x => aConv T s d (x.sub θ)
  | .pick c a b => match c.sub θ with
    | .sc (.bool t) => some (if t then a.sub θ else b.sub θ)
    | _ => none
  | .idx t x i => aIndexAddr T t (x.sub θ) (i.sub θ)
  | .index t x i => aIndex T t (x.sub θ) (i.sub θ)
  | .slc t x lo hi => aSlice T t (x.sub θ) (lo.map (AV.sub θ)) (hi.map (AV.sub θ)) none
  | .len t x => aLen T Store.none t (x.sub θ)
  | .mx l => (aMax (l.map (AV.sub θ))).map .sc
  | .mn l => (aMin (l.map (AV.sub θ))).map .sc
  | .cat sT xT x y => catRs T sT xT (x.sub θ) (y.sub θ)
  | .call f args flat => match Φ f with
    | some φ => match φ (args.map (AV.sub θ)) with
      | some c => if flat = true → flatC c = true then some c else none
      | none => none
    | none => none
  | .rows l => match l.all (fun j => match θ j with | .rs _ => true | _ => false) with
    | true => some (.sc (.bool true))
    | false => none

def xvars : Tr AObj → List Nat
  | .leaf => []
  | .node v l r => (match v with | some (.xrow _ _ j) => [j] | _ => []) ++ (xvars l ++ xvars r)

inductive RT where
  | stuck
  | ret (c : AV) (l : List Nat)
  | op (o : RO) (fr : Nat) (pat : AV) (r : RT)
  | test (i : Nat) (a b : RT)
  | loop (l k : Nat) (inits : List AV) (body : RT)
  | again (l : Nat) (vals : List AV)

/-- Where a tree leads. -/
def Leads (T : Tab) (Φ : Tell) (Q : AV → Prop) : RT → (Nat → AV) → (Nat → List AV → Prop) → Prop
  | .stuck, _, _ => False
  | .ret c l, θ, _ => (∀ j ∈ l, ∃ es, θ j = .rs es) ∧ Q (c.sub θ)
  | .op o fr pat r, θ, A => ∃ θ', (∀ i, i < fr → θ' i = θ i) ∧ Fit θ' ∧ evalRO T Φ θ o = some (pat.sub θ') ∧ Leads T Φ Q r θ' A
  | .test i a b, θ, A => (θ i = .sc (.bool true) ∧ Leads T Φ Q a θ A) ∨ (θ i = .sc (.bool false) ∧ Leads T Φ Q b θ A)
  | .loop l k inits body, θ, A => ∃ I : Nat → List AV → Prop, (∃ n, I n (inits.map (AV.sub θ))) ∧ ∀ n vals, I n vals → vals.length = k → (∀ v ∈ vals, Fit1 v) →
      ∀ θ', (∀ i, i < l → θ' i = θ i) → (∀ j (h : j < vals.length), θ' (l + j) = vals[j]) → Fit θ' → Leads T Φ Q body θ' (fun l' => if l' = l then (fun vals' => ∃ m, m < n ∧ I m vals') else A l')
  | .again l vals, θ, A => A l (vals.map (AV.sub θ))

/-! ### the run -/

def varsFrom (fr : Nat) : Nat → List AV
  | 0 => []
  | n + 1 => .sy fr :: varsFrom (fr + 1) n

def patT (T : Tab) (t : TypeId) (fr : Nat) : Option (AV × Nat) :=
  match T t with
  | some ti => if ti.isAgg then some (.agg (varsFrom fr ti.size), fr + ti.size) else some (.sy fr, fr + 1)
  | none => none
def patL (T : Tab) : List TypeId → Nat → Option (List AV × Nat)
  | [], fr => some ([], fr)
  | t :: ts, fr => match patT T t fr with
    | some (p, fr1) => match patL T ts fr1 with
      | some (ps, fr2) => some (p :: ps, fr2)
      | none => none
    | none => none
def patOf (T : Tab) (ts : List TypeId) (fr : Nat) : Option (AV × Nat) :=
  match ts with
  | [t] => patT T t fr
  | ts => match patL T ts fr with
    | some (ps, fr') => some (.tup ps, fr')
    | none => none

def sbase (σ : Store) (elem : TypeId) (size : Nat) : AV → Option (Option Nat × AV)
  | .sc (.slice none 0 0) => some (none, .rs [])
  | .ms id _ 0 len => match σ.objs id with
    | some (.row e sz es) => if len = es.length ∧ sz = size ∧ e = elem then some (some id, .rs es) else none
    | _ => none
  | .ss id _ i => match σ.objs id with
    | some (.xrow e sz j) => if j = i ∧ sz = size ∧ e = elem then some (some id, .sy j) else none
    | _ => none
  | _ => none
def ssrc (σ : Store) : AV → Option AV
  | .sc (.slice none 0 0) => some (.rs [])
  | .sy i => some (.sy i)
  | .rs es => some (.rs es)
  | .ms id _ off len => match σ.objs id with
    | some (.row _ _ es) => if off + len ≤ es.length then some (.rs ((es.drop off).take len)) else none
    | _ => none
  | .ss id _ i => match σ.objs id with
    | some (.xrow _ _ j) => if j = i then some (.sy j) else none
    | _ => none
  | _ => none

def sApp (T : Tab) (σ : Store) (id : Nat) (sT xT : TypeId) (a c : AV) (fr : Nat) : Option (RO × AV × AV × Store × Nat) :=
  match T sT with
  | some { und := .slice elem, .. } => match T elem with
    | some ei => match sbase σ elem ei.size a, ssrc σ c with
      | some (old, x), some y => some (.cat sT xT x y, .sy fr, .ss id ei.size fr, (match old with | some i => σ.del i | none => σ).set id (.xrow elem ei.size fr), fr + 1)
      | _, _ => none
    | none => none
  | _ => none

def residB (T : Tab) (σ : Store) (id : Nat) (b : Builtin) (ts : List TypeId) (args : List AV) (fr : Nat) : Option (RO × AV × AV × Store × Nat) :=
  match b, ts, args with
  | .len, [t], [.sy i] => some (.len t (.sy i), .sy fr, .sy fr, σ, fr + 1)
  | .len, [t], [.ss _ _ i] => match T t with
    | some { und := .slice _, .. } => some (.len t (.sy i), .sy fr, .sy fr, σ, fr + 1)
    | _ => none
  | .max, _, l => some (.mx l, .sy fr, .sy fr, σ, fr + 1)
  | .min, _, l => some (.mn l, .sy fr, .sy fr, σ, fr + 1)
  | .append, [s, x], [a, c] => sApp T σ id s x a c fr
  | _, _, _ => none

def resid (T : Tab) (ρ : Operand → AV) (σ : Store) (id : Nat) (op : Op) (fr : Nat) : Option (RO × AV × AV × Store × Nat) :=
  match op with
  | .binOp o t x y _ => some (.bin o t (ρ x) (ρ y), .sy fr, .sy fr, σ, fr + 1)
  | .unOp o _ x => some (.un o (ρ x), .sy fr, .sy fr, σ, fr + 1)
  | .convert s d x => some (.conv s d (ρ x), .sy fr, .sy fr, σ, fr + 1)
  | .pick c a b => some (.pick (ρ c) (ρ a) (ρ b), .sy fr, .sy fr, σ, fr + 1)
  | .indexAddr t x i => match T t with
    | some { und := .slice elem, .. } => match T elem with
      | some ei => some (.idx t (ρ x) (ρ i), .rp (varsFrom fr ei.size), .rp (varsFrom fr ei.size), σ, fr + ei.size)
      | none => none
    | _ => none
  | .index t x i => some (.index t (ρ x) (ρ i), .sy fr, .sy fr, σ, fr + 1)
  | .slice t x lo hi none => some (.slc t (ρ x) (lo.map ρ) (hi.map ρ), .sy fr, .sy fr, σ, fr + 1)
  | .call { callee := .builtin b, args, argTypes } => residB T σ id b argTypes.toList (args.toList.map ρ) fr
  | _ => none

mutual
/-- Contents, whatever stands for the variables. -/
def AV.contP : AV → Bool
  | .sc _ => true
  | .sy _ => true
  | .rs es => contR es
  | .agg cs => contL cs
  | .tup cs => contL cs
  | _ => false
def contL : List AV → Bool
  | [] => true
  | c :: cs => c.contP && contL cs
def contR : List (List AV) → Bool
  | [] => true
  | c :: cs => contL c && contR cs
end

/-- The contents of an argument. -/
def cont1 (σ : Store) : Nat → AV → Option AV
  | 0, _ => none
  | k + 1, v => match v.contP with
    | true => some v
    | false => match v with
      | .agg cs => match mapL (cont1 σ k) cs with
        | some l => some (.agg l)
        | none => none
      | .tup cs => match mapL (cont1 σ k) cs with
        | some l => some (.tup l)
        | none => none
      | .ms id _ off len => match σ.objs id with
        | some (.row _ _ es) => if off + len ≤ es.length then
            match mapR (cont1 σ k) ((es.drop off).take len) with
            | some l => some (.rs l)
            | none => none
          else none
        | _ => none
      | .ss id _ i => match σ.objs id with
        | some (.xrow _ _ j) => if j = i then some (.sy j) else none
        | _ => none
      | _ => none

def cargsOf (σ : Store) (args : List AV) : Option (List AV × Bool) :=
  match contL args with
  | true => some (args, false)
  | false => match mapL (cont1 σ 50) args with
    | some l => some (l, true)
    | none => none

/-- A loop's head, told. -/
structure Hint where
  k : Nat
  slots : List AV
  objs : List (Nat × AObj)
  next : Nat

def Hint.state (h : Hint) : AS := AS.enter h.slots.length h.slots { next := h.next, tr := Tr.ofList h.objs .leaf, low := 0 }

def etaOf (l : Nat) (vals : List AV) (i : Nat) : AV := match Nat.ble l i with
  | true => (vals[i - l]?).getD (.sy i)
  | false => .sy i
def iotaL : List (Nat × Option Nat) → Nat → Option (Option Nat)
  | [], _ => none
  | (a, b) :: l, i => match Nat.beq a i with
    | true => some b
    | false => iotaL l i
def iotaOf (n : Nat) (l : List (Nat × Option Nat)) : Ren1 := fun i => match Nat.blt i n with
  | true => some (some i)
  | false => iotaL l i

structure Acc where
  vals : List (Nat × AV)
  io : List (Nat × Option Nat)
def Acc.addV (a : Acc) (j : Nat) (v : AV) : Acc := match a.vals.any (fun p => Nat.beq p.1 j) with
  | true => a
  | false => { a with vals := (j, v) :: a.vals }
def Acc.addI (a : Acc) (i : Nat) (k : Option Nat) : Acc := match a.io.any (fun p => Nat.beq p.1 i) with
  | true => a
  | false => { a with io := (i, k) :: a.io }

mutual
/-- A guess: what stands for the variables of the head, and which numbers are which. -/
def um (σ : Store) (l : Nat) (acc : Acc) : AV → AV → Acc
  | .sy j, b => match Nat.ble l j with
    | true => acc.addV j b
    | false => acc
  | .ss id _ j, .ss id' _ j' => (acc.addI id (some id')).addV j (.sy j')
  | .ss id _ j, .ms id' _ _ _ => match σ.objs id' with
    | some (.row _ _ es) => (acc.addI id (some id')).addV j (.rs es)
    | _ => acc
  | .ss id _ j, .sc _ => (acc.addI id none).addV j (.rs [])
  | .mp id _ _, .mp id' _ _ => acc.addI id (some id')
  | .ms id _ _ _, .ms id' _ _ _ => acc.addI id (some id')
  | .mm id, .mm id' => acc.addI id (some id')
  | .it id, .it id' => acc.addI id (some id')
  | .agg a, .agg b => umL σ l acc a b
  | .tup a, .tup b => umL σ l acc a b
  | .rp a, .rp b => umL σ l acc a b
  | .fn _ a c, .fn _ a' c' => umL σ l (umL σ l acc a a') c c'
  | _, _ => acc
def umL (σ : Store) (l : Nat) (acc : Acc) : List AV → List AV → Acc
  | a :: as, b :: bs => umL σ l (um σ l acc a b) as bs
  | _, _ => acc
end
def umR (σ : Store) (l : Nat) (acc : Acc) : List (List AV) → List (List AV) → Acc
  | a :: as, b :: bs => umR σ l (umL σ l acc a b) as bs
  | _, _ => acc
def umO (σ : Store) (l : Nat) (acc : Acc) : AObj → AObj → Acc
  | .row _ _ es, .row _ _ es' => umR σ l acc es es'
  | .xrow _ _ j, .xrow _ _ j' => acc.addV j (.sy j')
  | .xrow _ _ j, .row _ _ es => acc.addV j (.rs es)
  | .map _ es _, .map _ es' _ => umL σ l acc (es.map (·.2.1)) (es'.map (·.2.1))
  | _, _ => acc
def umSlots (s : AS) (l : Nat) : List AV → Nat → Acc → Acc
  | [], _, acc => acc
  | a :: as, t, acc => umSlots s l as (t + 1) (um s.st l acc a (s.get t))
def umObjs (s : AS) (n l : Nat) : List (Nat × AObj) → Acc → Acc
  | [], acc => acc
  | (i, o) :: os, acc => match iotaOf n acc.io i with
    | some (some k) => match s.st.objs k with
      | some o' => umObjs s n l os (umO s.st l acc o o')
      | none => umObjs s n l os acc
    | _ => umObjs s n l os acc
def guess (s : AS) (n l : Nat) (h : Hint) : Acc := umObjs s n l h.objs (umObjs s n l h.objs (umSlots s l h.slots 0 ⟨[], []⟩))
def valsOf (a : Acc) (l : Nat) : Nat → List AV
  | 0 => []
  | k + 1 => ((a.vals.find? (fun p => Nat.beq p.1 l)).map (·.2)).getD (.sc (.bool false)) :: valsOf a (l + 1) k

def fitB : AV → Bool
  | .sc (.int _ _) => true
  | .sc (.bool _) => true
  | .sc (.string _) => true
  | .sy _ => true
  | .rs es => contR es
  | _ => false
def robjB (ι : Ren1) : AObj → AObj → Bool
  | .row e z es, .row e' z' es' => Nat.beq e e' && Nat.beq z z' && renR ι es es'
  | .xrow e z i, .xrow e' z' i' => Nat.beq e e' && Nat.beq z z' && Nat.beq i i'
  | .map agg es c, .map agg' es' c' => (agg == agg') && Nat.beq c c' && Nat.beq es.length es'.length && (es.zip es').all fun p => decide (p.1.1 = p.2.1) && renB ι p.1.2.1 p.2.2.1 && Nat.beq p.1.2.2 p.2.2.2
  | _, _ => false
def emptyRow : AObj → Bool
  | .row _ _ [] => true
  | _ => false
def objOkB (ι : Ren1) (s : AS) (i : Nat) (o : AObj) : Bool := match ι i with
  | some (some k) => match s.st.objs k with
    | some o' => robjB ι o o'
    | none => false
  | some none => emptyRow o
  | none => false
def slotsOkB (ι : Ren1) (η : Nat → AV) (s : AS) : List AV → Nat → Bool
  | [], _ => true
  | a :: as, t => renB ι (a.ssub η) (s.get t) && slotsOkB ι η s as (t + 1)
def injB (ι : Ren1) : List (Nat × AObj) → Bool
  | [] => true
  | (i, _) :: os => os.all (fun p => Nat.beq p.1 i || (match ι i with | some (some k) => !pointsTo ι p.1 k | _ => true)) && injB ι os

def tryMatch (n l : Nat) (h : Hint) (s : AS) : Option (List AV) :=
  let acc := guess s n l h
  let vals := valsOf acc l h.k
  let η := etaOf l vals
  let io := acc.io.filter (fun p => Nat.ble n p.1)
  let ι := iotaOf n io
  match vals.all fitB && Nat.beq h.slots.length s.n && Nat.ble n h.next && io.all (fun p => Nat.ble n p.1 && Nat.blt p.1 h.next) && slotsOkB ι η s h.slots 0 && h.objs.all (fun p => objOkB ι s p.1 (p.2.ssub η)) && injB ι h.objs with
  | true => some vals
  | false => none

def guardVar (ops : Array Oper) (s : AS) (o : Oper) : Option (Nat × Bool) :=
  match o.guard with
  | none => none
  | some (j, want) => match (ops[j]?).bind (·.dst) with
    | some d => match Nat.blt d s.n with
      | true => match s.get d with
        | .sy i => some (i, want)
        | _ => none
      | false => none
    | none => none

abbrev KS := AS → Nat → RT
abbrev KE := EX → AS → Nat → RT
abbrev Exe := Nat → Code → AS → Nat → KE → RT

section
variable (T : Tab) (Φ : Tell) (F : FuncId → Option Func)

def sCall (ex : Exe) (f : FuncId) (args : List AV) (dst : Option Tmp) (s : AS) (fr : Nat) (kk : KS) : RT :=
  match F f with
  | none => .stuck
  | some fn => match Φ f with
    | some _ => match patOf T fn.resultTypes.toList fr with
      | some (pat, fr') => match s.bnd fr && Nat.ble fr fr' with
        | true => match cargsOf s.st args with
          | some (cargs, true) => .op (.rows (xvars s.st.tr)) fr (.sc (.bool true)) (.op (.call f cargs true) fr pat (kk (s.put dst pat) fr'))
          | some (cargs, false) => .op (.call f cargs false) fr pat (kk (s.put dst pat) fr')
          | none => .stuck
        | false => .stuck
      | none => .stuck
    | none => match fn.body with
      | some c => match Nat.ble args.length fn.ntmps && !(fn.name == "runtime.NumGoroutine") && s.bnd fr with
        | true => ex s.st.next c (AS.enter fn.ntmps args s.st) fr fun e s1 fr1 => match e with
          | .exi _ => .stuck
          | _ => match aresults T fn s1 with
            | some v => kk ({ s with st := s1.st }.put dst v) fr1
            | none => .stuck
        | false => .stuck
      | none => .stuck

def sOne (ex : Exe) (id : Nat) (o : Oper) (s : AS) (fr : Nat) (kk : KS) : RT :=
  match o.op with
  | .call { callee := .value fo, args := args, argTypes := _ } =>
    match s.eval fo with
    | .fn (.func f) first cap => sCall T Φ F ex f (first ++ args.toList.map s.eval ++ cap) o.dst s fr kk
    | _ => .stuck
  | op => match aop T s.eval s.st id op with
    | some (v, σ') => kk ({ s with st := σ' }.put o.dst v) fr
    | none => match resid T s.eval s.st id op fr with
      | some (ro, pat, v, σ', fr') => match s.bnd fr && Nat.ble fr fr' with
        | true => .op ro fr pat (kk ({ s with st := σ' }.put o.dst v) fr')
        | false => .stuck
      | none => .stuck

def sOps (ex : Exe) (ops : Array Oper) (n0 : Nat) : List Oper → Nat → AS → Nat → KS → RT
  | [], _, s, fr, k => k s fr
  | o :: rest, i, s, fr, k =>
    match dstOk s.n o.dst with
    | false => .stuck
    | true => match awanted ops s o with
      | some true => sOne T Φ F ex (n0 + i) o s fr fun s' fr' => sOps ex ops n0 rest (i + 1) s' fr' k
      | some false => sOps ex ops n0 rest (i + 1) (s.put o.dst (.sc undef)) fr k
      | none => match guardVar ops s o with
        | some (j, want) =>
          let go := fun b : Bool => match b == want with
            | true => sOne T Φ F ex (n0 + i) o (s.ssub (instB j b)) fr fun s' fr' => sOps ex ops n0 rest (i + 1) s' fr' k
            | false => sOps ex ops n0 rest (i + 1) ((s.ssub (instB j b)).put o.dst (.sc undef)) fr k
          .test j (go true) (go false)
        | none => .stuck

abbrev KD := AS → Nat → Inf → RT

/-- The store behind a call in a region that draws its order. -/
def callStD (σ : Store) (ids : List Nat) : Store := { setAll (saved σ ids) { delAll (saved σ ids) σ with low := σ.next } with low := min σ.low σ.next }

def sCallD (bar : Bool) (ids : List Nat) (f : FuncId) (args : List AV) (dst : Option Tmp) (s : AS) (fr : Nat) (kk : KD) : RT :=
  match F f, Φ f with
  | some fn, some _ => match patOf T fn.resultTypes.toList fr with
    | some (pat, fr') => match s.bnd fr && Nat.ble fr fr' && contL args with
      | true => .op (.call f args false) fr pat (match bar with
        | true => kk (s.put dst pat) fr' ⟨[], [], false, 0, true⟩
        | false => kk ({ s with st := callStD s.st ids }.put dst pat) fr' ⟨[], [], true, s.st.next, false⟩)
      | false => .stuck
    | none => .stuck
  | _, _ => .stuck

def sOneD (n0 N mask i : Nat) (bar : Bool) (o : Oper) (s : AS) (fr : Nat) (kk : KD) : RT :=
  match o.op with
  | .call { callee := .value fo, args := args, argTypes := _ } =>
    match s.eval fo with
    | .fn (.func f) first cap => sCallD T Φ F bar (exIds n0 N mask) f (first ++ args.toList.map s.eval ++ cap) o.dst s fr kk
    | _ => .stuck
  | op => match aop T s.eval (small s.st (foot s.eval op)) (n0 + i) op with
    | some (v, σ1) => kk ({ s with st := (match σ1.objs (n0 + i) with
          | some x => (if isE op then applyE σ1 (foot s.eval op) s.st else s.st).set (n0 + i) x
          | none => (if isE op then applyE σ1 (foot s.eval op) s.st else s.st)) }.put o.dst v) fr ⟨foot s.eval op, if isE op then foot s.eval op else [], false, 0, false⟩
    | none => match idle op with
      | true => match resid T s.eval s.st (n0 + i) op fr with
        | some (ro, pat, v, _, fr') => match s.bnd fr && Nat.ble fr fr' with
          | true => .op ro fr pat (kk (s.put o.dst v) fr' ⟨[], [], false, 0, false⟩)
          | false => .stuck
        | none => .stuck
      | false => .stuck

def sDraw (ops : Array Oper) (n0 N : Nat) (masks : List Nat) : List Oper → Nat → AS → Nat → List Inf → (AS → Nat → List Inf → RT) → RT
  | [], _, s, fr, acc, k => k s fr acc
  | o :: rest, i, s, fr, acc, k =>
    match dstOk s.n o.dst with
    | false => .stuck
    | true => match awanted ops s o with
      | some true => sOneD T Φ F n0 N (masks.getD i 0) i (isCall o.op && barAt ops masks i) o s fr fun s' fr' f => sDraw ops n0 N masks rest (i + 1) s' fr' (acc ++ [f]) k
      | some false => sDraw ops n0 N masks rest (i + 1) (s.put o.dst (.sc undef)) fr (acc ++ [⟨[], [], false, 0, false⟩]) k
      | none => match guardVar ops s o with
        | some (j, want) =>
          let go := fun b : Bool => match b == want with
            | true => sOneD T Φ F n0 N (masks.getD i 0) i (isCall o.op && barAt ops masks i) o (s.ssub (instB j b)) fr fun s' fr' f => sDraw ops n0 N masks rest (i + 1) s' fr' (acc ++ [f]) k
            | false => sDraw ops n0 N masks rest (i + 1) ((s.ssub (instB j b)).put o.dst (.sc undef)) fr (acc ++ [⟨[], [], false, 0, false⟩]) k
          .test j (go true) (go false)
        | none => .stuck

variable (H : Nat → Option Hint)

/-- A loop whose rounds are made one by one. -/
def sRounds (ex : Exe) (n : Nat) (b : Code) (k : KE) : Nat → AS → Nat → RT
  | 0, _, _ => .stuck
  | j + 1, s, fr => ex n b s fr fun e s' fr' => match e with
    | .nor => sRounds ex n b k j s' fr'
    | e => k e s' fr'

def exec : Nat → Exe
  | 0, _, _, _, _, _ => .stuck
  | m + 1, n, c, s, fr, k =>
    match c with
    | .skip => k .nor s fr
    | .label _ => k .nor s fr
    | .region _ ops false => sOps T Φ F (exec m) ops s.st.next ops.toList 0 { s with st := { s.st with next := s.st.next + ops.size } } fr fun s' fr' => k .nor s' fr'
    | .region _ ops true => match statOk ops (befs ops.toList []) with
      | true => sDraw T Φ F ops s.st.next ops.size (befs ops.toList []) ops.toList 0 { s with st := { s.st with next := s.st.next + ops.size } } fr [] fun s' fr' fs =>
          match (dynPairs ops (befs ops.toList [])).all (fun p => noconf s.st.next p.1 p.2 (fs.getD p.1 ⟨[], [], false, 0, false⟩) (fs.getD p.2 ⟨[], [], false, 0, false⟩)) with
          | true => k .nor s' fr'
          | false => .stuck
      | false => .stuck
    | .seq a b => exec m n a s fr fun e s' fr' => match e with
      | .nor => exec m n b s' fr' k
      | e => k e s' fr'
    | .cond x a b => match s.eval x with
      | .sc (.bool t) => exec m n (if t then a else b) s fr k
      | .sy i => .test i (exec m n a (s.ssub (instB i true)) fr k) (exec m n b (s.ssub (instB i false)) fr k)
      | _ => .stuck
    | .block id b => exec m n b s fr fun e s' fr' => match e with
      | .exi j => k (if j = id then .nor else .exi j) s' fr'
      | e => k e s' fr'
    | .loop b => match H fr with
      | some h => match tryMatch n fr h s, h.state.bnd (fr + h.k) with
        | some inits, true => .loop fr h.k inits (exec m n b h.state (fr + h.k + 1) fun e s' fr' => match e with
          | .nor => match tryMatch n fr h s' with
            | some vals => .again fr vals
            | none => .stuck
          | e => k e s' fr')
        | _, _ => .stuck
      | none => sRounds (exec m) n b k 1000 s fr
    | .exit id => k (.exi id) s fr
    | .ret => k .ret s fr
    | _ => .stuck

/-- The end of a function. -/
def kTop (T : Tab) (fn : Func) (e : EX) (s : AS) (_ : Nat) : RT := match e with
  | .exi _ => .stuck
  | _ => match aresults T fn s with
    | some v => match v.contP with
      | true => .ret v.nilz []
      | false => match cont1 s.st 50 v with
        | some c => .ret c.nilz (xvars s.st.tr)
        | none => .stuck
    | none => .stuck

end
end Go.Ab
