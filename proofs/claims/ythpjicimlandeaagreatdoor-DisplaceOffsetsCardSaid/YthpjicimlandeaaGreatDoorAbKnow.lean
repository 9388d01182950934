/- The abstract machine: what is told of slices.Clone and of math/bits.Add64, out of a look at the program's table. -/
import Derived.Test.YthpjicimlandeaaGreatDoorAbClone2
set_option linter.unusedVariables false
set_option linter.unusedSimpArgs false
namespace Go.Ab
open Go

def isNilS : Operand → Bool
  | .const (.slice none 0 0) => true
  | _ => false
theorem isNilS_eq {x : Operand} (h : isNilS x = true) : x = nilS := by
  unfold isNilS at h
  split at h
  · rfl
  · cases h
def plainTo (o : Oper) (d : Nat) : Bool := match o.guard, o.dst with
  | none, some e => Nat.beq e d
  | _, _ => false
theorem plainTo_is {o : Oper} {d : Nat} {op : Op} (h : plainTo o d = true) (hop : o.op = op) : OpIs o (some d) op := by
  unfold plainTo at h
  split at h
  · rename_i h1 h2
    rw [Nat.beq_eq] at h
    subst h
    exact ⟨h2, hop, h1⟩
  · cases h
def asgNil (o : Oper) : Bool := match o.op with
  | .assign x => isNilS x
  | _ => false
theorem asgNil_eq {o : Oper} (h : asgNil o = true) : o.op = .assign nilS := by
  unfold asgNil at h
  split at h
  · rename_i x hx; rw [hx, isNilS_eq h]
  · cases h
def isTmp (n : Nat) : Operand → Bool
  | .tmp m => Nat.beq m n
  | _ => false
theorem isTmp_eq {n : Nat} {x : Operand} (h : isTmp n x = true) : x = .tmp n := by
  unfold isTmp at h
  split at h
  · rw [Nat.beq_eq] at h; rw [h]
  · cases h
def mov0 (o : Oper) : Bool := match o.op with
  | .move x => isTmp 0 x
  | _ => false
theorem mov0_eq {o : Oper} (h : mov0 o = true) : o.op = .move (.tmp 0) := by
  unfold mov0 at h
  split at h
  · rename_i x hx; rw [hx, isTmp_eq h]
  · cases h
def asg7 (o : Oper) : Bool := match o.op with
  | .assign x => isTmp 7 x
  | _ => false
theorem asg7_eq {o : Oper} (h : asg7 o = true) : o.op = .assign (.tmp 7) := by
  unfold asg7 at h
  split at h
  · rename_i x hx; rw [hx, isTmp_eq h]
  · cases h
def eqNil (t : Nat) (o : Oper) : Bool := match o.op with
  | .binOp .eql t' x y _ => Nat.beq t' t && isTmp 3 x && isNilS y
  | _ => false
theorem eqNil_eq {t : Nat} {o : Oper} (h : eqNil t o = true) : ∃ yt, o.op = .binOp .eql t (.tmp 3) nilS yt := by
  unfold eqNil at h
  split at h
  · rename_i t' x y yt hx
    simp only [Bool.and_eq_true, Nat.beq_eq] at h
    obtain ⟨⟨rfl, h2⟩, h3⟩ := h
    exact ⟨yt, by rw [hx, isTmp_eq h2, isNilS_eq h3]⟩
  · cases h
def bs0 (t : Nat) (o : Oper) : Bool := match o.op with
  | .buildSlice t' 0 ⟨[]⟩ => Nat.beq t' t
  | _ => false
theorem bs0_eq {t : Nat} {o : Oper} (h : bs0 t o = true) : o.op = .buildSlice t 0 #[] := by
  unfold bs0 at h
  split at h
  · rename_i t' hx; rw [Nat.beq_eq] at h; rw [hx, h]
  · cases h
def app56 (t : Nat) (o : Oper) : Bool := match o.op with
  | .call { callee := .builtin .append, args := ⟨[x, y]⟩, argTypes := ⟨[a, b]⟩ } => isTmp 5 x && isTmp 6 y && Nat.beq a t && Nat.beq b t
  | _ => false
theorem app56_eq {t : Nat} {o : Oper} (h : app56 t o = true) : o.op = .call { callee := .builtin .append, args := #[.tmp 5, .tmp 6], argTypes := #[t, t] } := by
  unfold app56 at h
  split at h
  · rename_i x y a b hx
    simp only [Bool.and_eq_true, Nat.beq_eq] at h
    obtain ⟨⟨⟨h1, h2⟩, rfl⟩, rfl⟩ := h
    rw [hx, isTmp_eq h1, isTmp_eq h2]
  · cases h

def cloneB (fn : Func) (t : Nat) : Bool := Nat.beq fn.ntmps 8 && (match fn.results with
    | ⟨[.tmp n]⟩ => Nat.beq n 2
    | _ => false) && match fn.body with
  | some (.seq (.region _ ⟨[o0]⟩ false) (.seq (.seq (.region _ ⟨[o1, o2]⟩ false) (.cond x (.seq (.region _ ⟨[o3]⟩ false) .ret) .skip)) (.seq (.region _ ⟨[o4, o5, o6, o7]⟩ false) .ret))) =>
    isTmp 4 x && plainTo o0 2 && asgNil o0 && plainTo o1 3 && mov0 o1 && plainTo o2 4 && eqNil t o2 && plainTo o3 2 && asgNil o3 && plainTo o4 5 && bs0 t o4 && plainTo o5 6 && mov0 o5 && plainTo o6 7 && app56 t o6 && plainTo o7 2 && asg7 o7
  | _ => false

theorem cloneB_ok {fn : Func} {t : Nat} (h : cloneB fn t = true) : CloneFn fn t := by
  unfold cloneB at h
  simp only [Bool.and_eq_true, Nat.beq_eq] at h
  obtain ⟨⟨h1, h2⟩, h3⟩ := h
  split at h2
  · rename_i x hx
    split at h3
    · rename_i i0 o0 i1 o1 o2 y i2 o3 i3 o4 o5 o6 o7 hb
      simp only [Bool.and_eq_true] at h3
      obtain ⟨⟨⟨⟨⟨⟨⟨⟨⟨⟨⟨⟨⟨⟨⟨⟨hy, a0⟩, b0⟩, a1⟩, b1⟩, a2⟩, b2⟩, a3⟩, b3⟩, a4⟩, b4⟩, a5⟩, b5⟩, a6⟩, b6⟩, a7⟩, b7⟩ := h3
      obtain ⟨yt, e2⟩ := eqNil_eq b2
      refine ⟨h1, by rw [hx, Nat.eq_of_beq_eq_true h2], i0, i1, i2, i3, o0, o1, o2, o3, o4, o5, o6, o7, yt, ?_, plainTo_is a0 (asgNil_eq b0), plainTo_is a1 (mov0_eq b1), plainTo_is a2 e2, plainTo_is a3 (asgNil_eq b3), plainTo_is a4 (bs0_eq b4), plainTo_is a5 (mov0_eq b5), plainTo_is a6 (app56_eq b6), plainTo_is a7 (asg7_eq b7)⟩
      rw [hb, isTmp_eq hy]
    · cases h3
  · cases h2

/-- Told: the functions of the table that are slices.Clone (with their types), and math/bits.Add64. -/
def knowL (T : Tab) (ad : Nat) : List (Nat × Nat) → AKnow
  | [], f => match Nat.beq f ad with
    | true => some aAdd64
    | false => none
  | (g, t) :: l, f => match Nat.beq f g with
    | true => some (aClone T t)
    | false => knowL T ad l f

theorem knowL_ok {P : Program} {T : Tab} (hT : TabOk P T) {ad : Nat} (hrun : ∀ args w, (callFunc ad args).run P w = ((add64Entry args).run P w).andThen fun v w' => .ok (.value v) w') :
    ∀ {l : List (Nat × Nat)}, (∀ p ∈ l, ∃ fn, P.funcs[p.1]? = some fn ∧ (fn.name == "runtime.NumGoroutine") = false ∧ cloneB fn p.2 = true) → AKnowOk P (knowL T ad l)
  | [], _, f, g, hg, args, σ, v, σ', hv => by
    unfold knowL at hg
    split at hg
    · rename_i e; rw [Nat.beq_eq] at e; subst e; cases hg; exact aAdd64_ok hrun hv
    · cases hg
  | (a, t) :: l, h, f, g, hg, args, σ, v, σ', hv => by
    unfold knowL at hg
    split at hg
    · rename_i e; rw [Nat.beq_eq] at e; subst e; cases hg
      obtain ⟨fn, h1, h2, h3⟩ := h (f, t) (by simp)
      exact aClone_ok hT h1 h2 (cloneB_ok h3) hv
    · exact knowL_ok hT hrun (fun p hp => h p (by simp [hp])) f g hg args σ v σ' hv
/-- The look at the table. -/
def clonesB (F : FuncId → Option Func) (l : List (Nat × Nat)) : Bool := l.all fun p => match F p.1 with
  | some fn => !(fn.name == "runtime.NumGoroutine") && cloneB fn p.2
  | none => false
theorem clonesB_ok {P : Program} {F : FuncId → Option Func} (hF : ∀ f fn, F f = some fn → P.funcs[f]? = some fn) {l : List (Nat × Nat)} (h : clonesB F l = true) : ∀ p ∈ l, ∃ fn, P.funcs[p.1]? = some fn ∧ (fn.name == "runtime.NumGoroutine") = false ∧ cloneB fn p.2 = true := by
  intro p hp
  have := List.all_eq_true.1 h p hp
  split at this
  · rename_i fn hfn
    simp only [Bool.and_eq_true, Bool.not_eq_true'] at this
    exact ⟨fn, hF _ _ hfn, this.1, this.2⟩
  · cases this
end Go.Ab
