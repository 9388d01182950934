/- The abstract machine, part 24: calls on contents that were run before. -/
import Derived.Test.YthpjicimlandeaaGreatDoorAbPure
set_option linter.unusedVariables false
set_option linter.unusedSimpArgs false
namespace Go.Ab
open Go

def vbeq : Value → Value → Bool
  | .bool a, .bool b => a == b
  | .int k a, .int l b => decide (k = l) && decide (a = b)
  | .string a, .string b => decide (a = b)
  | .slice none 0 0, .slice none 0 0 => true
  | _, _ => false

theorem vbeq_eq {a b : Value} (h : vbeq a b = true) : a = b := by
  unfold vbeq at h
  split at h
  · simp at h; rw [h]
  · rw [Bool.and_eq_true] at h; rw [of_decide_eq_true h.1, of_decide_eq_true h.2]
  · rw [of_decide_eq_true h]
  · rfl
  · cases h

def lbeq (f : AV → AV → Bool) : List AV → List AV → Bool
  | [], [] => true
  | a :: as, b :: bs => f a b && lbeq f as bs
  | _, _ => false

def rbeq (f : AV → AV → Bool) : List (List AV) → List (List AV) → Bool
  | [], [] => true
  | a :: as, b :: bs => lbeq f a b && rbeq f as bs
  | _, _ => false

theorem lbeq_eq {f : AV → AV → Bool} (hf : ∀ a b, f a b = true → a = b) : ∀ {l m : List AV}, lbeq f l m = true → l = m
  | [], [], _ => rfl
  | [], _ :: _, h => by simp [lbeq] at h
  | _ :: _, [], h => by simp [lbeq] at h
  | a :: as, b :: bs, h => by
    simp only [lbeq, Bool.and_eq_true] at h
    rw [hf a b h.1, lbeq_eq hf h.2]

theorem rbeq_eq {f : AV → AV → Bool} (hf : ∀ a b, f a b = true → a = b) : ∀ {l m : List (List AV)}, rbeq f l m = true → l = m
  | [], [], _ => rfl
  | [], _ :: _, h => by simp [rbeq] at h
  | _ :: _, [], h => by simp [rbeq] at h
  | a :: as, b :: bs, h => by
    simp only [rbeq, Bool.and_eq_true] at h
    rw [lbeq_eq hf h.1, rbeq_eq hf h.2]

def abeq : Nat → AV → AV → Bool
  | 0, _, _ => false
  | k + 1, a, b => match a, b with
    | .sc x, .sc y => vbeq x y
    | .rs x, .rs y => rbeq (abeq k) x y
    | .agg x, .agg y => lbeq (abeq k) x y
    | .tup x, .tup y => lbeq (abeq k) x y
    | _, _ => false

theorem abeq_eq : ∀ (k : Nat) (a b : AV), abeq k a b = true → a = b
  | 0, a, b, h => by simp [abeq] at h
  | k + 1, a, b, h => by
    unfold abeq at h
    split at h
    · rw [vbeq_eq h]
    · rw [rbeq_eq (abeq_eq k) h]
    · rw [lbeq_eq (abeq_eq k) h]
    · rw [lbeq_eq (abeq_eq k) h]
    · cases h

structure Memo where
  f : FuncId
  args : List AV
  c : AV

def MemoOk (P : Program) (m : Memo) : Prop := ∀ σ, ACallOk P m.f m.args σ (fun v σ' => v = m.c ∧ σ' = σ)

def memoFind (f : FuncId) (args : List AV) : List Memo → Option AV
  | [] => none
  | m :: l => match Nat.beq m.f f with
    | true => match lbeq (abeq 100) m.args args with
      | true => some m.c
      | false => memoFind f args l
    | false => memoFind f args l

theorem memoFind_mem {f : FuncId} {args : List AV} {c : AV} : ∀ {l : List Memo}, memoFind f args l = some c → ∃ m ∈ l, m.f = f ∧ m.args = args ∧ m.c = c
  | [], h => by simp [memoFind] at h
  | m :: l, h => by
    unfold memoFind at h
    split at h
    · rename_i hf
      split at h
      · rename_i ha
        cases h
        exact ⟨m, by simp, Nat.eq_of_beq_eq_true hf, lbeq_eq (abeq_eq 100) ha, rfl⟩
      · obtain ⟨m', h1, h2⟩ := memoFind_mem h
        exact ⟨m', List.mem_cons_of_mem _ h1, h2⟩
    · obtain ⟨m', h1, h2⟩ := memoFind_mem h
      exact ⟨m', List.mem_cons_of_mem _ h1, h2⟩

/-- What is told, and behind it what was run before. -/
def memoK (l : List Memo) (base : AKnow) : AKnow := fun f => match base f with
  | some g => some g
  | none => some fun args σ => match memoFind f args l with
    | some c => some (c, σ)
    | none => none

theorem memoK_ok {P : Program} {l : List Memo} {base : AKnow} (hb : AKnowOk P base) (hl : ∀ m ∈ l, MemoOk P m) : AKnowOk P (memoK l base) := by
  intro f g hg args σ v σ' h
  unfold memoK at hg
  split at hg
  · rename_i g' hg'
    cases hg
    exact hb f g hg' args σ v σ' h
  · cases hg
    simp only at h
    split at h
    · rename_i c hc
      cases h
      obtain ⟨m, h1, rfl, rfl, rfl⟩ := memoFind_mem hc
      exact ⟨hl m h1 σ, .refl _⟩
    · cases h

def pureRun (T : Tab) (F : FuncId → Option Func) (K : AKnow) (fuel : Nat) (f : FuncId) (args : List AV) : Option AV :=
  match args.all (AV.pure 100) with
  | true => match callWith T F K (go T F K fuel) f args Store.none with
    | some (v, σ) => deep σ 100 v
    | none => none
  | false => none

theorem pureRun_ok {P : Program} {T : Tab} (hT : TabOk P T) {F : FuncId → Option Func} (hF : ∀ f fn, F f = some fn → P.funcs[f]? = some fn) (hm : P.follows .mixedOrders = true) {K : AKnow} (hK : AKnowOk P K)
    {fuel : Nat} {f : FuncId} {args : List AV} {c : AV} (h : pureRun T F K fuel f args = some c) : MemoOk P ⟨f, args, c⟩ := by
  intro σ
  unfold pureRun at h
  split at h
  · rename_i hp
    split at h
    · rename_i v σ' hr
      exact pure_call hp h (go_calls hT hF hm hK hr) σ
    · cases h
  · cases h

end Go.Ab
