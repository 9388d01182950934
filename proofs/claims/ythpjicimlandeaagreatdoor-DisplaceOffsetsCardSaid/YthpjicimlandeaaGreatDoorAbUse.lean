/- The abstract machine, part 37: how a tree is gone down. -/
import Derived.Test.YthpjicimlandeaaGreatDoorAbExeOk2
import Derived.IntWalk
set_option linter.unusedVariables false
set_option linter.unusedSimpArgs false
namespace Go.Ab
open Go

def upd (θ : Nat → AV) (k : Nat) (v : AV) : Nat → AV := fun i => if i = k then v else θ i
def updL (θ : Nat → AV) : Nat → List AV → Nat → AV
  | _, [] => θ
  | k, v :: vs => updL (upd θ k v) (k + 1) vs
theorem Fit.upd {θ : Nat → AV} (hθ : Fit θ) {k : Nat} {v : AV} (hv : Fit1 v) : Fit (upd θ k v) := fun i => by
  unfold Go.Ab.upd
  split
  · exact hv
  · exact hθ i
theorem Fit.updL : ∀ {vs : List AV} {θ : Nat → AV} {k : Nat}, Fit θ → (∀ v ∈ vs, Fit1 v) → Fit (updL θ k vs)
  | [], _, _, h, _ => h
  | v :: vs, θ, k, h, hv => by
    show Fit (Go.Ab.updL (Go.Ab.upd θ k v) (k + 1) vs)
    exact Fit.updL (vs := vs) (Fit.upd h (hv v (by simp))) (fun u hu => hv u (by simp [hu]))
theorem updL_lt : ∀ {vs : List AV} {θ : Nat → AV} {k i : Nat}, i < k → updL θ k vs i = θ i
  | [], _, _, _, _ => rfl
  | v :: vs, θ, k, i, h => by
    rw [updL, updL_lt (by omega)]
    unfold upd; rw [if_neg (by omega)]

section
variable {T : Tab} {Φ : Tell} {Q : AV → Prop} {θ : Nat → AV} {A : Nat → List AV → Prop}

theorem Leads.op1 {o : RO} {fr : Nat} {r : RT} (v : AV) (he : evalRO T Φ θ o = some v) (hθ : Fit θ) (hv : Fit1 v) (h : Leads T Φ Q r (upd θ fr v) A) : Leads T Φ Q (.op o fr (.sy fr) r) θ A :=
  ⟨upd θ fr v, fun i hi => by unfold upd; rw [if_neg (by omega)], hθ.upd hv, by rw [he]; simp [upd], h⟩
theorem Leads.opL {o : RO} {fr : Nat} {pat : AV} {r : RT} (vs : List AV) (he : evalRO T Φ θ o = some (pat.sub (updL θ fr vs))) (hθ : Fit θ) (hv : ∀ v ∈ vs, Fit1 v) (h : Leads T Φ Q r (updL θ fr vs) A) : Leads T Φ Q (.op o fr pat r) θ A :=
  ⟨updL θ fr vs, fun i hi => updL_lt hi, hθ.updL hv, he, h⟩
theorem Leads.test {i : Nat} {a b : RT} (t : Bool) (hi : θ i = .sc (.bool t)) (h1 : t = true → Leads T Φ Q a θ A) (h2 : t = false → Leads T Φ Q b θ A) : Leads T Φ Q (.test i a b) θ A := by
  cases t with
  | true => exact .inl ⟨hi, h1 rfl⟩
  | false => exact .inr ⟨hi, h2 rfl⟩
theorem Leads.again {l : Nat} {vals : List AV} (h : A l (vals.map (AV.sub θ))) : Leads T Φ Q (.again l vals) θ A := h
theorem Leads.here {l n : Nat} {I : Nat → List AV → Prop} {vals : List AV} (h : ∃ m, m < n ∧ I m (vals.map (AV.sub θ))) : Leads T Φ Q (.again l vals) θ (fun l' => if l' = l then (fun vals' => ∃ m, m < n ∧ I m vals') else A l') := by
  show (if l = l then (fun vals' => ∃ m, m < n ∧ I m vals') else A l) (vals.map (AV.sub θ))
  rw [if_pos rfl]; exact h
theorem Leads.ret {c : AV} (h : Q (c.sub θ)) : Leads T Φ Q (.ret c []) θ A := ⟨(fun j hj => absurd hj List.not_mem_nil), h⟩

end

@[simp] theorem fit_int (k : IntKind) (n : Int) : Fit1 (.sc (.int k n)) := trivial
@[simp] theorem fit_bool (b : Bool) : Fit1 (.sc (.bool b)) := trivial
@[simp] theorem fit_str (b : ByteArray) : Fit1 (.sc (.string b)) := trivial

theorem idx_rs {T : Tab} {t e z : Nat} {es : List (List AV)} {cs : List AV} {k : IntKind} {n : Int} (ht : (T t).map TI.und = some (.slice e)) (he : (T e).map TI.size = some z) (h0 : 0 ≤ n) (hc : es[n.toNat]? = some cs) (hl : cs.length = z) :
    aIndexAddr T t (.rs es) (.sc (.int k n)) = some (.rp cs) := by
  cases hT : T t with
  | none => rw [hT] at ht; cases ht
  | some ti =>
    rw [hT] at ht
    simp only [Option.map_some, Option.some.injEq] at ht
    cases hE : T e with
    | none => rw [hE] at he; cases he
    | some ei =>
      rw [hE] at he
      simp only [Option.map_some, Option.some.injEq] at he
      obtain ⟨und, size, zero, bytes, flat⟩ := ti
      simp only at ht; subst ht
      simp only [aIndexAddr, hT, hE, h0, if_true, hc]
      rw [if_pos (by omega)]
theorem len_rs {T : Tab} {t e : Nat} {es : List (List AV)} {σ : Store} (ht : (T t).map TI.und = some (.slice e)) : aLen T σ t (.rs es) = some (.sc (.int .i64 es.length)) := by
  cases hT : T t with
  | none => rw [hT] at ht; cases ht
  | some ti =>
    rw [hT] at ht
    simp only [Option.map_some, Option.some.injEq] at ht
    simp [aLen, hT, ht, goInt]

theorem wrap_in {n : Int} (h : -9223372036854775808 ≤ n ∧ n ≤ 9223372036854775807) : IntKind.i64.wrap n = n := IntWalk.i64_in n h

/-- Told functions, by a list. -/
def tellL : List (Nat × (List AV → Option AV)) → Tell
  | [], _ => none
  | (g, φ) :: l, f => match Nat.beq g f with
    | true => some φ
    | false => tellL l f
theorem tellL_ok {P : Program} : ∀ {l : List (Nat × (List AV → Option AV))}, (∀ p ∈ l, ∀ args c, p.2 args = some c → MemoOk P ⟨p.1, args, c⟩) → TellOk P (tellL l)
  | [], _ => fun f φ h => by simp [tellL] at h
  | (g, φ0) :: l, hl => fun f φ h args c hc => by
    unfold tellL at h
    split at h
    · rename_i hg
      cases h
      have := Nat.eq_of_beq_eq_true hg
      subst this
      exact hl (g, _) (List.mem_cons_self) args c hc
    · exact tellL_ok (fun p hp => hl p (by simp [hp])) f φ h args c hc

def hintL : List (Nat × Hint) → Nat → Option Hint
  | [], _ => none
  | (g, h) :: l, f => match Nat.beq g f with
    | true => some h
    | false => hintL l f

/-- The tree of a function. -/
def runTree (T : Tab) (Φ : Tell) (F : FuncId → Option Func) (H : List (Nat × Hint)) (m : Nat) (f : FuncId) (pargs : List AV) (fr : Nat) : RT :=
  match F f with
  | some fn => match fn.body with
    | some c => match !(fn.name == "runtime.NumGoroutine") && Nat.ble pargs.length fn.ntmps && contL pargs with
      | true => exec T Φ F (hintL H) m 0 c (AS.enter fn.ntmps pargs Store.none) fr (kTop T fn)
      | false => .stuck
    | none => .stuck
  | none => .stuck

theorem runTree_ok {P : Program} {T : Tab} (hT : TabOk P T) {Φ : Tell} (hΦ : TellOk P Φ) {F : FuncId → Option Func} (hF : ∀ f fn, F f = some fn → P.funcs[f]? = some fn) (hm : P.follows .mixedOrders = true) {H : List (Nat × Hint)} {m : Nat} {f : FuncId} {pargs : List AV} {fr : Nat}
    {θ : Nat → AV} (hθ : Fit θ) {r : AV} (h : Leads T Φ (fun c => c = r) (runTree T Φ F H m f pargs fr) θ (fun _ _ => False)) : MemoOk P ⟨f, pargs.map (AV.sub θ), r⟩ := by
  unfold runTree at h
  split at h
  · rename_i fn hfn
    split at h
    · rename_i c hb
      split at h
      · rename_i hc
        simp only [Bool.and_eq_true, Bool.not_eq_true'] at hc
        exact fn_ok hT hΦ hF hm hfn hc.1.1 hb (Nat.le_of_ble_eq_true hc.1.2) hc.2 hθ h
      · exact h.elim
    · exact h.elim
  · exact h.elim

/-- What stands for the variables at first. -/
def env (l : List AV) (i : Nat) : AV := (l[i]?).getD (.sc (.bool false))
theorem Fit.env {l : List AV} (h : ∀ v ∈ l, Fit1 v) : Fit (env l) := fun i => by
  unfold Go.Ab.env
  cases hi : l[i]? with
  | none => trivial
  | some v => exact h v (List.mem_of_getElem? hi)

end Go.Ab
