/- The abstract machine, part 11: frames, regions in the order of the text, code, calls. -/
import Derived.Test.YthpjicimlandeaaGreatDoorAbMach
import Derived.Orders
set_option linter.unusedVariables false
set_option linter.unusedSimpArgs false
namespace Go.Ab
open Go

structure AS where
  n : Nat
  tr : Tr AV
  st : Store

def AS.get (s : AS) (t : Nat) : AV := (s.tr.get t).getD (.sc undef)

def AS.put (s : AS) (d : Option Tmp) (v : AV) : AS :=
  match d with
  | some d => { s with tr := s.tr.set d (some v) }
  | none => s

def AS.eval (s : AS) : Operand → AV
  | .tmp t => s.get t
  | .const v => .ofValue v
  | .global g => .sc (.pointer (some ⟨g, 0, none⟩))
  | .func f => .fn (.func f) [] []

theorem AS.get_put (s : AS) (d : Nat) (v : AV) (t : Nat) : (s.put (some d) v).get t = if t = d then v else s.get t := by
  simp only [AS.get, AS.put, Tr.get_set]
  split <;> rfl
@[simp] theorem AS.put_n (s : AS) (d : Option Tmp) (v : AV) : (s.put d v).n = s.n := by cases d <;> rfl
@[simp] theorem AS.put_st (s : AS) (d : Option Tmp) (v : AV) : (s.put d v).st = s.st := by cases d <;> rfl

/-- A frame and a world hold a state. -/
structure RelS (G : Ghost) (s : AS) (a : Act) (w : World) : Prop where
  defers : a.defers = []
  size : a.tmps.size = s.n
  tmps : ∀ t, Rep G (s.get t) (a.tmps.getD t undef)
  rel : Rel G s.st w

theorem RelS.eval {G : Ghost} {s : AS} {a : Act} {w : World} (h : RelS G s a w) (x : Operand) : Rep G (s.eval x) (a.eval x) := by
  cases x with
  | tmp t => exact h.tmps t
  | const v => exact Rep.ofValue G v
  | global g => exact .sc _
  | func f => exact .fn _ [] [] [] [] rfl rfl (fun i h => by simp at h) (fun i h => by simp at h)

def dstOk (n : Nat) : Option Tmp → Bool
  | some d => d < n
  | none => true

theorem RelS.put {G G' : Ghost} {s : AS} {a : Act} {w w' : World} {σ' : Store} (h : RelS G s a w) (hG : G.le G') (hr : Rel G' σ' w') {v : AV} {u : Value} (hv : Rep G' v u) {d : Option Tmp} (hd : dstOk s.n d = true) :
    RelS G' ({ s with st := σ' }.put d v) (a.put d u) w' := by
  cases d with
  | none => exact ⟨h.defers, h.size, fun t => (h.tmps t).mono hG, hr⟩
  | some d =>
    refine ⟨h.defers, by simp [Act.put, AS.put, h.size], fun t => ?_, hr⟩
    rw [AS.get_put]
    simp only [dstOk, decide_eq_true_eq] at hd
    simp only [Act.put]
    by_cases e : t = d
    · subst e
      rw [if_pos rfl]
      simp [h.size, hd]; exact hv
    · rw [if_neg e]
      have : (a.tmps.setIfInBounds d u).getD t undef = a.tmps.getD t undef := by
        simp [Array.getElem?_setIfInBounds, Ne.symm e]
      rw [this]
      exact (h.tmps t).mono hG

/-- What stays free. -/
def Keeps (n : Nat) (G G' : Ghost) : Prop := ∀ i, i < n → G.pl i = none → G'.pl i = none
theorem Keeps.refl (n : Nat) (G : Ghost) : Keeps n G G := fun _ _ h => h
theorem Keeps.trans {n m : Nat} {A B C : Ghost} (h : Keeps n A B) (k : Keeps m B C) (hnm : n ≤ m) : Keeps n A C := fun i hi ha => k i (by omega) (h i hi ha)

/-- A step from one state of memory to the next: the numbers below n that were free stay free. -/
structure Tran (n : Nat) (G : Ghost) (σ : Store) (w : World) (G' : Ghost) (σ' : Store) (w' : World) : Prop where
  le : G.le G'
  keeps : Keeps n G G'
  next : σ.next ≤ σ'.next
  fr : Fr G σ w G' σ' w'

theorem Tran.refl (n : Nat) (G : Ghost) (σ : Store) (w : World) : Tran n G σ w G σ w := ⟨.refl G, .refl n G, Nat.le_refl _, .refl G σ w⟩
theorem Tran.trans {n m : Nat} {G1 G2 G3 : Ghost} {σ1 σ2 σ3 : Store} {w1 w2 w3 : World} (h : Tran n G1 σ1 w1 G2 σ2 w2) (k : Tran m G2 σ2 w2 G3 σ3 w3) (hnm : n ≤ m) : Tran n G1 σ1 w1 G3 σ3 w3 :=
  ⟨h.le.trans k.le, h.keeps.trans k.keeps hnm, Nat.le_trans h.next k.next, h.fr.trans k.fr⟩

/-- A call, on abstract values. -/
def ACalls (P : Program) (f : FuncId) (args : List AV) (σ : Store) (R : AV → Store → Prop) : Prop :=
  ∀ G vs w, Reps G args vs → Rel G σ w → Calls P f vs.toArray w fun e w' => ∃ v av σ' G', e = .returned v ∧ Tran σ.next G σ w G' σ' w' ∧ Rep G' av v ∧ Rel G' σ' w' ∧ R av σ'

theorem ACalls.mono {P : Program} {f : FuncId} {args : List AV} {σ : Store} {R R' : AV → Store → Prop} (h : ACalls P f args σ R) (hr : ∀ v σ', R v σ' → R' v σ') : ACalls P f args σ R' :=
  fun G vs w h1 h2 => (h G vs w h1 h2).mono fun _ _ ⟨v, av, σ', G', a1, a2, a3, a4, a5⟩ => ⟨v, av, σ', G', a1, a2, a3, a4, hr _ _ a5⟩

/-- A call, whether it enters a body or is stood in for by the model. -/
def ACallOk (P : Program) (f : FuncId) (args : List AV) (σ : Store) (R : AV → Store → Prop) : Prop :=
  ∀ G vs w, Reps G args vs → Rel G σ w → ∀ (o : Oper) (a : Act) (K : Act → World → Prop) (Q : Exit → Act → World → Prop),
    (∀ u av σ' G' w', Tran σ.next G σ w G' σ' w' → Rep G' av u → Rel G' σ' w' → R av σ' → K (a.put o.dst u) w') → o.upon P a K Q ((callFunc f vs.toArray).run P w)

theorem ACallOk.mono {P : Program} {f : FuncId} {args : List AV} {σ : Store} {R R' : AV → Store → Prop} (h : ACallOk P f args σ R) (hr : ∀ v σ', R v σ' → R' v σ') : ACallOk P f args σ R' :=
  fun G vs w h1 h2 o a K Q hK => h G vs w h1 h2 o a K Q fun u av σ' G' w' b1 b2 b3 b4 => hK u av σ' G' w' b1 b2 b3 (hr _ _ b4)

theorem ACallOk.of_calls {P : Program} {f : FuncId} {args : List AV} {σ : Store} {R : AV → Store → Prop} {fn : Func} (hfn : P.funcs[f]? = some fn) (hname : (fn.name == "runtime.NumGoroutine") = false) (hbody : fn.body.isNone = false)
    (h : ACalls P f args σ R) : ACallOk P f args σ R := by
  intro G vs w h1 h2 o a K Q hK
  have hrun : (callFunc f vs.toArray).run P w = .ok (.enter f vs.toArray) w := by
    simp only [callFunc, Sem.run_bind, run_program, Result.andThen_ok, hfn, hname, hbody, Bool.false_eq_true, if_false, Sem.run_pure]
  rw [hrun]
  simp only [Oper.upon]
  refine (h G _ w h1 h2).mono ?_
  rintro e w' ⟨v, av, σ', G', rfl, b1, b3, b4, b6⟩
  exact hK v av σ' G' w' b1 b3 b4 b6

theorem ACallOk.of_extern {P : Program} {f : FuncId} {args : List AV} {σ : Store} {R : AV → Store → Prop} (av : AV) (hR : R av σ)
    (h : ∀ G vs w, Reps G args vs → Rel G σ w → ∃ u, (callFunc f vs.toArray).run P w = .ok (.value u) w ∧ Rep G av u) : ACallOk P f args σ R := by
  intro G vs w h1 h2 o a K Q hK
  obtain ⟨u, hu, hr⟩ := h G vs w h1 h2
  rw [hu]
  exact hK u av σ G w (.refl _ _ _ _) hr h2 hR

/-- A piece of code, on abstract states. -/
def AWp (P : Program) (c : Code) (Q : Exit → AS → Prop) (s : AS) : Prop :=
  ∀ G a w, RelS G s a w → c.wp P (fun e a' w' => ∃ s' G', Tran s.st.next G s.st w G' s'.st w' ∧ RelS G' s' a' w' ∧ Q e s') a w

section
variable {P : Program} {Q : Exit → AS → Prop} {s : AS}

theorem AWp.mono {c : Code} {Q' : Exit → AS → Prop} (h : AWp P c Q s) (hq : ∀ e s', Q e s' → Q' e s') : AWp P c Q' s :=
  fun G a w hr => wp_mono (h G a w hr) fun _ _ _ ⟨s', G', a1, a2, a3⟩ => ⟨s', G', a1, a2, hq _ _ a3⟩

theorem AWp.skip (h : Q .normal s) : AWp P .skip Q s := fun G _ _ hr => wp_skip ⟨s, G, .refl _ _ _ _, hr, h⟩
theorem AWp.label {l : Nat} (h : Q .normal s) : AWp P (.label l) Q s := fun G _ _ hr => wp_label ⟨s, G, .refl _ _ _ _, hr, h⟩
theorem AWp.exit {id : Nat} (h : Q (.exit id) s) : AWp P (.exit id) Q s := fun G _ _ hr => wp_exit ⟨s, G, .refl _ _ _ _, hr, h⟩
theorem AWp.ret (h : Q .ret s) : AWp P .ret Q s := fun G _ _ hr => wp_ret ⟨s, G, .refl _ _ _ _, hr, h⟩

/-- What follows where the code ends as it should. -/
def AThen (K : AS → Prop) (Q : Exit → AS → Prop) : Exit → AS → Prop
  | .normal, s => K s
  | e, s => Q e s

theorem AWp.seq {x y : Code} (h : AWp P x (AThen (AWp P y Q) Q) s) : AWp P (.seq x y) Q s := by
  intro G a w hr
  refine wp_seq (wp_mono (h G a w hr) ?_)
  rintro e a' w' ⟨s', G', a1, a2, a3⟩
  cases e with
  | normal =>
    refine wp_mono (a3 G' a' w' a2) ?_
    rintro e2 a2' w2 ⟨s2, G2, b1, b2, b3⟩
    exact ⟨s2, G2, a1.trans b1 a1.next, b2, b3⟩
  | _ => exact ⟨s', G', a1, a2, a3⟩

theorem AWp.cond {c : Operand} {x y : Code} {t : Bool} (hc : s.eval c = .sc (.bool t)) (h : AWp P (if t then x else y) Q s) : AWp P (.cond c x y) Q s := by
  intro G a w hr
  have := hr.eval c
  rw [hc] at this
  generalize hev : a.eval c = u at this
  cases this
  exact wp_cond hev (h G a w hr)

def AInBlock (id : Nat) (Q : Exit → AS → Prop) : Exit → AS → Prop
  | .exit id', s => if id' = id then Q .normal s else Q (.exit id') s
  | e, s => Q e s

theorem AWp.block {id : Nat} {c : Code} (h : AWp P c (AInBlock id Q) s) : AWp P (.block id c) Q s := by
  intro G a w hr
  refine wp_block (wp_mono (h G a w hr) ?_)
  rintro e a' w' ⟨s', G', a1, a2, a3⟩
  cases e with
  | exit id' =>
    simp only [AInBlock] at a3
    simp only [Exit.inBlock]
    split
    · rename_i e; rw [if_pos e] at a3; exact ⟨s', G', a1, a2, a3⟩
    · rename_i e; rw [if_neg e] at a3; exact ⟨s', G', a1, a2, a3⟩
  | _ => exact ⟨s', G', a1, a2, a3⟩

/-- A loop: what holds with the number n of rounds that may still come. -/
theorem AWp.loop {c : Code} (I : Nat → AS → Prop) (round : ∀ n s, I n s → AWp P c (AThen (fun s' => ∃ m, m < n ∧ I m s') Q) s) {n : Nat} (h0 : I n s) : AWp P (.loop c) Q s := by
  intro G a w hr
  have pick : ∀ a1 w1, (∃ n, ∃ s' G', Tran s.st.next G s.st w G' s'.st w1 ∧ RelS G' s' a1 w1 ∧ I n s') →
      ∃ n, (∃ s' G', Tran s.st.next G s.st w G' s'.st w1 ∧ RelS G' s' a1 w1 ∧ I n s') ∧ ∀ m, m < n → ¬ ∃ s' G', Tran s.st.next G s.st w G' s'.st w1 ∧ RelS G' s' a1 w1 ∧ I m s' := by
    rintro a1 w1 ⟨n, hn⟩
    induction n using Nat.strongRecOn with
    | _ n ih =>
      by_cases hm : ∃ m, m < n ∧ ∃ s' G', Tran s.st.next G s.st w G' s'.st w1 ∧ RelS G' s' a1 w1 ∧ I m s'
      · obtain ⟨m, hm1, hm2⟩ := hm
        exact ih m hm1 hm2
      · exact ⟨n, hn, fun m hm1 hm2 => hm ⟨m, hm1, hm2⟩⟩
  classical
  let μ : Act → World → Nat := fun a1 w1 => if h : ∃ n, ∃ s' G', Tran s.st.next G s.st w G' s'.st w1 ∧ RelS G' s' a1 w1 ∧ I n s' then (pick a1 w1 h).choose else 0
  refine wp_loop (fun a1 w1 => ∃ n, ∃ s' G', Tran s.st.next G s.st w G' s'.st w1 ∧ RelS G' s' a1 w1 ∧ I n s') μ ⟨n, s, G, .refl _ _ _ _, hr, h0⟩ ?_
  intro a1 w1 hI
  have hμ : μ a1 w1 = (pick a1 w1 hI).choose := by simp only [μ]; rw [dif_pos hI]
  obtain ⟨⟨s', G', b1, b2, b3⟩, hleast⟩ := (pick a1 w1 hI).choose_spec
  rw [hμ]
  refine wp_mono (round _ s' b3 G' a1 w1 b2) ?_
  rintro e a2 w2 ⟨s2, G2, c1, c2, c3⟩
  have ht := b1.trans c1 b1.next
  cases e with
  | normal =>
    obtain ⟨m, hm, hIm⟩ := c3
    have hI2 : ∃ n, ∃ s' G', Tran s.st.next G s.st w G' s'.st w2 ∧ RelS G' s' a2 w2 ∧ I n s' := ⟨m, s2, G2, ht, c2, hIm⟩
    refine ⟨hI2, ?_⟩
    have hμ2 : μ a2 w2 = (pick a2 w2 hI2).choose := by simp only [μ]; rw [dif_pos hI2]
    rw [hμ2]
    have h2 := (pick a2 w2 hI2).choose_spec.2
    rcases Nat.lt_or_ge m (pick a2 w2 hI2).choose with hlt | hge
    · exact absurd ⟨s2, G2, ht, c2, hIm⟩ (h2 m hlt)
    · omega
  | _ => exact ⟨s2, G2, ht, c2, c3⟩

end

/-! ### regions in the order of the text -/

/-- Is the operation wanted? -/
def awanted (ops : Array Oper) (s : AS) (o : Oper) : Option Bool :=
  match o.guard with
  | none => some true
  | some (j, want) => match (ops[j]?).bind (·.dst) with
    | some d => if d < s.n then
        match s.get d with
        | .sc (.bool b) => some (b == want)
        | .sc (.tuple _) => some false
        | _ => none
      else none
    | none => none

theorem awanted_ok {ops : Array Oper} {s : AS} {o : Oper} {b : Bool} {G : Ghost} {a : Act} {w : World} (h : RelS G s a w) (ha : awanted ops s o = some b) : Region.wanted o (yielded ops a.tmps) = b := by
  unfold awanted at ha
  unfold Region.wanted
  split at ha
  · rename_i hg; cases ha; simp [hg]
  · rename_i j want hg
    simp only [hg]
    split at ha
    · rename_i d hd
      split at ha
      · rename_i hlt
        have ht := h.tmps d
        have hget : a.tmps[d]? = some (a.tmps.getD d undef) := by simp [h.size, hlt]
        simp only [yielded, hd, Option.bind_some, hget]
        split at ha
        · rename_i b' hb
          cases ha
          rw [hb] at ht
          generalize a.tmps.getD d undef = u at ht
          cases ht
          cases b' <;> cases want <;> rfl
        · rename_i hb
          cases ha
          rw [hb] at ht
          generalize a.tmps.getD d undef = u at ht
          cases ht
          cases want <;> rfl
        · cases ha
      · cases ha
    · cases ha

/-- The operations of a region from some place on. -/
def AOps (P : Program) (ops : Array Oper) (n0 : Nat) (Q : AS → Prop) (l : List Nat) (s : AS) : Prop :=
  ∀ G a w, RelS G s a w → (∀ j ∈ l, j < ops.size ∧ G.pl (n0 + j) = none) → n0 + ops.size ≤ s.st.next →
    wpOps P ops (fun e a' w' => e = .normal ∧ ∃ s' G', Tran n0 G s.st w G' s'.st w' ∧ RelS G' s' a' w' ∧ Q s') l a w

section
variable {P : Program} {ops : Array Oper} {n0 : Nat} {Q : AS → Prop} {s : AS}

theorem wpOps_mono {Q Q' : Exit → Act → World → Prop} (h : ∀ e a w, Q e a w → Q' e a w) : ∀ (l : List Nat) (a : Act) (w : World), wpOps P ops Q l a w → wpOps P ops Q' l a w
  | [], a, w, hh => h _ _ _ hh
  | i :: rest, a, w, hh => by
    simp only [wpOps] at hh ⊢
    split
    · rename_i ho; simp only [ho] at hh; exact wpOps_mono h rest a w hh
    · rename_i o ho
      simp only [ho] at hh
      split
      · rename_i hw
        simp only [hw, if_true] at hh
        rcases hh with hh | ⟨h1, a0, w0, h2⟩
        · left
          unfold Oper.wp at *
          generalize (execOp a.eval o).run P w = r at *
          cases r with
          | ok n w' =>
            cases n <;> simp only [Oper.upon] at hh ⊢ <;>
              first
                | exact wpOps_mono h rest _ _ hh
                | exact Calls.mono hh (fun e w'' he => by
                    cases e with
                    | returned v => exact wpOps_mono h rest _ _ he
                    | panicked c => exact h _ _ _ he
                    | outgrown => obtain ⟨a0, w0, h0⟩ := he; exact ⟨a0, w0, h _ _ _ h0⟩)
                | exact Rows.mono hh (fun _ _ he => wpOps_mono h rest _ _ he)
          | halt x w' => cases x <;> simp only [Oper.upon] at hh ⊢ <;> first | exact h _ _ _ hh | exact hh
        · exact .inr ⟨h1, a0, w0, h _ _ _ h2⟩
      · rename_i hw
        simp only [hw] at hh
        exact wpOps_mono h rest _ _ hh

theorem AOps.nil (h : Q s) : AOps P ops n0 Q [] s := fun G _ _ hr _ _ => ⟨rfl, s, G, .refl _ _ _ _, hr, h⟩

theorem AOps.skip {i : Nat} {rest : List Nat} {o : Oper} (ho : ops[i]? = some o) (hw : awanted ops s o = some false) (hd : dstOk s.n o.dst = true) (h : AOps P ops n0 Q rest (s.put o.dst (.sc undef))) : AOps P ops n0 Q (i :: rest) s := by
  intro G a w hr hf hn
  simp only [wpOps, ho, awanted_ok hr hw, Bool.false_eq_true, if_false]
  have := h G _ w (hr.put (.refl G) hr.rel (.sc undef) hd) (fun j hj => hf j (by simp [hj])) (by simpa using hn)
  simpa using this

theorem AOps.plain {T : Tab} (hT : TabOk P T) {i : Nat} {rest : List Nat} {o : Oper} {v : AV} {σ' : Store} (ho : ops[i]? = some o) (hi : i ∉ rest) (hw : awanted ops s o = some true) (hd : dstOk s.n o.dst = true)
    (ha : aop T s.eval s.st (n0 + i) o.op = some (v, σ')) (hnx : σ'.next = s.st.next) (h : AOps P ops n0 Q rest ({ s with st := σ' }.put o.dst v)) : AOps P ops n0 Q (i :: rest) s := by
  intro G a w hr hf hn
  have hlt : i < ops.size := (Array.getElem?_eq_some_iff.1 ho).1
  simp only [wpOps, ho, awanted_ok hr hw, if_true]
  left
  obtain ⟨G', u, w', h1, h2, h3, h4, h5, hfr⟩ := aop_ok (P := P) hT hr.rel hr.eval (hf i (by simp)).2 (by omega) ha
  have hne : ∀ j ∈ rest, n0 + j ≠ n0 + i := fun j hj e => hi (by have e' : j = i := Nat.add_left_cancel e; rw [← e']; exact hj)
  have key := h G' (a.put o.dst u) w' (hr.put h1 h5 h4 hd) (fun j hj => ⟨(hf j (by simp [hj])).1, h2 _ (hne j hj) (hf j (by simp [hj])).2⟩) (by simp; omega)
  have ht : Tran n0 G s.st w G' σ' w' := ⟨h1, fun i' hi' hg => h2 i' (by omega) hg, by omega, hfr⟩
  have key' := wpOps_mono (P := P) (ops := ops) (Q' := fun e a' w' => e = .normal ∧ ∃ s' G', Tran n0 G s.st w G' s'.st w' ∧ RelS G' s' a' w' ∧ Q s') (fun e a' w' ⟨e1, s', G2, b1, b2, b3⟩ =>
    ⟨e1, s', G2, ht.trans (by simpa using b1) (Nat.le_refl _), b2, b3⟩) rest _ _ key
  unfold Oper.wp
  rcases h3 with h3 | ⟨h3, h6⟩
  · rw [h3]; exact key'
  · rw [h3]; subst h6; exact key'

/-- A call of a function value. -/
theorem AOps.call {i : Nat} {rest : List Nat} {o : Oper} {fo : Operand} {args : Array Operand} {ts : Array TypeId} {f : FuncId} {first cap : List AV} (ho : ops[i]? = some o) (hop : o.op = .call { callee := .value fo, args := args, argTypes := ts })
    (hw : awanted ops s o = some true) (hd : dstOk s.n o.dst = true) (hfo : s.eval fo = .fn (.func f) first cap)
    {R : AV → Store → Prop} (hc : ACallOk P f (first ++ args.toList.map s.eval ++ cap) s.st R) (h : ∀ v σ', R v σ' → AOps P ops n0 Q rest ({ s with st := σ' }.put o.dst v)) : AOps P ops n0 Q (i :: rest) s := by
  intro G a w hr hf hn
  simp only [wpOps, ho, awanted_ok hr hw, if_true]
  left
  have hfv := hr.eval fo
  rw [hfo] at hfv
  generalize hev : a.eval fo = u at hfv
  cases hfv with
  | fn _ _ _ fv cv h1 h2 h3 h4 =>
  have hargs : Reps G (first ++ args.toList.map s.eval ++ cap) (fv ++ args.toList.map a.eval ++ cv) :=
    (Reps.append (G := G) ⟨h1, h3⟩ (Reps.map hr.eval args.toList)).append ⟨h2, h4⟩
  have hrun : (execOp a.eval o).run P w = (callFunc f (fv ++ args.toList.map a.eval ++ cv).toArray).run P w := by
    have e : fv.toArray ++ args.map a.eval ++ cv.toArray = (fv ++ args.toList.map a.eval ++ cv).toArray := by apply Array.ext'; simp
    simp only [execOp, hop, resolve, hev, Deferred.ofValue, Sem.run_bind, Sem.run_pure, Result.andThen_ok, invoke, e]
  unfold Oper.wp
  rw [hrun]
  refine hc G _ w hargs hr.rel o a _ _ ?_
  intro v av σ' G' w' b1 b3 b4 b6
  have hnx := b1.next
  have key := h av σ' b6 G' (a.put o.dst v) w' (hr.put b1.le b4 b3 hd) (fun j hj => ⟨(hf j (by simp [hj])).1, b1.keeps _ (by have := (hf j (by simp [hj])).1; omega) (hf j (by simp [hj])).2⟩) (by simp; omega)
  have ht : Tran n0 G s.st w G' σ' w' := ⟨b1.le, fun i' hi' hg => b1.keeps i' (by omega) hg, b1.next, b1.fr⟩
  exact wpOps_mono (fun e a' w' ⟨e1, s', G2, c1, c2, c3⟩ => ⟨e1, s', G2, ht.trans (by simpa using c1) (Nat.le_refl _), c2, c3⟩) rest _ _ key

end
end Go.Ab
