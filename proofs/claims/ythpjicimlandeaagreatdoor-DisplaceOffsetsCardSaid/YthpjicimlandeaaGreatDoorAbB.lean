/- The abstract machine, part 32: code on abstract states whose numbers may be given anew. -/
import Derived.Test.YthpjicimlandeaaGreatDoorAbStab
set_option linter.unusedVariables false
set_option linter.unusedSimpArgs false
namespace Go.Ab
open Go

/-- A step: the numbers below n stand for what they stood for. -/
structure TranB (n : Nat) (G : Ghost) (σ : Store) (w : World) (G' : Ghost) (σ' : Store) (w' : World) : Prop where
  w0 : G'.w0 = G.w0
  imm : ∀ b o, G.imm b = some o → G'.imm b = some o
  pl : ∀ i, i < n → G'.pl i = G.pl i
  nx : n ≤ σ'.next
  fr : Fr G σ w G' σ' w'

theorem TranB.refl {n : Nat} (G : Ghost) (σ : Store) (w : World) (hn : n ≤ σ.next) : TranB n G σ w G σ w := ⟨rfl, fun _ _ h => h, fun _ _ => rfl, hn, .refl G σ w⟩
theorem TranB.trans {n m : Nat} {G1 G2 G3 : Ghost} {σ1 σ2 σ3 : Store} {w1 w2 w3 : World} (h : TranB n G1 σ1 w1 G2 σ2 w2) (k : TranB m G2 σ2 w2 G3 σ3 w3) (hnm : n ≤ m) : TranB n G1 σ1 w1 G3 σ3 w3 :=
  ⟨k.w0.trans h.w0, fun b o x => k.imm b o (h.imm b o x), fun i hi => (k.pl i (by omega)).trans (h.pl i hi), Nat.le_trans hnm k.nx, h.fr.trans k.fr⟩
theorem Tran.toB {m n : Nat} {G : Ghost} {σ : Store} {w : World} {G' : Ghost} {σ' : Store} {w' : World} (h : Tran m G σ w G' σ' w') (hn : n ≤ m) (hx : n ≤ σ.next) : TranB n G σ w G' σ' w' :=
  ⟨h.le.w0, h.le.imm, fun i hi => by
    cases hp : G.pl i with
    | none => exact h.keeps i (by omega) hp
    | some p => exact h.le.pl i p hp, Nat.le_trans hx h.next, h.fr⟩
/-- Where all numbers that stand for something are kept. -/
theorem TranB.le {n : Nat} {G : Ghost} {σ σ0 : Store} {w w0 : World} {G' : Ghost} {σ' : Store} {w' : World} (h : TranB n G σ w G' σ' w') (hr : Rel G σ0 w0) (hn : σ0.next ≤ n) : G.le G' :=
  ⟨h.w0, h.imm, fun i p hp => by rw [h.pl i (by have := hr.id_lt hp; omega)]; exact hp⟩

def BWp (P : Program) (n : Nat) (c : Code) (Q : Exit → AS → Prop) (s : AS) : Prop :=
  n ≤ s.st.next → ∀ G a w, RelS G s a w → c.wp P (fun e a' w' => ∃ s' G', TranB n G s.st w G' s'.st w' ∧ RelS G' s' a' w' ∧ Q e s') a w

section
variable {P : Program} {n : Nat} {Q : Exit → AS → Prop} {s : AS}

theorem BWp.mono {c : Code} {Q' : Exit → AS → Prop} (h : BWp P n c Q s) (hq : ∀ e s', Q e s' → Q' e s') : BWp P n c Q' s :=
  fun hn G a w hr => wp_mono (h hn G a w hr) fun _ _ _ ⟨s', G', a1, a2, a3⟩ => ⟨s', G', a1, a2, hq _ _ a3⟩

theorem BWp.of_awp {c : Code} (h : AWp P c Q s) : BWp P n c Q s :=
  fun hn G a w hr => wp_mono (h G a w hr) fun _ _ _ ⟨s', G', a1, a2, a3⟩ => ⟨s', G', a1.toB hn hn, a2, a3⟩

theorem BWp.seq {x y : Code} (h : BWp P n x (AThen (BWp P n y Q) Q) s) : BWp P n (.seq x y) Q s := by
  intro hn G a w hr
  refine wp_seq (wp_mono (h hn G a w hr) ?_)
  rintro e a' w' ⟨s', G', a1, a2, a3⟩
  cases e with
  | normal =>
    refine wp_mono (a3 a1.nx G' a' w' a2) ?_
    rintro e2 a2' w2 ⟨s2, G2, b1, b2, b3⟩
    exact ⟨s2, G2, a1.trans b1 (Nat.le_refl _), b2, b3⟩
  | _ => exact ⟨s', G', a1, a2, a3⟩

theorem BWp.cond {c : Operand} {x y : Code} {t : Bool} (hc : s.eval c = .sc (.bool t)) (h : BWp P n (if t then x else y) Q s) : BWp P n (.cond c x y) Q s := by
  intro hn G a w hr
  have := hr.eval c
  rw [hc] at this
  generalize hev : a.eval c = u at this
  cases this
  exact wp_cond hev (h hn G a w hr)

theorem BWp.block {id : Nat} {c : Code} (h : BWp P n c (AInBlock id Q) s) : BWp P n (.block id c) Q s := by
  intro hn G a w hr
  refine wp_block (wp_mono (h hn G a w hr) ?_)
  rintro e a' w' ⟨s', G', a1, a2, a3⟩
  cases e with
  | exit id' =>
    simp only [AInBlock] at a3
    simp only [Exit.inBlock]
    split
    · rename_i e; rw [if_pos e] at a3; exact ⟨s', G', a1, a2, a3⟩
    · rename_i e; rw [if_neg e] at a3; exact ⟨s', G', a1, a2, a3⟩
  | _ => exact ⟨s', G', a1, a2, a3⟩

theorem BWp.loop {c : Code} (I : Nat → AS → Prop) (round : ∀ k s, I k s → BWp P n c (AThen (fun s' => ∃ m, m < k ∧ I m s') Q) s) {k : Nat} (h0 : I k s) : BWp P n (.loop c) Q s := by
  intro hn G a w hr
  have pick : ∀ a1 w1, (∃ k, ∃ s' G', TranB n G s.st w G' s'.st w1 ∧ RelS G' s' a1 w1 ∧ I k s') →
      ∃ k, (∃ s' G', TranB n G s.st w G' s'.st w1 ∧ RelS G' s' a1 w1 ∧ I k s') ∧ ∀ m, m < k → ¬ ∃ s' G', TranB n G s.st w G' s'.st w1 ∧ RelS G' s' a1 w1 ∧ I m s' := by
    rintro a1 w1 ⟨k, hk⟩
    induction k using Nat.strongRecOn with
    | _ k ih =>
      by_cases hm : ∃ m, m < k ∧ ∃ s' G', TranB n G s.st w G' s'.st w1 ∧ RelS G' s' a1 w1 ∧ I m s'
      · obtain ⟨m, hm1, hm2⟩ := hm
        exact ih m hm1 hm2
      · exact ⟨k, hk, fun m hm1 hm2 => hm ⟨m, hm1, hm2⟩⟩
  classical
  let μ : Act → World → Nat := fun a1 w1 => if h : ∃ k, ∃ s' G', TranB n G s.st w G' s'.st w1 ∧ RelS G' s' a1 w1 ∧ I k s' then (pick a1 w1 h).choose else 0
  refine wp_loop (fun a1 w1 => ∃ k, ∃ s' G', TranB n G s.st w G' s'.st w1 ∧ RelS G' s' a1 w1 ∧ I k s') μ ⟨k, s, G, .refl _ _ _ hn, hr, h0⟩ ?_
  intro a1 w1 hI
  have hμ : μ a1 w1 = (pick a1 w1 hI).choose := by simp only [μ]; rw [dif_pos hI]
  obtain ⟨⟨s', G', b1, b2, b3⟩, hleast⟩ := (pick a1 w1 hI).choose_spec
  rw [hμ]
  refine wp_mono (round _ s' b3 b1.nx G' a1 w1 b2) ?_
  rintro e a2 w2 ⟨s2, G2, c1, c2, c3⟩
  have ht := b1.trans c1 (Nat.le_refl _)
  cases e with
  | normal =>
    obtain ⟨m, hm, hIm⟩ := c3
    have hI2 : ∃ k, ∃ s' G', TranB n G s.st w G' s'.st w2 ∧ RelS G' s' a2 w2 ∧ I k s' := ⟨m, s2, G2, ht, c2, hIm⟩
    refine ⟨hI2, ?_⟩
    have hμ2 : μ a2 w2 = (pick a2 w2 hI2).choose := by simp only [μ]; rw [dif_pos hI2]
    rw [hμ2]
    have h2 := (pick a2 w2 hI2).choose_spec.2
    rcases Nat.lt_or_ge m (pick a2 w2 hI2).choose with hlt | hge
    · exact absurd ⟨s2, G2, ht, c2, hIm⟩ (h2 m hlt)
    · omega
  | _ => exact ⟨s2, G2, ht, c2, c3⟩

end

/-! ### regions in the order of the text -/

def BOps (P : Program) (ops : Array Oper) (n0 n : Nat) (Q : AS → Prop) (l : List Nat) (s : AS) : Prop :=
  ∀ G a w, RelS G s a w → (∀ j ∈ l, j < ops.size ∧ G.pl (n0 + j) = none) → n0 + ops.size ≤ s.st.next → n ≤ n0 →
    wpOps P ops (fun e a' w' => e = .normal ∧ ∃ s' G', TranB n G s.st w G' s'.st w' ∧ RelS G' s' a' w' ∧ Q s') l a w

section
variable {P : Program} {ops : Array Oper} {n0 n : Nat} {Q : AS → Prop} {s : AS}

theorem BOps.nil (h : Q s) : BOps P ops n0 n Q [] s := fun G _ _ hr _ h1 h2 => ⟨rfl, s, G, .refl _ _ _ (by omega), hr, h⟩

theorem BOps.skip {i : Nat} {rest : List Nat} {o : Oper} (ho : ops[i]? = some o) (hw : awanted ops s o = some false) (hd : dstOk s.n o.dst = true) (h : BOps P ops n0 n Q rest (s.put o.dst (.sc undef))) : BOps P ops n0 n Q (i :: rest) s := by
  intro G a w hr hf hn hn2
  simp only [wpOps, ho, awanted_ok hr hw, Bool.false_eq_true, if_false]
  have := h G _ w (hr.put (.refl G) hr.rel (.sc undef) hd) (fun j hj => hf j (by simp [hj])) (by simpa using hn) hn2
  simpa using this

theorem BOps.plain {T : Tab} (hT : TabOk P T) {i : Nat} {rest : List Nat} {o : Oper} {v : AV} {σ' : Store} (ho : ops[i]? = some o) (hi : i ∉ rest) (hw : awanted ops s o = some true) (hd : dstOk s.n o.dst = true)
    (ha : aop T s.eval s.st (n0 + i) o.op = some (v, σ')) (h : BOps P ops n0 n Q rest ({ s with st := σ' }.put o.dst v)) : BOps P ops n0 n Q (i :: rest) s := by
  intro G a w hr hf hn hn2
  have hlt : i < ops.size := (Array.getElem?_eq_some_iff.1 ho).1
  have hnx : σ'.next = s.st.next := (aop_low ha).1
  simp only [wpOps, ho, awanted_ok hr hw, if_true]
  left
  obtain ⟨G', u, w', h1, h2, h3, h4, h5, hfr⟩ := aop_ok (P := P) hT hr.rel hr.eval (hf i (by simp)).2 (by omega) ha
  have hne : ∀ j ∈ rest, n0 + j ≠ n0 + i := fun j hj e => hi (by have e' : j = i := Nat.add_left_cancel e; rw [← e']; exact hj)
  have key := h G' (a.put o.dst u) w' (hr.put h1 h5 h4 hd) (fun j hj => ⟨(hf j (by simp [hj])).1, h2 _ (hne j hj) (hf j (by simp [hj])).2⟩) (by simp; omega) hn2
  have ht : TranB n G s.st w G' σ' w' := ⟨h1.w0, h1.imm, fun k hk => by
    cases hp : G.pl k with
    | none => exact h2 k (by omega) hp
    | some p => exact h1.pl k p hp, by omega, hfr⟩
  have key' := wpOps_mono (P := P) (ops := ops) (Q' := fun e a' w' => e = .normal ∧ ∃ s' G', TranB n G s.st w G' s'.st w' ∧ RelS G' s' a' w' ∧ Q s') (fun e a' w' ⟨e1, s', G2, b1, b2, b3⟩ =>
    ⟨e1, s', G2, ht.trans (by simpa using b1) (Nat.le_refl _), b2, b3⟩) rest _ _ key
  unfold Oper.wp
  rcases h3 with h3 | ⟨h3, h6⟩
  · rw [h3]; exact key'
  · rw [h3]; subst h6; exact key'

/-- A call that is told: what it does with the memory is nothing. -/
def Told (P : Program) (f : FuncId) (args : List AV) (σ : Store) (c : AV) : Prop := ACallOk P f args σ (fun v σ' => v = c ∧ σ' = σ)

theorem exec_call_run {a : Act} {w : World} {o : Oper} {fo : Operand} {args : Array Operand} {ts : Array TypeId} {f : FuncId} {fv cv : List Value} (hop : o.op = .call { callee := .value fo, args := args, argTypes := ts })
    (hev : a.eval fo = .func (.func f) fv.toArray cv.toArray) : (execOp a.eval o).run P w = (callFunc f (fv ++ args.toList.map a.eval ++ cv).toArray).run P w := by
  have e : fv.toArray ++ args.map a.eval ++ cv.toArray = (fv ++ args.toList.map a.eval ++ cv).toArray := by apply Array.ext'; simp
  simp only [execOp, hop, resolve, hev, Deferred.ofValue, Sem.run_bind, Sem.run_pure, Result.andThen_ok, invoke, e]

theorem BOps.told {i : Nat} {rest : List Nat} {o : Oper} {fo : Operand} {args : Array Operand} {ts : Array TypeId} {f : FuncId} {first cap : List AV} (ho : ops[i]? = some o) (hop : o.op = .call { callee := .value fo, args := args, argTypes := ts })
    (hw : awanted ops s o = some true) (hd : dstOk s.n o.dst = true) (hfo : s.eval fo = .fn (.func f) first cap) {c : AV}
    (hc : Told P f (first ++ args.toList.map s.eval ++ cap) s.st c) (h : BOps P ops n0 n Q rest (s.put o.dst c)) : BOps P ops n0 n Q (i :: rest) s := by
  intro G a w hr hf hn hn2
  simp only [wpOps, ho, awanted_ok hr hw, if_true]
  left
  have hfv := hr.eval fo
  rw [hfo] at hfv
  generalize hev : a.eval fo = u at hfv
  cases hfv with
  | fn _ _ _ fv cv h1 h2 h3 h4 =>
  have hargs : Reps G (first ++ args.toList.map s.eval ++ cap) (fv ++ args.toList.map a.eval ++ cv) :=
    (Reps.append (G := G) ⟨h1, h3⟩ (Reps.map hr.eval args.toList)).append ⟨h2, h4⟩
  unfold Oper.wp
  rw [exec_call_run hop hev]
  refine hc G _ w hargs hr.rel o a _ _ ?_
  rintro v av σ' G' w' b1 b3 b4 ⟨rfl, rfl⟩
  have key := h G' (a.put o.dst v) w' (hr.put b1.le b4 b3 hd) (fun j hj => ⟨(hf j (by simp [hj])).1, b1.keeps _ (by have := (hf j (by simp [hj])).1; omega) (hf j (by simp [hj])).2⟩) (by simpa using hn) hn2
  have ht : TranB n G s.st w G' s.st w' := b1.toB (by omega) (by omega)
  exact wpOps_mono (fun e a' w' ⟨e1, s', G2, c1, c2, c3⟩ => ⟨e1, s', G2, ht.trans (by simpa using c1) (Nat.le_refl _), c2, c3⟩) rest _ _ key

/-- A call whose body is gone into. -/
theorem BOps.inline {T : Tab} (hT : TabOk P T) {i : Nat} {rest : List Nat} {o : Oper} {fo : Operand} {args : Array Operand} {ts : Array TypeId} {f : FuncId} {first cap : List AV} {fn : Func} {c : Code} (ho : ops[i]? = some o)
    (hop : o.op = .call { callee := .value fo, args := args, argTypes := ts }) (hw : awanted ops s o = some true) (hd : dstOk s.n o.dst = true) (hfo : s.eval fo = .fn (.func f) first cap)
    (hfn : P.funcs[f]? = some fn) (hname : (fn.name == "runtime.NumGoroutine") = false) (hb : fn.body = some c) (hl : (first ++ args.toList.map s.eval ++ cap).length ≤ fn.ntmps)
    (h : BWp P s.st.next c (fun e s1 => (e = .normal ∨ e = .ret) ∧ ∃ v, aresults T fn s1 = some v ∧ BOps P ops n0 n Q rest ({ s with st := s1.st }.put o.dst v)) (AS.enter fn.ntmps (first ++ args.toList.map s.eval ++ cap) s.st)) :
    BOps P ops n0 n Q (i :: rest) s := by
  intro G a w hr hf hn hn2
  simp only [wpOps, ho, awanted_ok hr hw, if_true]
  left
  have hfv := hr.eval fo
  rw [hfo] at hfv
  generalize hev : a.eval fo = u at hfv
  cases hfv with
  | fn _ _ _ fv cv h1 h2 h3 h4 =>
  have hargs : Reps G (first ++ args.toList.map s.eval ++ cap) (fv ++ args.toList.map a.eval ++ cv) :=
    (Reps.append (G := G) ⟨h1, h3⟩ (Reps.map hr.eval args.toList)).append ⟨h2, h4⟩
  unfold Oper.wp
  have hrun : (callFunc f (fv ++ args.toList.map a.eval ++ cv).toArray).run P w = .ok (.enter f (fv ++ args.toList.map a.eval ++ cv).toArray) w := by
    simp only [callFunc, Sem.run_bind, run_program, Result.andThen_ok, hfn, hname, hb, Option.isNone_some, Bool.false_eq_true, if_false, Sem.run_pure]
  rw [exec_call_run hop hev, hrun]
  simp only [Oper.upon]
  refine calls_of_wp hfn hb (wp_mono (h (Nat.le_refl _) G _ w (RelS.enter hargs hr.rel fn.ntmps hl)) ?_)
  rintro e a' w' ⟨s1, G', b1, b3, hex, v, hv, hR⟩
  obtain ⟨y, hy, hry⟩ := aresults_ok (P := P) hT b3 hv
  have hle : G.le G' := b1.le hr.rel (Nat.le_refl _)
  have key := hR G' (a.put o.dst y) w' (hr.put hle b3.rel hry hd) (fun j hj => ⟨(hf j (by simp [hj])).1, by rw [b1.pl _ (by have := (hf j (by simp [hj])).1; show n0 + j < s.st.next; omega)]; exact (hf j (by simp [hj])).2⟩) (by
    have := b1.nx
    simp only [AS.put_st]; show n0 + ops.size ≤ s1.st.next; exact Nat.le_trans hn this) hn2
  have ht : TranB n G s.st w G' s1.st w' := ⟨b1.w0, b1.imm, fun k hk => b1.pl k (by show k < s.st.next; omega), by have := b1.nx; show n ≤ s1.st.next; exact Nat.le_trans (by omega) this, b1.fr⟩
  have key' := wpOps_mono (P := P) (ops := ops) (Q' := fun e a' w' => e = .normal ∧ ∃ s' G', TranB n G s.st w G' s'.st w' ∧ RelS G' s' a' w' ∧ Q s') (fun e a' w' ⟨e1, s', G2, c1, c2, c3⟩ =>
    ⟨e1, s', G2, ht.trans (by simpa using c1) (Nat.le_refl _), c2, c3⟩) rest _ _ key
  rcases hex with rfl | rfl
  · exact ⟨b3.defers, y, hy, key'⟩
  · exact ⟨b3.defers, y, hy, key'⟩

end

theorem BWp.region {P : Program} {n : Nat} {Q : Exit → AS → Prop} {s : AS} {id : Nat} {ops : Array Oper}
    (h : BOps P ops s.st.next n (fun s' => Q .normal s') (List.range ops.size) { s with st := { s.st with next := s.st.next + ops.size } }) : BWp P n (.region id ops false) Q s := by
  intro hn G a w hr
  refine wp_region ?_
  have hr' : RelS G { s with st := { s.st with next := s.st.next + ops.size } } a w := ⟨hr.defers, hr.size, hr.tmps, hr.rel.next (Nat.le_add_right _ _)⟩
  refine wpOps_mono ?_ _ _ _ (h G a w hr' (fun j hj => ⟨by simpa using hj, hr.rel.fresh _ (Nat.le_add_right _ _)⟩) (Nat.le_refl _) hn)
  rintro e a' w' ⟨rfl, s', G', b1, b2, b3⟩
  refine ⟨s', G', ⟨b1.w0, b1.imm, b1.pl, b1.nx, ?_⟩, b2, b3⟩
  exact (Fr.less (σ := s.st) (σ' := { s.st with next := s.st.next + ops.size }) (fun _ _ h => h)).trans b1.fr

/-! ### numbers given anew -/

/-- Where the new numbers point: to an old one, or nowhere (an empty row). -/
def Ghost.ren (ι : Nat → Option (Option Nat)) (G : Ghost) : Ghost :=
  { w0 := G.w0, imm := G.imm, pl := fun i => match ι i with | some (some k) => G.pl k | some none => some ⟨0, 0, 0, true⟩ | none => none }

def RV (ι : Nat → Option (Option Nat)) (a b : AV) : Prop := ∀ G u, Rep G b u → Rep (G.ren ι) a u

def RObj (ι : Nat → Option (Option Nat)) : AObj → AObj → Prop
  | .row e s es, .row e' s' es' => e = e' ∧ s = s' ∧ es.length = es'.length ∧ ∀ i (h : i < es.length) (h' : i < es'.length), es[i].length = es'[i].length ∧ ∀ j (g : j < es[i].length) (g' : j < es'[i].length), RV ι es[i][j] es'[i][j]
  | .map agg es c, .map agg' es' c' => agg = agg' ∧ c = c' ∧ es.length = es'.length ∧ ∀ i (h : i < es.length) (h' : i < es'.length), es[i].1 = es'[i].1 ∧ RV ι es[i].2.1 es'[i].2.1 ∧ es[i].2.2 = es'[i].2.2
  | .siter a b, .siter a' b' => a = a' ∧ b = b'
  | .miter none a b c, .miter none a' b' c' => a = a' ∧ b = b' ∧ c = c'
  | .miter (some i) a b c, .miter (some k) a' b' c' => ι i = some (some k) ∧ a = a' ∧ b = b' ∧ c = c'
  | _, _ => False

structure Ren (ι : Nat → Option (Option Nat)) (n : Nat) (s' s : AS) : Prop where
  nn : s'.n = s.n
  low : ∀ i, i < n → ι i = some (some i)
  dom : ∀ i k, ι i = some k → i < s'.st.next
  nx : n ≤ s'.st.next
  inj : ∀ i j k oi oj, ι i = some (some k) → ι j = some (some k) → s'.st.objs i = some oi → s'.st.objs j = some oj → i = j
  slots : ∀ t, t < s.n → RV ι (s'.get t) (s.get t)
  beyond : ∀ t, s.n ≤ t → s'.get t = .sc undef
  objs : ∀ i o, s'.st.objs i = some o → (∃ k o', ι i = some (some k) ∧ s.st.objs k = some o' ∧ RObj ι o o') ∨ (ι i = some none ∧ ∃ e z, o = .row e z [])

theorem RObj.ok {ι : Nat → Option (Option Nat)} {G : Ghost} {p : Pl} {o o' : AObj} {ho : Option Obj} (h : RObj ι o o') (hk : ObjOk G p o' ho) : ObjOk (G.ren ι) p o ho := by
  cases o with
  | row e z es =>
    cases o' with
    | row e' z' es' =>
      obtain ⟨rfl, rfl, hl, h1⟩ := h
      obtain ⟨cs, k1, k2, k3, k4, k5⟩ := hk
      refine ⟨cs, k1, k2, k3, by omega, fun i hi => ?_⟩
      obtain ⟨m1, m2⟩ := h1 i hi (by omega)
      obtain ⟨l1, l2⟩ := k5 i (by omega)
      exact ⟨by omega, fun j hj hj' => m2 j hj (by omega) G _ (l2 j (by omega) hj')⟩
    | _ => exact h.elim
  | map agg es c =>
    cases o' with
    | map agg' es' c' =>
      obtain ⟨rfl, rfl, hl, h1⟩ := h
      obtain ⟨ents, k1, k2, k3⟩ := hk
      refine ⟨ents, k1, by omega, fun i hi hi' => ?_⟩
      obtain ⟨m1, m2, m3⟩ := h1 i hi (by omega)
      obtain ⟨l1, l2, l3⟩ := k3 i (by omega) hi'
      exact ⟨by rw [m1]; exact l1, m2 G _ l2, by rw [m3]; exact l3⟩
    | _ => exact h.elim
  | siter a b =>
    cases o' with
    | siter a' b' => obtain ⟨rfl, rfl⟩ := h; exact hk
    | _ => exact h.elim
  | miter m a b c =>
    cases o' with
    | miter m' a' b' c' =>
      cases m with
      | none =>
        cases m' with
        | none => obtain ⟨rfl, rfl, rfl⟩ := h; exact hk
        | some k => exact h.elim
      | some i =>
        cases m' with
        | none => exact h.elim
        | some k =>
          obtain ⟨hi, rfl, rfl, rfl⟩ := h
          obtain ⟨m1, k1, p', k2, k3⟩ := hk
          exact ⟨m1, k1, p', by simp only [Ghost.ren, hi]; exact k2, k3⟩
    | _ => exact (by cases m <;> exact h.elim)
  | xrow e z i => cases o' <;> exact h.elim

theorem Ren.rel {ι : Nat → Option (Option Nat)} {n : Nat} {s' s : AS} (h : Ren ι n s' s) {G : Ghost} {a : Act} {w : World} (hr : RelS G s a w) : RelS (G.ren ι) s' a w ∧ TranB n G s.st w (G.ren ι) s'.st w := by
  have hpl : ∀ i k, ι i = some (some k) → (G.ren ι).pl i = G.pl k := fun i k hi => by simp only [Ghost.ren, hi]
  have hvirt : ∀ i, ι i = some none → (G.ren ι).pl i = some ⟨0, 0, 0, true⟩ := fun i hi => by simp only [Ghost.ren, hi]
  refine ⟨⟨hr.defers, by rw [h.nn]; exact hr.size, fun t => ?_, ?_⟩, ?_⟩
  · rcases Nat.lt_or_ge t s.n with ht | ht
    · exact h.slots t ht G _ (hr.tmps t)
    · rw [h.beyond t ht]
      have : a.tmps.getD t undef = undef := by simp [hr.size, Nat.not_lt.2 ht]
      rw [this]; exact .sc _
  · refine ⟨hr.rel.os, hr.rel.tape, hr.rel.output, hr.rel.size, hr.rel.imm, fun i hi => ?_, fun i o ho => ?_, fun i j oi oj pi pj h1 h2 h3 h4 v1 v2 h5 => ?_⟩
    · cases hii : ι i with
      | none => simp only [Ghost.ren, hii]
      | some k => have := h.dom i k hii; omega
    · rcases h.objs i o ho with ⟨k, o', hi, hk, hro⟩ | ⟨hi, e, z, rfl⟩
      · obtain ⟨p, hp, hl⟩ := hr.rel.objs k o' hk
        refine ⟨p, by rw [hpl i k hi]; exact hp, ?_⟩
        rcases hl with ⟨hv, e, z, rfl⟩ | ⟨hv, l1, l2, l3⟩
        · cases o with
          | row e' z' es =>
            obtain ⟨rfl, rfl, hlen, _⟩ := hro
            have : es = [] := List.eq_nil_of_length_eq_zero (by simpa using hlen)
            subst this
            exact .inl ⟨hv, _, _, rfl⟩
          | miter m a b c => cases m <;> exact hro.elim
          | _ => exact hro.elim
        · exact .inr ⟨hv, l1, l2, hro.ok l3⟩
      · exact ⟨_, hvirt i hi, .inl ⟨rfl, e, z, rfl⟩⟩
    · rcases h.objs i oi h1 with ⟨ki, oi', hi, hki, _⟩ | ⟨hi, _⟩
      · rcases h.objs j oj h2 with ⟨kj, oj', hj, hkj, _⟩ | ⟨hj, _⟩
        · rw [hpl i ki hi] at h3
          rw [hpl j kj hj] at h4
          have := hr.rel.sep ki kj oi' oj' pi pj hki hkj h3 h4 v1 v2 h5
          subst this
          exact h.inj i j ki oi oj hi hj h1 h2
        · rw [hvirt j hj] at h4; cases h4; cases v2
      · rw [hvirt i hi] at h3; cases h3; cases v1
  · refine ⟨rfl, fun _ _ hh => hh, fun i hi => hpl i i (h.low i hi), h.nx, ⟨Nat.le_refl _, fun _ _ _ => rfl, fun i o p h1 h2 h3 _ => ?_, fun _ _ hh => .inl hh⟩⟩
    rcases h.objs i o h1 with ⟨k, o', hi, hk, _⟩ | ⟨hi, _⟩
    · rw [hpl i k hi] at h2
      exact ⟨k, o', p, hk, h2, h3, rfl⟩
    · rw [hvirt i hi] at h2; cases h2; cases h3

theorem BWp.conv {P : Program} {ι : Nat → Option (Option Nat)} {n : Nat} {c : Code} {Q : Exit → AS → Prop} {s' s : AS} (h : Ren ι n s' s) (hb : BWp P n c Q s') : BWp P n c Q s := by
  intro hn G a w hr
  obtain ⟨h1, h2⟩ := h.rel hr
  refine wp_mono (hb h.nx _ a w h1) ?_
  rintro e a' w' ⟨s2, G2, b1, b2, b3⟩
  exact ⟨s2, G2, h2.trans b1 (Nat.le_refl _), b2, b3⟩

/-- At the end of a piece of code, too. -/
theorem BWp.convEnd {P : Program} {n : Nat} {c : Code} {Q : Exit → AS → Prop} {s : AS} (h : BWp P n c (fun e s1 => ∃ ι s2, Ren ι n s2 s1 ∧ Q e s2) s) : BWp P n c Q s := by
  intro hn G a w hr
  refine wp_mono (h hn G a w hr) ?_
  rintro e a' w' ⟨s1, G1, b1, b2, ι, s2, b3, b4⟩
  obtain ⟨h1, h2⟩ := b3.rel b2
  exact ⟨s2, _, b1.trans h2 (Nat.le_refl _), h1, b4⟩

/-! ### the contract of a function on contents -/

theorem MemoOk.of_body {P : Program} {T : Tab} (hT : TabOk P T) {f : FuncId} {fn : Func} {c : Code} {args : List AV} {r : AV} (hfn : P.funcs[f]? = some fn) (hname : (fn.name == "runtime.NumGoroutine") = false) (hb : fn.body = some c) (hn : args.length ≤ fn.ntmps)
    (hp : args.all AV.pur = true) (h : BWp P 0 c (fun e s' => (e = .normal ∨ e = .ret) ∧ ∃ v, aresults T fn s' = some v ∧ ∀ G w u pl, Rel G s'.st w → Rep G v u → Rep (G.frozen s'.st w pl) r u) (AS.enter fn.ntmps args Store.none)) : MemoOk P ⟨f, args, r⟩ := by
  intro σ G vs w hargs hrel o a Kc Q hK
  have hrun : (callFunc f vs.toArray).run P w = .ok (.enter f vs.toArray) w := by
    simp only [callFunc, Sem.run_bind, run_program, Result.andThen_ok, hfn, hname, hb, Option.isNone_some, Bool.false_eq_true, if_false, Sem.run_pure]
  show o.upon P a Kc Q ((callFunc f vs.toArray).run P w)
  rw [hrun]
  simp only [Oper.upon]
  let G0 : Ghost := { G with pl := fun _ => Option.none }
  have hargs0 : Reps G0 args vs := ⟨hargs.1, fun i h1 h2 => pur_rep (G := G) (G' := G0) (fun _ _ h => h) (hargs.2 i h1 h2) (List.all_eq_true.1 hp _ (List.getElem_mem h1))⟩
  have hrel0 : Rel G0 Store.none w := ⟨hrel.os, hrel.tape, hrel.output, hrel.size, hrel.imm, fun _ _ => rfl, (fun id o h => by rw [Store.none_objs] at h; cases h), (fun i j oi oj pi pj h => by rw [Store.none_objs] at h; cases h)⟩
  refine calls_of_wp hfn hb (wp_mono (h (Nat.zero_le _) G0 _ w (RelS.enter hargs0 hrel0 fn.ntmps hn)) ?_)
  rintro e a' w1 ⟨s1, G1, ht, b3, hex, v, hv, hd⟩
  obtain ⟨y, hy, hr1⟩ := aresults_ok (P := P) hT b3 hv
  have hrel1 := b3.rel
  have hnolive : ∀ b, ¬ ∃ id0 o0 p0, Store.none.objs id0 = some o0 ∧ G0.pl id0 = some p0 ∧ p0.virt = false ∧ p0.block = b := fun b ⟨id, o0, p0, h, _⟩ => by rw [Store.none_objs] at h; cases h
  have hsame : ∀ b, b < w.heap.size → w1.heap[b]? = w.heap[b]? := fun b hb => ht.fr.same b hb (fun id o p h => by rw [show (AS.enter fn.ntmps args Store.none).st = Store.none from rfl, Store.none_objs] at h; cases h)
  let G' : Ghost := G1.frozen s1.st w1 G.pl
  have himm : ∀ b x, G'.imm b = some x → G.imm b = some x ∨ w.heap.size ≤ b := fun b x hx => by
    simp only [G', Ghost.frozen] at hx
    split at hx
    · rename_i hl
      obtain ⟨id, o1, p, h1, h2, h3, rfl⟩ := hl
      right
      rcases Nat.lt_or_ge p.block w.heap.size with h4 | h4
      · exact absurd (ht.fr.live id o1 p h1 h2 h3 h4) (hnolive _)
      · exact h4
    · rcases ht.fr.imm b x hx with h1 | h1 | h1
      · exact .inl h1
      · exact .inr h1
      · exact absurd h1 (hnolive _)
  have hle : G.le G' := ⟨ht.w0, fun b x hb => frozen_imm hrel1 (ht.imm b x hb), fun _ _ h => h⟩
  have hw0 : G1.w0 = G.w0 := ht.w0
  have fin : Kc (a.put o.dst y) w1 := by
    refine hK y r σ G' w1 ⟨hle, fun _ _ h => h, Nat.le_refl _, ⟨ht.fr.size, fun b hb _ => hsame b hb, fun id x p h1 h2 h3 _ => ⟨id, x, p, h1, h2, h3, rfl⟩, fun b x hb => ?_⟩⟩ (hd G1 w1 y G.pl hrel1 hr1) ?_ ⟨rfl, rfl⟩
    · rcases himm b x hb with h1 | h1
      · exact .inl h1
      · exact .inr (.inl h1)
    · refine ⟨hrel1.os, hrel1.tape, hrel1.output, hrel1.size, fun b x hb => ?_, hrel.fresh, fun id x hx => ?_, hrel.sep⟩
      · simp only [G', Ghost.frozen] at hb
        split at hb
        · exact hb
        · exact hrel1.imm b x hb
      · obtain ⟨p, hp1, hl⟩ := hrel.objs id x hx
        refine ⟨p, hp1, ?_⟩
        rcases hl with ⟨h1, h2⟩ | ⟨h1, h2, h3, h4⟩
        · exact .inl ⟨h1, h2⟩
        · have hlt := hrel.obj_lt hx hp1 h1
          refine .inr ⟨h1, ?_, by show G1.w0.heap.size ≤ _; rw [hw0]; exact h3, by rw [hsame _ hlt]; exact h4.mono hle⟩
          cases hi : G'.imm p.block with
          | none => rfl
          | some y =>
            rcases himm _ _ hi with h5 | h5
            · rw [h2] at h5; cases h5
            · omega
  rcases hex with rfl | rfl
  · exact ⟨b3.defers, y, hy, fin⟩
  · exact ⟨b3.defers, y, hy, fin⟩

/-! ### calls that are told -/

/-- No slice in it. -/
def flatC : AV → Bool
  | .sc _ => true
  | .agg cs => cs.all fun c => match c with | .sc _ => true | _ => false
  | .tup cs => cs.all fun c => match c with | .sc _ => true | .agg ds => ds.all (fun d => match d with | .sc _ => true | _ => false) | _ => false
  | _ => false

theorem Rep.flatAll {G G' : Ghost} {cs : List AV} {vs : List Value} (h1 : vs.length = cs.length) (h : ∀ i (h : i < cs.length) (h' : i < vs.length), Rep G cs[i] vs[i]) (hf : cs.all (fun c => match c with | .sc _ => true | _ => false) = true) :
    ∀ i (h : i < cs.length) (h' : i < vs.length), Rep G' cs[i] vs[i] := fun i hi hi' => by
  have h2 := List.all_eq_true.1 hf cs[i] (List.getElem_mem hi)
  have h3 := h i hi hi'
  generalize cs[i] = c at *
  split at h2
  · cases h3; exact .sc _
  · cases h2

theorem Rep.flat {G G' : Ghost} {c : AV} {v : Value} (h : Rep G c v) (hf : flatC c = true) : Rep G' c v := by
  unfold flatC at hf
  split at hf
  · cases h; exact .sc _
  · rename_i cs
    cases h with
    | agg _ vs h1 h2 => exact .agg cs vs h1 (Rep.flatAll h1 h2 hf)
  · rename_i cs
    cases h with
    | tup _ vs h1 h2 =>
      refine .tup cs vs h1 fun i hi hi' => ?_
      have h3 := List.all_eq_true.1 hf cs[i] (List.getElem_mem hi)
      have h4 := h2 i hi hi'
      generalize cs[i] = c at *
      generalize vs[i] = v at *
      split at h3
      · cases h4; exact .sc _
      · cases h4 with
        | agg _ us g1 g2 => exact .agg _ us g1 (Rep.flatAll g1 g2 h3)
      · cases h3
  · cases hf

/-- A call on contents, with arguments that read as them, and a result without slices. -/
theorem told_of_memo {P : Program} {f : FuncId} {args cargs : List AV} {c : AV} {σ : Store} (hm : MemoOk P ⟨f, cargs, c⟩) (hf : flatC c = true)
    (hr : ∀ G vs w, Reps G args vs → Rel G σ w → Reps (G.frozen σ w (fun _ => none)) cargs vs) : Told P f args σ c := by
  intro G vs w hargs hrel o a Kc Q hK
  let G1 := G.frozen σ w (fun _ => none)
  have hrel1 : Rel G1 Store.none w := ⟨hrel.os, hrel.tape, hrel.output, hrel.size, fun b x hb => by
      simp only [G1, Ghost.frozen] at hb
      split at hb
      · exact hb
      · exact hrel.imm b x hb, fun _ _ => rfl, (fun id o h => by rw [Store.none_objs] at h; cases h), (fun i j oi oj pi pj h => by rw [Store.none_objs] at h; cases h)⟩
  refine hm Store.none G1 vs w (hr G vs w hargs hrel) hrel1 o a Kc Q ?_
  rintro u av σ' G' w' ht hru hrel' ⟨rfl, rfl⟩
  have hsame : ∀ b, b < w.heap.size → w'.heap[b]? = w.heap[b]? := fun b hb => ht.fr.same b hb (fun id o p h => by rw [Store.none_objs] at h; cases h)
  have hw0 : G'.w0 = G.w0 := ht.le.w0
  refine hK u av σ G w' ⟨.refl G, .refl _ G, Nat.le_refl _, ⟨ht.fr.size, fun b hb _ => hsame b hb, fun id x p h1 h2 h3 _ => ⟨id, x, p, h1, h2, h3, rfl⟩, fun b x hb => .inl hb⟩⟩ (hru.flat hf) ?_ ⟨rfl, rfl⟩
  refine ⟨hrel'.os.trans (by rw [hw0]), hrel'.tape.trans (by rw [hw0]), hrel'.output.trans (by rw [hw0]), Nat.le_trans hrel.size ht.fr.size, fun b x hb => by rw [hsame b (hrel.lt hb)]; exact hrel.imm b x hb, hrel.fresh, fun id x hx => ?_, hrel.sep⟩
  obtain ⟨p, hp1, hl⟩ := hrel.objs id x hx
  refine ⟨p, hp1, ?_⟩
  rcases hl with ⟨h1, h2⟩ | ⟨h1, h2, h3, h4⟩
  · exact .inl ⟨h1, h2⟩
  · exact .inr ⟨h1, h2, h3, by rw [hsame _ (hrel.obj_lt hx hp1 h1)]; exact h4⟩

end Go.Ab
