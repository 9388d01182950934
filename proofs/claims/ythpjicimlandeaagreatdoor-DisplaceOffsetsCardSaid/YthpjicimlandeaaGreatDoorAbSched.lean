/- The abstract machine, part 16: a region that draws its order: its operations in the text's order, and the look that shows that the order does not matter. -/
import Derived.Test.YthpjicimlandeaaGreatDoorAbDraw
set_option linter.unusedVariables false
set_option linter.unusedSimpArgs false
namespace Go.Ab
open Go

section
variable {P : Program} {ops : Array Oper} {n n0 N i : Nat} {o : Oper} {tm0 : Nat → AV}

theorem semStep_call {fo : Operand} {args : Array Operand} {ts : Array TypeId} {f : FuncId} {first cap : List AV} (ho : ops[i]? = some o) (hop : o.op = .call { callee := .value fo, args := args, argTypes := ts })
    (hw : awantedF ops n tm0 o = some true) (hd : dstOk n o.dst = true) (hfo : evalF tm0 fo = .fn (.func f) first cap)
    (st view : Store) (v : AV) (σ1 : Store) (ex : Nat → Bool) (hvn : view.next = st.next) (hview : ∀ id, view.objs id = if ex id then none else st.objs id) (hlow : ∀ id, id < st.next → σ1.objs id = view.objs id)
    (hc : ACallOk P f (first ++ args.toList.map (evalF tm0) ++ cap) view (fun v' σ'' => v' = v ∧ σ'' = σ1)) :
    SemStep P ops n n0 N i (fun tm σ => (∀ t ∈ o.looksAt ops, tm t = tm0 t) ∧ σ.next = st.next ∧ ∀ id, ex id = false → σ.objs id = st.objs id)
      ⟨uTmp o.dst v, fun id => if id < st.next then none else some (σ1.objs id), some σ1.next⟩ := by
  intro G a w tm σ hr ⟨hc1, hc2, hc3⟩ hfree hN K Q hK
  have hvs : ∀ id x, view.objs id = some x → σ.objs id = some x := fun id x hx => by
    rw [hview] at hx
    split at hx
    · cases hx
    · rename_i he; rw [hc3 id (by simpa using he)]; exact hx
  have hrv : Rel G view w := hr.rel.less (by rw [hvn, hc2]) hvs
  have hcong := evalF_congr (ops := ops) hc1
  have hfo' : evalF tm fo = .fn (.func f) first cap := by rw [hcong fo (by rw [hop]; simp [Op.operands, Call.operands])]; exact hfo
  have hargs' : args.toList.map (evalF tm) = args.toList.map (evalF tm0) := map_congr' (fun x hx => hcong x (by rw [hop]; simp [Op.operands, Call.operands, hx]))
  have hfv := hr.eval fo
  rw [hfo'] at hfv
  generalize hev : a.eval fo = u at hfv
  cases hfv with
  | fn _ _ _ fv cv h1 h2 h3 h4 =>
  have hargs : Reps G (first ++ args.toList.map (evalF tm0) ++ cap) (fv ++ args.toList.map a.eval ++ cv) := by
    rw [← hargs']
    exact (Reps.append (G := G) ⟨h1, h3⟩ (Reps.map hr.eval args.toList)).append ⟨h2, h4⟩
  have hrun : (execOp a.eval o).run P w = (callFunc f (fv ++ args.toList.map a.eval ++ cv).toArray).run P w := by
    have e : fv.toArray ++ args.map a.eval ++ cv.toArray = (fv ++ args.toList.map a.eval ++ cv).toArray := by apply Array.ext'; simp
    simp only [execOp, hop, resolve, hev, Deferred.ofValue, Sem.run_bind, Sem.run_pure, Result.andThen_ok, invoke, e]
  unfold wpOp
  simp only [ho, awantedF_ok hr ((awantedF_congr hc1).trans hw), if_true]
  left
  unfold Oper.wp
  rw [hrun]
  refine hc G _ w hargs hrv o a _ _ ?_
  rintro v' av σ'' G' w' b1 b2 b3 ⟨rfl, rfl⟩
  have hnx : st.next ≤ σ''.next := by rw [← hvn]; exact b1.next
  obtain ⟨σ', hn', ho'⟩ := exists_store (fun id => ((if id < st.next then none else some (σ''.objs id) : Option (Option AObj))).getD (σ.objs id)) σ''.next (fun id hid => by
    rw [if_neg (by omega)]
    simp only [Option.getD_some]
    cases hh : σ''.objs id with
    | none => rfl
    | some x => have := b3.objs_lt hh; omega)
  have hσ : ∀ id x, σ'.objs id = some x → σ''.objs id = some x ∨ (σ.objs id = some x ∧ view.objs id = none) := fun id x hx => by
    rw [ho'] at hx
    split at hx
    · rename_i hlt
      simp only [Option.getD_none] at hx
      cases hv : view.objs id with
      | none => exact .inr ⟨hx, rfl⟩
      | some y =>
        have := hvs id y hv
        rw [hx] at this; cases this
        exact .inl (by rw [hlow id hlt]; exact hv)
    · exact .inl (by simpa using hx)
  have hrel' : Rel G' σ' w' := hr.rel.frame hvs b3 b1.fr b1.le (fun id hid => b3.fresh id (by omega)) hσ
  have hfr' : Fr G σ w G' σ' w' := Fr.frame hr.rel hvs b1.fr b1.le hσ
  exact hK G' (a.put o.dst v') w' σ' b1.le (fun j hj _ hg => b1.keeps j (by rw [hvn, ← hc2]; omega) hg) (by omega) hfr' (hr.put b1.le hrel' b2 hd) ho' (by simp [hn'])

/-- A call that everything waits for, or that waits for everything. -/
theorem semStep_bar {fo : Operand} {args : Array Operand} {ts : Array TypeId} {f : FuncId} {first cap : List AV} (ho : ops[i]? = some o) (hop : o.op = .call { callee := .value fo, args := args, argTypes := ts })
    (hw : awantedF ops n tm0 o = some true) (hd : dstOk n o.dst = true) (hfo : evalF tm0 fo = .fn (.func f) first cap)
    (st : Store) (v : AV) (σ1 : Store) (hc : ACallOk P f (first ++ args.toList.map (evalF tm0) ++ cap) st (fun v' σ'' => v' = v ∧ σ'' = σ1)) :
    SemStep P ops n n0 N i (fun tm σ => (∀ t ∈ o.looksAt ops, tm t = tm0 t) ∧ σ.next = st.next ∧ ∀ id, σ.objs id = st.objs id)
      ⟨uTmp o.dst v, fun id => some (σ1.objs id), some σ1.next⟩ := by
  intro G a w tm σ hr ⟨hc1, hc2, hc3⟩ hfree hN K Q hK
  have hvs : ∀ id x, st.objs id = some x → σ.objs id = some x := fun id x hx => by rw [hc3]; exact hx
  have hrv : Rel G st w := hr.rel.less hc2.symm hvs
  have hcong := evalF_congr (ops := ops) hc1
  have hfo' : evalF tm fo = .fn (.func f) first cap := by rw [hcong fo (by rw [hop]; simp [Op.operands, Call.operands])]; exact hfo
  have hargs' : args.toList.map (evalF tm) = args.toList.map (evalF tm0) := map_congr' (fun x hx => hcong x (by rw [hop]; simp [Op.operands, Call.operands, hx]))
  have hfv := hr.eval fo
  rw [hfo'] at hfv
  generalize hev : a.eval fo = u at hfv
  cases hfv with
  | fn _ _ _ fv cv h1 h2 h3 h4 =>
  have hargs : Reps G (first ++ args.toList.map (evalF tm0) ++ cap) (fv ++ args.toList.map a.eval ++ cv) := by
    rw [← hargs']
    exact (Reps.append (G := G) ⟨h1, h3⟩ (Reps.map hr.eval args.toList)).append ⟨h2, h4⟩
  have hrun : (execOp a.eval o).run P w = (callFunc f (fv ++ args.toList.map a.eval ++ cv).toArray).run P w := by
    have e : fv.toArray ++ args.map a.eval ++ cv.toArray = (fv ++ args.toList.map a.eval ++ cv).toArray := by apply Array.ext'; simp
    simp only [execOp, hop, resolve, hev, Deferred.ofValue, Sem.run_bind, Sem.run_pure, Result.andThen_ok, invoke, e]
  unfold wpOp
  simp only [ho, awantedF_ok hr ((awantedF_congr hc1).trans hw), if_true]
  left
  unfold Oper.wp
  rw [hrun]
  refine hc G _ w hargs hrv o a _ _ ?_
  rintro v' av σ'' G' w' b1 b2 b3 ⟨rfl, rfl⟩
  have hnx := b1.next
  have hfr' : Fr G σ w G' σ'' w' := (Fr.less (σ := σ) (σ' := st) hvs).trans b1.fr
  exact hK G' (a.put o.dst v') w' σ'' b1.le (fun j hj _ hg => b1.keeps j (by omega) hg) (by omega) hfr' (hr.put b1.le b3 b2 hd) (fun _ => rfl) rfl

end

/-! ### who waits for whom -/

def anc1 (acc : List Nat) (o : Oper) : Nat := o.after.toList.foldl (fun m e => if Region.binds .any e then m ||| 2 ^ e.on ||| acc.getD e.on 0 else m) 0

def befs : List Oper → List Nat → List Nat
  | [], acc => acc
  | o :: os, acc => befs os (acc ++ [anc1 acc o])

theorem anc1_bit (acc : List Nat) (i : Nat) : ∀ (es : List Edge) (m : Nat), (es.foldl (fun m e => if Region.binds .any e then m ||| 2 ^ e.on ||| acc.getD e.on 0 else m) m).testBit i = true →
    m.testBit i = true ∨ ∃ e ∈ es, Region.binds .any e = true ∧ (i = e.on ∨ (acc.getD e.on 0).testBit i = true)
  | [], m, h => .inl h
  | e :: es, m, h => by
    simp only [List.foldl_cons] at h
    rcases anc1_bit acc i es _ h with h1 | ⟨e', he', h1⟩
    · split at h1
      · rename_i hb
        rw [Nat.testBit_or, Nat.testBit_or, Bool.or_eq_true, Bool.or_eq_true] at h1
        rcases h1 with (h1 | h1) | h1
        · exact .inl h1
        · refine .inr ⟨e, by simp, hb, .inl ?_⟩
          rw [Nat.testBit_two_pow] at h1
          have : e.on = i := by simpa using h1
          exact this.symm
        · exact .inr ⟨e, by simp, hb, .inr h1⟩
      · exact .inl h1
    · exact .inr ⟨e', by simp [he'], h1⟩

theorem befs_length : ∀ (os : List Oper) (acc : List Nat), (befs os acc).length = acc.length + os.length
  | [], acc => by simp [befs]
  | o :: os, acc => by rw [befs, befs_length os]; simp; omega

theorem befs_get : ∀ (os : List Oper) (acc : List Nat) (j : Nat), j < acc.length → (befs os acc).getD j 0 = acc.getD j 0
  | [], acc, j, h => rfl
  | o :: os, acc, j, h => by
    rw [befs, befs_get os _ j (by simp; omega)]
    simp [List.getD, List.getElem?_append, h]

/-- The mask of an operation, by those of the ones before it. -/
theorem befs_at : ∀ (os : List Oper) (acc : List Nat) (k : Nat) (o : Oper), os[k]? = some o → ∃ acc' : List Nat, (befs os acc).getD (acc.length + k) 0 = anc1 acc' o ∧ acc'.length = acc.length + k ∧ ∀ j, j < acc'.length → acc'.getD j 0 = (befs os acc).getD j 0
  | [], acc, k, o, h => by simp at h
  | o' :: os, acc, 0, o, h => by
    simp at h; subst h
    refine ⟨acc, ?_, by simp, fun j hj => by rw [befs, befs_get os _ j (by simp; omega)]; simp [List.getD, List.getElem?_append, hj]⟩
    rw [befs, Nat.add_zero, befs_get os _ _ (by simp)]
    simp [List.getD]
  | o' :: os, acc, k + 1, o, h => by
    obtain ⟨acc', h1, h2, h3⟩ := befs_at os (acc ++ [anc1 acc o']) k o (by simpa using h)
    refine ⟨acc', ?_, by simp at h2; omega, h3⟩
    rw [befs]
    simp only [List.length_append, List.length_cons, List.length_nil] at h1
    rw [show acc.length + (k + 1) = acc.length + (0 + 1) + k from by omega]
    exact h1

/-- Whoever is listed, all that it waits for is listed. -/
def Closed (ops : Array Oper) (p : Nat → Bool) : Prop := ∀ (j : Nat) (o : Oper), ops[j]? = some o → p j = true → ∀ e ∈ o.after, Region.binds .any e = true → p e.on = true

theorem anc_listed {ops : Array Oper} {p : Nat → Bool} (hcl : Closed ops p) : ∀ (j : Nat) (o : Oper), ops[j]? = some o → (∀ e ∈ o.after, Region.binds .any e = true → p e.on = true) → ∀ i, ((befs ops.toList []).getD j 0).testBit i = true → p i = true := by
  intro j
  induction j using Nat.strongRecOn with
  | _ j ih =>
    intro o ho hall i hb
    obtain ⟨acc, h1, h2, h3⟩ := befs_at ops.toList [] j o (by simpa using ho)
    simp only [List.length_nil, Nat.zero_add] at h1 h2
    rw [h1] at hb
    rcases anc1_bit acc i _ _ hb with h | ⟨e, he, hbind, h⟩
    · simp at h
    · have hpe := hall e (by simpa using he) hbind
      rcases h with rfl | h
      · exact hpe
      · by_cases hlt : e.on < acc.length
        · rw [h3 _ hlt] at h
          have hsz : j < ops.size := (Array.getElem?_eq_some_iff.1 ho).1
          have hoe : ops[e.on]? = some (ops[e.on]'(by omega)) := Array.getElem?_eq_getElem _
          exact ih e.on (by omega) _ hoe (hcl e.on _ hoe hpe) i h
        · rw [show acc.getD e.on 0 = 0 from by simp [List.getD, List.getElem?_eq_none (Nat.le_of_not_lt hlt)]] at h
          simp at h

end Go.Ab
