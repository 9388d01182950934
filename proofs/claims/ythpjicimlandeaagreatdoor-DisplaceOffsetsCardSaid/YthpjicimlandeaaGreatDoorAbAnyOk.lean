/- The abstract machine, part 18: in whatever order the operations of such a region come up, the state behind them is the one of the text's order. -/
import Derived.Test.YthpjicimlandeaaGreatDoorAbAny
set_option linter.unusedVariables false
set_option linter.unusedSimpArgs false
namespace Go.Ab
open Go

/-- What an operation asks of the state in which it comes up. -/
def Cond (ops : Array Oper) (n0 N mask : Nat) (o : Oper) (f : Inf) (s : AS) (tm : Nat → AV) (σ : Store) : Prop :=
  (∀ t ∈ o.looksAt ops, tm t = s.get t) ∧ (∀ id ∈ f.rd, σ.objs id = s.st.objs id) ∧ (f.call = true → σ.next = s.st.next ∧ ∀ id, id ∉ exIds n0 N mask → σ.objs id = s.st.objs id) ∧
    (f.bar = true → σ.next = s.st.next ∧ ∀ id, σ.objs id = s.st.objs id)

structure EvOk (n0 N i : Nat) (o : Oper) (f : Inf) (ev : Ev) : Prop where
  tmp : ∀ t, ev.uT t ≠ none → o.dst = some t
  obj : ∀ id, ev.uO id ≠ none → id ∈ f.wr ∨ id = n0 + i ∨ (f.call = true ∧ f.nx ≤ id) ∨ f.bar = true
  num : f.call = false → f.bar = false → ev.uN = none
  start : f.call = true → n0 + N ≤ f.nx
  idle : idle o.op = true → (∀ id, ev.uO id = none) ∧ f.call = false ∧ f.rd = [] ∧ f.bar = false

theorem put_get (s : AS) (σ : Store) (d : Option Tmp) (v : AV) (t : Nat) : ({ s with st := σ }.put d v).get t = (uTmp d v t).getD (s.get t) := by
  cases d with
  | none => rfl
  | some d =>
    rw [AS.get_put]
    simp only [uTmp]
    by_cases e : t = d
    · simp [e]
    · rw [if_neg e, if_neg (by simp; exact fun h => e h.symm)]; rfl

theorem SemStep.weak {P : Program} {ops : Array Oper} {n n0 N i : Nat} {c c' : (Nat → AV) → Store → Prop} {ev : Ev} (h : SemStep P ops n n0 N i c ev) (hc : ∀ tm σ, c' tm σ → c tm σ) : SemStep P ops n n0 N i c' ev :=
  fun G a w tm σ hr hc' => h G a w tm σ hr (hc tm σ hc')

theorem mem_exIds {n0 N mask id : Nat} : id ∈ exIds n0 N mask ↔ ∃ j, j < N ∧ mask.testBit j = false ∧ id = n0 + j := by
  unfold exIds
  rw [List.mem_filterMap]
  constructor
  · rintro ⟨j, hj, h⟩
    split at h
    · cases h
    · rename_i hb
      cases h
      exact ⟨j, by simpa using hj, by simpa using hb, rfl⟩
  · rintro ⟨j, hj, hb, rfl⟩
    exact ⟨j, by simpa using hj, by simp [hb]⟩

section
variable {P : Program} {T : Tab} (hT : TabOk P T) {cl : FuncId → List AV → Store → Option (AV × Store)}
  (hcl : ∀ f args σ v σ', cl f args σ = some (v, σ') → ACallOk P f args σ (fun v' σ'' => v' = v ∧ σ'' = σ') ∧ LowOk σ σ')
  {ops : Array Oper} {n0 N : Nat}
include hT hcl

theorem stepD_ok {mask i : Nat} {bar : Bool} {s s1 : AS} {o : Oper} {f : Inf} (ho : ops[i]? = some o) (hi : i < N) (hn : n0 + N ≤ s.st.next) (h : stepD T cl ops n0 N mask i bar s o = some (s1, f)) :
    ∃ ev, EvOk n0 N i o f ev ∧ (∀ t, s1.get t = (ev.uT t).getD (s.get t)) ∧ (∀ id, s1.st.objs id = (ev.uO id).getD (s.st.objs id)) ∧ s1.st.next = ev.uN.getD s.st.next ∧ s1.n = s.n ∧ s.st.next ≤ s1.st.next ∧
      SemStep P ops s.n n0 N i (Cond ops n0 N mask o f s) ev := by
  unfold stepD at h
  split at h
  · rename_i hw hd
    cases h
    refine ⟨⟨uTmp o.dst (.sc undef), fun _ => none, none⟩, ⟨fun t ht => ?_, fun id hid => absurd rfl hid, fun _ _ => rfl, (fun h => by cases h), fun _ => ⟨fun _ => rfl, rfl, rfl, rfl⟩⟩, fun t => ?_, fun id => by simp, by simp, by simp, by simp, ?_⟩
    · simp only [uTmp] at ht; split at ht
      · assumption
      · exact absurd rfl ht
    · have := put_get s s.st o.dst (.sc undef) t; exact this
    · exact (semStep_skip ho hw hd).weak fun tm σ hc => hc.1
  · rename_i hw hd
    split at h
    · rename_i fo args ts hop
      split at h
      · rename_i fi first cap hfo
        split at h
        · split at h
          · rename_i v σ1 hc
            split at h
            · rename_i hnx
              cases h
              obtain ⟨hcalls, hlo⟩ := hcl _ _ _ _ _ hc
              have hargs : args.toList.map s.eval = args.toList.map (evalF s.get) := List.map_congr_left fun x _ => AS.eval_eq s x
              refine ⟨⟨uTmp o.dst v, fun id => some (σ1.objs id), some σ1.next⟩, ⟨fun t ht => ?_, fun id hid => .inr (.inr (.inr rfl)), (fun _ h => by cases h), (fun h => by cases h), (fun h => by rw [hop] at h; simp [Go.Ab.idle] at h)⟩, fun t => put_get s _ o.dst v t, fun id => by simp, by simp, by simp, by simpa using hnx, ?_⟩
              · simp only [uTmp] at ht; split at ht
                · assumption
                · exact absurd rfl ht
              · refine (semStep_bar (n0 := n0) (N := N) ho hop hw hd (by rw [← AS.eval_eq]; exact hfo) s.st v σ1 (by rw [← hargs]; exact hcalls)).weak ?_
                rintro tm σ ⟨c1, c2, c3, c4⟩
                exact ⟨c1, c4 rfl⟩
            · cases h
          · cases h
        split at h
        · rename_i v σ1 hc
          split at h
          · rename_i hlow
            cases h
            obtain ⟨hcalls, hlo⟩ := hcl _ _ _ _ _ hc
            obtain ⟨hs1, hs2⟩ := saved_spec s.st (exIds n0 N mask)
            have hview : ∀ id, ({ delAll (saved s.st (exIds n0 N mask)) s.st with low := s.st.next } : Store).objs id = if (exIds n0 N mask).contains id then none else s.st.objs id := fun id => by
              show (delAll (saved s.st (exIds n0 N mask)) s.st).objs id = _
              rw [delAll_objs]
              by_cases e : id ∈ exIds n0 N mask
              · have : (exIds n0 N mask).contains id = true := by simpa using e
                rw [this]
                simp only [if_true]
                cases hso : s.st.objs id with
                | none => simp
                | some x => rw [if_pos ((hs2 id).2 ⟨e, by simp [hso]⟩)]
              · have : (exIds n0 N mask).contains id = false := by simpa using e
                rw [this]
                rw [if_neg (fun hh => e ((hs2 id).1 hh).1)]
                simp
            have hlo' : ∀ id, id < s.st.next → σ1.objs id = ({ delAll (saved s.st (exIds n0 N mask)) s.st with low := s.st.next } : Store).objs id := fun id hid => hlo.2 id (by omega)
            have hex : ∀ id, id ∈ exIds n0 N mask → id < s.st.next := fun id hid => by
              obtain ⟨j, hj, _, rfl⟩ := mem_exIds.1 hid; omega
            refine ⟨⟨uTmp o.dst v, fun id => if id < s.st.next then none else some (σ1.objs id), some σ1.next⟩, ⟨fun t ht => ?_, fun id hid => ?_, (fun h _ => by cases h), fun _ => hn, (fun h => by rw [hop] at h; simp [Go.Ab.idle] at h)⟩, fun t => put_get s _ o.dst v t, fun id => ?_, ?_, by simp, ?_, ?_⟩
            · simp only [uTmp] at ht; split at ht
              · assumption
              · exact absurd rfl ht
            · refine .inr (.inr (.inl ⟨rfl, ?_⟩))
              simp only at hid
              split at hid
              · exact absurd rfl hid
              · show s.st.next ≤ id
                omega
            · simp only [AS.put_st]
              show (setAll (saved s.st (exIds n0 N mask)) σ1).objs id = _
              rw [setAll_objs s.st.objs _ _ _ hs1]
              by_cases e : id < s.st.next
              · rw [if_pos e]
                simp only [Option.getD_none]
                split
                · rfl
                · rename_i hns
                  rw [hlo' id e, hview id]
                  split
                  · rename_i hc2
                    cases hso : s.st.objs id with
                    | none => rfl
                    | some x => exact absurd ((hs2 id).2 ⟨by simpa using hc2, by simp [hso]⟩) hns
                  · rfl
              · rw [if_neg e, if_neg (fun hh => e (hex id ((hs2 id).1 hh).1))]
                rfl
            · simp only [AS.put_st]
              show (setAll (saved s.st (exIds n0 N mask)) σ1).next = _
              rw [setAll_next]; rfl
            · simp only [AS.put_st]
              show s.st.next ≤ (setAll (saved s.st (exIds n0 N mask)) σ1).next
              rw [setAll_next]; exact hlow.2
            · have hargs : args.toList.map s.eval = args.toList.map (evalF s.get) := List.map_congr_left fun x _ => AS.eval_eq s x
              refine (semStep_call (n0 := n0) (N := N) ho hop hw hd (by rw [← AS.eval_eq]; exact hfo) s.st { delAll (saved s.st (exIds n0 N mask)) s.st with low := s.st.next } v σ1 (fun id => (exIds n0 N mask).contains id) (delAll_next _ _) hview hlo' (by rw [← hargs]; exact hcalls)).weak ?_
              rintro tm σ ⟨c1, c2, c3, _⟩
              obtain ⟨c4, c5⟩ := c3 rfl
              exact ⟨c1, c4, fun id hid => c5 id (by simpa using hid)⟩
          · cases h
        · cases h
      · cases h
    · rename_i hnc
      split at h
      · rename_i v σ1 ha
        cases h
        have hev : s.eval = evalF s.get := funext (AS.eval_eq s)
        rw [hev] at ha
        have hlow := aop_low ha
        refine ⟨_, ⟨fun t ht => ?_, fun id hid => ?_, fun _ _ => rfl, (fun h => by cases h), fun hidle => ?_⟩, fun t => put_get s _ o.dst v t, fun id => ?_, ?_, by simp, ?_, (semStep_plain hT ho hi hw hd s.st v σ1 ha).weak ?_⟩
        · simp only [uTmp] at ht; split at ht
          · assumption
          · exact absurd rfl ht
        · simp only at hid
          rw [hev]
          split at hid
          · rename_i hc; left; rw [if_pos hc.1]; exact hc.2
          · split at hid
            · rename_i e; exact .inr (.inl e)
            · exact absurd rfl hid
        · obtain ⟨e1, e2, e3⟩ := aop_idle ha hidle
          refine ⟨fun id => ?_, rfl, by rw [hev]; exact e2, rfl⟩
          simp only [e3, Bool.false_eq_true, false_and, if_false]
          split
          · rw [e1, small_objs, e2]; simp
          · rfl
        · simp only [AS.put_st]
          rw [hev]
          by_cases hE : isE o.op = true
          · simp only [hE, if_true, true_and]
            by_cases hm : id ∈ foot (evalF s.get) o.op
            · rw [if_pos hm]
              split
              · rename_i x hx
                rw [Store.objs_set]
                split
                · rename_i e; rw [e]; simp [hx]
                · rw [applyE_objs, if_pos hm]; rfl
              · rw [applyE_objs, if_pos hm]; rfl
            · rw [if_neg hm]
              split
              · rename_i x hx
                rw [Store.objs_set]
                split
                · rename_i e; rw [e]; simp [hx]
                · rw [applyE_objs, if_neg hm]; rfl
              · rename_i hx
                rw [applyE_objs, if_neg hm]
                split
                · rename_i e; rw [e]; simp [hx]
                · rfl
          · have hE' : isE o.op = false := by simpa using hE
            simp only [hE', Bool.false_eq_true, if_false, false_and]
            split
            · rename_i x hx
              rw [Store.objs_set]
              split
              · rename_i e; rw [e]; simp [hx]
              · rfl
            · rename_i hx
              split
              · rename_i e; rw [e]; simp [hx]
              · rfl
        · simp only [AS.put_st, Option.getD_none]
          split
          · simp only [Store.set_next]; split
            · rw [applyE_next]
            · rfl
          · split
            · rw [applyE_next]
            · rfl
        · simp only [AS.put_st]
          split
          · simp only [Store.set_next]; split
            · rw [applyE_next]; exact Nat.le_refl _
            · exact Nat.le_refl _
          · split
            · rw [applyE_next]; exact Nat.le_refl _
            · exact Nat.le_refl _
        · rintro tm σ ⟨c1, c2, _⟩
          exact ⟨c1, fun id hid => c2 id (by rw [hev]; exact hid)⟩
      · cases h
  · cases h


/-- The run in the text's order, told by what each operation turns. -/
theorem runD_ok {masks : List Nat} : ∀ (l : List Oper) (i : Nat) (s s' : AS) (fs : List Inf), (∀ j : Nat, l[j]? = ops[i + j]?) → i + l.length ≤ N → n0 + N ≤ s.st.next → runD T cl ops n0 N masks l i s = some (s', fs) →
    ∃ (evs : List Ev) (sts : List AS), evs.length = l.length ∧ fs.length = l.length ∧ sts.length = l.length ∧ s'.n = s.n ∧
      (∀ (j : Nat) o f ev st, l[j]? = some o → fs[j]? = some f → evs[j]? = some ev → sts[j]? = some st → EvOk n0 N (i + j) o f ev ∧ SemStep P ops s.n n0 N (i + j) (Cond ops n0 N (masks.getD (i + j) 0) o f st) ev ∧ (f.call = true → f.nx = st.st.next) ∧
        (∀ t, st.get t = fold (fun k => decide (k < i + j)) (evs.map (·.uT)) i s.get t) ∧ (∀ id, st.st.objs id = fold (fun k => decide (k < i + j)) (evs.map (·.uO)) i s.st.objs id) ∧
        (st.st.next = fold (fun k => decide (k < i + j)) (evs.map fun e => fun _ : Unit => e.uN) i (fun _ => s.st.next) ())) ∧
      (∀ t, s'.get t = fold (fun _ => true) (evs.map (·.uT)) i s.get t) ∧ (∀ id, s'.st.objs id = fold (fun _ => true) (evs.map (·.uO)) i s.st.objs id) ∧
      (s'.st.next = fold (fun _ => true) (evs.map fun e => fun _ : Unit => e.uN) i (fun _ => s.st.next) ())
  | [], i, s, s', fs, _, _, _, h => by
    simp only [runD, Option.some.injEq, Prod.mk.injEq] at h
    obtain ⟨rfl, rfl⟩ := h
    exact ⟨[], [], rfl, rfl, rfl, rfl, fun j o f ev st hj => by simp at hj, fun _ => rfl, fun _ => rfl, rfl⟩
  | o :: rest, i, s, s', fs, hl, hN, hn, h => by
    have ho : ops[i]? = some o := by have := hl 0; simpa using this.symm
    have hl' : ∀ j : Nat, rest[j]? = ops[i + 1 + j]? := fun j => by have := hl (j + 1); simpa [Nat.add_assoc, Nat.add_comm 1 j] using this
    simp only [List.length_cons] at hN
    unfold runD at h
    split at h
    · rename_i s1 f hs
      split at h
      · rename_i s2 fs' hr
        cases h
        obtain ⟨ev, e1, e2, e3, e4, e5, e6, e7⟩ := stepD_ok hT hcl ho (by omega) hn hs
        obtain ⟨evs, sts, l1, l2, l3, l4, hall, g1, g2, g3⟩ := runD_ok rest (i + 1) s1 s' fs' hl' (by omega) (by omega) hr
        have hnone : ∀ k, i ≤ k → decide (k < i + 0) = false := fun k hk => by simp; omega
        have f1 : ∀ (p : Nat → Bool), p i = true → ∀ t, fold p ((ev :: evs).map (·.uT)) i s.get t = fold p (evs.map (·.uT)) (i + 1) s1.get t := fun p hp t => by
          simp only [List.map_cons, fold, hp, cond_true]
          rw [show (fun l => (ev.uT l).getD (s.get l)) = s1.get from funext fun t => (e2 t).symm]
        have f2 : ∀ (p : Nat → Bool), p i = true → ∀ id, fold p ((ev :: evs).map (·.uO)) i s.st.objs id = fold p (evs.map (·.uO)) (i + 1) s1.st.objs id := fun p hp id => by
          simp only [List.map_cons, fold, hp, cond_true]
          rw [show (fun l => (ev.uO l).getD (s.st.objs l)) = s1.st.objs from funext fun t => (e3 t).symm]
        have f3 : ∀ (p : Nat → Bool), p i = true → fold p ((ev :: evs).map fun e => fun _ : Unit => e.uN) i (fun _ => s.st.next) () = fold p (evs.map fun e => fun _ : Unit => e.uN) (i + 1) (fun _ => s1.st.next) () := fun p hp => by
          simp only [List.map_cons, fold, hp, cond_true]
          rw [show (fun _ : Unit => ev.uN.getD s.st.next) = (fun _ => s1.st.next) from funext fun _ => e4.symm]
        refine ⟨ev :: evs, s :: sts, by simp [l1], by simp [l2], by simp [l3], by rw [l4, e5], fun j o' f' ev' st' h1 h2 h3 h4 => ?_, fun t => by rw [f1 _ rfl]; exact g1 t, fun id => by rw [f2 _ rfl]; exact g2 id, by rw [f3 _ rfl]; exact g3⟩
        cases j with
        | zero =>
          simp only [List.getElem?_cons_zero, Option.some.injEq] at h1 h2 h3 h4
          subst h1 h2 h3 h4
          refine ⟨e1, e7, fun hc => ?_, fun t => (fold_init t _ i _ _ (fun j u _ hp => by have := of_decide_eq_true hp; omega) rfl).symm, fun id => (fold_init id _ i _ _ (fun j u _ hp => by have := of_decide_eq_true hp; omega) rfl).symm, (fold_init (p := fun k => decide (k < i + 0)) () _ i (fun _ => s.st.next) s.st.next (fun j u _ hp => by have := of_decide_eq_true hp; omega) rfl).symm⟩
          · -- the call's own number
            unfold stepD at hs
            split at hs
            · cases hs; cases hc
            · split at hs
              · split at hs
                · split at hs
                  · split at hs
                    · split at hs
                      · cases hs; cases hc
                      · cases hs
                    · cases hs
                  split at hs
                  · split at hs
                    · cases hs; rfl
                    · cases hs
                  · cases hs
                · cases hs
              · split at hs
                · cases hs; cases hc
                · cases hs
            · cases hs
        | succ j =>
          simp only [List.getElem?_cons_succ] at h1 h2 h3 h4
          obtain ⟨q1, q2, q3, q4, q5, q6⟩ := hall j o' f' ev' st' h1 h2 h3 h4
          have hp : decide (i < i + (j + 1)) = true := by simp
          rw [show i + 1 + j = i + (j + 1) from by omega] at q1 q2 q4 q5 q6
          rw [e5] at q2
          exact ⟨q1, q2, q3, fun t => by rw [f1 _ hp]; exact q4 t, fun id => by rw [f2 _ hp]; exact q5 id, by rw [f3 _ hp]; exact q6⟩
      · cases h
    · cases h

end
end Go.Ab
