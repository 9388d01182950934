/- The abstract machine, part 12: entering a function, and a run that the kernel can make. -/
import Derived.Test.YthpjicimlandeaaGreatDoorAbCode
set_option linter.unusedVariables false
set_option linter.unusedSimpArgs false
namespace Go.Ab
open Go

theorem AWp.region {P : Program} {Q : Exit → AS → Prop} {s : AS} {id : Nat} {ops : Array Oper}
    (h : AOps P ops s.st.next (fun s' => Q .normal s') (List.range ops.size) { s with st := { s.st with next := s.st.next + ops.size } }) : AWp P (.region id ops false) Q s := by
  intro G a w hr
  refine wp_region ?_
  have hr' : RelS G { s with st := { s.st with next := s.st.next + ops.size } } a w := ⟨hr.defers, hr.size, hr.tmps, hr.rel.next (Nat.le_add_right _ _)⟩
  refine wpOps_mono ?_ _ _ _ (h G a w hr' (fun j hj => ⟨by simpa using hj, hr.rel.fresh _ (Nat.le_add_right _ _)⟩) (Nat.le_refl _))
  rintro e a' w' ⟨rfl, s', G', b1, b2, b3⟩
  refine ⟨s', G', ⟨b1.le, b1.keeps, Nat.le_trans (Nat.le_add_right _ _) b1.next, ?_⟩, b2, b3⟩
  exact (Fr.less (σ := s.st) (σ' := { s.st with next := s.st.next + ops.size }) (fun _ _ h => h)).trans b1.fr

/-- The state at a function's entry. -/
def trOf : List AV → Nat → Tr AV → Tr AV
  | [], _, t => t
  | v :: vs, i, t => trOf vs (i + 1) (t.set i (some v))

theorem trOf_get : ∀ (vs : List AV) (i : Nat) (t : Tr AV) (k : Nat), (trOf vs i t).get k = if i ≤ k ∧ k < i + vs.length then vs[k - i]? else t.get k
  | [], i, t, k => by simp [trOf]; intro h1 h2; omega
  | v :: vs, i, t, k => by
    rw [trOf, trOf_get vs (i + 1) _ k, Tr.get_set]
    simp only [List.length_cons]
    by_cases e : k = i
    · subst e
      rw [if_neg (by omega), if_pos rfl, if_pos (by omega)]; simp
    · by_cases e2 : i + 1 ≤ k ∧ k < i + 1 + vs.length
      · rw [if_pos e2, if_pos (by omega)]
        obtain ⟨m, hm⟩ : ∃ m, k - i = m + 1 := ⟨k - i - 1, by omega⟩
        rw [hm]; simp; congr 1; omega
      · rw [if_neg e2, if_neg e, if_neg (by omega)]

def AS.enter (n : Nat) (args : List AV) (σ : Store) : AS := { n := n, tr := trOf args 0 .leaf, st := σ }

theorem AS.enter_get (n : Nat) (args : List AV) (σ : Store) (t : Nat) : (AS.enter n args σ).get t = (args[t]?).getD (.sc undef) := by
  simp only [AS.get, AS.enter, trOf_get, Tr.get_leaf, Nat.zero_le, true_and, Nat.zero_add, Nat.sub_zero]
  split
  · rfl
  · rw [List.getElem?_eq_none (by omega)]

theorem RelS.enter {G : Ghost} {args : List AV} {vs : List Value} {σ : Store} {w : World} (ha : Reps G args vs) (hr : Rel G σ w) (n : Nat) (hn : args.length ≤ n) :
    RelS G (AS.enter n args σ) { tmps := vs.toArray ++ Array.replicate (n - vs.toArray.size) undef, defers := [] } w := by
  refine ⟨rfl, by simp [AS.enter, ha.1]; omega, fun t => ?_, hr⟩
  rw [AS.enter_get]
  by_cases ht : t < args.length
  · have h1 : t < vs.length := by rw [ha.1]; exact ht
    have := ha.2 t ht h1
    simpa [ht, h1, Array.getElem?_append] using this
  · have h1 : ¬ t < vs.length := by rw [ha.1]; exact ht
    have e : (vs.toArray ++ Array.replicate (n - vs.toArray.size) undef).getD t undef = undef := by
      simp only [Array.getD_eq_getD_getElem?, Array.getElem?_append, List.size_toArray, if_neg h1]
      by_cases h2 : t - vs.length < n - vs.length
      · simp [h2]
      · simp [h2]
    rw [e, List.getElem?_eq_none (by omega)]
    exact .sc _

/-- A load, with what the result of a function asks. -/
theorem aLoad_run {P : Program} {T : Tab} (hT : TabOk P T) {G : Ghost} {σ : Store} {w : World} (h : Rel G σ w) {t : TypeId} {x v : AV} {u : Value} (hx : Rep G x u) (ha : aLoad T σ t x = some v) :
    ∃ y, (do loadVar t (← asAddr u) : Sem Value).run P w = .ok y w ∧ Rep G v y := by
  cases hx with
  | mp id' i j p hp =>
    simp only [aLoad] at ha
    cases ho : σ.objs id' with
    | none => simp [ho] at ha
    | some o =>
      cases o with
      | row elem size es =>
        simp only [ho] at ha
        cases he : es[i]? with
        | none => simp [he] at ha
        | some cs =>
          simp only [he] at ha
          cases ht : T t with
          | none => simp [ht] at ha
          | some ti =>
            simp only [ht] at ha
            obtain ⟨hi, hie⟩ := List.getElem?_eq_some_iff.1 he
            have hv : p.virt = false := by
              rcases h.lies ho hp with ⟨_, e, s, h2⟩ | ⟨h2, _⟩
              · cases h2; simp at hi
              · exact h2
            obtain ⟨_, _, cells, hb, hs, hn, hle, hrow⟩ := h.real ho hp hv
            obtain ⟨hlen, hrow2⟩ := hrow i hi
            rw [hie] at hlen
            have hbound : ∀ k, k < cs.length → i * size + k < cells.size := fun k hk => by
              rw [hn]
              have : (i + 1) * size ≤ p.cap * size := Nat.mul_le_mul_right _ (by omega)
              rw [Nat.add_mul] at this; omega
            have := cellsLoad_ok hT ht (P := P) (G := G) (w := w) p.block (i * p.size) cs (fun k => cells.getD (i * size + k) default) j
              (fun k hk => by
                rw [cell_of_row w _ _ cells elem _ hb, hs]
                have := hbound k hk
                simp [this]) (fun k hk => by
                have h3 := hrow2 k (by rw [hie]; exact hk) (hbound k hk)
                have := hbound k hk
                simp only [hie] at h3
                simpa [this] using h3) ha
            obtain ⟨u, hu, hr⟩ := this
            exact ⟨u, by simp only [asAddr, Sem.run_bind, Sem.run_pure, Result.andThen_ok, hu], hr⟩
      | _ => simp [ho] at ha
  | rp cs a val hs himm hrep =>
    simp only [aLoad] at ha
    cases ht : T t with
    | none => simp [ht] at ha
    | some ti =>
      simp only [ht] at ha
      obtain ⟨b, o, s⟩ := a
      simp at hs; subst hs
      obtain ⟨u, hu, hr⟩ := cellsLoad_ok hT ht (P := P) (G := G) (w := w) b o cs val 0 (fun k hk => h.cell (himm k hk)) hrep ha
      rw [Nat.add_zero] at hu
      exact ⟨u, by simp only [asAddr, Sem.run_bind, Sem.run_pure, Result.andThen_ok, hu], hr⟩
  | _ => simp [aLoad] at ha

def ares1 (T : Tab) (s : AS) : ResultVar → Option AV
  | .tmp t => some (s.get t)
  | .cell a t => aLoad T s.st t (s.get a)

def aresL (T : Tab) (s : AS) : List ResultVar → Option (List AV)
  | [] => some []
  | r :: rs => match ares1 T s r, aresL T s rs with
    | some v, some l => some (v :: l)
    | _, _ => none

def aresults (T : Tab) (fn : Func) (s : AS) : Option AV :=
  match aresL T s fn.results.toList with
  | some [v] => some v
  | some l => some (.tup l)
  | none => none

def resVal (tmps : Array Value) : ResultVar → Sem Value
  | .tmp t => pure (tmps.getD t undef)
  | .cell a t => do loadVar t (← asAddr (tmps.getD a undef))

theorem results_eq (fn : Func) (tmps : Array Value) : results fn tmps = (do
    let vs ← fn.results.mapM (resVal tmps)
    pure (if h : vs.size = 1 then vs[0] else .tuple vs)) := rfl

theorem aresL_ok {P : Program} {T : Tab} (hT : TabOk P T) {G : Ghost} {s : AS} {a : Act} {w : World} (h : RelS G s a w) : ∀ {rs : List ResultVar} {l : List AV}, aresL T s rs = some l →
    ∃ vs : List Value, (rs.mapM (resVal a.tmps) : Sem (List Value)).run P w = .ok vs w ∧ Reps G l vs
  | [], l, ha => by simp [aresL] at ha; subst ha; exact ⟨[], by simp, .nil G⟩
  | r :: rs, l, ha => by
    unfold aresL at ha
    split at ha
    · rename_i v l' h1 h2
      cases ha
      obtain ⟨vs, hvs, hr⟩ := aresL_ok hT h h2
      have : ∃ y, (resVal a.tmps r).run P w = .ok y w ∧ Rep G v y := by
        cases r with
        | tmp t => simp only [ares1, Option.some.injEq] at h1; subst h1; exact ⟨_, rfl, h.tmps t⟩
        | cell x t => exact aLoad_run hT h.rel (h.tmps x) h1
      obtain ⟨y, hy, hry⟩ := this
      refine ⟨y :: vs, ?_, .cons hry hr⟩
      simp only [List.mapM_cons, Sem.run_bind, hy, Result.andThen_ok, hvs, Sem.run_pure]
    · cases ha

theorem aresults_ok {P : Program} {T : Tab} (hT : TabOk P T) {G : Ghost} {s : AS} {a : Act} {w : World} (h : RelS G s a w) {fn : Func} {v : AV} (ha : aresults T fn s = some v) :
    ∃ y, (results fn a.tmps).run P w = .ok y w ∧ Rep G v y := by
  unfold aresults at ha
  have key : ∀ l, aresL T s fn.results.toList = some l → ∃ vs : List Value, (results fn a.tmps).run P w = .ok (if h : vs.length = 1 then vs[0] else .tuple vs.toArray) w ∧ Reps G l vs := fun l hl => by
    obtain ⟨vs, hvs, hr⟩ := aresL_ok (P := P) hT h hl
    refine ⟨vs, ?_, hr⟩
    rw [results_eq, Array.mapM_eq_mapM_toList]
    simp only [Sem.run_bind, Sem.run_map, hvs, Result.andThen_ok, Sem.run_pure]
    congr 1
  split at ha
  · rename_i v' hl
    cases ha
    obtain ⟨vs, h1, h2⟩ := key _ hl
    obtain ⟨y, ys, rfl, h3, h4⟩ := h2.cons_inv
    rw [h4.nil_inv] at h1
    exact ⟨y, by simpa using h1, h3⟩
  · rename_i l hne hl
    cases ha
    obtain ⟨vs, h1, h2⟩ := key _ hl
    have : vs.length ≠ 1 := fun e => by
      rw [h2.1] at e
      obtain ⟨x, rfl⟩ := List.length_eq_one_iff.1 e
      exact hne x rfl
    rw [dif_neg this] at h1
    exact ⟨_, h1, .tup _ _ h2.1 h2.2⟩
  · cases ha

theorem ACalls.of_body {P : Program} {T : Tab} (hT : TabOk P T) {f : FuncId} {fn : Func} {c : Code} {args : List AV} {σ : Store} {R : AV → Store → Prop} (hf : P.funcs[f]? = some fn) (hb : fn.body = some c) (hn : args.length ≤ fn.ntmps)
    (h : AWp P c (fun e s' => (e = .normal ∨ e = .ret) ∧ ∃ v, aresults T fn s' = some v ∧ R v s'.st) (AS.enter fn.ntmps args σ)) : ACalls P f args σ R := by
  intro G vs w ha hr
  refine calls_of_wp hf hb (wp_mono (h G _ w (RelS.enter ha hr fn.ntmps hn)) ?_)
  rintro e a' w' ⟨s', G', b1, b3, hex, v, hv, hR⟩
  obtain ⟨y, hy, hry⟩ := aresults_ok (P := P) hT b3 hv
  rcases hex with rfl | rfl
  · exact ⟨b3.defers, y, hy, y, v, s'.st, G', rfl, b1, hry, b3.rel, hR⟩
  · exact ⟨b3.defers, y, hy, y, v, s'.st, G', rfl, b1, hry, b3.rel, hR⟩

/-! ### a run -/

inductive EX where
  | nor
  | exi (id : Nat)
  | ret

def EX.toExit : EX → Exit
  | .nor => .normal
  | .exi id => .exit id
  | .ret => .ret

def runOps (T : Tab) (cl : FuncId → List AV → Store → Option (AV × Store)) (ops : Array Oper) (n0 : Nat) : List Oper → Nat → AS → Option AS
  | [], _, s => some s
  | o :: rest, i, s =>
    match awanted ops s o, dstOk s.n o.dst with
    | some false, true => runOps T cl ops n0 rest (i + 1) (s.put o.dst (.sc undef))
    | some true, true =>
      match o.op with
      | .call { callee := .value fo, args := args, argTypes := _ } =>
        match s.eval fo with
        | .fn (.func f) first cap => match cl f (first ++ args.toList.map s.eval ++ cap) s.st with
          | some (v, σ') => runOps T cl ops n0 rest (i + 1) ({ s with st := σ' }.put o.dst v)
          | none => none
        | _ => none
      | op => match aop T s.eval s.st (n0 + i) op with
        | some (v, σ') => if σ'.next = s.st.next then runOps T cl ops n0 rest (i + 1) ({ s with st := σ' }.put o.dst v) else none
        | none => none
    | _, _ => none

/-- Functions that are told, not run. -/
abbrev AKnow := FuncId → Option (List AV → Store → Option (AV × Store))

def callWith (T : Tab) (F : FuncId → Option Func) (K : AKnow) (ex : Code → AS → Option (EX × AS)) (f : FuncId) (args : List AV) (σ : Store) : Option (AV × Store) :=
  match (match K f with | some g => g args σ | none => none) with
  | some r => some r
  | none =>
  match F f with
  | some fn => match fn.body with
    | some c => if args.length ≤ fn.ntmps ∧ (fn.name == "runtime.NumGoroutine") = false then
        match ex c (AS.enter fn.ntmps args σ) with
        | some (.nor, s') | some (.ret, s') => match aresults T fn s' with
          | some v => some (v, s'.st)
          | none => none
        | _ => none
      else none
    | none => none
  | none => none

section
variable {P : Program} {T : Tab}

theorem runOps_ok {cl : FuncId → List AV → Store → Option (AV × Store)} {ops : Array Oper} {n0 : Nat}
    (hcl : ∀ f args σ v σ', cl f args σ = some (v, σ') → ACallOk P f args σ (fun v' σ'' => v' = v ∧ σ'' = σ')) (hT : TabOk P T) :
    ∀ (l : List Oper) (i : Nat) (s s' : AS), (∀ j : Nat, l[j]? = ops[i + j]?) → i + l.length = ops.size → runOps T cl ops n0 l i s = some s' → AOps P ops n0 (fun x => x = s') (List.range' i l.length) s
  | [], i, s, s', _, _, h => by
    simp only [runOps, Option.some.injEq] at h
    exact AOps.nil h
  | o :: rest, i, s, s', hl, hlen, h => by
    have ho : ops[i]? = some o := by have := hl 0; simpa using this.symm
    have hl' : ∀ j : Nat, rest[j]? = ops[i + 1 + j]? := fun j => by have := hl (j + 1); simpa [Nat.add_assoc, Nat.add_comm 1 j] using this
    have hlen' : i + 1 + rest.length = ops.size := by simp at hlen; omega
    have hnot : i ∉ List.range' (i + 1) rest.length := by simp [List.mem_range'_1]; omega
    simp only [List.length_cons, List.range'_succ]
    unfold runOps at h
    split at h
    · rename_i hw hd
      exact AOps.skip ho hw hd (runOps_ok hcl hT rest (i + 1) _ s' hl' hlen' h)
    · rename_i hw hd
      split at h
      · rename_i fo args ts hop
        split at h
        · rename_i f first cap hfo
          split at h
          · rename_i v σ' hc
            refine AOps.call ho hop hw hd hfo (hcl _ _ _ _ _ hc) ?_
            rintro v' σ'' ⟨rfl, rfl⟩
            exact runOps_ok hcl hT rest (i + 1) _ s' hl' hlen' h
          · cases h
        · cases h
      · split at h
        · rename_i v σ' ha
          split at h
          · rename_i hnx
            exact AOps.plain hT ho hnot hw hd ha hnx (runOps_ok hcl hT rest (i + 1) _ s' hl' hlen' h)
          · cases h
        · cases h
    · cases h

end
end Go.Ab
