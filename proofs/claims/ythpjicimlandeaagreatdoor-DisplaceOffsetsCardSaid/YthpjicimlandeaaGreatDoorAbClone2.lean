/- The abstract machine, part 27: slices.Clone. -/
import Derived.Test.YthpjicimlandeaaGreatDoorAbTold2
set_option linter.unusedVariables false
set_option linter.unusedSimpArgs false
namespace Go.Ab
open Go

structure OpIs (o : Oper) (d : Option Tmp) (op : Op) : Prop where
  dst : o.dst = d
  op : o.op = op
  guard : o.guard = none

theorem OpIs.wanted {o : Oper} {d : Option Tmp} {op : Op} (h : OpIs o d op) (ops : Array Oper) (s : AS) : awanted ops s o = some true := by simp [awanted, h.guard]

section
variable {P : Program} {T : Tab} {ops : Array Oper} {n0 : Nat} {Q : AS → Prop} {s : AS}

theorem AOps.is (hT : TabOk P T) {i : Nat} {rest : List Nat} {o : Oper} {d : Tmp} {op : Op} {v : AV} {σ' : Store} (ho : ops[i]? = some o) (h : OpIs o (some d) op) (hi : i ∉ rest) (hd : d < s.n)
    (ha : aop T s.eval s.st (n0 + i) op = some (v, σ')) (hk : AOps P ops n0 Q rest ({ s with st := σ' }.put (some d) v)) : AOps P ops n0 Q (i :: rest) s := by
  refine AOps.plain hT ho hi (h.wanted ops s) (by rw [h.dst]; simpa [dstOk] using hd) (by rw [h.op]; exact ha) (aop_low ha).1 ?_
  rw [h.dst]; exact hk

/-- A test against nil, whatever it shows. -/
theorem AOps.nilTest (hT : TabOk P T) {i : Nat} {rest : List Nat} {o : Oper} {d : Tmp} {t elem yt : TypeId} {ti : TI} {x : Operand} (ho : ops[i]? = some o) (h : OpIs o (some d) (.binOp .eql t x (.const (.slice none 0 0)) yt)) (hd : d < s.n)
    (ht : T t = some ti) (hu : ti.und = .slice elem) (hx : (∃ es, s.eval x = .rs es) ∨ ∃ id z off len, s.eval x = .ms id z off len)
    (hk : ∀ b, AOps P ops n0 Q rest (s.put (some d) (.sc (.bool b)))) : AOps P ops n0 Q (i :: rest) s := by
  intro G a w hr hf hn
  have hxr := hr.eval x
  have hval : ∃ q l c, a.eval x = .slice q l c := by
    generalize a.eval x = u at hxr
    rcases hx with ⟨es, e⟩ | ⟨id, z, off, len, e⟩ <;> rw [e] at hxr <;> cases hxr <;> exact ⟨_, _, _, rfl⟩
  obtain ⟨q, l, c, hev⟩ := hval
  simp only [wpOps, ho, awanted_ok hr (h.wanted ops s), if_true]
  left
  have hund : P.underlying t = some (.slice elem) := by rw [hT.und t ti ht, hu]
  have hrun : (execOp a.eval o).run P w = .ok (.value (.bool q.isNone)) w := by
    have hc : a.eval (.const (.slice none 0 0)) = .slice none 0 0 := rfl
    simp only [execOp, h.op, hev, hc, eqGuard, Sem.run_bind, Sem.run_pure, Result.andThen_ok, binOp, Op.equal, Op.maxDepth]
    have e := run_equalIn_nil w 9999 t elem q l c hund
    simp only [Nat.reduceAdd] at e
    simp only [Bool.not_true, Bool.false_eq_true, if_false, Sem.run_pure, Result.andThen_ok, e]
  unfold Oper.wp
  rw [hrun]
  simp only [Oper.upon]
  have := hk q.isNone G (a.put (some d) (.bool q.isNone)) w (hr.put (.refl G) hr.rel (.sc _) (by simpa [dstOk] using hd)) (fun j hj => hf j (by simp [hj])) (by simpa using hn)
  rw [h.dst]
  simpa using this

end

@[simp] theorem AS.get_st (s : AS) (σ : Store) (t : Nat) : ({ s with st := σ } : AS).get t = s.get t := rfl

def nilS : Operand := .const (.slice none 0 0)

/-- What a body must look like to be the one of slices.Clone. -/
structure CloneFn (fn : Func) (t : TypeId) : Prop where
  ntmps : fn.ntmps = 8
  results : fn.results = #[.tmp 2]
  body : ∃ i0 i1 i2 i3 o0 o1 o2 o3 o4 o5 o6 o7 yt, fn.body = some (.seq (.region i0 #[o0] false) (.seq (.seq (.region i1 #[o1, o2] false) (.cond (.tmp 4) (.seq (.region i2 #[o3] false) .ret) .skip)) (.seq (.region i3 #[o4, o5, o6, o7] false) .ret))) ∧
    OpIs o0 (some 2) (.assign nilS) ∧ OpIs o1 (some 3) (.move (.tmp 0)) ∧ OpIs o2 (some 4) (.binOp .eql t (.tmp 3) nilS yt) ∧ OpIs o3 (some 2) (.assign nilS) ∧
    OpIs o4 (some 5) (.buildSlice t 0 #[]) ∧ OpIs o5 (some 6) (.move (.tmp 0)) ∧ OpIs o6 (some 7) (.call { callee := .builtin .append, args := #[.tmp 5, .tmp 6], argTypes := #[t, t] }) ∧ OpIs o7 (some 2) (.assign (.tmp 7))


theorem ACalls.withLt {P : Program} {f : FuncId} {args : List AV} {σ : Store} {R : AV → Store → Prop} (h : (∀ k x, σ.objs k = some x → k < σ.next) → ACalls P f args σ R) : ACalls P f args σ R :=
  fun G vs w h1 h2 => h (fun k x hx => h2.objs_lt hx) G vs w h1 h2

/-- A step, the state behind it told by its parts. -/
structure Step (s : AS) (d : Nat) (v : AV) (σ' : Store) (s' : AS) : Prop where
  n : s'.n = s.n
  get : ∀ t, s'.get t = if t = d then v else s.get t
  st : s'.st = σ'

theorem Step.same {s s' : AS} {d : Nat} {v : AV} {σ' : Store} (h : Step s d v σ' s') : s'.get d = v := by rw [h.get, if_pos rfl]
theorem Step.other {s s' : AS} {d t : Nat} {v : AV} {σ' : Store} (h : Step s d v σ' s') (ht : t ≠ d) : s'.get t = s.get t := by rw [h.get, if_neg ht]

section
variable {P : Program} {T : Tab} {ops : Array Oper} {n0 : Nat} {Q : AS → Prop} {s : AS}

theorem AOps.step (hT : TabOk P T) {i : Nat} {rest : List Nat} {o : Oper} {d : Tmp} {op : Op} {v : AV} {σ' : Store} (ho : ops[i]? = some o) (h : OpIs o (some d) op) (hi : i ∉ rest) (hd : d < s.n)
    (ha : aop T s.eval s.st (n0 + i) op = some (v, σ')) (hk : ∀ s', Step s d v σ' s' → AOps P ops n0 Q rest s') : AOps P ops n0 Q (i :: rest) s :=
  AOps.is hT ho h hi hd ha (hk _ ⟨by simp, fun t => AS.get_put _ _ _ _, by simp⟩)

theorem AWp.region' {Q : Exit → AS → Prop} {id : Nat} {ops : Array Oper} (h : ∀ s', s'.n = s.n → (∀ t, s'.get t = s.get t) → s'.st = { s.st with next := s.st.next + ops.size } → AOps P ops s.st.next (fun s' => Q .normal s') (List.range ops.size) s') : AWp P (.region id ops false) Q s :=
  AWp.region (h _ rfl (fun _ => rfl) rfl)

end

/-- The body of slices.Clone. -/
theorem clone_body {P : Program} {T : Tab} (hT : TabOk P T) {fn : Func} {t elem : TypeId} {ti ei : TI} (hfn : CloneFn fn t) (ht : T t = some ti) (hu : ti.und = .slice elem) (hei : T elem = some ei) {f : FuncId} (hf : P.funcs[f]? = some fn) {x : AV} {σ : Store}
    {xs : List (List AV)} (hsrc : srcOf σ x = some xs) (hok : (xs.all fun c => c.length == ei.size && c.all AV.one) = true) (hby : (2 * xs.length + 1000) * ei.bytes ≤ 2 ^ 48) (hlen : xs.length ≤ 2 ^ 62) (hsz : 0 < ei.size)
    (hlt : ∀ k x, σ.objs k = some x → k < σ.next) (R : AV → Store → Prop)
    (hA : x.isNil ≠ some false → R (.sc (.slice none 0 0)) { σ with next := σ.next + 4 })
    (hB : x.isNil ≠ some true → ∀ σ1 : Store, σ1.next = σ.next + 7 → (∀ k, σ1.objs k = if k = σ.next + 5 then some (.row elem ei.size xs) else σ.objs k) → R (.ms (σ.next + 5) ei.size 0 xs.length) σ1) :
    ACalls P f [x] σ R := by
  obtain ⟨i0, i1, i2, i3, o0, o1, o2, o3, o4, o5, o6, o7, yt, hb, h0, h1, h2, h3, h4, h5, h6, h7⟩ := hfn.body
  refine ACalls.of_body hT hf hb (by rw [hfn.ntmps]; simp) ?_
  rw [hfn.ntmps]
  have hg0 : (AS.enter 8 [x] σ).get 0 = x := by rw [AS.enter_get]; rfl
  have hn0 : (AS.enter 8 [x] σ).n = 8 := rfl
  have hst0 : (AS.enter 8 [x] σ).st = σ := rfl
  generalize AS.enter 8 [x] σ = s at hg0 hn0 hst0
  have hres : ∀ s : AS, aresults T fn s = some (s.get 2) := fun s => by simp [aresults, hfn.results, aresL, ares1]
  have hti : ∀ σ id, aBuildSlice T σ id t 0 [] = some (.ms id ei.size 0 0, σ.set id (.row elem ei.size [])) := fun σ id => by
    obtain ⟨u, z1, z2, z3, z4⟩ := ti
    simp only at hu; subst hu
    simp [aBuildSlice, ht, hei, hsz, setElems]
  refine AWp.seq (AWp.region' fun s1 n1 g1 t1 => ?_)
  show AOps P #[o0] _ _ [0] _
  refine AOps.step hT rfl h0 (by simp) (by rw [n1, hn0]; decide) (v := .sc (.slice none 0 0)) (σ' := s1.st) rfl fun s2 k2 => AOps.nil ?_
  show AWp P (.seq _ _) _ s2
  have hn2 : s2.n = 8 := by rw [k2.n, n1, hn0]
  have hx2 : s2.get 0 = x := by rw [k2.other (by decide), g1, hg0]
  have hst2 : s2.st = { σ with next := σ.next + 1 } := by rw [k2.st, t1, hst0]; rfl
  refine AWp.seq (AWp.seq (AWp.region' fun s3 n3 g3 t3 => ?_))
  show AOps P #[o1, o2] _ _ [0, 1] _
  refine AOps.step hT rfl h1 (by simp) (by rw [n3, hn2]; decide) (v := x) (σ' := s3.st) (by simp only [aop, AS.eval]; rw [g3, hx2]) fun s4 k4 => ?_
  have hn4 : s4.n = 8 := by rw [k4.n, n3, hn2]
  have hx4 : s4.get 0 = x := by rw [k4.other (by decide), g3, hx2]
  have hst4 : s4.st = { σ with next := σ.next + 3 } := by rw [k4.st, t3, hst2]; rfl
  -- behind the test
  have rest : ∀ b : Bool, x.isNil ≠ some (!b) → ∀ s5 : AS, s5.n = 8 → s5.get 0 = x → s5.get 4 = .sc (.bool b) → s5.st = { σ with next := σ.next + 3 } →
      AWp P (.cond (.tmp 4) (.seq (.region i2 #[o3] false) .ret) .skip) (AThen (AWp P (.seq (.region i3 #[o4, o5, o6, o7] false) .ret) (fun e s' => (e = .normal ∨ e = .ret) ∧ ∃ v, aresults T fn s' = some v ∧ R v s'.st)) (fun e s' => (e = .normal ∨ e = .ret) ∧ ∃ v, aresults T fn s' = some v ∧ R v s'.st)) s5 := by
    intro b hb s5 n5 x5 c5 t5
    refine AWp.cond (t := b) c5 ?_
    cases b with
    | true =>
      refine AWp.seq (AWp.region' fun s6 n6 g6 t6 => ?_)
      show AOps P #[o3] _ _ [0] _
      refine AOps.step hT rfl h3 (by simp) (by rw [n6, n5]; decide) (v := .sc (.slice none 0 0)) (σ' := s6.st) rfl fun s7 k7 => AOps.nil ?_
      refine AWp.ret ?_
      refine ⟨.inr rfl, _, hres _, ?_⟩
      rw [k7.same, k7.st, t6, t5]
      exact hA hb
    | false =>
      refine AWp.skip ?_
      refine AWp.seq (AWp.region' fun s6 n6 g6 t6 => ?_)
      show AOps P #[o4, o5, o6, o7] _ _ [0, 1, 2, 3] _
      have hst6 : s6.st = { σ with next := σ.next + 7 } := by rw [t6, t5]; rfl
      have hnx : s5.st.next = σ.next + 3 := by rw [t5]
      rw [hnx]
      refine AOps.step hT rfl h4 (by simp) (by rw [n6, n5]; decide) (v := .ms (σ.next + 3) ei.size 0 0) (σ' := s6.st.set (σ.next + 3) (.row elem ei.size [])) (hti _ _) fun s7 k7 => ?_
      refine AOps.step hT rfl h5 (by simp) (by rw [k7.n, n6, n5]; decide) (v := x) (σ' := s7.st) (by simp only [aop, AS.eval]; rw [k7.other (by decide), g6, x5]) fun s8 k8 => ?_
      have e5 : s8.get 5 = .ms (σ.next + 3) ei.size 0 0 := by rw [k8.other (by decide), k7.same]
      have e6 : s8.get 6 = x := k8.same
      have hst8 : s8.st = s6.st.set (σ.next + 3) (.row elem ei.size []) := by rw [k8.st, k7.st]
      have ho8 : ∀ k, s8.st.objs k = if k = σ.next + 3 then some (.row elem ei.size []) else σ.objs k := fun k => by rw [hst8, Store.objs_set, hst6]; rfl
      have hsrc8 : srcOf s8.st x = some xs := by
        rw [← hsrc]
        unfold srcOf
        split
        · rename_i id z off len
          rw [ho8]
          have : id ≠ σ.next + 3 := fun e => by
            simp only [srcOf] at hsrc
            split at hsrc
            · rename_i ho; have := hlt _ _ ho; omega
            · cases hsrc
          rw [if_neg this]
        · rfl
        · rfl
        · rfl
      have happ : aAppend2 T s8.st (σ.next + 5) t t (.ms (σ.next + 3) ei.size 0 0) x = some (.ms (σ.next + 5) ei.size 0 xs.length, (s8.st.del (σ.next + 3)).set (σ.next + 5) (.row elem ei.size xs)) := by
        obtain ⟨u, z1, z2, z3, z4⟩ := ti
        simp only at hu; subst hu
        have htr : truncBase s8.st (.ms (σ.next + 3) ei.size 0 0) = s8.st := by simp [truncBase, ho8]
        simp only [aAppend2, ht, htr]
        have hbase : baseOf s8.st elem ei.size (.ms (σ.next + 3) ei.size 0 0) = some (some (σ.next + 3), []) := by simp [baseOf, ho8]
        simp only [aAppend, ht, hei, hbase, hsrc8]
        rw [if_pos ⟨rfl, hok, by simpa using hby, by simpa using hlen, hsz⟩]
        simp
      refine AOps.step hT rfl h6 (by simp) (by rw [k8.n, k7.n, n6, n5]; decide) (v := .ms (σ.next + 5) ei.size 0 xs.length) (σ' := (s8.st.del (σ.next + 3)).set (σ.next + 5) (.row elem ei.size xs)) (by
        simp only [aop, aBuiltin, List.map_cons, List.map_nil, AS.eval, e5, e6]
        exact happ) fun s9 k9 => ?_
      refine AOps.step hT rfl h7 (by simp) (by rw [k9.n, k8.n, k7.n, n6, n5]; decide) (v := .ms (σ.next + 5) ei.size 0 xs.length) (σ' := s9.st) (by simp only [aop, AS.eval]; rw [k9.same]) fun s10 k10 => AOps.nil ?_
      refine AWp.ret ?_
      refine ⟨.inr rfl, _, hres _, ?_⟩
      rw [k10.same, k10.st, k9.st]
      refine hB hb _ ?_ (fun k => ?_)
      · rw [Store.set_next]
        show s8.st.next = _
        rw [hst8, Store.set_next, hst6]
      · rw [Store.objs_set, Store.objs_del, ho8]
        by_cases q : k = σ.next + 5
        · simp [q]
        · rw [if_neg q, if_neg q]
          by_cases q2 : k = σ.next + 3
          · rw [if_pos q2]
            cases hk : σ.objs k with
            | none => rfl
            | some y => have := hlt _ _ hk; omega
          · rw [if_neg q2, if_neg q2]
  have hev : s4.eval (.tmp 3) = x := k4.same
  cases hnil : x.isNil with
  | some b =>
    refine AOps.step hT rfl h2 (by simp) (by rw [hn4]; decide) (v := .sc (.bool b)) (σ' := s4.st) (by
      obtain ⟨u, z1, z2, z3, z4⟩ := ti
      simp only at hu; subst hu
      simp only [aop, nilS]
      rw [hev]
      simp [aBin, AS.eval, AV.ofValue, ht, hnil]) fun s5 k5 => AOps.nil ?_
    exact rest b (by rw [hnil]; cases b <;> simp) s5 (by rw [k5.n, hn4]) (by rw [k5.other (by decide), hx4]) k5.same (by rw [k5.st, hst4])
  | none =>
    refine AOps.nilTest hT rfl h2 (by rw [hn4]; decide) ht hu (by
      rw [hev]
      unfold srcOf at hsrc
      split at hsrc
      · exact .inr ⟨_, _, _, _, rfl⟩
      · exact .inl ⟨_, rfl⟩
      · simp [AV.isNil] at hnil
      · cases hsrc) fun b => AOps.nil ?_
    have k5 : Step s4 4 (.sc (.bool b)) s4.st (s4.put (some 4) (.sc (.bool b))) := ⟨by simp, fun t => AS.get_put _ _ _ _, by simp⟩
    exact rest b (by rw [hnil]; simp) _ (by rw [k5.n, hn4]) (by rw [k5.other (by decide), hx4]) k5.same (by rw [k5.st, hst4])


theorem srcOf_nil {σ : Store} {x : AV} {xs : List (List AV)} (hsrc : srcOf σ x = some xs) (hn : x.isNil ≠ some false) : xs = [] := by
  unfold srcOf at hsrc
  split at hsrc
  · rename_i id z off len
    split at hsrc
    · split at hsrc
      · cases hsrc
        cases len with
        | zero => simp
        | succ len => simp [AV.isNil] at hn
      · cases hsrc
    · cases hsrc
  · cases hsrc
    cases xs with
    | nil => rfl
    | cons e es => simp [AV.isNil] at hn
  · cases hsrc; rfl
  · cases hsrc

theorem aClone_ok {P : Program} {T : Tab} (hT : TabOk P T) {f : FuncId} {fn : Func} {t : TypeId} (hf : P.funcs[f]? = some fn) (hname : (fn.name == "runtime.NumGoroutine") = false) (hfn : CloneFn fn t) {args : List AV} {σ σ' : Store} {v : AV}
    (h : aClone T t args σ = some (v, σ')) : ACallOk P f args σ (fun v' σ'' => v' = v ∧ σ'' = σ') ∧ LowOk σ σ' := by
  have hbody : fn.body.isNone = false := by obtain ⟨_, _, _, _, _, _, _, _, _, _, _, _, _, hb, _⟩ := hfn.body; simp [hb]
  unfold aClone at h
  split at h
  · rename_i x
    split at h
    · rename_i elem z1 z2 z3 z4 ht
      split at h
      · rename_i ei hei
        split at h
        · rename_i xs hsrc
          split at h
          · rename_i hc
            obtain ⟨hok, hby, hlen, hsz⟩ := hc
            split at h
            · rename_i hnil
              cases h
              refine ⟨ACallOk.of_calls hf hname hbody (ACalls.withLt fun hlt => ?_), ⟨Nat.le_refl _, fun _ _ => rfl⟩⟩
              refine (clone_body hT hfn ht rfl hei hf hsrc hok hby hlen hsz hlt (fun v σ1 => v = .sc (.slice none 0 0) ∧ σ1 = { σ with next := σ.next + 4 }) (fun _ => ⟨rfl, rfl⟩) (fun hn => absurd hnil hn)).weaken ?_
              rintro v σ1 ⟨rfl, rfl⟩
              exact ⟨_, ⟨rfl, rfl⟩, by simp, fun _ _ h => h⟩
            · rename_i hnil
              cases h
              refine ⟨ACallOk.of_calls hf hname hbody (ACalls.withLt fun hlt => ?_), ?_⟩
              · have key := clone_body hT hfn ht rfl hei hf hsrc hok hby hlen hsz hlt (fun v σ1 => (xs = [] ∧ v = .sc (.slice none 0 0) ∧ σ1 = { σ with next := σ.next + 4 }) ∨ (v = .ms (σ.next + 5) ei.size 0 xs.length ∧ σ1.next = σ.next + 7 ∧ ∀ k, σ1.objs k = if k = σ.next + 5 then some (.row elem ei.size xs) else σ.objs k))
                  (fun hn => .inl ⟨srcOf_nil hsrc hn, rfl, rfl⟩) (fun _ σ1 h1 h2 => .inr ⟨rfl, h1, h2⟩)
                intro G vs w h1 h2
                refine (key G vs w h1 h2).mono ?_
                rintro e w' ⟨v, av, σ1, G', rfl, b1, b2, b3, b4⟩
                rcases b4 with ⟨rfl, rfl, rfl⟩ | ⟨rfl, b4, b5⟩
                · cases b2
                  have hid : G'.pl (σ.next + 5) = none := b3.fresh _ (by simp)
                  have hr7 : Rel G' { σ with next := σ.next + 7 } w' := b3.next (n := σ.next + 7) (by simp)
                  refine ⟨_, _, _, G'.place (σ.next + 5) { block := 0, size := 0, cap := 0, virt := true }, rfl, ⟨b1.le.trans (Ghost.place_le hid), fun i hi hg => ?_, by simp, b1.fr.trans ?_⟩, .msNil (σ.next + 5) ei.size _ (Ghost.place_same _ _ _) rfl, hr7.virt (σ.next + 5) hid (by simp) _ rfl elem ei.size, rfl, rfl⟩
                  · have := b1.keeps i hi hg
                    simp only [Ghost.place]
                    rw [if_neg (by omega)]; exact this
                  · exact (Fr.less (σ := { σ with next := σ.next + 4 }) (σ' := { σ with next := σ.next + 7 }) (fun _ _ h => h)).trans (Fr.virt _ _ rfl _)
                · have hle : ∀ k y, ({ σ with next := σ.next + 7 }.set (σ.next + 5) (.row elem ei.size xs) : Store).objs k = some y → σ1.objs k = some y := fun k y hy => by
                    rw [b5]
                    rw [Store.objs_set] at hy
                    exact hy
                  exact ⟨_, _, _, G', rfl, ⟨b1.le, b1.keeps, by simp, b1.fr.trans (Fr.less hle)⟩, b2, b3.less (by rw [b4]; rfl) hle, rfl, rfl⟩
              · have := LowOk.set { σ with next := σ.next + 7 } (σ.next + 5) (.row elem ei.size xs)
                exact this
          · cases h
        · cases h
      · cases h
    · cases h
  · cases h

end Go.Ab
