/- The abstract machine, part 19: a region that draws its order, whole. -/
import Derived.Test.YthpjicimlandeaaGreatDoorAbAnyOk
set_option linter.unusedVariables false
set_option linter.unusedSimpArgs false
namespace Go.Ab
open Go

/-- Two operations of which neither waits for the other do not meet. -/
theorem pair_ok {ops : Array Oper} {masks : List Nat} {n0 : Nat} {fs : List Inf} (hst : statOk ops masks = true) (hdyn : (dynPairs ops masks).all (fun p => noconf n0 p.1 p.2 (fs.getD p.1 ⟨[], [], false, 0, false⟩) (fs.getD p.2 ⟨[], [], false, 0, false⟩)) = true)
    {i j : Nat} {a b : Oper} (hij : i < j) (ha : ops[i]? = some a) (hb : ops[j]? = some b) (hm : (masks.getD j 0).testBit i = false) :
    a.apart ops b = true ∧ (idle a.op = true ∨ idle b.op = true ∨ noconf n0 i j (fs.getD i ⟨[], [], false, 0, false⟩) (fs.getD j ⟨[], [], false, 0, false⟩) = true) := by
  have hj : j < ops.size := (Array.getElem?_eq_some_iff.1 hb).1
  have h1 := List.all_eq_true.1 hst j (by simpa using hj)
  rw [Bool.and_eq_true] at h1
  have h2 := List.all_eq_true.1 h1.2 i (by simpa using hij)
  rw [hm, Bool.false_or, ha, hb] at h2
  refine ⟨h2, ?_⟩
  by_cases hi1 : idle a.op = true
  · exact .inl hi1
  · by_cases hi2 : idle b.op = true
    · exact .inr (.inl hi2)
    · right; right
      have hmem : (i, j) ∈ dynPairs ops masks := by
        unfold dynPairs
        rw [List.mem_flatMap]
        refine ⟨j, by simpa using hj, List.mem_filterMap.2 ⟨i, by simpa using hij, ?_⟩⟩
        rw [hm, ha, hb]
        simp [hi1, hi2]
      exact List.all_eq_true.1 hdyn (i, j) hmem

structure NoConf (n0 i j : Nat) (a b : Inf) : Prop where
  ww : ∀ x ∈ a.wr, x ∉ b.rd ∧ x ∉ b.wr
  wr : ∀ x ∈ b.wr, x ∉ a.rd
  ni : n0 + i ∉ b.rd ∧ n0 + i ∉ b.wr
  nj : n0 + j ∉ a.rd ∧ n0 + j ∉ a.wr
  cc : ¬ (a.call = true ∧ b.call = true)
  nb : a.bar = false ∧ b.bar = false
  ca : a.call = true → b.wr = [] ∧ ∀ x ∈ b.rd, x < a.nx
  cb : b.call = true → a.wr = [] ∧ ∀ x ∈ a.rd, x < b.nx

theorem noconf_spec {n0 i j : Nat} {a b : Inf} (h : noconf n0 i j a b = true) : NoConf n0 i j a b := by
  unfold noconf at h
  simp only [Bool.and_eq_true] at h
  obtain ⟨⟨⟨⟨⟨⟨⟨⟨h1, h2⟩, h3⟩, h4⟩, h5⟩, hb1⟩, hb2⟩, h6⟩, h7⟩ := h
  refine ⟨fun x hx => ?_, fun x hx => ?_, ?_, ?_, ?_, ⟨by simpa using hb1, by simpa using hb2⟩, fun hc => ?_, fun hc => ?_⟩
  · have := List.all_eq_true.1 h1 x hx
    simpa using this
  · have := List.all_eq_true.1 h2 x hx
    simpa using this
  · simpa using h3
  · simpa using h4
  · rintro ⟨e1, e2⟩; simp [e1, e2] at h5
  · rw [hc] at h6
    simp only [Bool.not_true, Bool.false_or, Bool.and_eq_true] at h6
    exact ⟨by simpa using h6.1, fun x hx => by simpa using List.all_eq_true.1 h6.2 x hx⟩
  · rw [hc] at h7
    simp only [Bool.not_true, Bool.false_or, Bool.and_eq_true] at h7
    exact ⟨by simpa using h7.1, fun x hx => by simpa using List.all_eq_true.1 h7.2 x hx⟩

/-- How many are not listed yet. -/
def left (N : Nat) (p : Nat → Bool) : Nat := ((List.range N).filter fun i => !p i).length

theorem left_set {N i : Nat} {p : Nat → Bool} (hi : i < N) (hp : p i = false) : left N (fun j => j == i || p j) + 1 = left N p := by
  unfold left
  have key : ∀ l : List Nat, l.Nodup → i ∈ l → (l.filter fun j => !(j == i || p j)).length + 1 = (l.filter fun j => !p j).length := by
    intro l
    induction l with
    | nil => intro _ h; cases h
    | cons a l ih =>
      intro hnd hmem
      rw [List.nodup_cons] at hnd
      by_cases e : a = i
      · subst e
        have hrest : (l.filter fun j => !(j == a || p j)) = l.filter fun j => !p j := by
          apply List.filter_congr
          intro j hj
          have : (j == a) = false := by simp; exact fun h => hnd.1 (h ▸ hj)
          simp [this]
        rw [List.filter_cons, List.filter_cons, hrest, hp]
        simp
      · have hm : i ∈ l := by
          rcases List.mem_cons.1 hmem with h | h
          · exact absurd h.symm e
          · exact h
        have := ih hnd.2 hm
        have e' : (a == i) = false := by simpa using e
        rw [List.filter_cons, List.filter_cons, e', Bool.false_or]
        cases hpa : p a
        · simp only [Bool.not_false, if_true, List.length_cons]; omega
        · simp only [Bool.not_true, Bool.false_eq_true, if_false]; exact this
  exact key _ List.nodup_range (by simpa using hi)

theorem left_zero {N : Nat} {p : Nat → Bool} (h : left N p = 0) : ∀ i, i < N → p i = true := by
  intro i hi
  unfold left at h
  have := List.length_eq_zero_iff.1 h
  rw [List.filter_eq_nil_iff] at this
  have := this i (by simpa using hi)
  simpa using this

section
variable {P : Program} {T : Tab} {ops : Array Oper} {n n0 : Nat} {fs : List Inf} {evs : List Ev} {sts : List AS} {s0 s' : AS}

theorem get_of_lt {α : Type} {l : List α} {j n : Nat} (h : l.length = n) (hj : j < n) : ∃ x, l[j]? = some x := ⟨l[j]'(by omega), List.getElem?_eq_getElem _⟩

/-- What the whole of a region's operations is known to do. -/
structure Lex (P : Program) (ops : Array Oper) (n n0 : Nat) (fs : List Inf) (evs : List Ev) (sts : List AS) (s0 : AS) : Prop where
  hst : statOk ops (befs ops.toList []) = true
  hdyn : (dynPairs ops (befs ops.toList [])).all (fun p => noconf n0 p.1 p.2 (fs.getD p.1 ⟨[], [], false, 0, false⟩) (fs.getD p.2 ⟨[], [], false, 0, false⟩)) = true
  l1 : evs.length = ops.size
  l2 : fs.length = ops.size
  l3 : sts.length = ops.size
  all : ∀ (j : Nat) o f ev st, ops[j]? = some o → fs[j]? = some f → evs[j]? = some ev → sts[j]? = some st → EvOk n0 ops.size j o f ev ∧ SemStep P ops n n0 ops.size j (Cond ops n0 ops.size ((befs ops.toList []).getD j 0) o f st) ev ∧ (f.call = true → f.nx = st.st.next) ∧
        (∀ t, st.get t = fold (fun k => decide (k < j)) (evs.map (·.uT)) 0 s0.get t) ∧ (∀ id, st.st.objs id = fold (fun k => decide (k < j)) (evs.map (·.uO)) 0 s0.st.objs id) ∧
        (st.st.next = fold (fun k => decide (k < j)) (evs.map fun e => fun _ : Unit => e.uN) 0 (fun _ => s0.st.next) ())

/-- A state on the way. -/
structure Way (ops : Array Oper) (n n0 : Nat) (evs : List Ev) (s0 : AS) (G0 : Ghost) (σ0 : Store) (w0 : World) (p : Nat → Bool) (G : Ghost) (tm : Nat → AV) (σ : Store) (a : Act) (w : World) : Prop where
  rel : RelT G n tm σ a w
  tm : ∀ t, tm t = fold p (evs.map (·.uT)) 0 s0.get t
  ob : ∀ id, σ.objs id = fold p (evs.map (·.uO)) 0 s0.st.objs id
  nx : σ.next = fold p (evs.map fun e => fun _ : Unit => e.uN) 0 (fun _ => s0.st.next) ()
  free : ∀ j, j < ops.size → p j = false → G.pl (n0 + j) = none
  closed : Closed ops p
  big : n0 + ops.size ≤ σ.next
  tran : Tran n0 G0 σ0 w0 G σ w

theorem Lex.edge (h : Lex P ops n n0 fs evs sts s0) {j : Nat} {o : Oper} (ho : ops[j]? = some o) {e : Edge} (he : e ∈ o.after) (hb : Region.binds .any e = true) : e.on < j := by
  have hj : j < ops.size := (Array.getElem?_eq_some_iff.1 ho).1
  have h1 := List.all_eq_true.1 h.hst j (by simpa using hj)
  rw [Bool.and_eq_true, ho] at h1
  have := Array.all_eq_true_iff_forall_mem.1 h1.1 e he
  simpa [hb] using this

theorem Lex.mask_lt (h : Lex P ops n n0 fs evs sts s0) {j i : Nat} {o : Oper} (ho : ops[j]? = some o) (hb : ((befs ops.toList []).getD j 0).testBit i = true) : i < j := by
  have hcl : Closed ops (fun k => decide (k < j)) := fun k o' hk hp e he hbe => by
    have := h.edge hk he hbe
    have := of_decide_eq_true hp
    simp; omega
  have := anc_listed hcl j o ho (fun e he hbe => by simpa using h.edge ho he hbe) i hb
  simpa using this

/-- Of two, one before the other, neither of which waits for the other: what the two do not share. -/
theorem Lex.apart (h : Lex P ops n n0 fs evs sts s0) {i j : Nat} {a b : Oper} {fa fb : Inf} (hij : i < j) (ha : ops[i]? = some a) (hb : ops[j]? = some b) (h1 : fs[i]? = some fa) (h2 : fs[j]? = some fb) (hm : ((befs ops.toList []).getD j 0).testBit i = false) :
    a.apart ops b = true ∧ (idle a.op = true ∨ idle b.op = true ∨ NoConf n0 i j fa fb) := by
  obtain ⟨g1, g2⟩ := pair_ok h.hst h.hdyn hij ha hb hm
  refine ⟨g1, ?_⟩
  rcases g2 with g | g | g
  · exact .inl g
  · exact .inr (.inl g)
  · right; right
    have e1 : fs.getD i ⟨[], [], false, 0, false⟩ = fa := by simp [List.getD, h1]
    have e2 : fs.getD j ⟨[], [], false, 0, false⟩ = fb := by simp [List.getD, h2]
    rw [e1, e2] at g
    exact noconf_spec g

theorem Lex.at (h : Lex P ops n n0 fs evs sts s0) {j : Nat} (hj : j < ops.size) : ∃ o f ev st, ops[j]? = some o ∧ fs[j]? = some f ∧ evs[j]? = some ev ∧ sts[j]? = some st := by
  obtain ⟨f, hf⟩ := get_of_lt h.l2 hj
  obtain ⟨ev, hev⟩ := get_of_lt h.l1 hj
  obtain ⟨st, hst⟩ := get_of_lt h.l3 hj
  exact ⟨ops[j], f, ev, st, Array.getElem?_eq_getElem hj, hf, hev, hst⟩

/-- Who comes up now, and one that is listed otherwise than in the text's order: neither waits for the other. -/
theorem Lex.unordered (h : Lex P ops n n0 fs evs sts s0) {p : Nat → Bool} (hcl : Closed ops p) {i k : Nat} {o : Oper} (ho : ops[i]? = some o) (hpi : p i = false) (hready : ∀ e ∈ o.after, Region.binds .any e = true → p e.on = true)
    {ok : Oper} (hok : ops[k]? = some ok) (hne : p k ≠ decide (k < i)) : (k < i ∧ ((befs ops.toList []).getD i 0).testBit k = false) ∨ (i < k ∧ ((befs ops.toList []).getD k 0).testBit i = false ∧ p k = true) := by
  rcases Nat.lt_trichotomy k i with hlt | heq | hgt
  · left
    refine ⟨hlt, ?_⟩
    have hpk : p k = false := by
      have : decide (k < i) = true := by simpa using hlt
      rw [this] at hne
      simpa using hne
    cases hb : ((befs ops.toList []).getD i 0).testBit k with
    | false => rfl
    | true => have := anc_listed hcl i o ho hready k hb; rw [hpk] at this; cases this
  · subst heq
    rw [hpi] at hne; simp at hne
  · right
    have hpk : p k = true := by
      have : decide (k < i) = false := by simp; omega
      rw [this] at hne
      simpa using hne
    refine ⟨hgt, ?_, hpk⟩
    cases hb : ((befs ops.toList []).getD k 0).testBit i with
    | false => rfl
    | true => have := anc_listed hcl k ok hok (hcl k ok hok hpk) i hb; rw [hpi] at this; cases this

theorem map_get {α β : Type} {l : List α} {f : α → β} {j : Nat} {u : β} (h : (l.map f)[j]? = some u) : ∃ x, l[j]? = some x ∧ f x = u := by
  rw [List.getElem?_map] at h
  cases hl : l[j]? with
  | none => simp [hl] at h
  | some x => rw [hl] at h; exact ⟨x, rfl, by simpa using h⟩

theorem Way.step (h : Lex P ops n n0 fs evs sts s0) {G0 : Ghost} {σ0 : Store} {w0 : World} {p : Nat → Bool} {G : Ghost} {tm : Nat → AV} {σ : Store} {a : Act} {w : World} (hw : Way ops n n0 evs s0 G0 σ0 w0 p G tm σ a w)
    {i : Nat} (hi : i < ops.size) (hpi : p i = false) (hready : ∀ o, ops[i]? = some o → ∀ e ∈ o.after, Region.binds .any e = true → p e.on = true) (K : Act → World → Prop) (Q : Exit → Act → World → Prop)
    (hK : ∀ G' tm' σ' a' w', Way ops n n0 evs s0 G0 σ0 w0 (fun j => j == i || p j) G' tm' σ' a' w' → K a' w') : wpOp P ops Q i K a w := by
  obtain ⟨o, f, ev, st, ho, hf, hev, hst⟩ := h.at hi
  obtain ⟨e1, e2, e3, e4, e5, e6⟩ := h.all i o f ev st ho hf hev hst
  have hrd := hready o ho
  -- what differs from the text's order
  have diff : ∀ k ek, evs[k]? = some ek → p k ≠ decide (k < i) → ∃ ok fk, ops[k]? = some ok ∧ fs[k]? = some fk ∧ EvOk n0 ops.size k ok fk ek ∧ (∀ d, ok.dst = some d → d ∉ o.looksAt ops) ∧ (((befs ops.toList []).getD i 0).testBit k = false) ∧
      (idle ok.op = true ∨ idle o.op = true ∨ ((∀ x ∈ fk.wr, x ∉ f.rd) ∧ n0 + k ∉ f.rd ∧ ¬ (fk.call = true ∧ f.call = true) ∧ (fk.call = true → ∀ x ∈ f.rd, x < fk.nx) ∧ (f.call = true → fk.wr = []) ∧ fk.bar = false ∧ f.bar = false)) := by
    intro k ek hek hne
    have hk : k < ops.size := by have := (List.getElem?_eq_some_iff.1 hek).1; rw [h.l1] at this; exact this
    obtain ⟨ok, fk, ek', stk, g1, g2, g3, g4⟩ := h.at hk
    rw [hek] at g3; cases g3
    obtain ⟨q1, _⟩ := h.all k ok fk ek stk g1 g2 hek g4
    rcases h.unordered hw.closed ho hpi hrd g1 hne with ⟨r1, r2⟩ | ⟨r1, r2, _⟩
    · obtain ⟨t1, t2⟩ := h.apart r1 g1 ho g2 hf r2
      refine ⟨ok, fk, g1, g2, q1, (Oper.apart_spec t1).1, r2, ?_⟩
      rcases t2 with t | t | t
      · exact .inl t
      · exact .inr (.inl t)
      · exact .inr (.inr ⟨fun x hx => (t.ww x hx).1, t.ni.1, t.cc, fun hc => (t.ca hc).2, fun hc => (t.cb hc).1, t.nb.1, t.nb.2⟩)
    · obtain ⟨t1, t2⟩ := h.apart r1 ho g1 hf g2 r2
      refine ⟨ok, fk, g1, g2, q1, (Oper.apart_spec t1).2.2, ?_, ?_⟩
      · cases hb : ((befs ops.toList []).getD i 0).testBit k with
        | false => rfl
        | true => have := h.mask_lt ho hb; omega
      · rcases t2 with t | t | t
        · exact .inr (.inl t)
        · exact .inl t
        · exact .inr (.inr ⟨fun x hx => t.wr x hx, t.nj.1, fun hc => t.cc ⟨hc.2, hc.1⟩, fun hc => (t.cb hc).2, fun hc => (t.ca hc).1, t.nb.2, t.nb.1⟩)
  have hcond : Cond ops n0 ops.size ((befs ops.toList []).getD i 0) o f st tm σ := by
    refine ⟨fun t ht => ?_, fun id hid => ?_, fun hc => ⟨?_, fun id hid => ?_⟩, fun hc => ⟨?_, fun id => ?_⟩⟩
    · rw [hw.tm, e4]
      refine fold_agree t _ 0 _ _ rfl (fun k u hu hne => ?_)
      obtain ⟨ek, hek, rfl⟩ := map_get hu
      rw [Nat.zero_add] at hne
      obtain ⟨ok, fk, g1, g2, q1, q2, _⟩ := diff k ek hek hne
      cases hx : ek.uT t with
      | none => rfl
      | some v => exact absurd ht (q2 t (q1.tmp t (by simp [hx])))
    · rw [hw.ob, e5]
      refine fold_agree id _ 0 _ _ rfl (fun k u hu hne => ?_)
      obtain ⟨ek, hek, rfl⟩ := map_get hu
      rw [Nat.zero_add] at hne
      obtain ⟨ok, fk, g1, g2, q1, _, _, q3⟩ := diff k ek hek hne
      cases hx : ek.uO id with
      | none => rfl
      | some v =>
        rcases q3 with t | t | ⟨t1, t2, t3, t4, _, t6⟩
        · rw [(q1.idle t).1 id] at hx; cases hx
        · rw [(e1.idle t).2.2.1] at hid; cases hid
        · rcases q1.obj id (by simp [hx]) with g | g | ⟨g, g'⟩ | g
          · exact absurd hid (t1 id g)
          · exact absurd hid (g ▸ t2)
          · have := t4 g id hid; omega
          · rw [t6.1] at g; cases g
    · rw [hw.nx, e6]
      refine fold_agree () _ 0 _ _ rfl (fun k u hu hne => ?_)
      obtain ⟨ek, hek, rfl⟩ := map_get hu
      rw [Nat.zero_add] at hne
      obtain ⟨ok, fk, g1, g2, q1, _, _, q3⟩ := diff k ek hek hne
      have hck : fk.call = false := by
        cases hck : fk.call with
        | false => rfl
        | true =>
          rcases q3 with t | t | ⟨_, _, t3, _⟩
          · rw [(q1.idle t).2.1] at hck; cases hck
          · rw [(e1.idle t).2.1] at hc; cases hc
          · exact absurd ⟨hck, hc⟩ t3
      have hbk : fk.bar = false := by
        rcases q3 with t | t | ⟨_, _, _, _, _, t6, _⟩
        · exact (q1.idle t).2.2.2
        · rw [(e1.idle t).2.1] at hc; cases hc
        · exact t6
      exact q1.num hck hbk
    · rw [hw.ob, e5]
      refine fold_agree id _ 0 _ _ rfl (fun k u hu hne => ?_)
      obtain ⟨ek, hek, rfl⟩ := map_get hu
      rw [Nat.zero_add] at hne
      obtain ⟨ok, fk, g1, g2, q1, _, qm, q3⟩ := diff k ek hek hne
      cases hx : ek.uO id with
      | none => rfl
      | some v =>
        rcases q3 with t | t | ⟨_, _, t3, _, t5⟩
        · rw [(q1.idle t).1 id] at hx; cases hx
        · rw [(e1.idle t).2.1] at hc; cases hc
        · rcases q1.obj id (by simp [hx]) with g | g | ⟨g, _⟩ | g
          · rw [t5.1 hc] at g; cases g
          · exact absurd (mem_exIds.2 ⟨k, (Array.getElem?_eq_some_iff.1 g1).1, qm, g⟩) hid
          · exact absurd ⟨g, hc⟩ t3
          · rw [t5.2.1] at g; cases g
    · rw [hw.nx, e6]
      refine fold_agree () _ 0 _ _ rfl (fun k u hu hne => ?_)
      obtain ⟨ek, hek, rfl⟩ := map_get hu
      rw [Nat.zero_add] at hne
      obtain ⟨ok, fk, g1, g2, q1, _, _, q3⟩ := diff k ek hek hne
      rcases q3 with t | t | ⟨_, _, _, _, _, _, t6⟩
      · exact q1.num (q1.idle t).2.1 (q1.idle t).2.2.2
      · rw [(e1.idle t).2.2.2] at hc; cases hc
      · rw [t6] at hc; cases hc
    · rw [hw.ob, e5]
      refine fold_agree id _ 0 _ _ rfl (fun k u hu hne => ?_)
      obtain ⟨ek, hek, rfl⟩ := map_get hu
      rw [Nat.zero_add] at hne
      obtain ⟨ok, fk, g1, g2, q1, _, _, q3⟩ := diff k ek hek hne
      rcases q3 with t | t | ⟨_, _, _, _, _, _, t6⟩
      · exact (q1.idle t).1 id
      · rw [(e1.idle t).2.2.2] at hc; cases hc
      · rw [t6] at hc; cases hc
  -- what comes later in the text and is listed already
  have later : ∀ k ek, evs[k]? = some ek → i < k → p k = true → ∃ ok fk, ops[k]? = some ok ∧ fs[k]? = some fk ∧ EvOk n0 ops.size k ok fk ek ∧ (∀ d, o.dst = some d → ok.dst ≠ some d) ∧ (idle ok.op = true ∨ idle o.op = true ∨ NoConf n0 i k f fk) := by
    intro k ek hek hik hpk
    have hk : k < ops.size := by have := (List.getElem?_eq_some_iff.1 hek).1; rw [h.l1] at this; exact this
    obtain ⟨ok, fk, ek', stk, g1, g2, g3, g4⟩ := h.at hk
    rw [hek] at g3; cases g3
    obtain ⟨q1, _⟩ := h.all k ok fk ek stk g1 g2 hek g4
    have hm : ((befs ops.toList []).getD k 0).testBit i = false := by
      cases hb : ((befs ops.toList []).getD k 0).testBit i with
      | false => rfl
      | true => have := anc_listed hw.closed k ok g1 (hw.closed k ok g1 hpk) i hb; rw [hpi] at this; cases this
    obtain ⟨t1, t2⟩ := h.apart hik ho g1 hf g2 hm
    refine ⟨ok, fk, g1, g2, q1, (Oper.apart_spec t1).2.1, ?_⟩
    rcases t2 with t | t | t
    · exact .inr (.inl t)
    · exact .inl t
    · exact .inr (.inr t)
  have hcallnx : f.call = true → f.nx = σ.next := fun hc => by rw [e3 hc, (hcond.2.2.1 hc).1]
  refine e2 G a w tm σ hw.rel hcond (hw.free i hi hpi) hw.big K Q ?_
  intro G' a' w' σ' g1 g2 g3 g4 g5 g6 g7
  refine hK G' _ σ' a' w' ⟨g5, fun t => ?_, fun id => ?_, ?_, fun j hj hpj => ?_, fun j oj hoj hpj e he hb => ?_, by have := hw.big; omega, hw.tran.trans ⟨g1, fun k hk hg => g2 k (by omega) (by omega) hg, g3, g4⟩ (Nat.le_refl _)⟩
  · have := fold_put (p := p) t (u0 := ev.uT) (evs.map (·.uT)) 0 i s0.get (by simp [hev]) (by simpa using hpi) (fun k u hu hik hpk hne => by
      obtain ⟨ek, hek, rfl⟩ := map_get hu
      obtain ⟨ok, fk, _, _, q1, q2, _⟩ := later k ek hek hik (by simpa using hpk)
      cases hx : ek.uT t with
      | none => rfl
      | some v => exact absurd (q1.tmp t (by simp [hx])) (q2 t (e1.tmp t hne)))
    simp only [Nat.zero_add] at this
    rw [this, hw.tm]
  · have := fold_put (p := p) id (u0 := ev.uO) (evs.map (·.uO)) 0 i s0.st.objs (by simp [hev]) (by simpa using hpi) (fun k u hu hik hpk hne => by
      obtain ⟨ek, hek, rfl⟩ := map_get hu
      obtain ⟨ok, fk, _, _, q1, _, q3⟩ := later k ek hek hik (by simpa using hpk)
      cases hx : ek.uO id with
      | none => rfl
      | some v =>
        rcases q3 with t | t | t
        · rw [(q1.idle t).1 id] at hx; cases hx
        · exact absurd ((e1.idle t).1 id) hne
        · have o1 := e1.obj id hne
          have o2 := q1.obj id (by simp [hx])
          have hk : k < ops.size := by have := (List.getElem?_eq_some_iff.1 hek).1; rw [h.l1] at this; exact this
          have o1 : id ∈ f.wr ∨ id = n0 + i ∨ (f.call = true ∧ f.nx ≤ id) := by
            rcases o1 with h' | h' | h' | h'
            · exact .inl h'
            · exact .inr (.inl h')
            · exact .inr (.inr h')
            · rw [t.nb.1] at h'; cases h'
          have o2 : id ∈ fk.wr ∨ id = n0 + k ∨ (fk.call = true ∧ fk.nx ≤ id) := by
            rcases o2 with h' | h' | h' | h'
            · exact .inl h'
            · exact .inr (.inl h')
            · exact .inr (.inr h')
            · rw [t.nb.2] at h'; cases h'
          rcases o1 with a1 | a1 | ⟨a1, a1'⟩ <;> rcases o2 with b1 | b1 | ⟨b1, b1'⟩
          · exact absurd b1 (t.ww id a1).2
          · exact absurd a1 (b1 ▸ t.nj.2)
          · rw [(t.cb b1).1] at a1; cases a1
          · exact absurd b1 (a1 ▸ t.ni.2)
          · omega
          · have := q1.start b1; omega
          · rw [(t.ca a1).1] at b1; cases b1
          · have := e1.start a1; omega
          · exact absurd ⟨a1, b1⟩ t.cc)
    simp only [Nat.zero_add] at this
    rw [g6, this, hw.ob]
  · have := fold_put (p := p) () (u0 := fun _ : Unit => ev.uN) (evs.map fun e => fun _ : Unit => e.uN) 0 i (fun _ => s0.st.next) (by simp [hev]) (by simpa using hpi) (fun k u hu hik hpk hne => by
      obtain ⟨ek, hek, rfl⟩ := map_get hu
      obtain ⟨ok, fk, _, _, q1, _, q3⟩ := later k ek hek hik (by simpa using hpk)
      cases hx : ek.uN with
      | none => rfl
      | some v =>
        rcases q3 with t | t | t
        · rw [q1.num (q1.idle t).2.1 (q1.idle t).2.2.2] at hx; cases hx
        · exact absurd (e1.num (e1.idle t).2.1 (e1.idle t).2.2.2) hne
        · have c1 : f.call = true := by
            cases hc : f.call with
            | true => rfl
            | false => exact absurd (e1.num hc t.nb.1) hne
          have c2 : fk.call = true := by
            cases hc : fk.call with
            | true => rfl
            | false => rw [q1.num hc t.nb.2] at hx; cases hx
          exact absurd ⟨c1, c2⟩ t.cc)
    simp only [Nat.zero_add] at this
    rw [g7, this, hw.nx]
  · have hji : j ≠ i := fun e => by subst e; simp at hpj
    have : p j = false := by simpa [hji] using hpj
    exact g2 (n0 + j) (by omega) (by omega) (hw.free j hj this)
  · by_cases hji : j = i
    · subst hji
      simp [hready oj hoj e he hb]
    · have : p j = true := by simpa [hji] using hpj
      simp [hw.closed j oj hoj this e he hb]

theorem Way.any (h : Lex P ops n n0 fs evs sts s0) {G0 : Ghost} {σ0 : Store} {w0 : World} (Q : Exit → Act → World → Prop)
    (hQ : ∀ p G tm σ a w, Way ops n n0 evs s0 G0 σ0 w0 p G tm σ a w → (∀ i, i < ops.size → p i = true) → Q .normal a w) :
    ∀ (fuel : Nat) (listed : Array Bool) (G : Ghost) (tm : Nat → AV) (σ : Store) (a : Act) (w : World), listed.size = ops.size → left ops.size (fun j => listed.getD j false) = fuel →
      Way ops n n0 evs s0 G0 σ0 w0 (fun j => listed.getD j false) G tm σ a w → wpAny P .any ops Q fuel listed a w := by
  have nil : ∀ (listed : Array Bool), listed.size = ops.size → Region.ready .any ops listed = [] → ∀ i, i < ops.size → listed.getD i false = true := by
    intro listed hsz hnil i
    induction i using Nat.strongRecOn with
    | _ i ih =>
      intro hi
      cases hl : listed.getD i false with
      | true => rfl
      | false =>
        obtain ⟨o, f, ev, st, ho, _⟩ := h.at hi
        have : i ∈ Region.ready .any ops listed := mem_ready.2 ⟨by simp [hsz, hi] at hl ⊢; exact hl, o, ho, fun e he hb => by
          have hlt := h.edge ho he hb
          exact ih e.on hlt (by omega)⟩
        rw [hnil] at this; cases this
  intro fuel
  induction fuel with
  | zero =>
    intro listed G tm σ a w hsz hleft hw
    have hall := left_zero hleft
    refine ⟨?_, hQ _ _ _ _ _ _ hw hall⟩
    cases hr : Region.ready .any ops listed with
    | nil => rfl
    | cons i is =>
      have : i ∈ Region.ready .any ops listed := by rw [hr]; simp
      obtain ⟨h1, o, ho, _⟩ := mem_ready.1 this
      have hi : i < ops.size := (Array.getElem?_eq_some_iff.1 ho).1
      have := hall i hi
      simp [hsz, hi] at h1 this
      rw [h1] at this; cases this
  | succ fuel ih =>
    intro listed G tm σ a w hsz hleft hw
    refine ⟨fun hnil => hQ _ _ _ _ _ _ hw (nil listed hsz hnil), fun i hi => ?_⟩
    obtain ⟨h1, o, ho, hrd⟩ := mem_ready.1 hi
    have hlt : i < ops.size := (Array.getElem?_eq_some_iff.1 ho).1
    have hpi : listed.getD i false = false := by simp [hsz, hlt] at h1 ⊢; exact h1
    have hset : ∀ j, (listed.setIfInBounds i true).getD j false = (j == i || listed.getD j false) := fun j => by
      by_cases e : j = i
      · subst e; simp [hsz, hlt]
      · rw [getD_set_ne false (Ne.symm e)]
        have : (j == i) = false := by simpa using e
        rw [this]; rfl
    refine Way.step h hw hlt hpi (fun o' ho' => by rw [ho] at ho'; cases ho'; exact hrd) _ Q ?_
    intro G' tm' σ' a' w' hw'
    refine ih (listed.setIfInBounds i true) G' tm' σ' a' w' (by simp [hsz]) ?_ (by
      have e : (fun j => (listed.setIfInBounds i true).getD j false) = (fun j => j == i || listed.getD j false) := funext hset
      rw [e]; exact hw')
    have e : (fun j => (listed.setIfInBounds i true).getD j false) = (fun j => j == i || listed.getD j false) := funext hset
    rw [e]
    have := left_set (p := fun j => listed.getD j false) hlt hpi
    omega


end

/-- **A region that draws its order**, by its run in the text's order. -/
theorem AWp.drawn {P : Program} {T : Tab} (hT : TabOk P T) (hm : P.follows .mixedOrders = true) {cl : FuncId → List AV → Store → Option (AV × Store)}
    (hcl : ∀ f args σ v σ', cl f args σ = some (v, σ') → ACallOk P f args σ (fun v' σ'' => v' = v ∧ σ'' = σ') ∧ LowOk σ σ')
    {id : Nat} {ops : Array Oper} {s s' : AS} (h : runDrawn T cl ops s = some s') {Q : Exit → AS → Prop} (hQ : Q .normal s') : AWp P (.region id ops true) Q s := by
  unfold runDrawn at h
  split at h
  case isFalse => cases h
  rename_i hst
  split at h
  case h_2 => cases h
  rename_i s1 fs hr
  split at h
  case isFalse => cases h
  rename_i hdyn
  cases h
  intro G a w hrel
  refine wp_region_any hm ?_
  obtain ⟨evs, sts, l1, l2, l3, l4, hall, g1, g2, g3⟩ := runD_ok hT hcl ops.toList 0 _ _ fs (fun j => by simp) (by simp) (Nat.le_refl _) hr
  simp only [Array.length_toList] at l1 l2 l3
  have hlex : Lex P ops s.n s.st.next fs evs sts { s with st := { s.st with next := s.st.next + ops.size } } := ⟨hst, hdyn, l1, l2, l3, fun j o f ev st h1 h2 h3 h4 => by
    have := hall j o f ev st (by simpa using h1) h2 h3 h4
    simpa using this⟩
  have hleft : left ops.size (fun j => (Array.replicate ops.size false).getD j false) = ops.size := by
    unfold left
    rw [List.filter_eq_self.2 (fun x hx => by
      have : x < ops.size := by simpa using hx
      simp [this])]
    simp
  have hp0 : ∀ j, (Array.replicate ops.size false).getD j false = false := fun j => by
    by_cases hj : j < ops.size <;> simp [hj]
  refine Way.any hlex (G0 := G) (σ0 := s.st) (w0 := w) _ ?_ ops.size (Array.replicate ops.size false) G s.get { s.st with next := s.st.next + ops.size } a { w with drawn := w.drawn + 1 } (by simp) hleft ?_
  · intro p G' tm σ a' w' hw hp
    have agree : ∀ {L V : Type} (us : List (L → Option V)) (f : L → V), us.length = ops.size → fold p us 0 f = fold (fun _ => true) us 0 f := fun us f hl => funext fun l => fold_agree l us 0 f f rfl (fun j u hu hne => by
      have hj : j < ops.size := by have := (List.getElem?_eq_some_iff.1 hu).1; omega
      rw [Nat.zero_add] at hne
      exact absurd (hp j hj) hne)
    have hnext : σ.next = s'.st.next := by rw [hw.nx, agree _ _ (by simp [l1]), g3]
    have hobjs : ∀ k, σ.objs k = s'.st.objs k := fun k => by rw [hw.ob, agree _ _ (by simp [l1]), g2]
    have htm : ∀ t, tm t = s'.get t := fun t => by rw [hw.tm, agree _ _ (by simp [l1]), g1]
    refine ⟨s', G', ⟨hw.tran.le, hw.tran.keeps, by rw [← hnext]; exact hw.tran.next, hw.tran.fr.trans (Fr.less fun k x hx => by rw [hobjs]; exact hx)⟩, ⟨hw.rel.defers, by rw [hw.rel.size, l4], fun t => by rw [← htm]; exact hw.rel.tmps t, hw.rel.rel.less hnext.symm (fun k x hx => by rw [hobjs]; exact hx)⟩, hQ⟩
  · have hnone : ∀ {L V : Type} (us : List (L → Option V)) (f : L → V) (l : L), fold (fun j => (Array.replicate ops.size false).getD j false) us 0 f l = f l := fun us f l => fold_init l us 0 f _ (fun j u _ hp => by rw [hp0] at hp; cases hp) rfl
    refine ⟨⟨hrel.defers, hrel.size, hrel.tmps, (hrel.rel.next (Nat.le_add_right _ _)).drawn _⟩, fun t => (hnone _ _ _).symm, fun k => (hnone _ _ _).symm, (hnone (evs.map fun e => fun _ : Unit => e.uN) (fun _ => s.st.next + ops.size) ()).symm, fun j _ _ => hrel.rel.fresh _ (Nat.le_add_right _ _), (fun j o _ hp => by rw [hp0] at hp; cases hp), Nat.le_refl _, ?_⟩
    exact ⟨.refl G, .refl _ G, Nat.le_add_right _ _, (Fr.less (σ := s.st) (σ' := { s.st with next := s.st.next + ops.size }) (fun _ _ h => h)).trans (Fr.drawn _ _ _ _)⟩

end Go.Ab
