/- The abstract machine, part 29: from readings of arguments to contents, and from a run to the kit's calls. -/
import Derived.Test.YthpjicimlandeaaGreatDoorAbMemo
import Derived.Below
import Derived.ChangeArms
import Derived.Deep.Slices
set_option linter.unusedVariables false
set_option linter.unusedSimpArgs false
namespace Go.Ab
open Go Go.RowKit

/-- All that lies in memory, as it stands. -/
def Ghost.ofWorld (w : World) : Ghost := { w0 := w, imm := fun b => w.heap[b]?, pl := fun _ => none }

theorem Rel.ofWorld (w : World) : Rel (Ghost.ofWorld w) Store.none w :=
  ⟨rfl, rfl, rfl, Nat.le_refl _, fun _ _ h => h, fun _ _ => rfl, (fun id o h => by rw [Store.none_objs] at h; cases h), (fun i j oi oj pi pj h => by rw [Store.none_objs] at h; cases h)⟩

theorem ofWorld_cell {w : World} {a : Addr} {v : Value} (h : w.cell? a = some v) : a.spot = none ∧ (Ghost.ofWorld w).cell a.block a.off = some v := by
  unfold World.cell? at h
  split at h
  · rename_i c t fr hb
    split at h
    · cases h
    · rename_i hs
      refine ⟨by cases hsp : a.spot with | none => rfl | some x => simp [hsp] at hs, ?_⟩
      show (match w.heap[a.block]? with | some (.cells cs _ _) => cs[a.off]? | _ => none) = _
      rw [hb]; exact h
  · cases h

/-- A call on contents that was run, as the kit says it. -/
theorem MemoOk.calls {P : Program} {m : Memo} {fn : Func} (hfn : P.funcs[m.f]? = some fn) (hname : (fn.name == "runtime.NumGoroutine") = false) (hbody : fn.body.isNone = false) (h : MemoOk P m)
    {G : Ghost} {vs : List Value} {w : World} (hargs : Reps G m.args vs) (hrel : Rel G Store.none w) :
    Calls P m.f vs.toArray w fun e w' => ∃ v G', e = .returned v ∧ Rep G' m.c v ∧ G.le G' ∧ Rel G' Store.none w' ∧ Below w.heap.size w w' := by
  have key := h Store.none G vs w hargs hrel ⟨some 0, .move (.const undef), 0, "", #[], none⟩ ⟨#[undef], []⟩
    (fun a w' => ∃ v G', a.tmps[0]? = some v ∧ Rep G' m.c v ∧ G.le G' ∧ Rel G' Store.none w' ∧ Below w.heap.size w w') (fun _ _ _ => False) (by
      rintro u av σ' G' w' ht hr hrel' ⟨rfl, rfl⟩
      refine ⟨u, G', by simp [Act.put], hr, ht.le, hrel', ?_⟩
      have hle := ht.le.w0
      exact ⟨hrel'.os.trans ((congrArg World.os hle).trans hrel.os.symm), hrel'.tape.trans ((congrArg World.tape hle).trans hrel.tape.symm), hrel'.output.trans ((congrArg World.output hle).trans hrel.output.symm),
        ht.fr.size, fun k hk => ht.fr.same k hk (fun id o p hh => by rw [Store.none_objs] at hh; cases hh)⟩)
  have hrun : (callFunc m.f vs.toArray).run P w = .ok (.enter m.f vs.toArray) w := by
    simp only [callFunc, Sem.run_bind, run_program, Result.andThen_ok, hfn, hname, hbody, Bool.false_eq_true, if_false, Sem.run_pure]
  rw [hrun] at key
  refine Calls.mono key ?_
  intro e w' he
  cases e with
  | returned v =>
    obtain ⟨u, G', h1, h2⟩ := he
    have : u = v := by simpa [Act.put] using h1.symm
    subst this
    exact ⟨u, G', rfl, h2⟩
  | panicked c => exact he.elim
  | outgrown => obtain ⟨a, w0, hh⟩ := he; exact hh.elim

/-! ### readings -/

/-- What contents of a type look like: a list of cells. -/
inductive Sh (P : Program) : TypeId → List AV → Prop
  | bool {t : TypeId} (b : Bool) (h : P.underlying t = some .bool) : Sh P t [.sc (.bool b)]
  | int {t : TypeId} {k : IntKind} {n : Int} (h : P.underlying t = some (.int k)) (hw : (Lit.int k n).wf = true) : Sh P t [.sc (.int k n)]
  | str {t : TypeId} {s : ByteArray} (h : P.underlying t = some .string) (hl : s.size ≤ maxLen) : Sh P t [.sc (.string s)]
  | slice {t e : TypeId} {es : List (List AV)} (h : P.underlying t = some (.slice e)) (hl : es.length ≤ maxLen) (hes : ∀ c ∈ es, Sh P e c) : Sh P t [.rs es]
  | struct {t : TypeId} {fs : Array Field} {avs : List AV} (h : P.underlying t = some (.struct fs)) (hl : avs.length = P.cellsOf t)
      (hf : ∀ f ∈ fs.toList, Sh P f.type ((avs.drop f.offset).take (P.cellsOf f.type))) : Sh P t avs

def tiles (P : Program) : List Field → Nat → Nat → Bool
  | [], o, total => Nat.beq o total
  | f :: fs, o, total => Nat.beq f.offset o && tiles P fs (o + P.cellsOf f.type) total

/-- Types whose contents are told so. -/
def plainTy (P : Program) : Nat → TypeId → Bool
  | 0, _ => false
  | n + 1, t => match P.underlying t with
    | some .bool => true
    | some (.int _) => true
    | some .string => true
    | some (.slice e) => plainTy P n e && Nat.ble 1 (P.cellsOf e)
    | some (.struct fs) => tiles P fs.toList 0 (P.cellsOf t) && fs.toList.all fun f => plainTy P n f.type
    | _ => false

section
variable {H : Type} {enc : TypeId × Value → H} {P : Program} {w : World}

theorem Reps.sc1 (G : Ghost) (v : Value) : Reps G [.sc v] [v] := .cons (.sc v) (.nil G)

/-- The fields one behind the other. -/
theorem fields_rep {G : Ghost} {cs : List Value} (good : Field → Prop) (hgood : ∀ f, good f → ∃ avs, Reps G avs ((cs.drop f.offset).take (P.cellsOf f.type)) ∧ Sh P f.type avs ∧ f.offset + P.cellsOf f.type ≤ cs.length) :
    ∀ (fs : List Field) (o : Nat), (∀ f ∈ fs, good f) → tiles P fs o cs.length = true → o ≤ cs.length →
      ∃ avs, Reps G avs (cs.drop o) ∧ ∀ f ∈ fs, o ≤ f.offset ∧ Sh P f.type ((avs.drop (f.offset - o)).take (P.cellsOf f.type))
  | [], o, _, ht, _ => by
    have : o = cs.length := Nat.eq_of_beq_eq_true ht
    subst this
    exact ⟨[], by simpa using Reps.nil G, fun f hf => by cases hf⟩
  | f :: fs, o, hg, ht, hle => by
    simp only [tiles, Bool.and_eq_true] at ht
    have ho : f.offset = o := Nat.eq_of_beq_eq_true ht.1
    obtain ⟨avs, h1, h2, h3⟩ := hgood f (hg f (by simp))
    rw [ho] at h1 h3
    obtain ⟨bvs, k1, k2⟩ := fields_rep good hgood fs (o + P.cellsOf f.type) (fun g hgm => hg g (by simp [hgm])) ht.2 h3
    have hl : avs.length = P.cellsOf f.type := by rw [← h1.1]; simp; omega
    refine ⟨avs ++ bvs, ?_, ?_⟩
    · have e : cs.drop o = (cs.drop o).take (P.cellsOf f.type) ++ cs.drop (o + P.cellsOf f.type) := by
        rw [← List.drop_drop, List.take_append_drop]
      rw [e]; exact h1.append k1
    · intro g hgm
      rcases List.mem_cons.1 hgm with rfl | hgm
      · refine ⟨by omega, ?_⟩
        rw [ho, Nat.sub_self, List.drop_zero, List.take_append_of_le_length (by omega), List.take_of_length_le (by omega)]
        exact h2
      · obtain ⟨j1, j2⟩ := k2 g hgm
        refine ⟨by omega, ?_⟩
        have : (avs ++ bvs).drop (g.offset - o) = bvs.drop (g.offset - (o + P.cellsOf f.type)) := by
          rw [List.drop_append, List.drop_eq_nil_of_le (by omega), hl]
          simp only [List.nil_append]
          congr 1; omega
        rw [this]; exact j2

theorem list_rep {G : Ghost} (Q : Nat → List AV → Prop) : ∀ (n : Nat), (∀ i, i < n → ∃ avs, Q i avs) → ∃ es : List (List AV), es.length = n ∧ ∀ i (h : i < es.length), Q i es[i]
  | 0, _ => ⟨[], rfl, fun i h => by simp at h⟩
  | n + 1, hq => by
    obtain ⟨es, h1, h2⟩ := list_rep (G := G) Q n (fun i hi => hq i (by omega))
    obtain ⟨avs, h3⟩ := hq n (by omega)
    refine ⟨es ++ [avs], by simp [h1], fun i hi => ?_⟩
    by_cases e : i < es.length
    · rw [List.getElem_append_left e]; exact h2 i e
    · have : i = n := by simp [h1] at hi; omega
      subst this
      rw [List.getElem_append_right (by omega)]
      simpa [h1] using h3

/-- A reading gives contents. -/
theorem trod_rep : ∀ (d : Nat) (t : TypeId), plainTy P d t = true → ∀ (fuel : Nat) (cs : List Value) (x : DataW H × List MemPlace), DataW.trod enc P w 0 (fun _ => true) true fuel t cs = some x →
    ∃ avs, Reps (Ghost.ofWorld w) avs cs ∧ Sh P t avs
  | 0, t, hp, _, _, _, _ => by simp [plainTy] at hp
  | d + 1, t, hp, fuel, cs, x, h => by
    unfold plainTy at hp
    split at hp
    · rename_i ht
      obtain ⟨b, rfl, _⟩ := DataW.trod_bool ht h
      exact ⟨_, .sc1 _ _, .bool b ht⟩
    · rename_i k ht
      obtain ⟨n, rfl, _, hw⟩ := DataW.trod_int ht h
      exact ⟨_, .sc1 _ _, .int ht hw⟩
    · rename_i ht
      obtain ⟨s, rfl, _, hl⟩ := DataW.trod_string ht h
      exact ⟨_, .sc1 _ _, .str ht hl⟩
    · rename_i e ht
      rw [Bool.and_eq_true] at hp
      have hpos : 1 ≤ P.cellsOf e := Nat.le_of_ble_eq_true hp.2
      rcases Go.Deep.open_slice ht h with ⟨rfl, _⟩ | ⟨a, len, cap, m, n, D, Pl, rfl, _, hlc, hcm, hm, _, hel⟩
      · exact ⟨[.rs []], .cons .rsNil (.nil _), .slice ht (by simp) (fun c hc => by cases hc)⟩
      · simp only [if_true] at hm
        rw [hm] at hel
        have ih : ∀ i, i < len → ∃ avs, ∃ cs', w.cells? 0 (a.add (i * P.cellsOf e)) (P.cellsOf e) = some cs' ∧ Reps (Ghost.ofWorld w) avs cs' ∧ Sh P e avs := fun i hi => by
          obtain ⟨cs', h1, h2⟩ := hel i (by omega)
          obtain ⟨avs, h3, h4⟩ := trod_rep d e hp.1 _ _ _ h2
          exact ⟨avs, cs', h1, h3, h4⟩
        obtain ⟨es, hes1, hes2⟩ := list_rep (G := Ghost.ofWorld w) (fun i avs => ∃ cs', w.cells? 0 (a.add (i * P.cellsOf e)) (P.cellsOf e) = some cs' ∧ Reps (Ghost.ofWorld w) avs cs' ∧ Sh P e avs) len ih
        have hspot : cap ≠ 0 → a.spot = none := fun hc => by
          obtain ⟨cs', h1, _⟩ := hel 0 (by omega)
          obtain ⟨_, h2, h3⟩ := World.cells?_some h1
          have h4 := h3 0 (by omega)
          rw [List.getElem?_eq_getElem (by omega)] at h4
          simp [Addr.add] at h4
          exact (ofWorld_cell h4).1
        refine ⟨[.rs es], .cons ?_ (.nil _), .slice ht (by omega) (fun c hc => ?_)⟩
        · rw [← hes1]
          refine .rs es a cap (P.cellsOf e) (fun i j => (w.cell? ⟨a.block, a.off + i * P.cellsOf e + j, none⟩).getD undef) hspot (by omega) (fun i hi => ?_) (fun i j hi hj => ?_) (fun i j hi hj => ?_)
          · obtain ⟨cs', h1, h2, _⟩ := hes2 i hi
            obtain ⟨_, h3, _⟩ := World.cells?_some h1
            have := h2.1; omega
          · obtain ⟨cs', h1, h2, _⟩ := hes2 i hi
            obtain ⟨_, h3, h4⟩ := World.cells?_some h1
            have h5 := h4 j hj
            rw [List.getElem?_eq_getElem (by omega)] at h5
            have hs := hspot (by omega)
            obtain ⟨b, o, sp⟩ := a
            simp only at hs; subst hs
            rw [add_none, add_none] at h5
            rw [h5]
            exact (ofWorld_cell h5).2
          · obtain ⟨cs', h1, h2, _⟩ := hes2 i hi
            obtain ⟨_, h3, h4⟩ := World.cells?_some h1
            have hl := h2.1
            have h5 := h4 j (by omega)
            rw [List.getElem?_eq_getElem (by omega)] at h5
            have hs := hspot (by omega)
            obtain ⟨b, o, sp⟩ := a
            simp only at hs; subst hs
            rw [add_none, add_none] at h5
            rw [h5]
            exact h2.2 j hj (by omega)
        · obtain ⟨i, hi, rfl⟩ := List.getElem_of_mem hc
          obtain ⟨_, _, _, h3⟩ := hes2 i hi
          exact h3
    · rename_i fs ht
      rw [Bool.and_eq_true] at hp
      obtain ⟨xs, n, rfl, _, hlen, hxl, hf⟩ := DataW.trod_struct ht h
      have htile := hp.1
      rw [← hlen] at htile
      have hgood : ∀ f, f ∈ fs.toList → ∃ avs, Reps (Ghost.ofWorld w) avs ((cs.drop f.offset).take (P.cellsOf f.type)) ∧ Sh P f.type avs := fun f hfm => by
        obtain ⟨i, hi, rfl⟩ := List.getElem_of_mem hfm
        have h1 := hf i (fs.toList[i]) (by simp)
        rw [List.getElem?_eq_getElem (by simp at hi; omega)] at h1
        exact trod_rep d _ (List.all_eq_true.1 hp.2 _ hfm) _ _ _ h1
      have hends : ∀ (l : List Field) (o : Nat), tiles P l o cs.length = true → ∀ f ∈ l, f.offset + P.cellsOf f.type ≤ cs.length := by
        have hmono : ∀ (l : List Field) (o : Nat), tiles P l o cs.length = true → o ≤ cs.length := by
          intro l
          induction l with
          | nil => intro o ho; exact Nat.le_of_eq (Nat.eq_of_beq_eq_true ho)
          | cons g l ih => intro o ho; simp only [tiles, Bool.and_eq_true] at ho; have := ih _ ho.2; omega
        intro l
        induction l with
        | nil => intro o _ f hf; cases hf
        | cons g l ih =>
          intro o ho f hf
          simp only [tiles, Bool.and_eq_true] at ho
          rcases List.mem_cons.1 hf with rfl | hf
          · have := hmono _ _ ho.2
            rw [Nat.eq_of_beq_eq_true ho.1]; exact this
          · exact ih _ ho.2 f hf
      obtain ⟨avs, h1, h2⟩ := fields_rep (P := P) (G := Ghost.ofWorld w) (cs := cs) (fun f => f ∈ fs.toList)
        (fun f hfm => by obtain ⟨avs, a1, a2⟩ := hgood f hfm; exact ⟨avs, a1, a2, hends _ _ htile f hfm⟩) fs.toList 0 (fun _ h => h) htile (Nat.zero_le _)
      rw [List.drop_zero] at h1
      refine ⟨avs, h1, .struct ht (by rw [← h1.1]; exact hlen) (fun f hfm => ?_)⟩
      have := (h2 f hfm).2
      simpa using this
    · cases hp

end

/-- The contents of an int. -/
theorem Sh.int_inv {P : Program} {t : TypeId} {k : IntKind} {avs : List AV} (ht : P.underlying t = some (.int k)) (h : Sh P t avs) : ∃ n, avs = [.sc (.int k n)] ∧ (Lit.int k n).wf = true := by
  cases h with
  | int h hw => rw [ht] at h; cases h; exact ⟨_, rfl, hw⟩
  | bool b h => rw [ht] at h; cases h
  | str h => rw [ht] at h; cases h
  | slice h => rw [ht] at h; cases h
  | struct h => rw [ht] at h; cases h
theorem Sh.slice_inv {P : Program} {t e : TypeId} {avs : List AV} (ht : P.underlying t = some (.slice e)) (h : Sh P t avs) : ∃ es, avs = [.rs es] ∧ es.length ≤ maxLen ∧ ∀ c ∈ es, Sh P e c := by
  cases h with
  | int h hw => rw [ht] at h; cases h
  | bool b h => rw [ht] at h; cases h
  | str h => rw [ht] at h; cases h
  | slice h hl hes => rw [ht] at h; cases h; exact ⟨_, rfl, hl, hes⟩
  | struct h => rw [ht] at h; cases h
theorem Sh.str_inv {P : Program} {t : TypeId} {avs : List AV} (ht : P.underlying t = some .string) (h : Sh P t avs) : ∃ s, avs = [.sc (.string s)] ∧ s.size ≤ maxLen := by
  cases h with
  | int h hw => rw [ht] at h; cases h
  | bool b h => rw [ht] at h; cases h
  | str h hl => exact ⟨_, rfl, hl⟩
  | slice h => rw [ht] at h; cases h
  | struct h => rw [ht] at h; cases h
theorem Sh.struct_inv {P : Program} {t : TypeId} {fs : Array Field} {avs : List AV} (ht : P.underlying t = some (.struct fs)) (h : Sh P t avs) :
    avs.length = P.cellsOf t ∧ ∀ f ∈ fs.toList, Sh P f.type ((avs.drop f.offset).take (P.cellsOf f.type)) := by
  cases h with
  | int h hw => rw [ht] at h; cases h
  | bool b h => rw [ht] at h; cases h
  | str h => rw [ht] at h; cases h
  | slice h => rw [ht] at h; cases h
  | struct h hl hf => rw [ht] at h; cases h; exact ⟨hl, hf⟩

end Go.Ab
