/- The abstract machine, part 14: operations in whatever order: plain laws on functions that are turned at places, and on memory that is left alone. -/
import Derived.Test.YthpjicimlandeaaGreatDoorAbLow
set_option linter.unusedVariables false
set_option linter.unusedSimpArgs false
namespace Go.Ab
open Go

/-! ### turned at places, by those that are listed -/

def fold {L V : Type} (p : Nat → Bool) : List (L → Option V) → Nat → (L → V) → (L → V)
  | [], _, f => f
  | u :: us, i, f => fold p us (i + 1) (fun l => cond (p i) ((u l).getD (f l)) (f l))

theorem fold_agree {L V : Type} {p q : Nat → Bool} (l : L) : ∀ (us : List (L → Option V)) (i : Nat) (f g : L → V), f l = g l → (∀ (j : Nat) u, us[j]? = some u → p (i + j) ≠ q (i + j) → u l = none) →
    fold p us i f l = fold q us i g l
  | [], _, f, g, h, _ => h
  | u :: us, i, f, g, h, hu => by
    simp only [fold]
    refine fold_agree l us (i + 1) _ _ ?_ (fun j u' h1 h2 => hu (j + 1) u' (by simpa using h1) (by rw [show i + (j + 1) = i + 1 + j from by omega]; exact h2))
    by_cases e : p i = q i
    · rw [e, h]
    · have := hu 0 u rfl (by simpa using e)
      rw [this, h]
      cases p i <;> cases q i <;> rfl

theorem fold_congr {L V : Type} {p q : Nat → Bool} : ∀ (us : List (L → Option V)) (i : Nat) (f : L → V), (∀ j, i ≤ j → p j = q j) → fold p us i f = fold q us i f
  | [], _, _, _ => rfl
  | u :: us, i, f, h => by
    simp only [fold, h i (Nat.le_refl _)]
    exact fold_congr us (i + 1) _ (fun j hj => h j (by omega))

theorem fold_init {L V : Type} {p : Nat → Bool} (l : L) : ∀ (us : List (L → Option V)) (i : Nat) (f : L → V) (v : V), (∀ (j : Nat) u, us[j]? = some u → p (i + j) = true → u l = none) → f l = v → fold p us i f l = v
  | [], _, f, v, _, h => h
  | u :: us, i, f, v, hu, h => by
    simp only [fold]
    refine fold_init l us (i + 1) _ v (fun j u' h1 h2 => hu (j + 1) u' (by simpa using h1) (by rw [show i + (j + 1) = i + 1 + j from by omega]; exact h2)) ?_
    cases e : p i with
    | true => rw [hu 0 u rfl (by simpa using e), h]; rfl
    | false => exact h

theorem fold_put {L V : Type} {p : Nat → Bool} (l : L) {u0 : L → Option V} : ∀ (us : List (L → Option V)) (i k : Nat) (f : L → V), us[k]? = some u0 → p (i + k) = false →
    (∀ (j : Nat) u, us[j]? = some u → k < j → p (i + j) = true → u0 l ≠ none → u l = none) →
    fold (fun j => j == i + k || p j) us i f l = (u0 l).getD (fold p us i f l)
  | [], i, k, f, h, _, _ => by simp at h
  | u :: us, i, 0, f, h, hp, hu => by
    simp only [List.getElem?_cons_zero, Option.some.injEq] at h
    subst h
    simp only [Nat.add_zero] at hp
    have hne : ∀ j, i + 1 ≤ j → (j == i + 0 || p j) = p j := fun j hj => by
      have : (j == i + 0) = false := by simp; omega
      rw [this]; rfl
    have hi : (i == i + 0 || p i) = true := by simp
    simp only [fold]
    rw [fold_congr us (i + 1) _ hne, hi, hp]
    simp only [cond_true, cond_false]
    cases hul : u l with
    | none =>
      simp only [Option.getD_none]
      exact fold_agree l us (i + 1) _ _ (by simp [hul]) (fun j u' _ h2 => absurd rfl h2)
    | some v =>
      simp only [Option.getD_some]
      exact fold_init l us (i + 1) _ v (fun j u' h1 h2 => hu (j + 1) u' (by simpa using h1) (by omega) (by rw [show i + (j + 1) = i + 1 + j from by omega]; exact h2) (by simp [hul])) (by simp [hul])
  | u :: us, i, k + 1, f, h, hp, hu => by
    have e : (i == i + (k + 1) || p i) = p i := by
      have : (i == i + (k + 1)) = false := by simp
      rw [this]; rfl
    simp only [fold]
    rw [e]
    have := fold_put (p := p) l us (i + 1) k (fun l => cond (p i) ((u l).getD (f l)) (f l)) (by simpa using h) (by rw [show i + 1 + k = i + (k + 1) from by omega]; exact hp)
      (fun j u' h1 h2 h3 h4 => hu (j + 1) u' (by simpa using h1) (by omega) (by rw [show i + (j + 1) = i + 1 + j from by omega]; exact h3) h4)
    rw [show i + 1 + k = i + (k + 1) from by omega] at this
    exact this

/-! ### memory beside what an operation sees -/

/-- A store with these objects. -/
theorem exists_store (ob : Nat → Option AObj) : ∀ nx, (∀ i, nx ≤ i → ob i = none) → ∃ σ : Store, σ.next = nx ∧ ∀ i, σ.objs i = ob i := by
  have key : ∀ n (m : Nat), ∃ σ : Store, σ.next = m ∧ ∀ i, σ.objs i = if i < n then ob i else none := by
    intro n m
    induction n with
    | zero => exact ⟨{ next := m, tr := .leaf }, rfl, fun i => by simp [Store.objs, Tr.get_leaf]⟩
    | succ n ih =>
      obtain ⟨σ, h1, h2⟩ := ih
      cases hn : ob n with
      | some o =>
        refine ⟨σ.set n o, h1, fun i => ?_⟩
        rw [Store.objs_set, h2]
        by_cases e : i = n
        · subst e; simp [hn]
        · rw [if_neg e]
          by_cases e2 : i < n
          · rw [if_pos e2, if_pos (by omega)]
          · rw [if_neg e2, if_neg (by omega)]
      | none =>
        refine ⟨σ, h1, fun i => ?_⟩
        rw [h2]
        by_cases e : i = n
        · subst e; simp [hn]
        · by_cases e2 : i < n
          · rw [if_pos e2, if_pos (by omega)]
          · rw [if_neg e2, if_neg (by omega)]
  intro nx h
  obtain ⟨σ, h1, h2⟩ := key nx nx
  refine ⟨σ, h1, fun i => ?_⟩
  rw [h2]
  split
  · rfl
  · rw [h i (by omega)]

theorem Rel.objs_lt {G : Ghost} {σ : Store} {w : World} (h : Rel G σ w) {i : Nat} {o : AObj} (ho : σ.objs i = some o) : i < σ.next := by
  obtain ⟨p, hp, _⟩ := h.objs i o ho
  exact h.id_lt hp

/-- What an operation on a part of the objects leaves of the whole. -/
theorem Rel.frame {G G' : Ghost} {σ σv σv' σ' : Store} {w w' : World} (hfull : Rel G σ w) (hview : ∀ id o, σv.objs id = some o → σ.objs id = some o) (hrel : Rel G' σv' w') (hfr : Fr G σv w G' σv' w') (hle : G.le G')
    (hnext : ∀ id, σ'.next ≤ id → G'.pl id = none) (hσ : ∀ id o, σ'.objs id = some o → σv'.objs id = some o ∨ (σ.objs id = some o ∧ σv.objs id = none)) : Rel G' σ' w' := by
  have hs := hfr.size
  have notlive : ∀ id o p, σ.objs id = some o → σv.objs id = none → G.pl id = some p → p.virt = false → ∀ id0 o0 p0, σv.objs id0 = some o0 → G.pl id0 = some p0 → p0.virt = false → p0.block ≠ p.block :=
    fun id o p h1 h2 h3 h4 id0 o0 p0 g1 g2 g3 g4 => by
      have := hfull.sep id0 id o0 o p0 p (hview _ _ g1) h1 g2 h3 g3 h4 g4
      rw [this, h2] at g1; cases g1
  refine ⟨hrel.os, hrel.tape, hrel.output, hrel.size, hrel.imm, hnext, fun id o ho => ?_, fun i j oi oj pi pj h1 h2 h3 h4 v1 v2 h5 => ?_⟩
  · rcases hσ id o ho with h1 | ⟨h1, h2⟩
    · exact hrel.objs id o h1
    · obtain ⟨p, hp, hl⟩ := hfull.objs id o h1
      refine ⟨p, hle.pl _ _ hp, ?_⟩
      rcases hl with hl | ⟨hv, hi1, hi2, hi3⟩
      · exact .inl hl
      · refine .inr ⟨hv, ?_, by rw [hle.w0]; exact hi2, ?_⟩
        · cases hb : G'.imm p.block with
          | none => rfl
          | some x =>
            rcases hfr.imm _ _ hb with g | g | ⟨id0, o0, p0, g1, g2, g3, g4⟩
            · rw [hi1] at g; cases g
            · have := hfull.obj_lt h1 hp hv; omega
            · exact absurd g4 (notlive id o p h1 h2 hp hv id0 o0 p0 g1 g2 g3)
        · rw [hfr.same p.block (hfull.obj_lt h1 hp hv) (fun id0 o0 p0 g1 g2 g3 => notlive id o p h1 h2 hp hv id0 o0 p0 g1 g2 g3)]
          exact hi3.mono hle
  · have plG : ∀ k x, σ.objs k = some x → ∀ q, G'.pl k = some q → G.pl k = some q := fun k x hx q hq => by
      obtain ⟨q', hq', _⟩ := hfull.objs k x hx
      have := hle.pl _ _ hq'
      rw [hq] at this; cases this
      exact hq'
    have cross : ∀ i j oi oj pi pj, σv'.objs i = some oi → σ.objs j = some oj → σv.objs j = none → G'.pl i = some pi → G'.pl j = some pj → pi.virt = false → pj.virt = false → pi.block ≠ pj.block := by
      intro i j oi oj pi pj a1 a2 a3 a4 a5 a6 a7 a8
      have b5 := plG j oj a2 pj a5
      have hlt := hfull.obj_lt a2 b5 a7
      obtain ⟨id0, o0, p0, g1, g2, g3, g4⟩ := hfr.live i oi pi a1 a4 a6 (by omega)
      exact notlive j oj pj a2 a3 b5 a7 id0 o0 p0 g1 g2 g3 (by omega)
    rcases hσ i oi h1 with a | ⟨a, a'⟩ <;> rcases hσ j oj h2 with b | ⟨b, b'⟩
    · exact hrel.sep i j oi oj pi pj a b h3 h4 v1 v2 h5
    · exact absurd h5 (cross i j oi oj pi pj a b b' h3 h4 v1 v2)
    · exact absurd h5.symm (cross j i oj oi pj pi b a a' h4 h3 v2 v1)
    · exact hfull.sep i j oi oj pi pj a b (plG i oi a pi h3) (plG j oj b pj h4) v1 v2 h5

/-- The frame, likewise. -/
theorem Fr.frame {G G' : Ghost} {σ σv σv' σ' : Store} {w w' : World} (hfull : Rel G σ w) (hview : ∀ id o, σv.objs id = some o → σ.objs id = some o) (hfr : Fr G σv w G' σv' w') (hle : G.le G')
    (hσ : ∀ id o, σ'.objs id = some o → σv'.objs id = some o ∨ (σ.objs id = some o ∧ σv.objs id = none)) : Fr G σ w G' σ' w' := by
  refine ⟨hfr.size, fun b hb hn => hfr.same b hb (fun id o p h1 h2 h3 => hn id o p (hview _ _ h1) h2 h3), fun id o p h1 h2 h3 h4 => ?_, fun b o hb => ?_⟩
  · rcases hσ id o h1 with a | ⟨a, _⟩
    · obtain ⟨id0, o0, p0, g1, g2, g3, g4⟩ := hfr.live id o p a h2 h3 h4
      exact ⟨id0, o0, p0, hview _ _ g1, g2, g3, g4⟩
    · obtain ⟨q, hq, _⟩ := hfull.objs id o a
      have := hle.pl _ _ hq
      rw [h2] at this; cases this
      exact ⟨id, o, p, a, hq, h3, rfl⟩
  · rcases hfr.imm b o hb with g | g | ⟨id0, o0, p0, g1, g2, g3, g4⟩
    · exact .inl g
    · exact .inr (.inl g)
    · exact .inr (.inr ⟨id0, o0, p0, hview _ _ g1, g2, g3, g4⟩)

end Go.Ab
